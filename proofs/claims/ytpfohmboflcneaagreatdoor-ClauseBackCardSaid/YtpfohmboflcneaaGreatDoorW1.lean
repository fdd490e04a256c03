import Derived.Test.YtpfohmboflcneaaGreatDoorAl3
import Derived.Test.YtpfohmboflcneaaGreatDoorChecked
import Derived.KernelRfl
import Derived.Lib.ItoaMem
set_option linter.unusedSimpArgs false
set_option linter.unusedVariables false
set_option linter.unnecessarySimpa false
section

end
section
namespace Go.Proofs.YtpfohmboflcneaaGreatDoor
open Go Go.AL
@[go_sem] theorem Tryz.WR:tk Tryz.prog 1= .func:=by kernel_rfl
@[go_sem] theorem Tryz.VB:sz Tryz.prog 1=some 1:=by kernel_rfl
@[go_sem] theorem Tryz.TJ:aI Tryz.prog 1=some 8:=by kernel_rfl
@[go_sem] theorem Tryz.Ym:az Tryz.prog 1=some ([.nilFunc]):=by kernel_rfl
@[go_sem] theorem Tryz.Xc:tk Tryz.prog 2= .int .i64:=by kernel_rfl
@[go_sem] theorem Tryz.VX:sz Tryz.prog 2=some 1:=by kernel_rfl
@[go_sem] theorem Tryz.T5:aI Tryz.prog 2=some 8:=by kernel_rfl
@[go_sem] theorem Tryz.X8:(Tryz.prog.underlying 2).isSome=true:=by kernel_rfl
@[go_sem] theorem Tryz.YH:az Tryz.prog 2=some ([.int .i64 0]):=by kernel_rfl
@[go_sem] theorem Tryz.Xu:tk Tryz.prog 3= .int .i64:=by kernel_rfl
@[go_sem] theorem Tryz.J4:sz Tryz.prog 3=some 1:=by kernel_rfl
@[go_sem] theorem Tryz.D6:aI Tryz.prog 3=some 8:=by kernel_rfl
@[go_sem] theorem Tryz.Ya:(Tryz.prog.underlying 3).isSome=true:=by kernel_rfl
@[go_sem] theorem Tryz.KX:az Tryz.prog 3=some ([.int .i64 0]):=by kernel_rfl
@[go_sem] theorem Tryz.XQ:tk Tryz.prog 4= .bool:=by kernel_rfl
@[go_sem] theorem Tryz.WA:sz Tryz.prog 4=some 1:=by kernel_rfl
@[go_sem] theorem Tryz.UJ:aI Tryz.prog 4=some 1:=by kernel_rfl
@[go_sem] theorem Tryz.Yh:(Tryz.prog.underlying 4).isSome=true:=by kernel_rfl
@[go_sem] theorem Tryz.Zk:az Tryz.prog 4=some ([.bool false]):=by kernel_rfl
@[go_sem] theorem Tryz.XR:tk Tryz.prog 5= .int .u8:=by kernel_rfl
@[go_sem] theorem Tryz.SB:sz Tryz.prog 5=some 1:=by kernel_rfl
@[go_sem] theorem Tryz.L9:aI Tryz.prog 5=some 1:=by kernel_rfl
@[go_sem] theorem Tryz.Yi:(Tryz.prog.underlying 5).isSome=true:=by kernel_rfl
@[go_sem] theorem Tryz.TE:az Tryz.prog 5=some ([.int .u8 0]):=by kernel_rfl
@[go_sem] theorem Tryz.XU:tk Tryz.prog 6= .int .u8:=by kernel_rfl
@[go_sem] theorem Tryz.WD:sz Tryz.prog 6=some 1:=by kernel_rfl
@[go_sem] theorem Tryz.UM:aI Tryz.prog 6=some 1:=by kernel_rfl
@[go_sem] theorem Tryz.Yj:(Tryz.prog.underlying 6).isSome=true:=by kernel_rfl
@[go_sem] theorem Tryz.Zn:az Tryz.prog 6=some ([.int .u8 0]):=by kernel_rfl
@[go_sem] theorem Tryz.XY:tk Tryz.prog 7= .struct [(0,2),(1,3),(2,4),(3,6)]:=by kernel_rfl
@[go_sem] theorem Tryz.WJ:sz Tryz.prog 7=some 4:=by kernel_rfl
@[go_sem] theorem Tryz.UR:aI Tryz.prog 7=some 24:=by kernel_rfl
@[go_sem] theorem Tryz.U8:jI Tryz.prog 7=true:=by kernel_rfl
@[go_sem] theorem Tryz.Zs:az Tryz.prog 7=some ([.int .i64 0,.int .i64 0,.bool false,.int .u8 0]):=by kernel_rfl
@[go_sem] theorem Tryz.X0:tk Tryz.prog 8= .struct [(0,2),(1,3),(2,4),(3,6)]:=by kernel_rfl
@[go_sem] theorem Tryz.WL:sz Tryz.prog 8=some 4:=by kernel_rfl
@[go_sem] theorem Tryz.US:aI Tryz.prog 8=some 24:=by kernel_rfl
@[go_sem] theorem Tryz.U9:jI Tryz.prog 8=true:=by kernel_rfl
@[go_sem] theorem Tryz.Zt:az Tryz.prog 8=some ([.int .i64 0,.int .i64 0,.bool false,.int .u8 0]):=by kernel_rfl
@[go_sem] theorem Tryz.X3:tk Tryz.prog 9= .str:=by kernel_rfl
@[go_sem] theorem Tryz.WO:sz Tryz.prog 9=some 1:=by kernel_rfl
@[go_sem] theorem Tryz.UW:aI Tryz.prog 9=some 16:=by kernel_rfl
@[go_sem] theorem Tryz.Yk:(Tryz.prog.underlying 9).isSome=true:=by kernel_rfl
@[go_sem] theorem Tryz.Zw:az Tryz.prog 9=some ([.string ⟨#[]⟩]):=by kernel_rfl
@[go_sem] theorem Tryz.WS:tk Tryz.prog 10= .str:=by kernel_rfl
@[go_sem] theorem Tryz.VC:sz Tryz.prog 10=some 1:=by kernel_rfl
@[go_sem] theorem Tryz.TL:aI Tryz.prog 10=some 16:=by kernel_rfl
@[go_sem] theorem Tryz.X6:(Tryz.prog.underlying 10).isSome=true:=by kernel_rfl
@[go_sem] theorem Tryz.Yn:az Tryz.prog 10=some ([.string ⟨#[]⟩]):=by kernel_rfl
@[go_sem] theorem Tryz.WT:tk Tryz.prog 11= .str:=by kernel_rfl
@[go_sem] theorem Tryz.VD:sz Tryz.prog 11=some 1:=by kernel_rfl
@[go_sem] theorem Tryz.TM:aI Tryz.prog 11=some 16:=by kernel_rfl
@[go_sem] theorem Tryz.X7:(Tryz.prog.underlying 11).isSome=true:=by kernel_rfl
@[go_sem] theorem Tryz.Yo:az Tryz.prog 11=some ([.string ⟨#[]⟩]):=by kernel_rfl
@[go_sem] theorem Tryz.Xd:tk Tryz.prog 20= .iface:=by kernel_rfl
@[go_sem] theorem Tryz.VY:sz Tryz.prog 20=some 1:=by kernel_rfl
@[go_sem] theorem Tryz.T6:aI Tryz.prog 20=some 16:=by kernel_rfl
@[go_sem] theorem Tryz.YI:az Tryz.prog 20=some ([.nilIface]):=by kernel_rfl
@[go_sem] theorem Tryz.Xf:tk Tryz.prog 21= .int .i32:=by kernel_rfl
@[go_sem] theorem Tryz.V0:sz Tryz.prog 21=some 1:=by kernel_rfl
@[go_sem] theorem Tryz.T8:aI Tryz.prog 21=some 4:=by kernel_rfl
@[go_sem] theorem Tryz.X9:(Tryz.prog.underlying 21).isSome=true:=by kernel_rfl
@[go_sem] theorem Tryz.YK:az Tryz.prog 21=some ([.int .i32 0]):=by kernel_rfl
@[go_sem] theorem Tryz.SI:tk Tryz.prog 23= .slice 61:=by kernel_rfl
@[go_sem] theorem Tryz.V6:sz Tryz.prog 23=some 1:=by kernel_rfl
@[go_sem] theorem Tryz.Ud:aI Tryz.prog 23=some 24:=by kernel_rfl
@[go_sem] theorem Tryz.YQ:az Tryz.prog 23=some ([.slice none 0 0]):=by kernel_rfl
@[go_sem] theorem Tryz.Xo:tk Tryz.prog 24= .func:=by kernel_rfl
@[go_sem] theorem Tryz.Wa:sz Tryz.prog 24=some 1:=by kernel_rfl
@[go_sem] theorem Tryz.Ui:aI Tryz.prog 24=some 8:=by kernel_rfl
@[go_sem] theorem Tryz.YV:az Tryz.prog 24=some ([.nilFunc]):=by kernel_rfl
@[go_sem] theorem Tryz.yP:tk Tryz.prog 27= .slice 119:=by kernel_rfl
@[go_sem] theorem Tryz.We:sz Tryz.prog 27=some 1:=by kernel_rfl
@[go_sem] theorem Tryz.Um:aI Tryz.prog 27=some 24:=by kernel_rfl
@[go_sem] theorem Tryz.YZ:az Tryz.prog 27=some ([.slice none 0 0]):=by kernel_rfl
@[go_sem] theorem Tryz.Xv:tk Tryz.prog 30= .int .i64:=by kernel_rfl
@[go_sem] theorem Tryz.Wh:sz Tryz.prog 30=some 1:=by kernel_rfl
@[go_sem] theorem Tryz.Up:aI Tryz.prog 30=some 8:=by kernel_rfl
@[go_sem] theorem Tryz.Yb:(Tryz.prog.underlying 30).isSome=true:=by kernel_rfl
@[go_sem] theorem Tryz.Y2:az Tryz.prog 30=some ([.int .i64 0]):=by kernel_rfl
@[go_sem] theorem Tryz.XC:tk Tryz.prog 32= .func:=by kernel_rfl
@[go_sem] theorem Tryz.Wn:sz Tryz.prog 32=some 1:=by kernel_rfl
@[go_sem] theorem Tryz.Uw:aI Tryz.prog 32=some 8:=by kernel_rfl
@[go_sem] theorem Tryz.Y8:az Tryz.prog 32=some ([.nilFunc]):=by kernel_rfl
@[go_sem] theorem Tryz.J9:tk Tryz.prog 46= .slice 3:=by kernel_rfl
@[go_sem] theorem Tryz.WB:sz Tryz.prog 46=some 1:=by kernel_rfl
@[go_sem] theorem Tryz.UK:aI Tryz.prog 46=some 24:=by kernel_rfl
@[go_sem] theorem Tryz.Zl:az Tryz.prog 46=some ([.slice none 0 0]):=by kernel_rfl
@[go_sem] theorem Tryz.J_:tk Tryz.prog 55= .slice 57:=by kernel_rfl
@[go_sem] theorem Tryz.WC:sz Tryz.prog 55=some 1:=by kernel_rfl
@[go_sem] theorem Tryz.UL:aI Tryz.prog 55=some 24:=by kernel_rfl
@[go_sem] theorem Tryz.Zm:az Tryz.prog 55=some ([.slice none 0 0]):=by kernel_rfl
@[go_sem] theorem Tryz.XS:tk Tryz.prog 57= .struct [(0,9),(1,3),(2,55)]:=by kernel_rfl
@[go_sem] theorem Tryz.J5:sz Tryz.prog 57=some 3:=by kernel_rfl
@[go_sem] theorem Tryz.D7:aI Tryz.prog 57=some 48:=by kernel_rfl
@[go_sem] theorem Tryz.KY:az Tryz.prog 57=some ([.string ⟨#[]⟩,.int .i64 0,.slice none 0 0]):=by kernel_rfl
@[go_sem] theorem Tryz.XV:tk Tryz.prog 61= .struct [(0,4),(1,9),(2,55)]:=by kernel_rfl
@[go_sem] theorem Tryz.SC:sz Tryz.prog 61=some 3:=by kernel_rfl
@[go_sem] theorem Tryz.L_:aI Tryz.prog 61=some 48:=by kernel_rfl
@[go_sem] theorem Tryz.TF:az Tryz.prog 61=some ([.bool false,.string ⟨#[]⟩,.slice none 0 0]):=by kernel_rfl
@[go_sem] theorem Tryz.SK:tk Tryz.prog 64= .slice 98:=by kernel_rfl
@[go_sem] theorem Tryz.WE:sz Tryz.prog 64=some 1:=by kernel_rfl
@[go_sem] theorem Tryz.UN:aI Tryz.prog 64=some 24:=by kernel_rfl
@[go_sem] theorem Tryz.Zo:az Tryz.prog 64=some ([.slice none 0 0]):=by kernel_rfl
@[go_sem] theorem Tryz.XW:tk Tryz.prog 65= .func:=by kernel_rfl
@[go_sem] theorem Tryz.WG:sz Tryz.prog 65=some 1:=by kernel_rfl
@[go_sem] theorem Tryz.UO:aI Tryz.prog 65=some 8:=by kernel_rfl
@[go_sem] theorem Tryz.Zp:az Tryz.prog 65=some ([.nilFunc]):=by kernel_rfl
@[go_sem] theorem Tryz.XX:tk Tryz.prog 67= .func:=by kernel_rfl
@[go_sem] theorem Tryz.WH:sz Tryz.prog 67=some 1:=by kernel_rfl
@[go_sem] theorem Tryz.UP:aI Tryz.prog 67=some 8:=by kernel_rfl
@[go_sem] theorem Tryz.Zq:az Tryz.prog 67=some ([.nilFunc]):=by kernel_rfl
@[go_sem] theorem Tryz.sg:tk Tryz.prog 69= .slice 71:=by kernel_rfl
@[go_sem] theorem Tryz.WI:sz Tryz.prog 69=some 1:=by kernel_rfl
@[go_sem] theorem Tryz.UQ:aI Tryz.prog 69=some 24:=by kernel_rfl
@[go_sem] theorem Tryz.Zr:az Tryz.prog 69=some ([.slice none 0 0]):=by kernel_rfl
@[go_sem] theorem Tryz.XZ:tk Tryz.prog 71= .struct [(0,9),(1,3),(2,69)]:=by kernel_rfl
@[go_sem] theorem Tryz.se:sz Tryz.prog 71=some 3:=by kernel_rfl
@[go_sem] theorem Tryz.qG:aI Tryz.prog 71=some 48:=by kernel_rfl
@[go_sem] theorem Tryz.sr:az Tryz.prog 71=some ([.string ⟨#[]⟩,.int .i64 0,.slice none 0 0]):=by kernel_rfl
@[go_sem] theorem Tryz.X1:tk Tryz.prog 88= .func:=by kernel_rfl
@[go_sem] theorem Tryz.WM:sz Tryz.prog 88=some 1:=by kernel_rfl
@[go_sem] theorem Tryz.UT:aI Tryz.prog 88=some 8:=by kernel_rfl
@[go_sem] theorem Tryz.Zu:az Tryz.prog 88=some ([.nilFunc]):=by kernel_rfl
@[go_sem] theorem Tryz.X2:tk Tryz.prog 89= .func:=by kernel_rfl
@[go_sem] theorem Tryz.WN:sz Tryz.prog 89=some 1:=by kernel_rfl
@[go_sem] theorem Tryz.UU:aI Tryz.prog 89=some 8:=by kernel_rfl
@[go_sem] theorem Tryz.Zv:az Tryz.prog 89=some ([.nilFunc]):=by kernel_rfl
@[go_sem] theorem Tryz.X4:tk Tryz.prog 94= .func:=by kernel_rfl
@[go_sem] theorem Tryz.WQ:sz Tryz.prog 94=some 1:=by kernel_rfl
@[go_sem] theorem Tryz.UX:aI Tryz.prog 94=some 8:=by kernel_rfl
@[go_sem] theorem Tryz.Zx:az Tryz.prog 94=some ([.nilFunc]):=by kernel_rfl
@[go_sem] theorem Tryz.X5:tk Tryz.prog 98= .struct [(0,3),(1,71)]:=by kernel_rfl
@[go_sem] theorem Tryz.SD:sz Tryz.prog 98=some 4:=by kernel_rfl
@[go_sem] theorem Tryz.Ma:aI Tryz.prog 98=some 56:=by kernel_rfl
@[go_sem] theorem Tryz.TG:az Tryz.prog 98=some ([.int .i64 0,.string ⟨#[]⟩,.int .i64 0,.slice none 0 0]):=by kernel_rfl
@[go_sem] theorem Tryz.WU:tk Tryz.prog 116= .func:=by kernel_rfl
@[go_sem] theorem Tryz.VE:sz Tryz.prog 116=some 1:=by kernel_rfl
@[go_sem] theorem Tryz.TN:aI Tryz.prog 116=some 8:=by kernel_rfl
@[go_sem] theorem Tryz.Yp:az Tryz.prog 116=some ([.nilFunc]):=by kernel_rfl
@[go_sem] theorem Tryz.WV:tk Tryz.prog 119= .struct [(0,4),(1,9),(2,69)]:=by kernel_rfl
@[go_sem] theorem Tryz.yM:sz Tryz.prog 119=some 3:=by kernel_rfl
@[go_sem] theorem Tryz.v_:aI Tryz.prog 119=some 48:=by kernel_rfl
@[go_sem] theorem Tryz.y7:az Tryz.prog 119=some ([.bool false,.string ⟨#[]⟩,.slice none 0 0]):=by kernel_rfl
@[go_sem] theorem Tryz.WW:tk Tryz.prog 123= .func:=by kernel_rfl
@[go_sem] theorem Tryz.VF:sz Tryz.prog 123=some 1:=by kernel_rfl
@[go_sem] theorem Tryz.TO:aI Tryz.prog 123=some 8:=by kernel_rfl
@[go_sem] theorem Tryz.Yq:az Tryz.prog 123=some ([.nilFunc]):=by kernel_rfl
@[go_sem] theorem Tryz.WX:tk Tryz.prog 124= .func:=by kernel_rfl
@[go_sem] theorem Tryz.VG:sz Tryz.prog 124=some 1:=by kernel_rfl
@[go_sem] theorem Tryz.TP:aI Tryz.prog 124=some 8:=by kernel_rfl
@[go_sem] theorem Tryz.Yr:az Tryz.prog 124=some ([.nilFunc]):=by kernel_rfl
@[go_sem] theorem Tryz.WY:tk Tryz.prog 131= .struct []:=by kernel_rfl
@[go_sem] theorem Tryz.VH:sz Tryz.prog 131=some 0:=by kernel_rfl
@[go_sem] theorem Tryz.TQ:aI Tryz.prog 131=some 0:=by kernel_rfl
@[go_sem] theorem Tryz.Ys:az Tryz.prog 131=some ([]):=by kernel_rfl
@[go_sem] theorem Tryz.WZ:tk Tryz.prog 133= .ptr 135:=by kernel_rfl
@[go_sem] theorem Tryz.VI:sz Tryz.prog 133=some 1:=by kernel_rfl
@[go_sem] theorem Tryz.TR:aI Tryz.prog 133=some 8:=by kernel_rfl
@[go_sem] theorem Tryz.Yt:az Tryz.prog 133=some ([.pointer none]):=by kernel_rfl
@[go_sem] theorem Tryz.W0:tk Tryz.prog 135= .struct [(0,9),(1,3)]:=by kernel_rfl
@[go_sem] theorem Tryz.VJ:sz Tryz.prog 135=some 2:=by kernel_rfl
@[go_sem] theorem Tryz.TS:aI Tryz.prog 135=some 24:=by kernel_rfl
@[go_sem] theorem Tryz.UZ:jI Tryz.prog 135=true:=by kernel_rfl
@[go_sem] theorem Tryz.Yu:az Tryz.prog 135=some ([.string ⟨#[]⟩,.int .i64 0]):=by kernel_rfl
@[go_sem] theorem Tryz.SH:tk Tryz.prog 140= .slice 145:=by kernel_rfl
@[go_sem] theorem Tryz.VL:sz Tryz.prog 140=some 1:=by kernel_rfl
@[go_sem] theorem Tryz.TT:aI Tryz.prog 140=some 24:=by kernel_rfl
@[go_sem] theorem Tryz.Yv:az Tryz.prog 140=some ([.slice none 0 0]):=by kernel_rfl
@[go_sem] theorem Tryz.W1:tk Tryz.prog 143= .func:=by kernel_rfl
@[go_sem] theorem Tryz.VM:sz Tryz.prog 143=some 1:=by kernel_rfl
@[go_sem] theorem Tryz.TU:aI Tryz.prog 143=some 8:=by kernel_rfl
@[go_sem] theorem Tryz.Yw:az Tryz.prog 143=some ([.nilFunc]):=by kernel_rfl
@[go_sem] theorem Tryz.W2:tk Tryz.prog 145= .struct [(0,119),(3,9)]:=by kernel_rfl
@[go_sem] theorem Tryz.SA:sz Tryz.prog 145=some 4:=by kernel_rfl
@[go_sem] theorem Tryz.L8:aI Tryz.prog 145=some 64:=by kernel_rfl
@[go_sem] theorem Tryz.TD:az Tryz.prog 145=some ([.bool false,.string ⟨#[]⟩,.slice none 0 0,.string ⟨#[]⟩]):=by kernel_rfl
@[go_sem] theorem Tryz.W3:tk Tryz.prog 148= .func:=by kernel_rfl
@[go_sem] theorem Tryz.VN:sz Tryz.prog 148=some 1:=by kernel_rfl
@[go_sem] theorem Tryz.TV:aI Tryz.prog 148=some 8:=by kernel_rfl
@[go_sem] theorem Tryz.Yx:az Tryz.prog 148=some ([.nilFunc]):=by kernel_rfl
@[go_sem] theorem Tryz.W4:tk Tryz.prog 149= .map 3 3:=by kernel_rfl
@[go_sem] theorem Tryz.VO:sz Tryz.prog 149=some 1:=by kernel_rfl
@[go_sem] theorem Tryz.TW:aI Tryz.prog 149=some 8:=by kernel_rfl
@[go_sem] theorem Tryz.Yy:az Tryz.prog 149=some ([.map none]):=by kernel_rfl
@[go_sem] theorem Tryz.W5:tk Tryz.prog 151= .func:=by kernel_rfl
@[go_sem] theorem Tryz.VP:sz Tryz.prog 151=some 1:=by kernel_rfl
@[go_sem] theorem Tryz.TX:aI Tryz.prog 151=some 8:=by kernel_rfl
@[go_sem] theorem Tryz.Yz:az Tryz.prog 151=some ([.nilFunc]):=by kernel_rfl
@[go_sem] theorem Tryz.W6:tk Tryz.prog 153= .func:=by kernel_rfl
@[go_sem] theorem Tryz.VQ:sz Tryz.prog 153=some 1:=by kernel_rfl
@[go_sem] theorem Tryz.TY:aI Tryz.prog 153=some 8:=by kernel_rfl
@[go_sem] theorem Tryz.YA:az Tryz.prog 153=some ([.nilFunc]):=by kernel_rfl
@[go_sem] theorem Tryz.W7:tk Tryz.prog 158= .map 3 71:=by kernel_rfl
@[go_sem] theorem Tryz.VR:sz Tryz.prog 158=some 1:=by kernel_rfl
@[go_sem] theorem Tryz.TZ:aI Tryz.prog 158=some 8:=by kernel_rfl
@[go_sem] theorem Tryz.YB:az Tryz.prog 158=some ([.map none]):=by kernel_rfl
@[go_sem] theorem Tryz.W8:tk Tryz.prog 164= .struct [(0,3),(1,3)]:=by kernel_rfl
@[go_sem] theorem Tryz.VS:sz Tryz.prog 164=some 2:=by kernel_rfl
@[go_sem] theorem Tryz.T0:aI Tryz.prog 164=some 16:=by kernel_rfl
@[go_sem] theorem Tryz.U0:jI Tryz.prog 164=true:=by kernel_rfl
@[go_sem] theorem Tryz.YC:az Tryz.prog 164=some ([.int .i64 0,.int .i64 0]):=by kernel_rfl
@[go_sem] theorem Tryz.W9:tk Tryz.prog 183= .func:=by kernel_rfl
@[go_sem] theorem Tryz.VT:sz Tryz.prog 183=some 1:=by kernel_rfl
@[go_sem] theorem Tryz.T1:aI Tryz.prog 183=some 8:=by kernel_rfl
@[go_sem] theorem Tryz.YD:az Tryz.prog 183=some ([.nilFunc]):=by kernel_rfl
@[go_sem] theorem Tryz.W_:tk Tryz.prog 184= .func:=by kernel_rfl
@[go_sem] theorem Tryz.VU:sz Tryz.prog 184=some 1:=by kernel_rfl
@[go_sem] theorem Tryz.T2:aI Tryz.prog 184=some 8:=by kernel_rfl
@[go_sem] theorem Tryz.YE:az Tryz.prog 184=some ([.nilFunc]):=by kernel_rfl
@[go_sem] theorem Tryz.Xa:tk Tryz.prog 194= .struct [(0,4),(1,164)]:=by kernel_rfl
@[go_sem] theorem Tryz.VV:sz Tryz.prog 194=some 3:=by kernel_rfl
@[go_sem] theorem Tryz.T3:aI Tryz.prog 194=some 24:=by kernel_rfl
@[go_sem] theorem Tryz.YF:az Tryz.prog 194=some ([.bool false,.int .i64 0,.int .i64 0]):=by kernel_rfl
@[go_sem] theorem Tryz.Xb:tk Tryz.prog 195= .func:=by kernel_rfl
@[go_sem] theorem Tryz.VW:sz Tryz.prog 195=some 1:=by kernel_rfl
@[go_sem] theorem Tryz.T4:aI Tryz.prog 195=some 8:=by kernel_rfl
@[go_sem] theorem Tryz.YG:az Tryz.prog 195=some ([.nilFunc]):=by kernel_rfl
@[go_sem] theorem Tryz.Xe:tk Tryz.prog 200= .ptr 46:=by kernel_rfl
@[go_sem] theorem Tryz.VZ:sz Tryz.prog 200=some 1:=by kernel_rfl
@[go_sem] theorem Tryz.T7:aI Tryz.prog 200=some 8:=by kernel_rfl
@[go_sem] theorem Tryz.YJ:az Tryz.prog 200=some ([.pointer none]):=by kernel_rfl
@[go_sem] theorem Tryz.Xg:tk Tryz.prog 213= .struct [(0,71),(3,3)]:=by kernel_rfl
@[go_sem] theorem Tryz.V1:sz Tryz.prog 213=some 4:=by kernel_rfl
@[go_sem] theorem Tryz.T9:aI Tryz.prog 213=some 56:=by kernel_rfl
@[go_sem] theorem Tryz.YL:az Tryz.prog 213=some ([.string ⟨#[]⟩,.int .i64 0,.slice none 0 0,.int .i64 0]):=by kernel_rfl
@[go_sem] theorem Tryz.Xh:tk Tryz.prog 219= .func:=by kernel_rfl
@[go_sem] theorem Tryz.V2:sz Tryz.prog 219=some 1:=by kernel_rfl
@[go_sem] theorem Tryz.T_:aI Tryz.prog 219=some 8:=by kernel_rfl
@[go_sem] theorem Tryz.YM:az Tryz.prog 219=some ([.nilFunc]):=by kernel_rfl
@[go_sem] theorem Tryz.Xi:tk Tryz.prog 225= .ptr 164:=by kernel_rfl
@[go_sem] theorem Tryz.V3:sz Tryz.prog 225=some 1:=by kernel_rfl
@[go_sem] theorem Tryz.Ua:aI Tryz.prog 225=some 8:=by kernel_rfl
@[go_sem] theorem Tryz.YN:az Tryz.prog 225=some ([.pointer none]):=by kernel_rfl
@[go_sem] theorem Tryz.Xj:tk Tryz.prog 228= .ptr 234:=by kernel_rfl
@[go_sem] theorem Tryz.V4:sz Tryz.prog 228=some 1:=by kernel_rfl
@[go_sem] theorem Tryz.Ub:aI Tryz.prog 228=some 8:=by kernel_rfl
@[go_sem] theorem Tryz.YO:az Tryz.prog 228=some ([.pointer none]):=by kernel_rfl
@[go_sem] theorem Tryz.Xk:tk Tryz.prog 229= .ptr 232:=by kernel_rfl
@[go_sem] theorem Tryz.V5:sz Tryz.prog 229=some 1:=by kernel_rfl
@[go_sem] theorem Tryz.Uc:aI Tryz.prog 229=some 8:=by kernel_rfl
@[go_sem] theorem Tryz.YP:az Tryz.prog 229=some ([.pointer none]):=by kernel_rfl
@[go_sem] theorem Tryz.SJ:tk Tryz.prog 230= .slice 5:=by kernel_rfl
@[go_sem] theorem Tryz.V7:sz Tryz.prog 230=some 1:=by kernel_rfl
@[go_sem] theorem Tryz.Ue:aI Tryz.prog 230=some 24:=by kernel_rfl
@[go_sem] theorem Tryz.YR:az Tryz.prog 230=some ([.slice none 0 0]):=by kernel_rfl
@[go_sem] theorem Tryz.Xl:tk Tryz.prog 232= .struct [(0,229),(1,230)]:=by kernel_rfl
@[go_sem] theorem Tryz.V8:sz Tryz.prog 232=some 2:=by kernel_rfl
@[go_sem] theorem Tryz.Uf:aI Tryz.prog 232=some 32:=by kernel_rfl
@[go_sem] theorem Tryz.YS:az Tryz.prog 232=some ([.pointer none,.slice none 0 0]):=by kernel_rfl
@[go_sem] theorem Tryz.Xm:tk Tryz.prog 234= .struct [(0,232),(2,4)]:=by kernel_rfl
@[go_sem] theorem Tryz.V9:sz Tryz.prog 234=some 3:=by kernel_rfl
@[go_sem] theorem Tryz.Ug:aI Tryz.prog 234=some 40:=by kernel_rfl
@[go_sem] theorem Tryz.YT:az Tryz.prog 234=some ([.pointer none,.slice none 0 0,.bool false]):=by kernel_rfl
@[go_sem] theorem Tryz.Xn:tk Tryz.prog 236= .iface:=by kernel_rfl
@[go_sem] theorem Tryz.V_:sz Tryz.prog 236=some 1:=by kernel_rfl
@[go_sem] theorem Tryz.Uh:aI Tryz.prog 236=some 16:=by kernel_rfl
@[go_sem] theorem Tryz.YU:az Tryz.prog 236=some ([.nilIface]):=by kernel_rfl
@[go_sem] theorem Tryz.Xp:tk Tryz.prog 244= .struct [(0,9),(1,4)]:=by kernel_rfl
@[go_sem] theorem Tryz.Wb:sz Tryz.prog 244=some 2:=by kernel_rfl
@[go_sem] theorem Tryz.Uj:aI Tryz.prog 244=some 24:=by kernel_rfl
@[go_sem] theorem Tryz.U1:jI Tryz.prog 244=true:=by kernel_rfl
@[go_sem] theorem Tryz.YW:az Tryz.prog 244=some ([.string ⟨#[]⟩,.bool false]):=by kernel_rfl
@[go_sem] theorem Tryz.Xq:tk Tryz.prog 245= .slice 244:=by kernel_rfl
@[go_sem] theorem Tryz.Wc:sz Tryz.prog 245=some 1:=by kernel_rfl
@[go_sem] theorem Tryz.Uk:aI Tryz.prog 245=some 24:=by kernel_rfl
@[go_sem] theorem Tryz.YX:az Tryz.prog 245=some ([.slice none 0 0]):=by kernel_rfl
@[go_sem] theorem Tryz.Xr:tk Tryz.prog 264= .func:=by kernel_rfl
@[go_sem] theorem Tryz.Wd:sz Tryz.prog 264=some 1:=by kernel_rfl
@[go_sem] theorem Tryz.Ul:aI Tryz.prog 264=some 8:=by kernel_rfl
@[go_sem] theorem Tryz.YY:az Tryz.prog 264=some ([.nilFunc]):=by kernel_rfl
@[go_sem] theorem Tryz.Xs:tk Tryz.prog 278= .ptr 5:=by kernel_rfl
@[go_sem] theorem Tryz.Wf:sz Tryz.prog 278=some 1:=by kernel_rfl
@[go_sem] theorem Tryz.Un:aI Tryz.prog 278=some 8:=by kernel_rfl
@[go_sem] theorem Tryz.Y0:az Tryz.prog 278=some ([.pointer none]):=by kernel_rfl
@[go_sem] theorem Tryz.Xt:tk Tryz.prog 295= .int .u64:=by kernel_rfl
@[go_sem] theorem Tryz.Wg:sz Tryz.prog 295=some 1:=by kernel_rfl
@[go_sem] theorem Tryz.Uo:aI Tryz.prog 295=some 8:=by kernel_rfl
@[go_sem] theorem Tryz.X_:(Tryz.prog.underlying 295).isSome=true:=by kernel_rfl
@[go_sem] theorem Tryz.Y1:az Tryz.prog 295=some ([.int .u64 0]):=by kernel_rfl
@[go_sem] theorem Tryz.Xw:tk Tryz.prog 300= .other:=by kernel_rfl
@[go_sem] theorem Tryz.Wi:sz Tryz.prog 300=some 1:=by kernel_rfl
@[go_sem] theorem Tryz.Uq:aI Tryz.prog 300=some 8:=by kernel_rfl
@[go_sem] theorem Tryz.Y3:az Tryz.prog 300=some ([.pointer none]):=by kernel_rfl
@[go_sem] theorem Tryz.Xx:tk Tryz.prog 304= .int .i64:=by kernel_rfl
@[go_sem] theorem Tryz.Wj:sz Tryz.prog 304=some 1:=by kernel_rfl
@[go_sem] theorem Tryz.Ur:aI Tryz.prog 304=some 8:=by kernel_rfl
@[go_sem] theorem Tryz.Yc:(Tryz.prog.underlying 304).isSome=true:=by kernel_rfl
@[go_sem] theorem Tryz.Y4:az Tryz.prog 304=some ([.int .i64 0]):=by kernel_rfl
@[go_sem] theorem Tryz.Xy:tk Tryz.prog 312= .int .u32:=by kernel_rfl
@[go_sem] theorem Tryz.Wk:sz Tryz.prog 312=some 1:=by kernel_rfl
@[go_sem] theorem Tryz.Us:aI Tryz.prog 312=some 4:=by kernel_rfl
@[go_sem] theorem Tryz.Yd:(Tryz.prog.underlying 312).isSome=true:=by kernel_rfl
@[go_sem] theorem Tryz.Y5:az Tryz.prog 312=some ([.int .u32 0]):=by kernel_rfl
@[go_sem] theorem Tryz.Xz:tk Tryz.prog 314= .int .u64:=by kernel_rfl
@[go_sem] theorem Tryz.Wl:sz Tryz.prog 314=some 1:=by kernel_rfl
@[go_sem] theorem Tryz.Ut:aI Tryz.prog 314=some 8:=by kernel_rfl
@[go_sem] theorem Tryz.Ye:(Tryz.prog.underlying 314).isSome=true:=by kernel_rfl
@[go_sem] theorem Tryz.Y6:az Tryz.prog 314=some ([.int .u64 0]):=by kernel_rfl
@[go_sem] theorem Tryz.XB:tk Tryz.prog 319= .int .i64:=by kernel_rfl
@[go_sem] theorem Tryz.Wm:sz Tryz.prog 319=some 1:=by kernel_rfl
@[go_sem] theorem Tryz.Uu:aI Tryz.prog 319=some 8:=by kernel_rfl
@[go_sem] theorem Tryz.Yf:(Tryz.prog.underlying 319).isSome=true:=by kernel_rfl
@[go_sem] theorem Tryz.Y7:az Tryz.prog 319=some ([.int .i64 0]):=by kernel_rfl
@[go_sem] theorem Tryz.XD:tk Tryz.prog 322= .ptr 336:=by kernel_rfl
@[go_sem] theorem Tryz.Wo:sz Tryz.prog 322=some 1:=by kernel_rfl
@[go_sem] theorem Tryz.Ux:aI Tryz.prog 322=some 8:=by kernel_rfl
@[go_sem] theorem Tryz.Y9:az Tryz.prog 322=some ([.pointer none]):=by kernel_rfl
@[go_sem] theorem Tryz.XE:tk Tryz.prog 326= .int .u64:=by kernel_rfl
@[go_sem] theorem Tryz.Wp:sz Tryz.prog 326=some 1:=by kernel_rfl
@[go_sem] theorem Tryz.Uy:aI Tryz.prog 326=some 8:=by kernel_rfl
@[go_sem] theorem Tryz.Yg:(Tryz.prog.underlying 326).isSome=true:=by kernel_rfl
@[go_sem] theorem Tryz.Y_:az Tryz.prog 326=some ([.int .u64 0]):=by kernel_rfl
@[go_sem] theorem Tryz.XF:tk Tryz.prog 330= .ptr 3:=by kernel_rfl
@[go_sem] theorem Tryz.Wq:sz Tryz.prog 330=some 1:=by kernel_rfl
@[go_sem] theorem Tryz.Uz:aI Tryz.prog 330=some 8:=by kernel_rfl
@[go_sem] theorem Tryz.Za:az Tryz.prog 330=some ([.pointer none]):=by kernel_rfl
@[go_sem] theorem Tryz.XG:tk Tryz.prog 336= .struct [(0,9),(1,9),(2,236)]:=by kernel_rfl
@[go_sem] theorem Tryz.Wr:sz Tryz.prog 336=some 3:=by kernel_rfl
@[go_sem] theorem Tryz.UA:aI Tryz.prog 336=some 48:=by kernel_rfl
@[go_sem] theorem Tryz.Zb:az Tryz.prog 336=some ([.string ⟨#[]⟩,.string ⟨#[]⟩,.nilIface]):=by kernel_rfl
@[go_sem] theorem Tryz.XH:tk Tryz.prog 338= .arr 24 5:=by kernel_rfl
@[go_sem] theorem Tryz.Ws:sz Tryz.prog 338=some 24:=by kernel_rfl
@[go_sem] theorem Tryz.UB:aI Tryz.prog 338=some 24:=by kernel_rfl
@[go_sem] theorem Tryz.U2:jI Tryz.prog 338=true:=by kernel_rfl
@[go_sem] theorem Tryz.Zc:az Tryz.prog 338=some (List.replicate 24 (.int .u8 0)):=by kernel_rfl
@[go_sem] theorem Tryz.XI:tk Tryz.prog 342= .ptr 326:=by kernel_rfl
@[go_sem] theorem Tryz.Wt:sz Tryz.prog 342=some 1:=by kernel_rfl
@[go_sem] theorem Tryz.UC:aI Tryz.prog 342=some 8:=by kernel_rfl
@[go_sem] theorem Tryz.Zd:az Tryz.prog 342=some ([.pointer none]):=by kernel_rfl
@[go_sem] theorem Tryz.XJ:tk Tryz.prog 346= .ptr 348:=by kernel_rfl
@[go_sem] theorem Tryz.Wu:sz Tryz.prog 346=some 1:=by kernel_rfl
@[go_sem] theorem Tryz.UD:aI Tryz.prog 346=some 8:=by kernel_rfl
@[go_sem] theorem Tryz.Ze:az Tryz.prog 346=some ([.pointer none]):=by kernel_rfl
@[go_sem] theorem Tryz.XK:tk Tryz.prog 348= .struct [(0,9)]:=by kernel_rfl
@[go_sem] theorem Tryz.Wv:sz Tryz.prog 348=some 1:=by kernel_rfl
@[go_sem] theorem Tryz.UE:aI Tryz.prog 348=some 16:=by kernel_rfl
@[go_sem] theorem Tryz.U3:jI Tryz.prog 348=true:=by kernel_rfl
@[go_sem] theorem Tryz.Zf:az Tryz.prog 348=some ([.string ⟨#[]⟩]):=by kernel_rfl
@[go_sem] theorem Tryz.XM:tk Tryz.prog 350= .arr 20 314:=by kernel_rfl
@[go_sem] theorem Tryz.Ww:sz Tryz.prog 350=some 20:=by kernel_rfl
@[go_sem] theorem Tryz.UF:aI Tryz.prog 350=some 160:=by kernel_rfl
@[go_sem] theorem Tryz.U4:jI Tryz.prog 350=true:=by kernel_rfl
@[go_sem] theorem Tryz.Zg:az Tryz.prog 350=some (List.replicate 20 (.int .u64 0)):=by kernel_rfl
@[go_sem] theorem Tryz.XN:tk Tryz.prog 351= .arr 65 5:=by kernel_rfl
@[go_sem] theorem Tryz.Wx:sz Tryz.prog 351=some 65:=by kernel_rfl
@[go_sem] theorem Tryz.UG:aI Tryz.prog 351=some 65:=by kernel_rfl
@[go_sem] theorem Tryz.U5:jI Tryz.prog 351=true:=by kernel_rfl
@[go_sem] theorem Tryz.Zh:az Tryz.prog 351=some (List.replicate 65 (.int .u8 0)):=by kernel_rfl
@[go_sem] theorem Tryz.XO:tk Tryz.prog 352= .arr 32 5:=by kernel_rfl
@[go_sem] theorem Tryz.Wy:sz Tryz.prog 352=some 32:=by kernel_rfl
@[go_sem] theorem Tryz.UH:aI Tryz.prog 352=some 32:=by kernel_rfl
@[go_sem] theorem Tryz.U6:jI Tryz.prog 352=true:=by kernel_rfl
@[go_sem] theorem Tryz.Zi:az Tryz.prog 352=some (List.replicate 32 (.int .u8 0)):=by kernel_rfl
@[go_sem] theorem Tryz.XP:tk Tryz.prog 353= .arr 64 5:=by kernel_rfl
@[go_sem] theorem Tryz.Wz:sz Tryz.prog 353=some 64:=by kernel_rfl
@[go_sem] theorem Tryz.UI:aI Tryz.prog 353=some 64:=by kernel_rfl
@[go_sem] theorem Tryz.U7:jI Tryz.prog 353=true:=by kernel_rfl
@[go_sem] theorem Tryz.Zj:az Tryz.prog 353=some (List.replicate 64 (.int .u8 0)):=by kernel_rfl
end Go.Proofs.YtpfohmboflcneaaGreatDoor
end
section
namespace Go.Proofs.YtpfohmboflcneaaGreatDoor
open Go Go.AL Go.RowKit
set_option maxRecDepth 10000
set_option maxHeartbeats 4000000
inductive Tm where
 |mk (nm:List UInt8) (ix:Int) (xs:List Tm)
def Tm.nm:Tm->List UInt8| .mk n _ _=>n
def Tm.ix:Tm->Int| .mk _ i _=>i
def Tm.xs:Tm->List Tm| .mk _ _ a=>a
mutual
def cW:Tm->Tm->Bool
 | .mk n i xs,u=>(n==u.nm&&i==u.ix)&&jJ xs u.xs
def jJ:List Tm->List Tm->Bool
 |[],[]=>true
 |a::l,b::m=>cW a b&&jJ l m
 |_,_=>false
end
mutual
def qs:Tm->List IV
 | .mk nm ix xs=>[Si nm,Ii ix,.sl 3 (ay xs)]
def ay:List Tm->List (List IV)
 |[]=>[]
 |t::l=>qs t::ay l
end
theorem oT (t:Tm):qs t=[Si t.nm,Ii t.ix,.sl 3 (ay t.xs)]:=by cases t;rfl
theorem qt:∀l:List Tm,ay l=l.map qs
 |[]=>rfl
 |t::l=>by rw[ay,qt l];rfl
theorem ao (l:List Tm):(ay l).length=l.length:=by rw[qt,List.length_map]
theorem dL (l:List Tm) (k:Nat) (h:k<l.length):∃t,l[k]?=some t/\(ay l).getD k []=[Si t.nm,Ii t.ix,.sl 3 (ay t.xs)]:=by
 refine⟨l[k],List.getElem?_eq_getElem h,?_⟩
 rw[List.getD_eq_getElem?_getD,qt,List.getElem?_map,List.getElem?_eq_getElem h,<-oT];rfl
abbrev bD (t:Tm):AV:= .agg [Sv t.nm,Iv t.ix,.im (.sl 3 (ay t.xs))]
mutual
def lx:Tm->Prop
 | .mk nm _ xs=>nm.length<=9223372036854775807/\xs.length<=9223372036854775807/\ly xs
def ly:List Tm->Prop
 |[]=>True
 |t::l=>lx t/\ly l
end
theorem Kc {t:Tm}:lx t↔t.nm.length<=9223372036854775807/\t.xs.length<=9223372036854775807/\ly t.xs:=by cases t;rw[lx];rfl
theorem va:∀{l:List Tm} {k:Nat} {t:Tm},ly l->l[k]?=some t->lx t
 |[],k,t,_,h=>by simp at h
 |u::l,0,t,hs,h=>by rw[ly]at hs;simp at h;exact h▸hs.1
 |u::l,k+1,t,hs,h=>by rw[ly]at hs;simp at h;exact va hs.2 h
theorem kM {t u:Tm} {k:Nat} (h:t.xs[k]?=some u):SizeOf.sizeOf u<SizeOf.sizeOf t:=by
 cases t with
 |mk nm ix xs=>
  have:=List.sizeOf_lt_of_mem (List.mem_of_getElem? h)
  simp only[Tm.xs]at this
  simp;omega
theorem al.told {P:Program} {f:FuncId} {xs:List AV} {H:aa} {R R':AV->aa->Prop} (h:al P f xs H R) (hr:∀r H',R r H'->∃r',R' r' H'/\∀w φ I v,AV.den w φ I r v->AV.den w φ I r' v):al P f xs H R':=
 ⟨h.fC,fun w φ I vs hd hR hV=>(h.run w φ I vs hd hR hV).mono fun _ _ ⟨r,H',φ',I',v,U,h2,h3,h4⟩=>by
  obtain⟨r',mN,dF⟩:=hr _ _ U
  exact⟨r',H',φ',I',v,mN,h2,dF _ _ _ _ h3,h4⟩⟩
theorem aR.told {P:Program} {f:FuncId} {xs:List AV} {r r':AV} (h:aR P f xs r) (hr:∀w φ I v,AV.den w φ I r v->AV.den w φ I r' v):aR P f xs r':=
 al.told h fun _ _ ⟨hH,he⟩=>⟨r',⟨hH,rfl⟩,by subst he;exact hr⟩
abbrev gp:AV:= .im (.v (.slice none 0 0))
theorem H9 (es:Nat) (w:World) (φ:ak) (I:Nat->Prop) (v:Value) (h:AV.den w φ I gp v):AV.den w φ I (.im (.sl es [])) v:=by
 simp only[AV.den]at h⊢
 exact Cp h
@[go_sem] theorem RO (ρ:Nat->Nat):∀cs:List IV,AV.cy ρ (cs.map AV.im)=cs.map AV.im
 |[]=>rfl
 |c::cs=>by rw[List.map_cons,AV.cy,RO ρ cs];rfl
mutual
def aY:Tm->Prop
 | .mk nm _ xs=>nm.length<=1000000000/\xs.length<=1000000000/\b_ xs
def b_:List Tm->Prop
 |[]=>True
 |t::l=>aY t/\b_ l
end
theorem ga {t:Tm}:aY t↔t.nm.length<=1000000000/\t.xs.length<=1000000000/\b_ t.xs:=by cases t;rw[aY];rfl
theorem eh:∀{l:List Tm} {k:Nat} {t:Tm},b_ l->l[k]?=some t->aY t
 |[],k,t,_,h=>by simp at h
 |u::l,0,t,hs,h=>by rw[b_]at hs;simp at h;exact h▸hs.1
 |u::l,k+1,t,hs,h=>by rw[b_]at hs;simp at h;exact eh hs.2 h
abbrev oW (w:Tm):List IV:=[Si w.nm,Ii w.ix,.sl 3 (ay w.xs)]
abbrev oU (t:Tm):IV:= .pt (oW t)
theorem dV {α:Type} {l:List α} {k:Nat} {u:α} (h:l[k]?=some u):l.take (k+1)=l.take k++[u]:=by rw[List.take_add_one,h];rfl
theorem kK {α:Type} {l:List α} {k:Nat} (h:k<=l.length):(l.take k).length=k:=by rw[List.length_take];omega
theorem x9 {α β:Type} (f:α->β) {l:List α} {k:Nat} {u:α} (h:l[k]?=some u):(l.take (k+1)).map f=(l.take k).map f++[f u]:=by
 rw[dV h,List.map_append];rfl
theorem oV (l:List Tm) (w:Tm):ay (l++[w])=ay l++[oW w]:=by
 rw[qt,List.map_append,<-qt,List.map_cons,List.map_nil,oT]
theorem Eu (x:Tm) (hs:aY x):aR Tryz.prog 38 [bD x] (bD x):=by
 have d_:=ga.1 hs
 refine al.walk [0,1,2,3,5,12,13,14,15] [2,3,5] Tryz.func38 rfl Tryz.ntmps38 (by kernel_rfl) (by rfl) rfl fun W own I0 aw lay=>?_
 refine gE @ao ?_
 refine AP.iu 1 2 71 3 rfl rfl ?_
 refine sI ?_
 refine AP.loop rfl (α:=Nat) (fun k=>[(2,.ob 0 0),(3,.ob 1 0),(12,.im (.sl 3 (ay x.xs))),(13,Iv x.xs.length),(14,Iv k)]) (fun k=>[(2,.vec 71 3 (ay (x.xs.take k))),(1,.var 71 [Sv x.nm,Iv x.ix,.os 2 3 0 k]),(0,.var 71 [Sv [],Iv 0,gp])]) (fun k=>k<=x.xs.length) (fun k=>x.xs.length-k) 0 (by omega) (sU) rfl fun k hk=>?_
 rcases Nat.eq_or_lt_of_le hk with aN|ag
 ·subst aN
  rw[List.take_length]
  refine gE @ao ?_
  refine cF ?_
  refine gO ?_
  refine AE.freeze 2 (el:=71) (es:=3) (rows:=ay x.xs) rfl (by simp only[go_sem,Nat.reduceAdd,Nat.reduceLeDiff,Nat.reduceSub,Int.reduceToNat,reduceCtorEq,ao];first|done|trivial|omega|(simp;done)|(simp;omega)) (by simp only[go_sem,Nat.reduceAdd,Nat.reduceLeDiff,Nat.reduceSub,Int.reduceToNat,reduceCtorEq,ao];first|done|trivial|omega|(simp;done)|(simp;omega)) ?_;simp only[go_sem,Nat.reduceAdd,Nat.reduceLeDiff,Nat.reduceSub,Int.reduceToNat,reduceCtorEq,ao]
  rw[List.take_of_length_le (by rw[ao];omega)]
  exact AE.bk [1,0] rfl ⟨⟨rfl,Nat.le_of_ble_eq_true (by kernel_rfl)⟩,trivial⟩ rfl ⟨rfl,by cases x;rfl⟩
 ·obtain⟨u,hu,aX⟩:=dL x.xs k ag
  have hw:=wr (x:=(k:Int)+1) (by omega)
  have bc:=kK (l:=x.xs) (k:=k) (by omega)
  have ih:=Eu u (eh d_.2.2 hu)
  have bx:=dV hu
  refine gE @ao ?_
  refine cT ?_
  refine gE @aX ?_
  refine⟨by rw[ao];omega,?_⟩
  refine gO ?_
  refine AP.dh 8 (Tree.node [] [0,1,2] [3] [Tree.node [0,1] [] [4] [Tree.node [0,1] [] [5] [Tree.node [] [6] [7] [Tree.node [] [] [] []]]]]) (by kernel_rfl) rfl (by kernel_rfl) (by kernel_rfl) ?_
  refine de ?_
  refine sI ?_
  refine AQ.fn (by kernel_rfl) rfl rfl rfl (ih) rfl ?_
  refine sI ?_
  refine AQ.nx rfl ?_
  refine sI ?_
  refine AQ.go (by kernel_rfl) ?_
  refine sI ?_
  refine AQ.nx rfl ?_
  refine sI ?_
  refine AQ.kill 2 ?_
  refine sI ?_
  refine AQ.append (hnb:=rfl) (rows:=ay (x.xs.take k)) (es:=2) (by kernel_rfl) rfl rfl rfl (by rfl) Tryz.sg Tryz.se (by show Option.map _ (az Tryz.prog 71)=_;rw[Tryz.sr];rfl) Tryz.qG (by first|rfl|(simp only[ao,bc,List.length_cons,List.length_nil];done)|(simp only[ao,bc,List.length_cons,List.length_nil];omega)) (by simp only[ao,bc,List.length_cons,List.length_nil];omega) (by simp only[ao,bc,List.length_cons,List.length_nil];omega) ?_
  refine sI ?_
  refine AQ.nx rfl ?_
  refine sI ?_
  refine AQ.go (by kernel_rfl) ?_
  refine sI ?_
  refine AQ.nx rfl ?_
  refine sI ?_
  refine AQ.done ?_
  refine gE @hw ?_
  refine AE.eu [3] rfl ?_
  refine sI ?_
  refine AE.round (k+1) (by omega) (by omega) (sU) ?_
  rw[bx,oV,ao,bc]
termination_by SizeOf.sizeOf x
decreasing_by exact kM hu
theorem D2 (x:Tm) (hs:aY x):aR Tryz.prog 112 [bD x] (bD x):=by
 have d_:=ga.1 hs
 refine al.walk [0,1,2,3,5,12,13,14,15] [2,3,5] Tryz.func112 rfl Tryz.ntmps112 (by kernel_rfl) (by rfl) rfl fun W own I0 aw lay=>?_
 refine gE @ao ?_
 refine AP.iu 1 2 57 3 rfl rfl ?_
 refine sI ?_
 refine AP.loop rfl (α:=Nat) (fun k=>[(2,.ob 0 0),(3,.ob 1 0),(12,.im (.sl 3 (ay x.xs))),(13,Iv x.xs.length),(14,Iv k)]) (fun k=>[(2,.vec 57 3 (ay (x.xs.take k))),(1,.var 57 [Sv x.nm,Iv x.ix,.os 2 3 0 k]),(0,.var 57 [Sv [],Iv 0,gp])]) (fun k=>k<=x.xs.length) (fun k=>x.xs.length-k) 0 (by omega) (sU) rfl fun k hk=>?_
 rcases Nat.eq_or_lt_of_le hk with aN|ag
 ·subst aN
  rw[List.take_length]
  refine gE @ao ?_
  refine cF ?_
  refine gO ?_
  refine AE.freeze 2 (el:=57) (es:=3) (rows:=ay x.xs) rfl (by simp only[go_sem,Nat.reduceAdd,Nat.reduceLeDiff,Nat.reduceSub,Int.reduceToNat,reduceCtorEq,ao];first|done|trivial|omega|(simp;done)|(simp;omega)) (by simp only[go_sem,Nat.reduceAdd,Nat.reduceLeDiff,Nat.reduceSub,Int.reduceToNat,reduceCtorEq,ao];first|done|trivial|omega|(simp;done)|(simp;omega)) ?_;simp only[go_sem,Nat.reduceAdd,Nat.reduceLeDiff,Nat.reduceSub,Int.reduceToNat,reduceCtorEq,ao]
  rw[List.take_of_length_le (by rw[ao];omega)]
  exact AE.bk [1,0] rfl ⟨⟨rfl,Nat.le_of_ble_eq_true (by kernel_rfl)⟩,trivial⟩ rfl ⟨rfl,by cases x;rfl⟩
 ·obtain⟨u,hu,aX⟩:=dL x.xs k ag
  have hw:=wr (x:=(k:Int)+1) (by omega)
  have bc:=kK (l:=x.xs) (k:=k) (by omega)
  have ih:=D2 u (eh d_.2.2 hu)
  have bx:=dV hu
  refine gE @ao ?_
  refine cT ?_
  refine gE @aX ?_
  refine⟨by rw[ao];omega,?_⟩
  refine gO ?_
  refine AP.dh 8 (Tree.node [] [0,1,2] [3] [Tree.node [0,1] [] [4] [Tree.node [0,1] [] [5] [Tree.node [] [6] [7] [Tree.node [] [] [] []]]]]) (by kernel_rfl) rfl (by kernel_rfl) (by kernel_rfl) ?_
  refine de ?_
  refine sI ?_
  refine AQ.fn (by kernel_rfl) rfl rfl rfl (ih) rfl ?_
  refine sI ?_
  refine AQ.nx rfl ?_
  refine sI ?_
  refine AQ.go (by kernel_rfl) ?_
  refine sI ?_
  refine AQ.nx rfl ?_
  refine sI ?_
  refine AQ.kill 2 ?_
  refine sI ?_
  refine AQ.append (hnb:=rfl) (rows:=ay (x.xs.take k)) (es:=2) (by kernel_rfl) rfl rfl rfl (by rfl) Tryz.J_ Tryz.J5 (by show Option.map _ (az Tryz.prog 57)=_;rw[Tryz.KY];rfl) Tryz.D7 (by first|rfl|(simp only[ao,bc,List.length_cons,List.length_nil];done)|(simp only[ao,bc,List.length_cons,List.length_nil];omega)) (by simp only[ao,bc,List.length_cons,List.length_nil];omega) (by simp only[ao,bc,List.length_cons,List.length_nil];omega) ?_
  refine sI ?_
  refine AQ.nx rfl ?_
  refine sI ?_
  refine AQ.go (by kernel_rfl) ?_
  refine sI ?_
  refine AQ.nx rfl ?_
  refine sI ?_
  refine AQ.done ?_
  refine gE @hw ?_
  refine AE.eu [3] rfl ?_
  refine sI ?_
  refine AE.round (k+1) (by omega) (by omega) (sU) ?_
  rw[bx,oV,ao,bc]
termination_by SizeOf.sizeOf x
decreasing_by exact kM hu
end Go.Proofs.YtpfohmboflcneaaGreatDoor
end
section
namespace Go.Proofs.YtpfohmboflcneaaGreatDoor
set_option maxHeartbeats 1000000
mutual
theorem E7:∀s t:Tm,cW s t=true↔s=t
 | .mk n i xs,.mk m k ys=>by
  rw[cW]
  simp only[Bool.and_eq_true,beq_iff_eq,Tm.nm,Tm.ix,Tm.xs,zL xs ys,Tm.mk.injEq,and_assoc]
theorem zL:∀s t:List Tm,jJ s t=true↔s=t
 |[],[]=>by simp[jJ]
 |[],_::_=>by simp[jJ]
 |_::_,[]=>by simp[jJ]
 |a::l,b::m=>by
  rw[jJ]
  simp only[Bool.and_eq_true,E7 a b,zL l m,List.cons.injEq]
end
mutual
def cM:Tm->List Int
 | .mk n i xs=>(if n=[]then[i]else[])++ba xs
def ba:List Tm->List Int
 |[]=>[]
 |t::l=>cM t++ba l
end
mutual
def wT:Tm->Nat
 | .mk _ _ xs=>1+aF xs
def aF:List Tm->Nat
 |[]=>0
 |t::l=>wT t+aF l
end
theorem Tf (t:Tm):cM t=(if t.nm=[]then[t.ix]else[])++ba t.xs:=by cases t;rw[cM];rfl
theorem y3 (t:Tm):wT t=1+aF t.xs:=by cases t;rw[wT];rfl
theorem KH (t:Tm):1<=wT t:=by rw[y3];omega
theorem Ds:∀(l:List Tm) (a:Tm),a∈l->wT a<=aF l
 |[],_,h=>by cases h
 |t::l,a,h=>by
  rw[aF]
  rcases List.mem_cons.1 h with rfl|h
  ·omega
  ·have:=Ds l a h;omega
theorem KG {t a:Tm} (h:a∈t.xs):wT a<wT t:=by
 rw[y3 t];have:=Ds t.xs a h;omega
def sX (s t:Tm):Bool:=(cM t).all fun v=>decide ((cM t).count v<=(cM s).count v)
theorem MC (s t:Tm):sX s t=true↔∀v,(cM t).count v<=(cM s).count v:=by
 rw[sX,List.all_eq_true]
 constructor
 ·intro h v
  by_cases hv:v∈cM t
  ·exact of_decide_eq_true (h v hv)
  ·rw[List.count_eq_zero_of_not_mem hv];omega
 ·intro h v _;exact decide_eq_true (h v)
mutual
def lJ:Tm->Tm->Bool
 | .mk n i xs,t=>
  if sX (.mk n i xs) t=false then false
  else if wT (.mk n i xs)≠wT t then decide (wT t<wT (.mk n i xs))
  else if n=[]\/t.nm=[]then false
  else if xs.length≠t.xs.length then decide (t.xs.length<xs.length)
  else if n≠t.nm then decide (t.nm<n)
  else nV xs t.xs
def nV:List Tm->List Tm->Bool
 |a::l,b::m=>if cW a b then nV l m else lJ a b
 |_,_=>false
end
theorem Nu (s t:Tm):lJ s t=if sX s t=false then false
  else if wT s≠wT t then decide (wT t<wT s)
  else if s.nm=[]\/t.nm=[]then false
  else if s.xs.length≠t.xs.length then decide (t.xs.length<s.xs.length)
  else if s.nm≠t.nm then decide (t.nm<s.nm)
  else nV s.xs t.xs:=by cases s;rw[lJ];rfl
theorem x8 (a b:List UInt8):a<b\/a=b\/b<a:=by
 rcases List.le_total a b with h|h
 ·rcases List.le_iff_lt_or_eq.1 h with h|h
  ·exact .inl h
  ·exact .inr (.inl h)
 ·rcases List.le_iff_lt_or_eq.1 h with h|h
  ·exact .inr (.inr h)
  ·exact .inr (.inl h.symm)
inductive Lf:Tm->Prop
 |mk (t:Tm) (h:t.nm=[]->t.xs=[]) (h0:t.nm≠[]->t.ix=0) (k:∀a∈t.xs,Lf a):Lf t
mutual
def aB (f:Int->Tm):Tm->Tm
 | .mk n i xs=>if n=[]then f i else .mk n 0 (bj f xs)
def bj (f:Int->Tm):List Tm->List Tm
 |[]=>[]
 |t::l=>aB f t::bj f l
end
theorem pe (f:Int->Tm) (t:Tm):aB f t=if t.nm=[]then f t.ix else .mk t.nm 0 (bj f t.xs):=by cases t;rw[aB];rfl
theorem mo (f:Int->Tm):∀l,bj f l=l.map (aB f)
 |[]=>by rw[bj];rfl
 |t::l=>by rw[bj,mo f l];rfl
def qJ (s t:Tm):Int:=if cW s t then 0 else if lJ s t then 1 else if lJ t s then-1 else 2
end Go.Proofs.YtpfohmboflcneaaGreatDoor
end
section
namespace Go.Proofs.YtpfohmboflcneaaGreatDoor
open Go
def eb (c:UInt8):Bool:=decide (48<=c.toNat)&&decide (c.toNat<=57)
def en (l:List UInt8):Nat:=l.foldl (fun n c=>10*n+(c.toNat-48)) 0
theorem EW (l:List UInt8) (c:UInt8):en (l++[c])=10*en l+(c.toNat-48):=by simp[en,List.foldl_append]
theorem uL (d:Nat) (h:d<10):(UInt8.ofNat (48+d)).toNat=48+d:=by
 rw[UInt8.toNat_ofNat'];omega
theorem wj:∀(u:Nat),en (Lib.decDigits u)=u/\(∀c∈Lib.decDigits u,eb c=true)/\Lib.decDigits u≠[]/\(∀k,1<=k->u<10^k->(Lib.decDigits u).length<=k)/\(u≠0->((Lib.decDigits u).getD 0 0).toNat≠48)/\(1<(Lib.decDigits u).length->u≠0):=by
 intro u
 induction u using Nat.strongRecOn with
 |_ u ih=>
  rw[Lib.decDigits]
  by_cases h:u<10
  ·rw[dif_pos h]
   refine⟨?_,?_,by simp,?_,?_,by simp⟩
   ·simp only[en,List.foldl_cons,List.foldl_nil,uL u h];omega
   ·intro c hc
    simp only[List.mem_singleton]at hc
    subst hc
    simp only[eb,uL u h,Bool.and_eq_true,decide_eq_true_eq];omega
   ·intro k hk _;simpa using hk
   ·intro h0;simp only[List.getD_cons_zero,uL u h];omega
  ·rw[dif_neg h]
   obtain⟨U,h2,h3,h4,h5,h6⟩:=ih (u/10) (by omega)
   have hm:u%10<10:=Nat.mod_lt _ (by decide)
   refine⟨?_,?_,by simp,?_,?_,fun _=>by omega⟩
   ·rw[EW,U,uL _ hm];omega
   ·intro c hc
    rcases List.mem_append.1 hc with hc|hc
    ·exact h2 c hc
    ·simp only[List.mem_singleton]at hc
     subst hc
     simp only[eb,uL _ hm,Bool.and_eq_true,decide_eq_true_eq];omega
   ·intro k hk hu
    match k,hk with
    |1,_=>omega
    |k+2,_=>
     have:=h4 (k+1) (by omega) (by rw[Nat.pow_succ]at hu;omega)
     rw[List.length_append,List.length_singleton];omega
   ·intro _
    have h7:=h5 (by omega)
    match hd:Lib.decDigits (u/10),h3 with
    |x::r,_=>rw[hd]at h7;simpa using h7
theorem zC:∀(n:Nat) (l:List UInt8),l.length=n+1->(∀c∈l,eb c=true)->(1<l.length->(l.getD 0 0).toNat≠48)->Lib.decDigits (en l)=l/\((l.getD 0 0).toNat≠48->en l≠0)
 |0,l,hl,hd,_=>by
  match l,hl with
  |[c],_=>
   have hc:=hd c (by simp)
   simp only[eb,Bool.and_eq_true,decide_eq_true_eq]at hc
   have e:en [c]=c.toNat-48:=by simp[en]
   rw[e]
   refine⟨?_,fun h=>by simp only[List.getD_cons_zero]at h;omega⟩
   rw[Lib.decDigits,dif_pos (by omega)]
   have:UInt8.ofNat (48+(c.toNat-48))=c:=by
    rw[show 48+(c.toNat-48)=c.toNat by omega];simp
   rw[this]
 |n+1,l,hl,hd,hz=>by
  obtain⟨r,c,rfl⟩:∃r c,l=r++[c]:=by
   rcases List.eq_nil_or_concat l with rfl|⟨r,c,rfl⟩
   ·simp at hl
   ·exact⟨r,c,List.concat_eq_append⟩
  have lU:r.length=n+1:=by simp at hl;omega
  have hg:(r++[c]).getD 0 0=r.getD 0 0:=by
   match r,lU with
   |x::r,_=>rfl
  rw[hg]at hz⊢
  have h0:=hz (by rw[List.length_append,List.length_singleton];omega)
  obtain⟨U,h2⟩:=zC n r lU (fun d dF=>hd d (by simp[dF])) (fun _=>h0)
  have hc:=hd c (by simp)
  simp only[eb,Bool.and_eq_true,decide_eq_true_eq]at hc
  have h3:=h2 h0
  rw[EW]
  refine⟨?_,fun _=>by omega⟩
  rw[Lib.decDigits,dif_neg (by omega),show(10*en r+(c.toNat-48))/10=en r by omega,U,show(10*en r+(c.toNat-48))%10=c.toNat-48 by omega]
  have:UInt8.ofNat (48+(c.toNat-48))=c:=by
   rw[show 48+(c.toNat-48)=c.toNat by omega];simp
  rw[this]
def fp (c:UInt8) (first:Bool):Bool:=
 (decide (97<=c.toNat)&&decide (c.toNat<=122)||decide (65<=c.toNat)&&decide (c.toNat<=90))||!first&&((decide (48<=c.toNat)&&decide (c.toNat<=57)||c==95)||c==39)
def b7:Bool->List UInt8->Nat
 |_,[]=>0
 |b,c::l=>if fp c b then 1+b7 false l else 0
def ej:List UInt8->Nat
 |[]=>0
 |c::l=>if eb c then 1+ej l else 0
def jy:Bool->List UInt8->Bool
 |_,[]=>true
 |b,c::l=>fp c b&&jy false l
def dq (n:List UInt8):Bool:=decide (n≠[])&&decide (n.length<=60)&&jy true n
theorem uJ:∀b l,b7 b l<=l.length
 |_,[]=>Nat.zero_le _
 |b,c::l=>by
  rw[b7];split
  ·have:=uJ false l;rw[List.length_cons];omega
  ·exact Nat.zero_le _
theorem EU:∀l,ej l<=l.length
 |[]=>Nat.zero_le _
 |c::l=>by
  rw[ej];split
  ·have:=EU l;rw[List.length_cons];omega
  ·exact Nat.zero_le _
theorem EV:∀l:List UInt8,∀c∈l.take (ej l),eb c=true
 |[]=>by simp
 |c::l=>by
  rw[ej]
  split
  ·rename_i h
   rw[Nat.add_comm,List.take_succ_cons]
   intro d hd
   rcases List.mem_cons.1 hd with rfl|hd
   ·exact h
   ·exact EV l d hd
  ·simp
def kQ (r:List UInt8):Prop:=match r with|[]=>True|c::_=>fp c false=false/\c≠40
theorem kQ.MI {r:List UInt8} (h:kQ r):ej r=0:=by
 cases r with
 |nil=>rfl
 |cons c l=>
  have:=h.1
  rw[ej,if_neg]
  intro hd
  simp only[fp,eb,Bool.or_eq_false_iff,Bool.and_eq_true,decide_eq_true_eq,Bool.not_false,Bool.true_and]at this hd
  have h2:=this.2.1.1
  simp only[Bool.and_eq_false_iff,decide_eq_false_iff_not]at h2
  omega
theorem Cv:∀(b:Bool) (n r:List UInt8),jy b n=true->(match r with|[]=>True|c::_=>fp c (b&&n.isEmpty)=false)->b7 b (n++r)=n.length
 |b,[],[],_,_=>rfl
 |b,[],c::r,_,h=>by
  rw[List.nil_append,b7,if_neg]
  ·rfl
  ·simpa using h
 |b,c::n,r,h,k=>by
  rw[jy,Bool.and_eq_true]at h
  rw[List.cons_append,b7,if_pos h.1,Cv false n r h.2,List.length_cons]
  ·omega
  ·cases r with
   |nil=>trivial
   |cons d r=>simpa using k
theorem ET:∀(n r:List UInt8),(∀c∈n,eb c=true)->ej r=0->ej (n++r)=n.length
 |[],r,_,h=>h
 |c::n,r,h,k=>by
  rw[List.cons_append,ej,if_pos (h c (by simp)),ET n r (fun d hd=>h d (by simp[hd])) k,List.length_cons];omega
structure Lt where
 ng:Bool
 pd:List UInt8
 xs:List Tm
mutual
def bq (sh:Bool):Tm->List UInt8
 | .mk n i xs=>if n=[]then 63::(if sh then[]else Lib.itoa i)else n++cq sh xs
def cq (sh:Bool):List Tm->List UInt8
 |[]=>[]
 |t::l=>40::(bq sh t++du sh l)
def du (sh:Bool):List Tm->List UInt8
 |[]=>[41]
 |t::l=>44::32::(bq sh t++du sh l)
end
theorem yT (sh:Bool) (t:Tm):bq sh t=if t.nm=[]then 63::(if sh then[]else Lib.itoa t.ix)else t.nm++cq sh t.xs:=by cases t;rw[bq];rfl
def ka (ng:Bool):List UInt8:=if ng then[32,33,61,32]else[32,61,32]
def cR (sh:Bool) (l:Lt):List UInt8:=
 if l.pd=[61]then bq sh (l.xs.getD 0 (.mk [] 0 []))++(ka l.ng++bq sh (l.xs.getD 1 (.mk [] 0 [])))
 else(if l.ng then[126]else[])++(l.pd++cq sh l.xs)
def dM (sh:Bool):List Lt->List UInt8
 |[]=>[]
 |l::r=>32::124::32::(cR sh l++dM sh r)
def fu (sh:Bool):List Lt->List UInt8
 |[]=>[91,93]
 |l::r=>cR sh l++dM sh r
def bQ (s:List UInt8) (i:Nat) (w:List UInt8):Bool:=w.isPrefixOf (s.drop i)
def ir (d:List UInt8):Bool:=decide (1<=d.length)&&decide (d.length<=9)&&(decide (d.length=1)||decide ((d.getD 0 0).toNat≠48))
def pV (s:List UInt8) (i:Nat):Option (Tm×Nat):=
 if ir ((s.drop i).take (ej (s.drop i)))then some (.mk [] (en ((s.drop i).take (ej (s.drop i)))) [],i+ej (s.drop i))else none
mutual
def pT (s:List UInt8):Nat->Nat->Option (Tm×Nat)
 |0,_=>none
 |f+1,i=>if bQ s i [63]then pV s (i+1)else
  if b7 true (s.drop i)=0 then none else
  if bQ s (i+b7 true (s.drop i)) [40]then
   match pT s f (i+b7 true (s.drop i)+1)with
   |none=>none
   |some (t,j)=>match pR s f j with
    |none=>none
    |some (l,k)=>some (.mk ((s.drop i).take (b7 true (s.drop i))) 0 (t::l),k)
  else some (.mk ((s.drop i).take (b7 true (s.drop i))) 0 [],i+b7 true (s.drop i))
def pR (s:List UInt8):Nat->Nat->Option (List Tm×Nat)
 |0,_=>none
 |f+1,i=>if bQ s i [44,32]then
   match pT s f (i+2)with
   |none=>none
   |some (t,j)=>match pR s f j with
    |none=>none
    |some (l,k)=>some (t::l,k)
  else if bQ s i [41]then some ([],i+1)else none
end
def pA (s:List UInt8) (f i:Nat):Option (List Tm×Nat):=
 if bQ s i [40]then
  match pT s f (i+1)with
  |none=>none
  |some (t,j)=>match pR s f j with
   |none=>none
   |some (l,k)=>some (t::l,k)
 else some ([],i)
theorem CH (s:List UInt8) (f i:Nat):pT s (f+1) i=if bQ s i [63]then pV s (i+1)else
  if b7 true (s.drop i)=0 then none else
  match pA s f (i+b7 true (s.drop i))with
  |none=>none
  |some (l,k)=>some (.mk ((s.drop i).take (b7 true (s.drop i))) 0 l,k):=by
 rw[pT,pA]
 split
 ·rfl
 ·split
  ·rfl
  ·split
   ·cases pT s f (i+b7 true (s.drop i)+1)with
    |none=>rfl
    |some x=>
     obtain⟨t,j⟩:=x
     simp only
     cases pR s f j with
     |none=>rfl
     |some y=>rfl
   ·rfl
def pL (s:List UInt8) (i:Nat):Option (Lt×Nat):=
 if bQ s i [126]then
  if b7 true (s.drop (i+1))=0 then none else
  match pA s (s.length+1) (i+1+b7 true (s.drop (i+1)))with
  |none=>none
  |some (l,k)=>some (⟨true,(s.drop (i+1)).take (b7 true (s.drop (i+1))),l⟩,k)
 else match pT s (s.length+1) i with
  |none=>none
  |some (t,j)=>
   if bQ s j [32,61,32]then(match pT s (s.length+1) (j+3)with
    |none=>none
    |some (u,k)=>some (⟨false,[61],[t,u]⟩,k))
   else if bQ s j [32,33,61,32]then(match pT s (s.length+1) (j+4)with
    |none=>none
    |some (u,k)=>some (⟨true,[61],[t,u]⟩,k))
   else if t.nm=[]then none else some (⟨false,t.nm,t.xs⟩,j)
def pS (s:List UInt8):Nat->Nat->Option (List Lt)
 |0,_=>none
 |f+1,i=>match pL s i with
  |none=>none
  |some (l,j)=>if bQ s j [32,124,32]then(match pS s f (j+3)with
    |none=>none
    |some r=>some (l::r))
   else if j<s.length then none else some [l]
def pC (s:List UInt8):Option (List Lt):=if s=[91,93]then some []else pS s (s.length+1) 0
theorem lC {s:List UInt8} {i:Nat} {w:List UInt8} (h:bQ s i w=true):s.drop i=w++s.drop (i+w.length):=by
 obtain⟨r,hr⟩:=List.isPrefixOf_iff_prefix.1 h
 rw[<-List.drop_drop,<-hr,List.drop_left]
theorem nH {s:List UInt8} {i:Nat} {w r:List UInt8} (h:s.drop i=w++r):bQ s i w=true:=by
 rw[bQ,h];exact List.isPrefixOf_iff_prefix.2 ⟨r,rfl⟩
theorem DU {s:List UInt8} {i:Nat} {w:List UInt8} (h:bQ s i w=true):i+w.length<=s.length\/w=[]:=by
 have:=congrArg List.length (lC h)
 rw[List.length_append,List.length_drop,List.length_drop]at this
 rcases w with _|⟨c,w⟩
 ·exact .inr rfl
 ·left;rw[List.length_cons]at*;omega
theorem PG {d:List UInt8} (h:ir d=true) (k:∀c∈d,eb c=true):Lib.itoa (en d:Int)=d:=by
 simp only[ir,Bool.and_eq_true,Bool.or_eq_true,decide_eq_true_eq]at h
 rw[Lib.itoa_nonneg]
 exact(zC (d.length-1) d (by omega) k (fun U=>by rcases h.2 with h2|h2;omega;exact h2)).1
theorem II {s:List UInt8} {i j:Nat} {t:Tm} (h:pV s i=some (t,j)):t.nm=[]/\s.drop i=Lib.itoa t.ix++s.drop j/\i<j/\j<=s.length:=by
 rw[pV]at h
 split at h
 ·rename_i hn
  simp only[Option.some.injEq,Prod.mk.injEq]at h
  obtain⟨rfl,rfl⟩:=h
  have hl:=EU (s.drop i)
  have U:1<=ej (s.drop i):=by
   simp only[ir,Bool.and_eq_true,decide_eq_true_eq,List.length_take]at hn;omega
  rw[List.length_drop]at hl
  refine⟨rfl,?_,by omega,by omega⟩
  show _=Lib.itoa (en _:Int)++_
  rw[PG hn (EV _),<-List.drop_drop,List.take_append_drop]
 ·cases h
theorem CG (s:List UInt8):∀f,(∀i t j,pT s f i=some (t,j)->s.drop i=bq false t++s.drop j/\i<j/\j<=s.length)/\
  (∀i l j,pR s f i=some (l,j)->s.drop i=du false l++s.drop j/\i<j/\j<=s.length)
 |0=>⟨fun i t j h=>(by rw[pT]at h;cases h),fun i l j h=>(by rw[pR]at h;cases h)⟩
 |f+1=>by
  obtain⟨GZ,GY⟩:=CG s f
  refine⟨fun i t j h=>?_,fun i l j h=>?_⟩
  ·rw[pT]at h
   split at h
   ·rename_i hq
    obtain⟨U,h2,h3,h4⟩:=II h
    refine⟨?_,by omega,h4⟩
    rw[lC hq,yT,if_pos U,show i+[(63:UInt8)].length=i+1 from rfl,h2];rfl
   ·split at h
    ·cases h
    ·rename_i hn
     have fm:=uJ true (s.drop i)
     rw[List.length_drop]at fm
     have aG:(s.drop i).take (b7 true (s.drop i))≠[]:=by
      intro e
      have:=congrArg List.length e
      rw[List.length_take,List.length_drop,List.length_nil]at this
      omega
     split at h
     ·rename_i ho
      split at h
      ·cases h
      ·rename_i t1 j1 e1
       split at h
       ·cases h
       ·rename_i l1 k1 e2
        simp only[Option.some.injEq,Prod.mk.injEq]at h
        obtain⟨rfl,rfl⟩:=h
        obtain⟨g1,g2,g3⟩:=GZ _ _ _ e1
        obtain⟨g4,g5,g6⟩:=GY _ _ _ e2
        refine⟨?_,by omega,g6⟩
        rw[bq,if_neg aG,cq]
        have e3:=lC ho
        rw[show i+b7 true (s.drop i)+[(40:UInt8)].length=i+b7 true (s.drop i)+1 from rfl,g1,g4]at e3
        have e4:s.drop i=(s.drop i).take (b7 true (s.drop i))++s.drop (i+b7 true (s.drop i)):=by
         rw[<-List.drop_drop,List.take_append_drop]
        rw[e3]at e4
        simp only[List.cons_append,List.append_assoc,List.nil_append]at e4⊢
        exact e4
     ·simp only[Option.some.injEq,Prod.mk.injEq]at h
      obtain⟨rfl,rfl⟩:=h
      refine⟨?_,by omega,by omega⟩
      rw[bq,if_neg aG,cq,List.append_nil,<-List.drop_drop,List.take_append_drop]
  ·rw[pR]at h
   split at h
   ·rename_i ho
    split at h
    ·cases h
    ·rename_i t1 j1 e1
     split at h
     ·cases h
     ·rename_i l1 k1 e2
      simp only[Option.some.injEq,Prod.mk.injEq]at h
      obtain⟨rfl,rfl⟩:=h
      obtain⟨g1,g2,g3⟩:=GZ _ _ _ e1
      obtain⟨g4,g5,g6⟩:=GY _ _ _ e2
      refine⟨?_,by omega,g6⟩
      rw[lC ho,show i+[(44:UInt8),32].length=i+2 from rfl,g1,g4,du]
      simp only[List.cons_append,List.append_assoc,List.nil_append]
   ·split at h
    ·rename_i ho
     simp only[Option.some.injEq,Prod.mk.injEq]at h
     obtain⟨rfl,rfl⟩:=h
     refine⟨by rw[lC ho,du];rfl,by omega,?_⟩
     have:=DU ho
     simpa using this
    ·cases h
theorem oL {s:List UInt8} {f i j:Nat} {t:Tm} (h:pT s f i=some (t,j)):s.drop i=bq false t++s.drop j/\i<j/\j<=s.length:=(CG s f).1 i t j h
theorem CF {s:List UInt8} {f i j:Nat} {l:List Tm} (h:pR s f i=some (l,j)):s.drop i=du false l++s.drop j/\i<j/\j<=s.length:=(CG s f).2 i l j h
theorem Rm {s:List UInt8} {f i j:Nat} {l:List Tm} (h:pA s f i=some (l,j)) (hi:i<=s.length):s.drop i=cq false l++s.drop j/\i<=j/\j<=s.length:=by
 rw[pA]at h
 split at h
 ·rename_i ho
  split at h
  ·cases h
  ·rename_i t1 j1 e1
   split at h
   ·cases h
   ·rename_i l1 k1 e2
    simp only[Option.some.injEq,Prod.mk.injEq]at h
    obtain⟨rfl,rfl⟩:=h
    obtain⟨g1,g2,g3⟩:=oL e1
    obtain⟨g4,g5,g6⟩:=CF e2
    refine⟨?_,by omega,g6⟩
    rw[lC ho,show i+[(40:UInt8)].length=i+1 from rfl,g1,g4,cq]
    simp only[List.cons_append,List.append_assoc,List.nil_append]
 ·simp only[Option.some.injEq,Prod.mk.injEq]at h
  obtain⟨rfl,rfl⟩:=h
  exact⟨by rw[cq];rfl,Nat.le_refl _,hi⟩
end Go.Proofs.YtpfohmboflcneaaGreatDoor
end
section
namespace Go.Proofs.YtpfohmboflcneaaGreatDoor
open Go
set_option maxHeartbeats 1000000
mutual
def ck:Tm->Bool
 | .mk n i xs=>if n=[]then xs.isEmpty&&(decide (0<=i)&&decide (i<1000))else(dq n&&i==0)&&bJ xs
def bJ:List Tm->Bool
 |[]=>true
 |t::l=>ck t&&bJ l
end
theorem uM (t:Tm):ck t=if t.nm=[]then t.xs.isEmpty&&(decide (0<=t.ix)&&decide (t.ix<1000))else(dq t.nm&&t.ix==0)&&bJ t.xs:=by cases t;rw[ck];rfl
theorem uN:∀{l:List Tm},bJ l=true->∀a∈l,ck a=true
 |[],_,a,h=>by cases h
 |t::l,h,a,ha=>by
  rw[bJ,Bool.and_eq_true]at h
  rcases List.mem_cons.1 ha with rfl|ha
  ·exact h.1
  ·exact uN h.2 a ha
theorem Ib {n:List UInt8} (h:dq n=true):n≠[]:=by
 rw[dq,Bool.and_eq_true,Bool.and_eq_true,decide_eq_true_iff]at h;exact h.1.1
theorem Ct {n:List UInt8} (h:dq n=true):jy true n=true:=by
 rw[dq,Bool.and_eq_true]at h;exact h.2
theorem yf {n:List UInt8} (h:dq n=true):∃c l,n=c::l/\fp c true=true:=by
 match n,Ib h,Ct h with
 |c::l,_,h=>exact⟨c,l,rfl,by rw[jy,Bool.and_eq_true]at h;exact h.1⟩
theorem uw {c:UInt8} (h:fp c true=true):c≠63/\c≠126/\c≠40/\c≠91:=by
 refine⟨?_,?_,?_,?_⟩<;>(rintro rfl;revert h;decide)
theorem sN {s:List UInt8} {i:Nat} {c d:UInt8} {l w:List UInt8} (h:s.drop i=c::l) (hn:c≠d):bQ s i (d::w)=false:=by
 rw[bQ,h,List.isPrefixOf,Bool.and_eq_false_iff]
 exact .inl (by simpa using Ne.symm hn)
theorem vX {s:List UInt8} {i:Nat} {d:UInt8} {w:List UInt8} (h:s.drop i=[]):bQ s i (d::w)=false:=by
 rw[bQ,h];rfl
theorem kQ.br {s:List UInt8} {i:Nat} (h:kQ (s.drop i)):bQ s i [40]=false:=by
 match e:s.drop i,h with
 |[],_=>exact vX e
 |c::l,h=>exact sN e h.2
theorem nP {s:List UInt8} {i:Nat} {a r:List UInt8} (h:s.drop i=a++r):s.drop (i+a.length)=r:=by
 rw[<-List.drop_drop,h,List.drop_left]
theorem qP {s:List UInt8} {i:Nat} {a r:List UInt8} (h:s.drop i=a++r) (hn:a≠[]):i+a.length<=s.length:=by
 have:=congrArg List.length h
 rw[List.length_drop,List.length_append]at this
 have:1<=a.length:=by cases a with|nil=>exact absurd rfl hn|cons _ _=>rw[List.length_cons];omega
 omega
theorem PI {i:Int} (h0:0<=i) (U:i<1000):(∀c∈Lib.itoa i,eb c=true)/\ir (Lib.itoa i)=true/\((en (Lib.itoa i):Nat):Int)=i/\Lib.itoa i≠[]:=by
 obtain⟨u,rfl⟩:=Int.eq_ofNat_of_zero_le h0
 rw[Lib.itoa_nonneg]
 obtain⟨f1,f2,f3,f4,f5,f6⟩:=wj u
 refine⟨f2,?_,by rw[f1],f3⟩
 have h9:=f4 9 (by omega) (by omega)
 have hl:1<=(Lib.decDigits u).length:=by
  rcases h:Lib.decDigits u with _|⟨c,l⟩
  ·exact absurd h f3
  ·rw[List.length_cons];omega
 simp only[ir,Bool.and_eq_true,Bool.or_eq_true,decide_eq_true_eq]
 refine⟨⟨hl,h9⟩,?_⟩
 by_cases h:(Lib.decDigits u).length=1
 ·exact .inl h
 ·exact .inr (f5 (f6 (by omega)))
theorem S0 {t:Tm}:bq false t≠[]:=by
 rw[yT]
 split
 ·simp
 ·rename_i h;intro e;rw[List.append_eq_nil_iff]at e;exact h e.1
theorem Kk (l:List Tm) (r:List UInt8):kQ (du false l++r):=by
 cases l<;>(rw[du];exact⟨by decide,by decide⟩)
theorem Kg (xs:List Tm) (r:List UInt8) (h:kQ r):match cq false xs++r with|[]=>True|c::_=>fp c false=false:=by
 cases xs with
 |nil=>
  rw[cq,List.nil_append]
  match r,h with
  |[],_=>trivial
  |c::l,h=>exact h.1
 |cons t l=>rw[cq];exact(by decide:fp 40 false=false)
mutual
theorem r3:∀(t:Tm) (s:List UInt8) (f i:Nat) (r:List UInt8),ck t=true->s.drop i=bq false t++r->kQ r->s.length<f+i->pT s f i=some (t,i+(bq false t).length)
 | .mk n ix xs,s,f,i,r,ho,hs,hr,hf=>by
  have bH:=qP hs S0
  match f,hf with
  |0,hf=>omega
  |f+1,hf=>
   rw[CH]
   rw[ck]at ho
   rw[bq]at hs bH⊢
   by_cases hn:n=[]
   ·rw[if_pos hn]at hs ho bH⊢
    rw[Bool.and_eq_true,Bool.and_eq_true,List.isEmpty_iff,decide_eq_true_iff,decide_eq_true_iff]at ho
    obtain⟨rfl,h0,U⟩:=ho
    subst hn
    simp only[Bool.false_eq_true,if_false,List.cons_append]at hs bH⊢
    rw[if_pos (nH (r:=Lib.itoa ix++r) (by rw[hs];rfl))]
    obtain⟨g1,g2,g3,_⟩:=PI h0 U
    have e1:s.drop (i+1)=Lib.itoa ix++r:=by rw[<-List.drop_drop,hs];rfl
    rw[pV,e1,ET _ _ g1 hr.MI,List.take_left,if_pos g2,g3,List.length_cons]
    simp only[Option.some.injEq,Prod.mk.injEq,true_and];omega
   ·rw[if_neg hn]at hs ho bH⊢
    rw[Bool.and_eq_true,Bool.and_eq_true,beq_iff_eq]at ho
    obtain⟨⟨hb,rfl⟩,hx⟩:=ho
    obtain⟨c,l,ca,hc⟩:=yf hb
    rw[if_neg (by rw[sN (s:=s) (i:=i) (by rw[hs,ca];rfl) (uw hc).1];decide)]
    have ic:b7 true (s.drop i)=n.length:=by
     rw[hs,List.append_assoc]
     refine Cv true n _ (Ct hb) ?_
     have:=Kg xs r hr
     rw[show(true&&n.isEmpty)=false by cases n with|nil=>exact absurd rfl hn|cons _ _=>rfl]
     exact this
    have iF:n.length≠0:=by intro e;exact hn (List.length_eq_zero_iff.1 e)
    rw[ic,if_neg iF]
    rw[List.append_assoc]at hs
    have e2:=nP hs
    rw[List.length_append]at bH
    rw[Iz xs s f (i+n.length) r hx e2 hr (by omega) (by omega)]
    simp only
    rw[hs,List.take_left,List.length_append]
    simp only[Option.some.injEq,Prod.mk.injEq,true_and];omega
theorem Iz:∀(l:List Tm) (s:List UInt8) (f i:Nat) (r:List UInt8),bJ l=true->s.drop i=cq false l++r->kQ r->i<=s.length->s.length<f+i->pA s f i=some (l,i+(cq false l).length)
 |[],s,f,i,r,_,hs,hr,_,_=>by
  rw[cq,List.nil_append]at hs
  rw[pA,if_neg (by rw[kQ.br (by rw[hs];exact hr)];decide),cq];rfl
 |t::l,s,f,i,r,ho,hs,hr,hi,hf=>by
  rw[bJ,Bool.and_eq_true]at ho
  rw[cq]at hs⊢
  rw[pA,if_pos (nH (r:=bq false t++(du false l++r)) (by rw[hs];simp))]
  have e1:s.drop (i+1)=bq false t++(du false l++r):=by rw[<-List.drop_drop,hs];simp
  rw[r3 t s f (i+1) _ ho.1 e1 (Kk l r) (by omega)]
  simp only
  have e2:=nP e1
  rw[IC l s f _ r ho.2 e2 (by omega)]
  simp only[List.length_cons,List.length_append,Option.some.injEq,Prod.mk.injEq,true_and];omega
theorem IC:∀(l:List Tm) (s:List UInt8) (f i:Nat) (r:List UInt8),bJ l=true->s.drop i=du false l++r->s.length<f+i->pR s f i=some (l,i+(du false l).length)
 |[],s,f,i,r,_,hs,hf=>by
  rw[du]at hs⊢
  have bH:=qP hs (by simp)
  match f,hf with
  |0,hf=>omega
  |f+1,hf=>
   rw[pR,if_neg (by rw[sN (s:=s) (i:=i) hs (by decide)];decide),if_pos (nH hs)];rfl
 |t::l,s,f,i,r,ho,hs,hf=>by
  rw[bJ,Bool.and_eq_true]at ho
  rw[du]at hs⊢
  have bH:=qP hs (by simp)
  match f,hf with
  |0,hf=>omega
  |f+1,hf=>
   rw[pR,if_pos (nH (r:=bq false t++(du false l++r)) (by rw[hs];simp))]
   have e1:s.drop (i+2)=bq false t++(du false l++r):=by rw[<-List.drop_drop,hs];simp
   rw[r3 t s f (i+2) _ ho.1 e1 (Kk l r) (by omega)]
   simp only
   have e2:=nP e1
   rw[IC l s f _ r ho.2 e2 (by omega)]
   simp only[List.length_cons,List.length_append,Option.some.injEq,Prod.mk.injEq,true_and];omega
end
def bO (l:Lt):Bool:=if l.pd=[61]then decide (l.xs.length=2)&&bJ l.xs else dq l.pd&&bJ l.xs
def Fl (r:List UInt8):Prop:=r=[]\/∃q,r=32::124::32::q
theorem Fl.s9 {r:List UInt8} (h:Fl r):kQ r:=by
 rcases h with rfl|⟨q,rfl⟩
 ·trivial
 ·exact⟨by decide,by decide⟩
theorem Fl.QR {s:List UInt8} {j:Nat} (h:Fl (s.drop j)):bQ s j [32,61,32]=false/\bQ s j [32,33,61,32]=false:=by
 rcases h with h|⟨q,h⟩
 ·exact⟨vX h,vX h⟩
 ·constructor<;>(rw[bQ,h];rfl)
theorem Kq {t:Tm} (h:ck t=true):∃c l,bq false t=c::l/\c≠126/\c≠91:=by
 rw[uM]at h
 rw[yT]
 by_cases hn:t.nm=[]
 ·rw[if_pos hn];exact⟨63,_,rfl,by decide,by decide⟩
 ·rw[if_neg hn]at h⊢
  rw[Bool.and_eq_true,Bool.and_eq_true]at h
  obtain⟨c,l,e,hc⟩:=yf h.1.1
  rw[e]
  exact⟨c,_,rfl,(uw hc).2.1,(uw hc).2.2.2⟩
theorem yS {l:Lt} (h:bO l=true):∃c r,cR false l=c::r/\c≠91:=by
 rw[bO]at h
 rw[cR]
 by_cases hp:l.pd=[61]
 ·rw[if_pos hp,Bool.and_eq_true,decide_eq_true_iff]at h
  rw[if_pos hp]
  match e:l.xs,h.1,h.2 with
  |[a,b],_,h2=>
   rw[bJ,Bool.and_eq_true]at h2
   obtain⟨c,r,e1,_,e2⟩:=Kq h2.1
   rw[List.getD_cons_zero,e1]
   exact⟨c,_,rfl,e2⟩
 ·rw[if_neg hp,Bool.and_eq_true]at h
  rw[if_neg hp]
  obtain⟨c,r,e,hc⟩:=yf h.1
  rw[e]
  by_cases hg:l.ng=true
  ·rw[if_pos hg];exact⟨126,_,rfl,by decide⟩
  ·rw[if_neg hg];exact⟨c,_,rfl,(uw hc).2.2.2⟩
theorem IB {l:Lt} {s:List UInt8} {i:Nat} {r:List UInt8} (ho:bO l=true) (hs:s.drop i=cR false l++r) (hr:Fl r):pL s i=some (l,i+(cR false l).length):=by
 have aG:cR false l≠[]:=by obtain⟨c,q,e,_⟩:=yS ho;rw[e];simp
 have bH:=qP hs aG
 rw[bO]at ho
 rw[cR]at hs bH⊢
 obtain⟨ng,pd,xs⟩:=l
 simp only at hs bH ho⊢
 by_cases hp:pd=[61]
 ·subst hp
  rw[if_pos rfl,Bool.and_eq_true,decide_eq_true_iff]at ho
  rw[if_pos rfl]at hs bH⊢
  match xs,ho.1,ho.2 with
  |[a,b],_,h2=>
   rw[bJ,bJ,bJ,Bool.and_true,Bool.and_eq_true]at h2
   simp only[List.getD_cons_zero,List.getD_cons_succ]at hs bH⊢
   obtain⟨c,q,e1,e2,_⟩:=Kq h2.1
   rw[pL,if_neg (by rw[sN (s:=s) (i:=i) (by rw[hs,e1];rfl) e2];decide)]
   rw[List.append_assoc,List.append_assoc]at hs
   have pK:kQ (ka ng++(bq false b++r)):=by cases ng<;>exact⟨by decide,by decide⟩
   rw[r3 a s (s.length+1) i _ h2.1 hs pK (by omega)]
   simp only
   have e3:=nP hs
   cases ng with
   |false=>
    rw[if_pos (nH (r:=bq false b++r) (by rw[e3];rfl))]
    have e4:s.drop (i+(bq false a).length+3)=bq false b++r:=by rw[<-List.drop_drop,e3];rfl
    rw[r3 b s (s.length+1) _ r h2.2 e4 hr.s9 (by omega)]
    simp only[List.length_append,Option.some.injEq,Prod.mk.injEq,true_and,ka]
    simp only[Bool.false_eq_true,if_false,List.length_cons,List.length_nil];omega
   |true=>
    rw[if_neg (by rw[show bQ s (i+(bq false a).length) [32,61,32]=false from by rw[bQ,e3];rfl];decide),if_pos (nH (r:=bq false b++r) (by rw[e3];rfl))]
    have e4:s.drop (i+(bq false a).length+4)=bq false b++r:=by rw[<-List.drop_drop,e3];rfl
    rw[r3 b s (s.length+1) _ r h2.2 e4 hr.s9 (by omega)]
    simp only[List.length_append,Option.some.injEq,Prod.mk.injEq,true_and,ka]
    simp only[if_true,List.length_cons,List.length_nil];omega
 ·rw[if_neg hp,Bool.and_eq_true]at ho
  rw[if_neg hp]at hs bH⊢
  obtain⟨hb,hx⟩:=ho
  obtain⟨c,q,e,hc⟩:=yf hb
  have tO:=Ib hb
  cases ng with
  |true=>
   simp only[if_true]at hs bH⊢
   rw[pL,if_pos (nH (r:=pd++cq false xs++r) (by rw[hs];simp))]
   have e1:s.drop (i+1)=pd++(cq false xs++r):=by rw[<-List.drop_drop,hs];simp
   have ic:b7 true (s.drop (i+1))=pd.length:=by
    rw[e1]
    refine Cv true pd _ (Ct hb) ?_
    have:=Kg xs r hr.s9
    rw[show(true&&pd.isEmpty)=false by cases pd with|nil=>exact absurd rfl tO|cons _ _=>rfl]
    exact this
   have iF:pd.length≠0:=by intro e;exact tO (List.length_eq_zero_iff.1 e)
   have e2:=nP e1
   rw[List.length_append,List.length_append,List.length_singleton]at bH
   rw[ic,if_neg iF,Iz xs s (s.length+1) _ r hx e2 hr.s9 (by omega) (by omega)]
   simp only
   rw[e1,List.take_left,List.length_append,List.length_append,List.length_singleton]
   simp only[Option.some.injEq,Prod.mk.injEq,true_and];omega
  |false=>
   simp only[Bool.false_eq_true,if_false,List.nil_append]at hs bH⊢
   rw[pL,if_neg (by rw[sN (s:=s) (i:=i) (by rw[hs,e];rfl) (uw hc).2.1];decide)]
   have et:bq false (.mk pd 0 xs)=pd++cq false xs:=by rw[bq,if_neg tO]
   have ot:ck (.mk pd 0 xs)=true:=by rw[ck,if_neg tO,hb,hx];rfl
   rw[<-et]at hs⊢
   rw[r3 _ s (s.length+1) i r ot hs hr.s9 (by omega)]
   simp only
   have e3:=nP hs
   obtain⟨g1,g2⟩:=Fl.QR (s:=s) (j:=i+(bq false (.mk pd 0 xs)).length) (by rw[e3];exact hr)
   rw[g1,g2,if_neg (by decide),if_neg (by decide),if_neg (show¬(Tm.mk pd 0 xs).nm=[] from tO)];rfl
theorem Ko (c:List Lt):Fl (dM false c):=by
 cases c with
 |nil=>exact .inl rfl
 |cons l r=>exact .inr ⟨_,rfl⟩
theorem IF:∀(c:List Lt) (l:Lt) (s:List UInt8) (f i:Nat),bO l=true->c.all bO=true->s.drop i=cR false l++dM false c->s.length<f+i->pS s f i=some (l::c)
 |c,l,s,0,i,ho,_,hs,hf=>by
  have aG:cR false l≠[]:=by obtain⟨c,q,e,_⟩:=yS ho;rw[e];simp
  have:=qP hs aG
  omega
 |[],l,s,f+1,i,ho,_,hs,hf=>by
  have e2:=nP hs
  rw[pS,IB ho hs (Ko [])]
  simp only
  rw[dM]at e2
  rw[vX e2,if_neg (by decide),if_neg]
  have:=List.drop_eq_nil_iff.1 e2
  omega
 |m::c,l,s,f+1,i,ho,hc,hs,hf=>by
  have aG:cR false l≠[]:=by obtain⟨c,q,e,_⟩:=yS ho;rw[e];simp
  have bH:=qP hs aG
  have e2:=nP hs
  rw[List.all_cons,Bool.and_eq_true]at hc
  rw[pS,IB ho hs (Ko (m::c))]
  simp only
  rw[dM]at e2
  rw[if_pos (nH (r:=cR false m++dM false c) (by rw[e2];rfl))]
  have e4:s.drop (i+(cR false l).length+3)=cR false m++dM false c:=by rw[<-List.drop_drop,e2];rfl
  rw[IF c m s f _ hc.1 hc.2 e4 (by omega)]
theorem Rn {c:List Lt} (h:c.all bO=true):pC (fu false c)=some c:=by
 match c,h with
 |[],_=>rfl
 |l::c,h=>
  rw[List.all_cons,Bool.and_eq_true]at h
  rw[pC,fu,if_neg,IF c l _ _ 0 h.1 h.2 rfl (by omega)]
  intro e
  obtain⟨x,q,e1,e2⟩:=yS h.1
  rw[e1,List.cons_append,List.cons.injEq]at e
  exact e2 e.1
theorem Ic {l:List UInt8} (h:b7 true l≠0):∃c r,l.take (b7 true l)=c::r/\fp c true=true:=by
 match l,h with
 |[],h=>exact absurd rfl h
 |c::l,h=>
  rw[b7]at h⊢
  split at h
  ·rename_i hc
   rw[if_pos hc,Nat.add_comm,List.take_succ_cons]
   exact⟨c,_,rfl,hc⟩
  ·exact absurd rfl h
theorem Ie {c:UInt8} {r:List UInt8} (h:fp c true=true):c::r≠[61]:=by
 intro e
 rw[List.cons.injEq]at e
 rw[e.1]at h
 revert h;decide
theorem Rr {s:List UInt8} {f i j:Nat} {t:Tm} (h:pT s f i=some (t,j)) (hn:t.nm≠[]):t.ix=0/\t.nm≠[61]:=by
 match f,h with
 |0,h=>rw[pT]at h;cases h
 |f+1,h=>
  rw[CH]at h
  split at h
  ·exact absurd (II h).1 hn
  ·split at h
   ·cases h
   ·rename_i h0
    obtain⟨c,r,e,hc⟩:=Ic h0
    split at h
    ·cases h
    ·simp only[Option.some.injEq,Prod.mk.injEq]at h
     obtain⟨rfl,rfl⟩:=h
     exact⟨rfl,by show List.take _ _≠_;rw[e];exact Ie hc⟩
theorem SZ {t:Tm} (h:t.nm≠[]):bq false t=t.nm++cq false t.xs:=by rw[yT,if_neg h]
theorem CE {s:List UInt8} {i j:Nat} {l:Lt} (h:pL s i=some (l,j)):s.drop i=cR false l++s.drop j/\i<j/\j<=s.length:=by
 rw[pL]at h
 split at h
 ·rename_i U
  split at h
  ·cases h
  ·rename_i h0
   obtain⟨c,r,e,hc⟩:=Ic h0
   have fm:=uJ true (s.drop (i+1))
   rw[List.length_drop]at fm
   split at h
   ·cases h
   ·rename_i x k e2
    simp only[Option.some.injEq,Prod.mk.injEq]at h
    obtain⟨rfl,rfl⟩:=h
    obtain⟨g1,g2,g3⟩:=Rm e2 (by omega)
    refine⟨?_,by omega,g3⟩
    rw[cR]
    simp only
    rw[if_neg (by rw[e];exact Ie hc),lC U]
    simp only[if_true,List.length_singleton,List.append_assoc]
    rw[<-g1,<-List.drop_drop (i:=b7 true (s.drop (i+1))),List.take_append_drop]
 ·split at h
  ·cases h
  ·rename_i t k e1
   obtain⟨g1,g2,g3⟩:=oL e1
   split at h
   ·rename_i h2
    split at h
    ·cases h
    ·rename_i u m e2
     simp only[Option.some.injEq,Prod.mk.injEq]at h
     obtain⟨rfl,rfl⟩:=h
     obtain⟨g4,g5,g6⟩:=oL e2
     refine⟨?_,by omega,g6⟩
     have:=lC h2
     rw[show k+[(32:UInt8),61,32].length=k+3 from rfl,g4]at this
     rw[cR,if_pos rfl,g1,this]
     simp[ka]
   ·split at h
    ·rename_i h2
     split at h
     ·cases h
     ·rename_i u m e2
      simp only[Option.some.injEq,Prod.mk.injEq]at h
      obtain⟨rfl,rfl⟩:=h
      obtain⟨g4,g5,g6⟩:=oL e2
      refine⟨?_,by omega,g6⟩
      have:=lC h2
      rw[show k+[(32:UInt8),33,61,32].length=k+4 from rfl,g4]at this
      rw[cR,if_pos rfl,g1,this]
      simp[ka]
    ·split at h
     ·cases h
     ·rename_i hn
      simp only[Option.some.injEq,Prod.mk.injEq]at h
      obtain⟨rfl,rfl⟩:=h
      refine⟨?_,g2,g3⟩
      rw[cR,if_neg (Rr e1 hn).2,g1,SZ hn];rfl
theorem IH:∀(f i:Nat) (s:List UInt8) (c:List Lt),pS s f i=some c->∃l r,c=l::r/\s.drop i=cR false l++dM false r
 |0,i,s,c,h=>by rw[pS]at h;cases h
 |f+1,i,s,c,h=>by
  rw[pS]at h
  split at h
  ·cases h
  ·rename_i l j e1
   obtain⟨g1,g2,g3⟩:=CE e1
   split at h
   ·rename_i h2
    split at h
    ·cases h
    ·rename_i q e2
     simp only[Option.some.injEq]at h
     subst h
     obtain⟨m,r,rfl,g4⟩:=IH f _ s q e2
     refine⟨l,_,rfl,?_⟩
     have:=lC h2
     rw[show j+[(32:UInt8),124,32].length=j+3 from rfl,g4]at this
     rw[g1,this,dM];rfl
   ·split at h
    ·cases h
    ·rename_i hl
     simp only[Option.some.injEq]at h
     subst h
     exact⟨l,[],rfl,by rw[g1,List.drop_eq_nil_of_le (by omega),dM]⟩
theorem Ro {s:List UInt8} {c:List Lt} (h:pC s=some c):fu false c=s:=by
 rw[pC]at h
 split at h
 ·rename_i e
  simp only[Option.some.injEq]at h
  rw[<-h,e];rfl
 ·obtain⟨l,r,rfl,g⟩:=IH _ _ _ _ h
  rw[List.drop_zero]at g
  rw[g];rfl
mutual
def jH:Tm->Nat
 | .mk _ _ xs=>1+fB xs
def fB:List Tm->Nat
 |[]=>0
 |t::l=>max (jH t) (fB l)
end
theorem MK (t:Tm):jH t=1+fB t.xs:=by cases t;rw[jH];rfl
def kE (l:Lt):Nat:=1+aF l.xs
def bT (c:List Lt):Nat:=(c.map kE).sum
def dY:List Lt->Nat
 |[]=>0
 |l::c=>max (fB l.xs) (dY c)
def eo (eF eR:Int) (t:Tm):Int:=
 if t.nm=[]then(if t.xs≠[]then eF else if t.ix<0\/1000<=t.ix then eR else 0)
 else if dq t.nm=false\/t.ix≠0 then eF else 0
mutual
def mB (eF eR:Int):Tm->Int
 | .mk n i xs=>if eo eF eR (.mk n i xs)≠0 then eo eF eR (.mk n i xs)else er eF eR xs
def er (eF eR:Int):List Tm->Int
 |[]=>0
 |t::l=>if mB eF eR t≠0 then mB eF eR t else er eF eR l
end
mutual
def bL:Tm->List Tm
 | .mk n i xs=> .mk n i xs::cf xs
def cf:List Tm->List Tm
 |[]=>[]
 |t::l=>bL t++cf l
end
theorem uZ (t:Tm):bL t=t::cf t.xs:=by cases t;rw[bL];rfl
def hO (f:Tm->Int):List Tm->Int
 |[]=>0
 |t::l=>if f t≠0 then f t else hO f l
theorem FB (f:Tm->Int):∀l m,hO f (l++m)=if hO f l≠0 then hO f l else hO f m
 |[],m=>by rw[List.nil_append,hO,if_neg (by decide)]
 |t::l,m=>by
  rw[List.cons_append,hO,hO,FB f l m]
  by_cases h:f t≠0
  ·rw[if_pos h,if_pos h,if_pos h]
  ·rw[if_neg h,if_neg h]
mutual
theorem Fm (eF eR:Int):∀t,mB eF eR t=hO (eo eF eR) (bL t)
 | .mk n i xs=>by rw[mB,bL,hO,Fo eF eR xs]
theorem Fo (eF eR:Int):∀l,er eF eR l=hO (eo eF eR) (cf l)
 |[]=>by rw[er,cf];rfl
 |t::l=>by rw[er,cf,FB,Fm eF eR t,Fo eF eR l]
end
def qV (eF eR:Int) (l:Lt):Int:=if(l.pd≠[61]/\dq l.pd=false)\/(l.pd=[61]/\l.xs.length≠2)then eF else er eF eR l.xs
def kY (eF eR:Int):List Lt->Int
 |[]=>0
 |l::c=>if qV eF eR l≠0 then qV eF eR l else kY eF eR c
def bR (eS eD eF eR:Int) (c:List Lt):Int:=
 if 40<c.length then eS else if 4000<bT c then eS else if 100<dY c then eD else kY eF eR c
theorem MZ {eF eR:Int} (hF:eF≠0) (hR:eR≠0) (t:Tm):eo eF eR t=0↔if t.nm=[]then t.xs=[]/\0<=t.ix/\t.ix<1000 else dq t.nm=true/\t.ix=0:=by
 rw[eo]
 by_cases hn:t.nm=[]
 ·rw[if_pos hn,if_pos hn]
  by_cases hx:t.xs=[]
  ·rw[if_neg (by simpa using hx)]
   by_cases hi:t.ix<0\/1000<=t.ix
   ·rw[if_pos hi];exact⟨fun h=>absurd h hR,fun h=>by omega⟩
   ·rw[if_neg hi];exact⟨fun _=>⟨hx,by omega⟩,fun _=>rfl⟩
  ·rw[if_pos hx];exact⟨fun h=>absurd h hF,fun h=>absurd h.1 hx⟩
 ·rw[if_neg hn,if_neg hn]
  by_cases hb:dq t.nm=false\/t.ix≠0
  ·rw[if_pos hb]
   refine⟨fun h=>absurd h hF,fun h=>?_⟩
   rcases hb with hb|hb
   ·rw[h.1]at hb;cases hb
   ·exact absurd h.2 hb
  ·rw[if_neg hb]
   refine⟨fun _=>⟨?_,?_⟩,fun _=>rfl⟩
   ·rw[<-Bool.not_eq_false];exact fun h=>hb (.inl h)
   ·exact Decidable.byContradiction fun h=>hb (.inr h)
mutual
theorem M3 {eF eR:Int} (hF:eF≠0) (hR:eR≠0):∀t,mB eF eR t=0↔ck t=true
 | .mk n i xs=>by
  have U:eo eF eR (.mk n i xs)=0↔if n=[]then xs=[]/\0<=i/\i<1000 else dq n=true/\i=0:=MZ hF hR (.mk n i xs)
  have h2:=zU hF hR xs
  rw[mB,ck]
  by_cases hn:n=[]
  ·rw[if_pos hn]at U⊢
   rw[Bool.and_eq_true,Bool.and_eq_true,List.isEmpty_iff,decide_eq_true_iff,decide_eq_true_iff]
   by_cases h0:eo eF eR (.mk n i xs)=0
   ·rw[if_neg (by simpa using h0)]
    have h3:=U.1 h0
    rw[h3.1,er];exact⟨fun _=>⟨rfl,h3.2⟩,fun _=>rfl⟩
   ·rw[if_pos h0]
    exact⟨fun h=>absurd h h0,fun h=>absurd (U.2 h) h0⟩
  ·rw[if_neg hn]at U⊢
   rw[Bool.and_eq_true,Bool.and_eq_true,beq_iff_eq,<-h2]
   by_cases h0:eo eF eR (.mk n i xs)=0
   ·rw[if_neg (by simpa using h0)]
    exact⟨fun h=>⟨U.1 h0,h⟩,fun h=>h.2⟩
   ·rw[if_pos h0]
    exact⟨fun h=>absurd h h0,fun h=>absurd (U.2 h.1) h0⟩
theorem zU {eF eR:Int} (hF:eF≠0) (hR:eR≠0):∀l,er eF eR l=0↔bJ l=true
 |[]=>by rw[er,bJ];simp
 |t::l=>by
  have U:=M3 hF hR t
  have h2:=zU hF hR l
  rw[er,bJ,Bool.and_eq_true,<-U,<-h2]
  by_cases h0:mB eF eR t=0
  ·rw[if_neg (by simpa using h0)]
   exact⟨fun h=>⟨h0,h⟩,fun h=>h.2⟩
  ·rw[if_pos h0]
   exact⟨fun h=>absurd h h0,fun h=>absurd h.1 h0⟩
end
theorem M1 {eF eR:Int} (hF:eF≠0) (hR:eR≠0) (l:Lt):qV eF eR l=0↔bO l=true:=by
 have h2:=zU hF hR l.xs
 rw[qV,bO]
 by_cases hp:l.pd=[61]
 ·rw[if_pos hp,Bool.and_eq_true,decide_eq_true_iff,<-h2]
  by_cases hl:l.xs.length=2
  ·rw[if_neg (by rintro(h|h);exact h.1 hp;exact h.2 hl)]
   exact⟨fun h=>⟨hl,h⟩,fun h=>h.2⟩
  ·rw[if_pos (.inr ⟨hp,hl⟩)]
   exact⟨fun h=>absurd h hF,fun h=>absurd h.1 hl⟩
 ·rw[if_neg hp,Bool.and_eq_true,<-h2]
  by_cases hb:dq l.pd=false
  ·rw[if_pos (.inl ⟨hp,hb⟩)]
   exact⟨fun h=>absurd h hF,fun h=>by rw[hb]at h;cases h.1⟩
  ·rw[if_neg (by rintro(h|h);exact hb h.2;exact hp h.1)]
   exact⟨fun h=>⟨by simpa using hb,h⟩,fun h=>h.2⟩
theorem Fk {eF eR:Int} (hF:eF≠0) (hR:eR≠0):∀c,kY eF eR c=0↔c.all bO=true
 |[]=>by rw[kY];simp
 |l::c=>by
  have U:=M1 hF hR l
  have h2:=Fk hF hR c
  rw[kY,List.all_cons,Bool.and_eq_true,<-U,<-h2]
  by_cases h0:qV eF eR l=0
  ·rw[if_neg (by simpa using h0)]
   exact⟨fun h=>⟨h0,h⟩,fun h=>h.2⟩
  ·rw[if_pos h0]
   exact⟨fun h=>absurd h h0,fun h=>absurd h.1 h0⟩
theorem zw {eS eD eF eR:Int} (hS:eS≠0) (hD:eD≠0) (hF:eF≠0) (hR:eR≠0) (c:List Lt):
  bR eS eD eF eR c=0↔c.length<=40/\bT c<=4000/\dY c<=100/\c.all bO=true:=by
 rw[bR,<-Fk hF hR]
 by_cases U:40<c.length
 ·rw[if_pos U];exact⟨fun h=>absurd h hS,fun h=>by omega⟩
 ·rw[if_neg U]
  by_cases h2:4000<bT c
  ·rw[if_pos h2];exact⟨fun h=>absurd h hS,fun h=>by omega⟩
  ·rw[if_neg h2]
   by_cases h3:100<dY c
   ·rw[if_pos h3];exact⟨fun h=>absurd h hD,fun h=>by omega⟩
   ·rw[if_neg h3];exact⟨fun h=>⟨by omega,by omega,by omega,h⟩,fun h=>h.2.2.2⟩
def dm (a b:Lt):Bool:=(a.ng==b.ng&&a.pd==b.pd)&&jJ a.xs b.xs
theorem CX (a b:Lt):dm a b=true↔a=b:=by
 rw[dm,Bool.and_eq_true,Bool.and_eq_true,beq_iff_eq,beq_iff_eq,zL]
 cases a;cases b
 simp only[Lt.mk.injEq,and_assoc]
def cJ (p:List Lt):List Lt->List Lt
 |[]=>[]
 |x::r=>if p.any (dm x)then cJ (p++[x]) r else x::cJ (p++[x]) r
def cV (l:Lt):List UInt8:=cR true l
def ij (x:Lt):List Lt->List Lt
 |[]=>[x]
 |y::o=>if cV x<cV y then x::y::o else y::ij x o
def cC (o:List Lt):List Lt->List Lt
 |[]=>o
 |x::r=>cC (ij x o) r
def fS (f:Int->Tm) (l:Lt):Lt:=⟨l.ng,l.pd,bj f l.xs⟩
def bP (c:List Lt):List Int:=c.flatMap fun l=>ba l.xs
def bK (o:List Int):List Int->List Int
 |[]=>o
 |v::l=>bK (if v∈o then o else o++[v]) l
def bn (i:Int):Tm:= .mk [] i []
def cA (c:List Lt):List Lt:=cC [] (cJ [] c)
def qo (c:List Lt) (v:Int):Tm:=bn ((bK [] (bP c)).idxOf v:Nat)
def cp (c:List Lt):List Lt:=(cA c).map (fS (qo (cA c)))
theorem Ip:∀(l o:List Int),∃r,bK o l=o++r
 |[],o=>⟨[],by rw[bK,List.append_nil]⟩
 |v::l,o=>by
  rw[bK]
  obtain⟨r,hr⟩:=Ip l (if v∈o then o else o++[v])
  rw[hr]
  split
  ·exact⟨r,rfl⟩
  ·exact⟨v::r,by rw[List.append_assoc];rfl⟩
theorem na:∀(l o:List Int) (v:Int),v∈bK o l↔v∈o\/v∈l
 |[],o,v=>by rw[bK];simp
 |w::l,o,v=>by
  rw[bK,na l]
  split
  ·rename_i h
   rw[List.mem_cons]
   exact⟨fun h=>h.elim .inl fun h=> .inr (.inr h),fun h'=>h'.elim .inl fun h'=>h'.elim (fun e=> .inl (e▸h)) .inr⟩
  ·rw[List.mem_append,List.mem_singleton,List.mem_cons,or_assoc]
theorem uK:∀(l o:List Int),o.Nodup->(bK o l).Nodup
 |[],o,h=>h
 |w::l,o,h=>by
  rw[bK]
  refine uK l _ ?_
  split
  ·exact h
  ·rename_i hw
   rw[List.nodup_append]
   exact⟨h,by simp,fun a ha b hb e=>hw (by rw[List.mem_singleton]at hb;rw[<-hb,<-e];exact ha)⟩
theorem GU {g:Int->Int}:∀(l:List Int) (v:Int),v∈l->(∀a∈l,∀b∈l,g a=g b->a=b)->(l.map g).idxOf (g v)=l.idxOf v
 |[],_,h,_=>by cases h
 |a::l,v,h,hi=>by
  rw[List.map_cons,List.idxOf_cons,List.idxOf_cons]
  by_cases e:a=v
  ·subst e;simp
  ·have hv:v∈l:=by
    rcases List.mem_cons.1 h with h|h
    ·exact absurd h.symm e
    ·exact h
   have hg:¬g a=g v:=fun h'=>e (hi a (by simp) v (by simp[hv]) h')
   rw[show(g a==g v)=false by simpa using hg,show(a==v)=false by simpa using e,GU l v hv fun x hx y hy=>hi x (by simp[hx]) y (by simp[hy])]
theorem CA {g:Int->Int}:∀(l o:List Int),(∀a,a∈o\/a∈l->∀b,b∈o\/b∈l->g a=g b->a=b)->bK (o.map g) (l.map g)=(bK o l).map g
 |[],o,_=>rfl
 |v::l,o,h=>by
  rw[List.map_cons,bK,bK]
  by_cases hv:v∈o
  ·rw[if_pos hv,if_pos (List.mem_map_of_mem hv)]
   exact CA l o fun a ha b hb=>h a (ha.elim .inl fun h=> .inr (by simp[h])) b (hb.elim .inl fun h=> .inr (by simp[h]))
  ·rw[if_neg hv,if_neg]
   ·rw[show o.map g++[g v]=(o++[v]).map g by simp]
    refine CA l _ fun a ha b hb=>h a ?_ b ?_
    ·rcases ha with ha|ha
     ·rcases List.mem_append.1 ha with ha|ha
      ·exact .inl ha
      ·rw[List.mem_singleton]at ha;exact .inr (by simp[ha])
     ·exact .inr (by simp[ha])
    ·rcases hb with hb|hb
     ·rcases List.mem_append.1 hb with hb|hb
      ·exact .inl hb
      ·rw[List.mem_singleton]at hb;exact .inr (by simp[hb])
     ·exact .inr (by simp[hb])
   ·intro hm
    obtain⟨a,ha,e⟩:=List.mem_map.1 hm
    exact hv (h a (.inl ha) v (.inr (by simp)) e▸ha)
theorem PB {l:List Int} {a b:Int} (ha:a∈l) (hb:b∈l) (h:l.idxOf a=l.idxOf b):a=b:=by
 have U:=List.getElem_idxOf (List.idxOf_lt_length_of_mem ha)
 have h2:=List.getElem_idxOf (List.idxOf_lt_length_of_mem hb)
 rw[<-U,<-h2]
 congr 1
mutual
theorem Ei (f:Int->Tm):∀t:Tm,ck t=true->(∀v∈cM t,f v=bn v)->aB f t=t
 | .mk n i xs,h,hv=>by
  rw[ck]at h
  rw[cM]at hv
  rw[aB]
  by_cases hn:n=[]
  ·rw[if_pos hn,Bool.and_eq_true,List.isEmpty_iff]at h
   rw[if_pos hn,hv i (by rw[if_pos hn];simp),h.1,hn];rfl
  ·rw[if_neg hn,Bool.and_eq_true,Bool.and_eq_true,beq_iff_eq]at h
   rw[if_neg hn,wc f xs h.2 fun v hm=>hv v (List.mem_append_right _ hm),h.1.2]
theorem wc (f:Int->Tm):∀l:List Tm,bJ l=true->(∀v∈ba l,f v=bn v)->bj f l=l
 |[],_,_=>by rw[bj]
 |t::l,h,hv=>by
  rw[bJ,Bool.and_eq_true]at h
  rw[ba]at hv
  rw[bj,Ei f t h.1 fun v hm=>hv v (List.mem_append_left _ hm),wc f l h.2 fun v hm=>hv v (List.mem_append_right _ hm)]
end
mutual
theorem sT (f g:Int->Tm):∀t:Tm,aB g (aB f t)=aB (fun v=>aB g (f v)) t
 | .mk n i xs=>by
  rw[aB,aB]
  by_cases hn:n=[]
  ·rw[if_pos hn,if_pos hn]
  ·rw[if_neg hn,if_neg hn,aB,if_neg hn,zt f g xs]
theorem zt (f g:Int->Tm):∀l:List Tm,bj g (bj f l)=bj (fun v=>aB g (f v)) l
 |[]=>by rw[bj,bj,bj]
 |t::l=>by rw[bj,bj,bj,sT f g t,zt f g l]
end
theorem qH (g:Int->Tm) (v:Int):aB g (bn v)=g v:=by rw[bn,aB,if_pos rfl]
mutual
theorem zr (g:Int->Int):∀t:Tm,bq true (aB (fun v=>bn (g v)) t)=bq true t
 | .mk n i xs=>by
  rw[aB,bq]
  by_cases hn:n=[]
  ·rw[if_pos hn,if_pos hn,bn,bq,if_pos rfl];rfl
  ·rw[if_neg hn,if_neg hn,bq,if_neg hn,Ek g xs]
theorem Ek (g:Int->Int):∀l:List Tm,cq true (bj (fun v=>bn (g v)) l)=cq true l
 |[]=>by rw[bj]
 |t::l=>by rw[bj,cq,cq,zr g t,El g l]
theorem El (g:Int->Int):∀l:List Tm,du true (bj (fun v=>bn (g v)) l)=du true l
 |[]=>by rw[bj]
 |t::l=>by rw[bj,du,du,zr g t,El g l]
end
theorem zu (f:Int->Tm) (l:List Tm):(bj f l).length=l.length:=by rw[mo,List.length_map]
theorem Ki (sh ng:Bool) (pd:List UInt8) (xs:List Tm):cR sh ⟨ng,pd,xs⟩=if pd=[61]then bq sh (xs.getD 0 (.mk [] 0 []))++(ka ng++bq sh (xs.getD 1 (.mk [] 0 [])))
  else(if ng then[126]else[])++(pd++cq sh xs):=rfl
theorem Ef (g:Int->Int) (l:Lt) (h:bO l=true):cV (fS (fun v=>bn (g v)) l)=cV l:=by
 obtain⟨ng,pd,xs⟩:=l
 rw[bO]at h
 simp only at h
 show cR true ⟨ng,pd,bj (fun v=>bn (g v)) xs⟩=cR true ⟨ng,pd,xs⟩
 rw[Ki,Ki]
 by_cases hp:pd=[61]
 ·rw[if_pos hp,Bool.and_eq_true,decide_eq_true_iff]at h
  rw[if_pos hp,if_pos hp]
  match xs,h.1 with
  |[a,b],_=>
   rw[bj,bj,bj]
   simp only[List.getD_cons_zero,List.getD_cons_succ,zr g]
 ·rw[if_neg hp,if_neg hp,Ek g]
mutual
theorem Ti (g:Int->Int):∀t:Tm,ck t=true->cM (aB (fun v=>bn (g v)) t)=(cM t).map g
 | .mk n i xs,h=>by
  rw[ck]at h
  rw[aB,cM]
  by_cases hn:n=[]
  ·rw[if_pos hn,Bool.and_eq_true,List.isEmpty_iff]at h
   rw[if_pos hn,if_pos hn,h.1,ba,bn,cM,ba,if_pos rfl];rfl
  ·rw[if_neg hn,Bool.and_eq_true]at h
   rw[if_neg hn,if_neg hn,cM,if_neg hn,Dq g xs h.2];rfl
theorem Dq (g:Int->Int):∀l:List Tm,bJ l=true->ba (bj (fun v=>bn (g v)) l)=(ba l).map g
 |[],_=>by rw[bj,ba];rfl
 |t::l,h=>by
  rw[bJ,Bool.and_eq_true]at h
  rw[bj,ba,ba,List.map_append,Ti g t h.1,Dq g l h.2]
end
theorem oK {l:Lt} (h:bO l=true):bJ l.xs=true:=by
 rw[bO]at h
 split at h<;>(rw[Bool.and_eq_true]at h;exact h.2)
theorem y2 (l:Lt) (c:List Lt):bP (l::c)=ba l.xs++bP c:=by rw[bP,List.flatMap_cons];rfl
theorem KC (g:Int->Int):∀c:List Lt,c.all bO=true->bP (c.map (fS fun v=>bn (g v)))=(bP c).map g
 |[],_=>rfl
 |l::c,h=>by
  rw[List.all_cons,Bool.and_eq_true]at h
  rw[List.map_cons,y2,y2,KC g c h.2,List.map_append]
  show ba (bj _ l.xs)++_=_
  rw[Dq g l.xs (oK h.1)]
theorem vV {p:List Lt} {x:Lt}:p.any (dm x)=true↔x∈p:=by
 rw[List.any_eq_true]
 constructor
 ·rintro⟨y,hy,e⟩
  rw[(CX x y).1 e];exact hy
 ·intro h;exact⟨x,h,(CX x x).2 rfl⟩
theorem nN:∀(c p:List Lt),(cJ p c).Sublist c
 |[],p=>by rw[cJ];exact List.Sublist.refl _
 |x::r,p=>by
  rw[cJ]
  split
  ·exact(nN r _).cons x
  ·exact(nN r _).cons_cons x
theorem zB:∀(c p:List Lt),∀x∈cJ p c,x∉p
 |[],p,x,h=>by rw[cJ]at h;cases h
 |y::r,p,x,h=>by
  rw[cJ]at h
  split at h
  ·exact fun hx=>zB r _ x h (List.mem_append_left _ hx)
  ·rename_i hy
   rcases List.mem_cons.1 h with rfl|h
   ·exact fun hx=>hy (vV.2 hx)
   ·exact fun hx=>zB r _ x h (List.mem_append_left _ hx)
theorem zA:∀(c p:List Lt),(cJ p c).Nodup
 |[],p=>by rw[cJ];exact List.nodup_nil
 |y::r,p=>by
  rw[cJ]
  split
  ·exact zA r _
  ·rw[List.nodup_cons]
   exact⟨fun h=>zB r _ y h (by simp),zA r _⟩
theorem zz:∀(c p:List Lt),∀x∈c,x∈p\/x∈cJ p c
 |[],p,x,h=>by cases h
 |y::r,p,x,h=>by
  rw[cJ]
  split
  ·rename_i hy
   rcases List.mem_cons.1 h with rfl|h
   ·exact .inl (vV.1 hy)
   ·rcases zz r (p++[y]) x h with h|h
    ·rcases List.mem_append.1 h with h|h
     ·exact .inl h
     ·rw[List.mem_singleton]at h;exact .inl (h▸vV.1 hy)
    ·exact .inr h
  ·rcases List.mem_cons.1 h with rfl|h
   ·exact .inr (by simp)
   ·rcases zz r (p++[y]) x h with h|h
    ·rcases List.mem_append.1 h with h|h
     ·exact .inl h
     ·rw[List.mem_singleton]at h;exact .inr (by simp[h])
    ·exact .inr (by simp[h])
theorem Ez:∀(c p:List Lt),c.Nodup->(∀x∈c,x∉p)->cJ p c=c
 |[],p,_,_=>by rw[cJ]
 |y::r,p,h,k=>by
  rw[List.nodup_cons]at h
  rw[cJ,if_neg fun hy=>k y (by simp) (vV.1 hy),Ez r _ h.2]
  intro x hx hm
  rcases List.mem_append.1 hm with hm|hm
  ·exact k x (by simp[hx]) hm
  ·rw[List.mem_singleton]at hm;exact h.1 (hm▸hx)
def il (a b:Lt):Prop:=¬cV b<cV a
theorem Hg {a b c:Lt} (h:il a b) (k:il b c):il a c:=by
 intro hc
 rcases x8 (cV b) (cV c)with U|U|U
 ·exact h (List.lt_trans U hc)
 ·exact h (U▸hc)
 ·exact k U
theorem BH (x:Lt):∀o,(ij x o).Perm (x::o)
 |[]=>List.Perm.refl _
 |y::o=>by
  rw[ij]
  split
  ·exact List.Perm.refl _
  ·exact((BH x o).cons y).trans (List.Perm.swap x y o)
theorem nt:∀(c o:List Lt),(cC o c).Perm (o++c)
 |[],o=>by rw[cC,List.append_nil]
 |x::c,o=>by
  rw[cC]
  refine(nt c _).trans (((BH x o).append_right c).trans ?_)
  exact(List.perm_middle (a:=x) (l₁:=o) (l₂:=c)).symm
theorem G6 (x:Lt):∀o,o.Pairwise il->(ij x o).Pairwise il
 |[],_=>List.pairwise_singleton _ _
 |y::o,h=>by
  rw[List.pairwise_cons]at h
  rw[ij]
  split
  ·rename_i hx
   have eW:il x y:=fun h'=>List.lt_irrefl _ (List.lt_trans hx h')
   rw[List.pairwise_cons,List.pairwise_cons]
   exact⟨fun z hz=>(List.mem_cons.1 hz).elim (fun e=>e▸eW) fun hz=>Hg eW (h.1 z hz),h⟩
  ·rename_i hx
   rw[List.pairwise_cons]
   refine⟨fun z hz=>?_,G6 x o h.2⟩
   rcases List.mem_cons.1 ((BH x o).mem_iff.1 hz)with rfl|hz
   ·exact hx
   ·exact h.1 z hz
theorem C4:∀(c o:List Lt),o.Pairwise il->(cC o c).Pairwise il
 |[],o,h=>h
 |x::c,o,h=>C4 c _ (G6 x o h)
theorem G5 (x:Lt):∀o,(∀y∈o,il y x)->ij x o=o++[x]
 |[],_=>rfl
 |y::o,h=>by
  rw[ij,if_neg (h y (by simp)),G5 x o fun z hz=>h z (by simp[hz])];rfl
theorem JN:∀(c o:List Lt),(o++c).Pairwise il->cC o c=o++c
 |[],o,_=>by rw[cC,List.append_nil]
 |x::c,o,h=>by
  have h':=List.pairwise_append.1 h
  rw[cC,G5 x o fun y hy=>h'.2.2 y hy x (by simp),JN c (o++[x]) (by rw[List.append_assoc];exact h),List.append_assoc];rfl
theorem rZ {c:List Lt} {x:Lt}:x∈cA c↔x∈c:=by
 rw[cA,(nt _ _).mem_iff,List.nil_append]
 constructor
 ·exact fun h=>(nN c []).subset h
 ·intro h
  rcases zz c [] x h with h|h
  ·cases h
  ·exact h
theorem Rk (c:List Lt):(cA c).Nodup:=by
 rw[cA]
 exact(nt _ _).symm.nodup (by rw[List.nil_append];exact zA c [])
theorem uP {c:List Lt} (h:c.all bO=true):(cA c).all bO=true:=by
 rw[List.all_eq_true]at h⊢
 exact fun x hx=>h x (rZ.1 hx)
def iS (c:List Lt) (v:Int):Int:=((bK [] (bP c)).idxOf v:Nat)
theorem uV (c:List Lt):qo c=fun v=>bn (iS c v):=rfl
def qE (c:List Lt) (v:Int):Tm:=bn ((bK [] (bP c)).getD v.toNat 0)
theorem L1 {c:List Lt} {v:Int} (h:v∈bP c):qE c (iS c v)=bn v:=by
 have hm:v∈bK [] (bP c):=(na _ _ _).2 (.inr h)
 have hl:=List.idxOf_lt_length_of_mem hm
 rw[qE,iS,Int.toNat_natCast,List.getD_eq_getElem?_getD,List.getElem?_eq_getElem hl,List.getElem_idxOf hl];rfl
theorem Dl {c:List Lt} {l:Lt} (h:l∈c) {v:Int} (hv:v∈ba l.xs):v∈bP c:=by
 rw[bP,List.mem_flatMap];exact⟨l,h,hv⟩
theorem zq {c:List Lt} {l:Lt} (hc:c.all bO=true) (h:l∈c):fS (qE c) (fS (qo c) l)=l:=by
 obtain⟨ng,pd,xs⟩:=l
 have ho:=List.all_eq_true.1 hc _ h
 show(⟨ng,pd,bj (qE c) (bj (qo c) xs)⟩:Lt)=_
 rw[zt]
 rw[wc _ xs (oK ho)]
 intro v hv
 rw[uV]
 show aB (qE c) (bn (iS c v))=_
 rw[qH,L1 (Dl h hv)]
theorem QY {c:List Lt} (hc:c.all bO=true):(cp c).Nodup:=by
 have ho:=uP hc
 rw[cp,List.Nodup,List.pairwise_map]
 refine(Rk c).imp_of_mem fun{a b} ha hb n3 e=>n3 ?_
 rw[<-zq ho ha,<-zq ho hb,e]
theorem Ij:∀(k:Nat) (l:List Int),l.Nodup->(∀v∈l,0<=v/\v<k)->l.length<=k
 |0,l,_,h=>by
  match l,h with
  |[],_=>exact Nat.le_refl _
  |a::l,h=>have:=h a (by simp);omega
 |k+1,l,hn,h=>by
  have U:=Ij k (l.erase (k:Int)) (hn.erase _) fun v hv=>by
   have h2:=(hn.mem_erase_iff).1 hv
   have h3:=h v h2.2
   have h4:=h2.1
   omega
  have h5:l.length<=(l.erase (k:Int)).length+1:=by
   rw[List.length_erase];split<;>omega
  omega
mutual
theorem Th:∀t:Tm,ck t=true->∀v∈cM t,0<=v/\v<1000
 | .mk n i xs,h,v,hv=>by
  rw[ck]at h
  rw[cM]at hv
  by_cases hn:n=[]
  ·rw[if_pos hn,Bool.and_eq_true,Bool.and_eq_true,List.isEmpty_iff,decide_eq_true_iff,decide_eq_true_iff]at h
   rw[if_pos hn,h.1,ba,List.append_nil,List.mem_singleton]at hv
   rw[hv];exact h.2
  ·rw[if_neg hn,Bool.and_eq_true]at h
   rw[if_neg hn,List.nil_append]at hv
   exact Dp xs h.2 v hv
theorem Dp:∀l:List Tm,bJ l=true->∀v∈ba l,0<=v/\v<1000
 |[],_,v,hv=>by rw[ba]at hv;cases hv
 |t::l,h,v,hv=>by
  rw[bJ,Bool.and_eq_true]at h
  rw[ba]at hv
  rcases List.mem_append.1 hv with hv|hv
  ·exact Th t h.1 v hv
  ·exact Dp l h.2 v hv
end
theorem Td {c:List Lt} (h:c.all bO=true):∀v∈bP c,0<=v/\v<1000:=by
 intro v hv
 rw[bP,List.mem_flatMap]at hv
 obtain⟨l,hl,hv⟩:=hv
 exact Dp l.xs (oK (List.all_eq_true.1 h l hl)) v hv
theorem QP {c:List Lt} (h:c.all bO=true) {v:Int} (hv:v∈bP c):0<=iS c v/\iS c v<1000:=by
 have hm:v∈bK [] (bP c):=(na _ _ _).2 (.inr hv)
 have U:=List.idxOf_lt_length_of_mem hm
 have h2:=Ij 1000 (bK [] (bP c)) (uK _ _ List.nodup_nil) fun w hw=>by
  rcases(na _ _ _).1 hw with hw|hw
  ·cases hw
  ·exact Td h w hw
 rw[iS];omega
mutual
theorem Ra (f:Int->Tm):∀t:Tm,ck t=true->(∀v∈cM t,ck (f v)=true)->ck (aB f t)=true
 | .mk n i xs,h,k=>by
  rw[ck]at h
  rw[cM]at k
  rw[aB]
  by_cases hn:n=[]
  ·rw[if_pos hn]at k⊢;exact k i (by simp)
  ·rw[if_neg hn,Bool.and_eq_true,Bool.and_eq_true]at h
   rw[if_neg hn]at k⊢
   rw[ck,if_neg hn,h.1.1,CD f xs h.2 fun v hv=>k v (by simpa using hv)];rfl
theorem CD (f:Int->Tm):∀l:List Tm,bJ l=true->(∀v∈ba l,ck (f v)=true)->bJ (bj f l)=true
 |[],_,_=>by rw[bj,bJ]
 |t::l,h,k=>by
  rw[bJ,Bool.and_eq_true]at h
  rw[ba]at k
  rw[bj,bJ,Ra f t h.1 fun v hv=>k v (List.mem_append_left _ hv),CD f l h.2 fun v hv=>k v (List.mem_append_right _ hv)];rfl
end
theorem Q_ (ng:Bool) (pd:List UInt8) (xs:List Tm):bO ⟨ng,pd,xs⟩=if pd=[61]then decide (xs.length=2)&&bJ xs else dq pd&&bJ xs:=rfl
theorem Q9 (f:Int->Tm) {l:Lt} (h:bO l=true) (k:∀v∈ba l.xs,ck (f v)=true):bO (fS f l)=true:=by
 obtain⟨ng,pd,xs⟩:=l
 have hx:=CD f xs (oK h) k
 show bO ⟨ng,pd,bj f xs⟩=true
 rw[Q_]at h⊢
 by_cases hp:pd=[61]
 ·rw[if_pos hp,Bool.and_eq_true,decide_eq_true_iff]at h⊢
  exact⟨by rw[zu];exact h.1,hx⟩
 ·rw[if_neg hp,Bool.and_eq_true]at h⊢
  exact⟨h.1,hx⟩
theorem Rb {i:Int} (h:0<=i/\i<1000):ck (bn i)=true:=by
 rw[bn,ck,if_pos rfl,decide_eq_true h.1,decide_eq_true h.2];rfl
theorem Il {c:List Lt} (h:c.all bO=true):(cp c).all bO=true:=by
 have ho:=uP h
 rw[List.all_eq_true]
 intro x hx
 rw[cp]at hx
 obtain⟨l,hl,rfl⟩:=List.mem_map.1 hx
 refine Q9 _ (List.all_eq_true.1 ho l hl) fun v hv=>?_
 rw[uV]
 exact Rb (QP ho (Dl hl hv))
theorem QX {c:List Lt} (h:c.all bO=true):cp (cp c)=cp c:=by
 have ho:=uP h
 have hn:=Il h
 have e1:cA (cp c)=cp c:=by
  rw[cA,Ez _ _ (QY h) (fun x _ hx=>by cases hx)]
  rw[JN _ [] ?_,List.nil_append]
  rw[List.nil_append,cp,List.pairwise_map]
  refine(C4 (cJ [] c) [] List.Pairwise.nil).imp_of_mem fun{a b} ha hb n3=>?_
  rw[il,uV,Ef _ _ (List.all_eq_true.1 ho a ha),Ef _ _ (List.all_eq_true.1 ho b hb)]
  exact n3
 rw[cp,e1]
 have e2:bP (cp c)=(bP (cA c)).map (iS (cA c)):=by
  rw[cp,uV];exact KC _ _ ho
 have Ga:∀a,a∈bP (cA c)->∀b,b∈bP (cA c)->iS (cA c) a=iS (cA c) b->a=b:=by
  intro a ha b hb e
  exact PB ((na _ _ _).2 (.inr ha)) ((na _ _ _).2 (.inr hb)) (Int.ofNat.inj e)
 have e3:bK [] (bP (cp c))=(bK [] (bP (cA c))).map (iS (cA c)):=by
  rw[e2]
  exact CA (bP (cA c)) [] fun a ha b hb=>Ga a (ha.resolve_left (by simp)) b (hb.resolve_left (by simp))
 have e4:∀w∈bP (cp c),qo (cp c) w=bn w:=by
  intro w hw
  rw[e2]at hw
  obtain⟨v,hv,rfl⟩:=List.mem_map.1 hw
  rw[uV]
  show bn (iS (cp c) _)=_
  rw[iS,e3,GU _ v ((na _ _ _).2 (.inr hv)) fun a ha b hb=>Ga a (((na _ _ _).1 ha).resolve_left (by simp)) b (((na _ _ _).1 hb).resolve_left (by simp))]
  rfl
 rw[List.map_congr_left (g:=id),List.map_id]
 intro l hl
 obtain⟨ng,pd,xs⟩:=l
 show(⟨ng,pd,bj (qo (cp c)) xs⟩:Lt)=_
 rw[wc _ xs (oK (List.all_eq_true.1 hn _ hl)) fun v hv=>e4 v (Dl hl hv)]
 rfl
abbrev Bd:=List (Int×Tm)
def iR:Bd->Int->Option Tm
 |[],_=>none
 |b::m,v=>if b.1=v then some b.2 else iR m v
mutual
def cw:Tm->Tm->Bd->Bd×Bool
 | .mk n i xs,t,m=>if n=[]then(match iR m i with
   |some x=>(m,cW x t)
   |none=>(m++[(i,t)],true))
  else if n≠t.nm\/xs.length≠t.xs.length then(m,false)else cL xs t.xs m
def cL:List Tm->List Tm->Bd->Bd×Bool
 |a::l,b::k,m=>if(cw a b m).2 then cL l k (cw a b m).1 else cw a b m
 |_,_,m=>(m,true)
end
def ss (m:Bd) (f:Int->Tm):Prop:=∀b∈m,f b.1=b.2
theorem Hn:∀{m:Bd} {v:Int} {x:Tm},iR m v=some x->(v,x)∈m
 |[],_,_,h=>by cases h
 |b::m,v,x,h=>by
  rw[iR]at h
  split at h
  ·rename_i e
   simp only[Option.some.injEq]at h
   rw[<-e,<-h];simp
  ·exact List.mem_cons_of_mem _ (Hn h)
theorem Ho:∀{m:Bd} {v:Int},iR m v=none->∀b∈m,b.1≠v
 |[],_,_,b,h=>by cases h
 |c::m,v,h,b,hb=>by
  rw[iR]at h
  split at h
  ·cases h
  ·rename_i e
   rcases List.mem_cons.1 hb with rfl|hb
   ·exact e
   ·exact Ho h b hb
def eP (m m':Bd):Prop:=(∃r,m'=m++r)/\((m.map (·.1)).Nodup->(m'.map (·.1)).Nodup)
theorem eP.rfl' (m:Bd):eP m m:=⟨⟨[],by rw[List.append_nil]⟩,id⟩
theorem eP.trans {a b c:Bd} (h:eP a b) (k:eP b c):eP a c:=by
 obtain⟨⟨r,rfl⟩,h2⟩:=h
 obtain⟨⟨q,rfl⟩,k2⟩:=k
 exact⟨⟨r++q,by rw[List.append_assoc]⟩,fun h=>k2 (h2 h)⟩
mutual
theorem yd:∀(p t:Tm) (m:Bd),eP m (cw p t m).1
 | .mk n i xs,t,m=>by
  rw[cw]
  by_cases hn:n=[]
  ·rw[if_pos hn]
   cases hl:iR m i with
   |some x=>exact eP.rfl' m
   |none=>
    refine⟨⟨[(i,t)],rfl⟩,fun h=>?_⟩
    show((m++[(i,t)]).map (·.1)).Nodup
    rw[List.map_append,List.nodup_append]
    refine⟨h,by simp,fun a ha b hb e=>?_⟩
    simp only[List.map_cons,List.map_nil,List.mem_singleton]at hb
    obtain⟨c,hc,rfl⟩:=List.mem_map.1 ha
    exact Ho hl c hc (e.trans hb)
  ·rw[if_neg hn]
   split
   ·exact eP.rfl' m
   ·exact ye xs t.xs m
theorem ye:∀(l k:List Tm) (m:Bd),eP m (cL l k m).1
 |[],k,m=>by rw[cL];exact eP.rfl' m;simp
 |_::_,[],m=>by rw[cL];exact eP.rfl' m;simp
 |a::l,b::k,m=>by
  rw[cL]
  split
  ·exact(yd a b m).trans (ye l k _)
  ·exact yd a b m
end
mutual
theorem QD:∀(p t:Tm) (m:Bd) (f:Int->Tm),ss m f->aB f p=t->(cw p t m).2=true/\ss (cw p t m).1 f
 | .mk n i xs,t,m,f,hm,h=>by
  rw[aB]at h
  rw[cw]
  by_cases hn:n=[]
  ·rw[if_pos hn]at h⊢
   cases hl:iR m i with
   |some x=>
    have:=hm _ (Hn hl)
    exact⟨(E7 x t).2 (this.symm.trans h),hm⟩
   |none=>
    refine⟨rfl,fun b hb=>?_⟩
    rcases List.mem_append.1 hb with hb|hb
    ·exact hm b hb
    ·rw[List.mem_singleton]at hb;rw[hb];exact h
  ·rw[if_neg hn]at h⊢
   subst h
   rw[if_neg (by rintro(h|h);exact h rfl;exact h (zu f xs).symm)]
   exact Cg xs (bj f xs) m f hm rfl
theorem Cg:∀(l k:List Tm) (m:Bd) (f:Int->Tm),ss m f->bj f l=k->(cL l k m).2=true/\ss (cL l k m).1 f
 |[],k,m,f,hm,_=>by rw[cL];exact⟨rfl,hm⟩;simp
 |a::l,k,m,f,hm,h=>by
  rw[bj]at h
  subst h
  obtain⟨U,h2⟩:=QD a (aB f a) m f hm rfl
  rw[cL,if_pos U]
  exact Cg l _ _ f h2 rfl
end
def lB (x y:Lt):Bool:=(x.ng==y.ng&&x.pd==y.pd)&&decide (x.xs.length=y.xs.length)
def dK:List Lt->List Lt->Bd->Option Bd
 |[],_,m=>some m
 |x::c,d,m=>d.findSome? fun y=>if lB x y=true/\(cL x.xs y.xs m).2=true then dK c d (cL x.xs y.xs m).1 else none
theorem DP {x y:Lt}:lB x y=true↔x.ng=y.ng/\x.pd=y.pd/\x.xs.length=y.xs.length:=by
 rw[lB,Bool.and_eq_true,Bool.and_eq_true,beq_iff_eq,beq_iff_eq,decide_eq_true_iff,and_assoc]
theorem Ju:∀(c d:List Lt) (m m':Bd),dK c d m=some m'->eP m m'
 |[],d,m,m',h=>by rw[dK]at h;simp only[Option.some.injEq]at h;exact h▸eP.rfl' m
 |x::c,d,m,m',h=>by
  rw[dK]at h
  obtain⟨y,_,hy⟩:=List.exists_of_findSome?_eq_some h
  split at hy
  ·exact(ye _ _ _).trans (Ju c d _ m' hy)
  ·cases hy
theorem Jt:∀(c d:List Lt) (m:Bd) (f:Int->Tm),ss m f->(∀x∈c,fS f x∈d)->(dK c d m).isSome=true
 |[],d,m,f,_,_=>rfl
 |z::c,d,m,f,hm,h=>by
  rw[dK,List.findSome?_isSome_iff]
  refine⟨fS f z,h z (by simp),?_⟩
  obtain⟨U,h2⟩:=Cg z.xs (bj f z.xs) m f hm rfl
  have e:(fS f z).xs=bj f z.xs:=rfl
  rw[e,if_pos ⟨DP.2 ⟨rfl,rfl,by rw[e,zu]⟩,U⟩]
  exact Jt c d _ f h2 fun x hx=>h x (by simp[hx])
theorem R4 {c:List Lt} (h:c.all bO=true):(dK (cp c) c []).isSome=true:=by
 refine Jt (cp c) c [] (qE (cA c)) (fun b hb=>by cases hb) fun x hx=>?_
 rw[cp]at hx
 obtain⟨l,hl,rfl⟩:=List.mem_map.1 hx
 rw[zq (uP h) hl]
 exact rZ.1 hl
section
variable {α:Type} (key:α->List UInt8)
def sw (a b:α):Prop:=¬key b<key a
def qi (k:List UInt8) (l:List α):List α:=l.filter fun x=>key x==k
def o6 (l m:List α):Prop:=m.Pairwise (sw key)/\∀k,qi key k m=qi key k l
theorem sw.trans {a b c:α} (h:sw key a b) (k:sw key b c):sw key a c:=by
 intro hc
 rcases x8 (key b) (key c)with U|U|U
 ·exact h (List.lt_trans U hc)
 ·exact h (U▸hc)
 ·exact k U
theorem It (k:List UInt8) (l m:List α):qi key k (l++m)=qi key k l++qi key k m:=List.filter_append ..
theorem o6.congr {l l' m:List α} (h:o6 key l m) (e:∀k,qi key k l=qi key k l'):o6 key l' m:=⟨h.1,fun k=>(h.2 k).trans (e k)⟩
theorem o6.append {l m p q:List α} (h:o6 key l m) (k:o6 key (m++p) q):o6 key (l++p) q:=
 ⟨k.1,fun x=>by rw[k.2,It,It,h.2]⟩
end
mutual
def zY (w:Int->Nat):Tm->Nat
 | .mk n i xs=>if n=[]then w i else FG w 1 xs
def FG (w:Int->Nat) (a:Nat):List Tm->Nat
 |[]=>a
 |t::l=>FG w (min (a+zY w t) 4001) l
end
mutual
def FE (w:Int->Nat):Tm->Nat
 | .mk n i xs=>if n=[]then w i else FF w 1 xs
def FF (w:Int->Nat) (a:Nat):List Tm->Nat
 |[]=>a
 |t::l=>FF w (max a (FE w t+1)) l
end
def nG (f:Int->Tm) (c:List Lt):List Lt:=c.map (fS f)
theorem iq (l:Lt) (c:List Lt):bT (l::c)=1+aF l.xs+bT c:=by rw[bT,List.map_cons,List.sum_cons];rfl
theorem Dr:∀(l:List Tm),l.length<=aF l
 |[]=>Nat.zero_le _
 |t::l=>by rw[aF,List.length_cons];have:=KH t;have:=Dr l;omega
theorem Cm:∀(c:List Lt) (l:Lt),l∈c->kE l<=bT c
 |[],_,h=>by cases h
 |m::c,l,h=>by
  rw[iq]
  rcases List.mem_cons.1 h with rfl|h
  ·rw[kE];omega
  ·have:=Cm c l h;omega
theorem EZ:∀(c:List Lt) (l:Lt),l∈c->fB l.xs<=dY c
 |[],_,h=>by cases h
 |m::c,l,h=>by
  rw[dY]
  rcases List.mem_cons.1 h with rfl|h
  ·omega
  ·have:=EZ c l h;omega
theorem EY:∀(c:List Lt) (k:Nat),(∀l∈c,fB l.xs<=k)->dY c<=k
 |[],_,_=>Nat.zero_le _
 |l::c,k,h=>by
  rw[dY]
  have U:=h l (by simp)
  have h2:=EY c k fun m hm=>h m (by simp[hm])
  omega
theorem H4 {a b:List Lt} (h:a.Perm b):bT a=bT b:=(h.map kE).sum_nat
theorem Co {a b:List Lt} (h:a.Sublist b):bT a<=bT b:=by
 induction h with
 |slnil=>exact Nat.le_refl _
 |cons a _ ih=>rw[iq];omega
 |cons_cons a _ ih=>rw[iq,iq];omega
mutual
theorem KK (g:Int->Int):∀t:Tm,ck t=true->wT (aB (fun v=>bn (g v)) t)=wT t/\jH (aB (fun v=>bn (g v)) t)=jH t
 | .mk n i xs,h=>by
  rw[ck]at h
  rw[aB]
  by_cases hn:n=[]
  ·rw[if_pos hn,Bool.and_eq_true,List.isEmpty_iff]at h
   rw[if_pos hn,h.1,bn,wT,wT,aF,jH,jH,fB];exact⟨rfl,rfl⟩
  ·rw[if_neg hn,Bool.and_eq_true]at h
   rw[if_neg hn,wT,wT,jH,jH,(vi g xs h.2).1,(vi g xs h.2).2];exact⟨rfl,rfl⟩
theorem vi (g:Int->Int):∀l:List Tm,bJ l=true->aF (bj (fun v=>bn (g v)) l)=aF l/\fB (bj (fun v=>bn (g v)) l)=fB l
 |[],_=>by rw[bj];exact⟨rfl,rfl⟩
 |t::l,h=>by
  rw[bJ,Bool.and_eq_true]at h
  rw[bj,aF,aF,fB,fB,(KK g t h.1).1,(KK g t h.1).2,(vi g l h.2).1,(vi g l h.2).2];exact⟨rfl,rfl⟩
end
theorem H5 (g:Int->Int):∀c:List Lt,c.all bO=true->bT (nG (fun v=>bn (g v)) c)=bT c/\dY (nG (fun v=>bn (g v)) c)=dY c
 |[],_=>⟨rfl,rfl⟩
 |l::c,h=>by
  rw[List.all_cons,Bool.and_eq_true]at h
  obtain⟨U,h2⟩:=vi g l.xs (oK h.1)
  obtain⟨h3,h4⟩:=H5 g c h.2
  have e:nG (fun v=>bn (g v)) (l::c)=fS (fun v=>bn (g v)) l::nG (fun v=>bn (g v)) c:=rfl
  rw[e,iq,iq,dY,dY,h3,h4]
  have e2:(fS (fun v=>bn (g v)) l).xs=bj (fun v=>bn (g v)) l.xs:=rfl
  rw[e2,U,h2];exact⟨rfl,rfl⟩
theorem Cy {c:List Lt} (h:c.all bO=true):(cp c).length<=c.length/\bT (cp c)<=bT c/\dY (cp c)<=dY c:=by
 have ho:=uP h
 have hp:=nt (cJ [] c) []
 rw[List.nil_append]at hp
 obtain⟨U,h2⟩:=H5 (iS (cA c)) (cA c) ho
 have e:cp c=nG (fun v=>bn (iS (cA c) v)) (cA c):=rfl
 refine⟨?_,?_,?_⟩
 ·rw[e,nG,List.length_map,cA,hp.length_eq];exact(nN c []).length_le
 ·rw[e,U,cA,H4 hp];exact Co (nN c [])
 ·rw[e,h2]
  exact EY _ _ fun l hl=>EZ c l (rZ.1 hl)
theorem QW {eS eD eF eR:Int} (hS:eS≠0) (hD:eD≠0) (hF:eF≠0) (hR:eR≠0) {c:List Lt} (h:bR eS eD eF eR c=0):bR eS eD eF eR (cp c)=0:=by
 rw[zw hS hD hF hR]at h⊢
 obtain⟨U,h2,h3,h4⟩:=h
 obtain⟨g1,g2,g3⟩:=Cy h4
 exact⟨by omega,by omega,by omega,Il h4⟩
def sA (s t:Tm) (f:Int->Tm):Prop:=aB f s=aB f t
structure TI (s t:Tm) (f:Int->Tm):Prop where
 u:sA s t f
 m:∀g,sA s t g->∀v,aB g (f v)=g v
 r:∀v,(f v).nm=[]->(f v).ix<=v
 l:∀v,Lf (f v)
theorem Lf.var {t:Tm} (h:Lf t) (hn:t.nm=[]):t=bn t.ix:=by
 obtain⟨_,hx,_,_⟩:=h
 cases t
 simp only[Tm.nm,Tm.xs,Tm.ix]at hn hx⊢
 rw[bn,hn,hx hn]
theorem Lf.args {t:Tm} (h:Lf t):∀a∈t.xs,Lf a:=by obtain⟨_,_,_,k⟩:=h;exact k
theorem Lf.zero {t:Tm} (h:Lf t) (hn:t.nm≠[]):t.ix=0:=by obtain⟨_,_,k,_⟩:=h;exact k hn
theorem za (v:Int):Lf (bn v):=⟨_,fun _=>rfl,fun h=>absurd rfl h,fun a ha=>by cases ha⟩
theorem Eh (f:Int->Tm) {t:Tm} (h:t.nm≠[]):(aB f t).nm=t.nm/\(aB f t).xs=bj f t.xs/\(aB f t).ix=0:=by
 rw[pe,if_neg h];exact⟨rfl,rfl,rfl⟩
def qA (l:Bd) (g:Int->Tm):Prop:=∀b∈l,aB g b.2=g b.1
structure mi (l:Bd) (f:Int->Tm):Prop where
 s:qA l f
 m:∀g,qA l g->∀v,aB g (f v)=g v
 r:∀v,(f v).nm=[]->(f v).ix<=v
 lf:∀v,Lf (f v)
 b:∀v,f v≠bn v↔∃x,(v,x)∈l
theorem mi.nil:mi [] bn:=by
 refine⟨fun b h=>?_,fun g _ v=>qH g v,fun v _=>Int.le_refl _,za,fun v=>⟨fun h=>absurd rfl h,?_⟩⟩
 ·cases h
 ·rintro⟨x,h⟩;cases h
theorem mi.idem {l:Bd} {f:Int->Tm} (h:mi l f) (v:Int):aB f (f v)=f v:=h.m f h.s v
theorem mi.under {l:Bd} {f g:Int->Tm} (h:mi l f) (hg:qA l g) (t:Tm):aB g (aB f t)=aB g t:=by
 rw[sT,show(fun v=>aB g (f v))=g from funext (h.m g hg)]
def lh (v:Int) (t:Tm) (w:Int):Tm:=if w=v then t else bn w
theorem uO (v:Int) (t:Tm):lh v t v=t:=if_pos rfl
theorem rY {v w:Int} (t:Tm) (h:w≠v):lh v t w=bn w:=if_neg h
mutual
theorem Eg (f:Int->Tm):∀t:Tm,Lf t->(∀v∈cM t,f v=bn v)->aB f t=t
 | .mk n i xs,h,hv=>by
  rw[cM]at hv
  rw[aB]
  have h0:=h.zero
  have hk:=h.args
  by_cases hn:n=[]
  ·rw[if_pos hn]at hv⊢
   rw[hv i (by simp)];exact(h.var hn).symm
  ·rw[if_neg hn]at hv⊢
   rw[Ej f xs hk fun v hm=>hv v (by simpa using hm),show i=0 from h0 hn]
theorem Ej (f:Int->Tm):∀l:List Tm,(∀a∈l,Lf a)->(∀v∈ba l,f v=bn v)->bj f l=l
 |[],_,_=>by rw[bj]
 |t::l,h,hv=>by
  rw[ba]at hv
  rw[bj,Eg f t (h t (by simp)) fun v hm=>hv v (List.mem_append_left _ hm),Ej f l (fun a ha=>h a (by simp[ha])) fun v hm=>hv v (List.mem_append_right _ hm)]
end
theorem DD {f:Int->Tm} (hf:∀v,Lf (f v)) {t:Tm} (h:Lf t):Lf (aB f t):=by
 induction h with
 |mk t hx h0 k ih=>
  rw[pe]
  by_cases hn:t.nm=[]
  ·rw[if_pos hn];exact hf _
  ·rw[if_neg hn]
   refine⟨_,fun h=>absurd h hn,fun _=>rfl,fun a ha=>?_⟩
   rw[show(Tm.mk t.nm 0 (bj f t.xs)).xs=bj f t.xs from rfl,mo]at ha
   obtain⟨b,hb,rfl⟩:=List.mem_map.1 ha
   exact ih b hb
theorem mi.bind {l:Bd} {f:Int->Tm} (h:mi l f) {v:Int} {t:Tm} (hv:f v=bn v) (ht:Lf t) (ho:v∉cM (aB f t))
  (hr:(aB f t).nm=[]->(aB f t).ix<v):mi (l++[(v,t)]) (fun w=>aB (lh v (aB f t)) (f w)):=by
 have hl:Lf (aB f t):=DD h.lf ht
 have hk:aB (lh v (aB f t)) (aB f t)=aB f t:=Eg _ _ hl fun w hw=>rY _ fun e=>ho (e▸hw)
 have re:aB (lh v (aB f t)) (f v)=aB f t:=by rw[hv,qH,uO]
 have jO:∀w,Lf (lh v (aB f t) w):=fun w=>by
  by_cases e:w=v
  ·rw[e,uO];exact hl
  ·rw[rY _ e];exact za w
 refine⟨fun b hb=>?_,fun g hg w=>?_,fun w hw=>?_,fun w=>DD jO (h.lf w),fun w=>?_⟩
 ·rcases List.mem_append.1 hb with hb|hb
  ·have:=h.s b hb
   rw[<-sT,this]
  ·rw[List.mem_singleton]at hb
   rw[hb]
   show aB _ t=aB _ (f v)
   rw[<-sT,hk,re]
 ·have k3:qA l g:=fun b hb=>hg b (List.mem_append_left _ hb)
  have tx:aB g t=g v:=hg (v,t) (by simp)
  have e:(fun u=>aB g (lh v (aB f t) u))=g:=funext fun u=>by
   by_cases e:u=v
   ·rw[e,uO,h.under k3,tx]
   ·rw[rY _ e,qH]
  show aB g (aB _ (f w))=_
  rw[sT,e,h.m g k3]
 ·have ud:(aB (lh v (aB f t)) (f w)).nm=[]:=hw
  show(aB (lh v (aB f t)) (f w)).ix<=w
  have hn:(f w).nm=[]:=by
   by_cases e:(f w).nm=[]
   ·exact e
   ·rw[(Eh _ e).1]at ud;exact ud
  have U:=h.r w hn
  rw[pe,if_pos hn]at ud⊢
  by_cases e:(f w).ix=v
  ·rw[e,uO]at ud⊢
   have:=hr ud
   omega
  ·rw[rY _ e];exact U
 ·show aB (lh v (aB f t)) (f w)≠bn w↔_
  constructor
  ·intro aG
   by_cases e:f w=bn w
   ·rw[e,qH]at aG
    by_cases e2:w=v
    ·exact⟨t,by simp[e2]⟩
    ·exact absurd (rY _ e2) aG
   ·obtain⟨x,hx⟩:=(h.b w).1 e
    exact⟨x,List.mem_append_left _ hx⟩
  ·rintro⟨x,hx⟩ e
   rcases List.mem_append.1 hx with hx|hx
   ·have aG:=(h.b w).2 ⟨x,hx⟩
    have hn:(f w).nm=[]:=by
     by_cases e3:(f w).nm=[]
     ·exact e3
     ·have:=(Eh (lh v (aB f t)) e3).1
      rw[e]at this;exact this.symm
    have wY:=(h.lf w).var hn
    have Vg:=h.idem w
    rw[wY,qH]at e
    by_cases e4:(f w).ix=v
    ·rw[e4,uO]at e
     have h5:=hr (by rw[e];rfl)
     rw[e]at h5
     have h6:=h.r w hn
     rw[e4]at h6
     have:(bn w).ix=w:=rfl
     omega
    ·rw[rY _ e4]at e
     exact aG (wY.trans e)
   ·rw[List.mem_singleton,Prod.mk.injEq]at hx
    obtain⟨rfl,rfl⟩:=hx
    rw[re]at e
    exact ho (by rw[e,bn,cM,if_pos rfl];simp)
theorem qA.nil (g:Int->Tm):qA [] g:=fun b h=>by cases h
theorem sA.fn {s t:Tm} {g:Int->Tm} (hs:s.nm≠[]) (ht:t.nm≠[]):sA s t g↔s.nm=t.nm/\bj g s.xs=bj g t.xs:=by
 rw[sA,pe,pe g t,if_neg hs,if_neg ht,Tm.mk.injEq]
 exact⟨fun h=>⟨h.1,h.2.2⟩,fun h=>⟨h.1,rfl,h.2⟩⟩
theorem JM:∀(l m:List Int),l.Pairwise (·<·)->m.Pairwise (·<·)->(∀v,v∈l↔v∈m)->l=m
 |[],[],_,_,_=>rfl
 |[],b::m,_,_,h=>by have:=(h b).2 (by simp);cases this
 |a::l,[],_,_,h=>by have:=(h a).1 (by simp);cases this
 |a::l,b::m,hl,hm,h=>by
  rw[List.pairwise_cons]at hl hm
  have U:a∈b::m:=(h a).1 (by simp)
  have h2:b∈a::l:=(h b).2 (by simp)
  have e:a=b:=by
   rcases List.mem_cons.1 U with U|U
   ·exact U
   ·rcases List.mem_cons.1 h2 with h2|h2
    ·exact h2.symm
    ·have:=hm.1 a U;have:=hl.1 b h2;omega
  subst e
  rw[JM l m hl.2 hm.2]
  intro v
  constructor
  ·intro hv
   rcases List.mem_cons.1 ((h v).1 (by simp[hv]))with e|iI
   ·have:=hl.1 v hv;omega
   ·exact iI
  ·intro hv
   rcases List.mem_cons.1 ((h v).2 (by simp[hv]))with e|iI
   ·have:=hm.1 v hv;omega
   ·exact iI
def qc (b:Int×Tm):Bd->Bd
 |[]=>[b]
 |c::o=>if b.1<c.1 then b::c::o else c::qc b o
def ft (o:Bd):Bd->Bd
 |[]=>o
 |b::l=>ft (qc b o) l
theorem xJ (b:Int×Tm):∀o,(qc b o).Perm (b::o)
 |[]=>List.Perm.refl _
 |c::o=>by
  rw[qc]
  split
  ·exact List.Perm.refl _
  ·exact((xJ b o).cons c).trans (List.Perm.swap b c o)
theorem yL:∀(l o:Bd),(ft o l).Perm (o++l)
 |[],o=>by rw[ft,List.append_nil]
 |b::l,o=>by
  rw[ft]
  exact(yL l _).trans (((xJ b o).append_right l).trans (List.perm_middle (a:=b) (l₁:=o) (l₂:=l)).symm)
theorem G4 (b:Int×Tm):∀o:Bd,o.Pairwise (fun x y=>x.1<y.1)->(∀c∈o,c.1≠b.1)->(qc b o).Pairwise (fun x y=>x.1<y.1)
 |[],_,_=>List.pairwise_singleton _ _
 |c::o,h,hn=>by
  rw[List.pairwise_cons]at h
  rw[qc]
  split
  ·rename_i hx
   rw[List.pairwise_cons,List.pairwise_cons]
   exact⟨fun z hz=>(List.mem_cons.1 hz).elim (fun e=>e▸hx) fun hz=>by have:=h.1 z hz;omega,h⟩
  ·rename_i hx
   rw[List.pairwise_cons]
   refine⟨fun z hz=>?_,G4 b o h.2 fun d hd=>hn d (by simp[hd])⟩
   rcases List.mem_cons.1 ((xJ b o).mem_iff.1 hz)with rfl|hz
   ·have:=hn c (by simp);omega
   ·exact h.1 z hz
theorem JP:∀(l o:Bd),((o++l).map (·.1)).Nodup->o.Pairwise (fun x y=>x.1<y.1)->(ft o l).Pairwise (fun x y=>x.1<y.1)
 |[],o,_,h=>h
 |b::l,o,hn,h=>by
  have hp:(o++b::l).Perm (qc b o++l):=(List.perm_middle (a:=b) (l₁:=o) (l₂:=l)).trans (((xJ b o).symm).append_right l)
  have ib:=(hp.map (·.1)).nodup hn
  rw[ft]
  refine JP l _ ib (G4 b o h fun c hc e=>?_)
  rw[List.map_append,List.nodup_append]at hn
  exact hn.2.2 c.1 (List.mem_map_of_mem hc) b.1 (by simp) e
theorem EA:∀(c p:List Lt) (x:Lt),cJ p (c++[x])=cJ p c++(if(p++c).any (dm x)then[]else[x])
 |[],p,x=>by
  rw[List.nil_append,List.append_nil,cJ,cJ,cJ,List.nil_append]
 |y::c,p,x=>by
  rw[List.cons_append,cJ,cJ,EA c,List.append_assoc]
  split<;>rfl
theorem JO:∀(c o:List Lt) (x:Lt),cC o (c++[x])=ij x (cC o c)
 |[],o,x=>rfl
 |y::c,o,x=>by rw[List.cons_append,cC,cC,JO c]
theorem BG:∀(o1 o2:List Lt) (x:Lt),(o1++o2).Pairwise il->(∀y∈o2,cV x<cV y)->(∀y,o1.getLast?=some y->il y x)->ij x (o1++o2)=o1++x::o2
 |[],[],x,_,_,_=>rfl
 |[],y::o2,x,_,h,_=>by rw[List.nil_append,ij,if_pos (h y (by simp))];rfl
 |z::o1,o2,x,hp,h,hl=>by
  rw[List.cons_append,List.pairwise_cons]at hp
  have hz:il z x:=by
   cases o1 with
   |nil=>exact hl z rfl
   |cons w o1=>
    have Oz:∃y,(w::o1).getLast?=some y/\y∈w::o1:=by
     refine⟨(w::o1).getLast (by simp),List.getLast?_eq_some_getLast (by simp),List.getLast_mem (by simp)⟩
    obtain⟨y,e,hy⟩:=Oz
    have U:il y x:=hl y (by rw[List.getLast?_cons_cons];exact e)
    exact Hg (hp.1 y (List.mem_append_left _ hy)) U
  rw[List.cons_append,ij,if_neg hz,BG o1 o2 x hp.2 h fun y hy=>?_]
  ·rfl
  ·cases o1 with
   |nil=>cases hy
   |cons w o1=>exact hl y (by rw[List.getLast?_cons_cons];exact hy)
end Go.Proofs.YtpfohmboflcneaaGreatDoor
end
section
namespace Go.Proofs.YtpfohmboflcneaaGreatDoor
open Go
set_option maxHeartbeats 1000000
structure Nd where
 nm:List UInt8
 num:Int
 ks:List Nat
inductive gq (rt:Nat->Nat) (D:List (Nat×Nat)):Nat->Nat->Prop
 |rt {a b:Nat}:rt a=rt b->gq rt D a b
 |pr {a b:Nat}:(a,b)∈D->gq rt D a b
 |symm {a b:Nat}:gq rt D a b->gq rt D b a
 |trans {a b c:Nat}:gq rt D a b->gq rt D b c->gq rt D a c
theorem gq.mono {r r':Nat->Nat} {D D':List (Nat×Nat)} (U:∀a b,r a=r b->gq r' D' a b) (h2:∀p∈D,gq r' D' p.1 p.2) {a b:Nat} (h:gq r D a b):gq r' D' a b:=by
 induction h with
 |rt h=>exact U _ _ h
 |pr h=>exact h2 _ h
 |symm _ ih=>exact ih.symm
 |trans _ _ i1 i2=>exact i1.trans i2
theorem gq.nil {r:Nat->Nat} {a b:Nat} (h:gq r [] a b):r a=r b:=by
 induction h with
 |rt h=>exact h
 |pr h=>cases h
 |symm _ ih=>exact ih.symm
 |trans _ _ i1 i2=>exact i1.trans i2
def dB (rt:Nat->Nat) (D:List (Nat×Nat)):List Nat->List Nat->Prop
 |[],[]=>True
 |a::l,b::m=>gq rt D a b/\dB rt D l m
 |_,_=>False
theorem dB.mono {r r':Nat->Nat} {D D':List (Nat×Nat)} (U:∀a b,r a=r b->gq r' D' a b) (h2:∀p∈D,gq r' D' p.1 p.2):∀{l m:List Nat},dB r D l m->dB r' D' l m
 |[],[],_=>trivial
 |a::l,b::m,h=>⟨h.1.mono U h2,dB.mono U h2 h.2⟩
 |[],_::_,h=>h.elim
 |_::_,[],h=>h.elim
theorem dB.symm {r:Nat->Nat} {D:List (Nat×Nat)}:∀{l m:List Nat},dB r D l m->dB r D m l
 |[],[],_=>trivial
 |a::l,b::m,h=>⟨h.1.symm,dB.symm h.2⟩
 |[],_::_,h=>h.elim
 |_::_,[],h=>h.elim
theorem dB.trans {r:Nat->Nat} {D:List (Nat×Nat)}:∀{l m k:List Nat},dB r D l m->dB r D m k->dB r D l k
 |[],[],[],_,_=>trivial
 |a::l,b::m,c::k,h,g=>⟨h.1.trans g.1,dB.trans h.2 g.2⟩
 |[],[],_::_,_,g=>g.elim
 |[],_::_,_,h,_=>h.elim
 |_::_,[],_,h,_=>h.elim
 |_::_,_::_,[],_,g=>g.elim
theorem dB.refl {r:Nat->Nat} {D:List (Nat×Nat)}:∀l:List Nat,dB r D l l
 |[]=>trivial
 |_::l=>⟨.rt rfl,dB.refl l⟩
theorem dB.zip {r:Nat->Nat} {D:List (Nat×Nat)}:∀{l m:List Nat},l.length=m.length->(∀p∈l.zip m,p∈D)->dB r D l m
 |[],[],_,_=>trivial
 |a::l,b::m,h,k=>⟨.pr (k (a,b) (by simp)),dB.zip (by simpa using h) fun p hp=>k p (by simp[hp])⟩
 |[],_::_,h,_=>by simp at h
 |_::_,[],h,_=>by simp at h
theorem dB.nil {r:Nat->Nat}:∀{l m:List Nat},dB r [] l m->l.map r=m.map r
 |[],[],_=>rfl
 |a::l,b::m,h=>by rw[List.map_cons,List.map_cons,h.1.nil,dB.nil h.2]
 |[],_::_,h=>h.elim
 |_::_,[],h=>h.elim
structure Good (cl:Nat->Nd) (rt:Nat->Nat) (D:List (Nat×Nat)):Prop where
 i:∀a,rt (rt a)=rt a
 v:∀a,(cl (rt a)).nm=[]->(cl a).nm=[]/\(cl (rt a)).num<=(cl a).num
 f:∀a b,rt a=rt b->(cl a).nm≠[]->(cl b).nm≠[]->(cl a).nm=(cl b).nm/\dB rt D (cl a).ks (cl b).ks
def ef (rt:Nat->Nat) (x y:Nat) (c:Nat):Nat:=if rt c=x then y else rt c
theorem HV {rt:Nat->Nat} {x y a b:Nat} (h:rt a=rt b):ef rt x y a=ef rt x y b:=by rw[ef,ef,h]
variable {cl:Nat->Nd} {rt:Nat->Nat} {D:List (Nat×Nat)}
theorem HW (h:Good cl rt D) {a b:Nat} (hn:rt a≠rt b) (c:Nat):ef rt (rt b) (rt a) (ef rt (rt b) (rt a) c)=ef rt (rt b) (rt a) c:=by
 rw[ef,ef]
 by_cases hc:rt c=rt b
 ·rw[if_pos hc,h.i,if_neg hn]
 ·rw[if_neg hc,h.i,if_neg hc]
theorem Good.same {a b:Nat} (h:Good cl rt ((a,b)::D)) (e:rt a=rt b):Good cl rt D:=
 ⟨h.i,h.v,fun x y eW hx hy=>⟨(h.f x y eW hx hy).1,(h.f x y eW hx hy).2.mono (fun _ _=> .rt) fun p hp=>by
  rcases List.mem_cons.1 hp with rfl|hp
  ·exact .rt e
  ·exact .pr hp⟩⟩
theorem Good.swap {a b:Nat} (h:Good cl rt ((a,b)::D)):Good cl rt ((b,a)::D):=
 ⟨h.i,h.v,fun x y eW hx hy=>⟨(h.f x y eW hx hy).1,(h.f x y eW hx hy).2.mono (fun _ _=> .rt) fun p hp=>by
  rcases List.mem_cons.1 hp with rfl|hp
  ·exact .symm (.pr (by simp))
  ·exact .pr (by simp[hp])⟩⟩
theorem Good.var {a b:Nat} (h:Good cl rt ((a,b)::D)) (hn:rt a≠rt b) (hb:(cl (rt b)).nm=[]) (ho:(cl (rt a)).nm=[]->(cl (rt a)).num<=(cl (rt b)).num):
  Good cl (ef rt (rt b) (rt a)) D:=by
 refine⟨HW h hn,fun c hc=>?_,fun x y eW hx hy=>?_⟩
 ·rw[ef]at hc⊢
  by_cases e:rt c=rt b
  ·rw[if_pos e]at hc⊢
   have U:=h.v c (by rw[e];exact hb)
   rw[e]at U
   have:=ho hc
   exact⟨U.1,by omega⟩
  ·rw[if_neg e]at hc⊢
   exact h.v c hc
 ·have nx:rt x≠rt b:=fun e=>hx (h.v x (by rw[e];exact hb)).1
  have ny:rt y≠rt b:=fun e=>hy (h.v y (by rw[e];exact hb)).1
  rw[ef,ef,if_neg nx,if_neg ny]at eW
  refine⟨(h.f x y eW hx hy).1,(h.f x y eW hx hy).2.mono (fun _ _ e=> .rt (HV e)) fun p hp=>?_⟩
  rcases List.mem_cons.1 hp with rfl|hp
  ·exact .rt (by rw[ef,ef,if_neg hn,if_pos rfl])
  ·exact .pr hp
theorem Good.fn {a b:Nat} (h:Good cl rt ((a,b)::D)) (hn:rt a≠rt b) (ha:(cl (rt a)).nm≠[]) (hb:(cl (rt b)).nm≠[]) (hm:(cl (rt a)).nm=(cl (rt b)).nm) (hl:(cl (rt a)).ks.length=(cl (rt b)).ks.length):
  Good cl (ef rt (rt b) (rt a)) ((cl (rt a)).ks.zip (cl (rt b)).ks++D):=by
 have rm:∀{l m:List Nat},dB rt ((a,b)::D) l m->dB (ef rt (rt b) (rt a)) ((cl (rt a)).ks.zip (cl (rt b)).ks++D) l m:=fun k=>
  k.mono (fun _ _ e=> .rt (HV e)) fun p hp=>by
   rcases List.mem_cons.1 hp with rfl|hp
   ·exact .rt (by rw[ef,ef,if_neg hn,if_pos rfl])
   ·exact .pr (List.mem_append_right _ hp)
 have hz:dB (ef rt (rt b) (rt a)) ((cl (rt a)).ks.zip (cl (rt b)).ks++D) (cl (rt a)).ks (cl (rt b)).ks:=dB.zip hl fun p hp=>List.mem_append_left _ hp
 refine⟨HW h hn,fun c hc=>?_,fun x y eW hx hy=>?_⟩
 ·rw[ef]at hc⊢
  by_cases e:rt c=rt b
  ·rw[if_pos e]at hc;exact absurd hc ha
  ·rw[if_neg e]at hc⊢;exact h.v c hc
 ·rw[ef,ef]at eW
  by_cases ex:rt x=rt b<;>by_cases ey:rt y=rt b
  ·have:=h.f x y (ex.trans ey.symm) hx hy
   exact⟨this.1,rm this.2⟩
  ·rw[if_pos ex,if_neg ey]at eW
   have U:=h.f x (rt b) (by rw[ex,h.i]) hx hb
   have h2:=h.f (rt a) y (by rw[h.i];exact eW) ha hy
   exact⟨U.1.trans (hm.symm.trans h2.1),((rm U.2).trans hz.symm).trans (rm h2.2)⟩
  ·rw[if_neg ex,if_pos ey]at eW
   have U:=h.f x (rt a) (by rw[eW,h.i]) hx ha
   have h2:=h.f (rt b) y (by rw[h.i,ey]) hb hy
   exact⟨U.1.trans (hm.trans h2.1),((rm U.2).trans hz).trans (rm h2.2)⟩
  ·rw[if_neg ex,if_neg ey]at eW
   have:=h.f x y eW hx hy
   exact⟨this.1,rm this.2⟩
def Dn (cl:Nat->Nd) (d:Nat->Tm):Prop:=∀c,d c=if(cl c).nm=[]then bn (cl c).num else .mk (cl c).nm 0 ((cl c).ks.map d)
def sy (d:Nat->Tm) (rt:Nat->Nat) (g:Int->Tm):Prop:=∀c,aB g (d c)=aB g (d (rt c))
theorem sy.ef {d:Nat->Tm} {g:Int->Tm} {a b:Nat} (h:sy d rt g) (e:aB g (d a)=aB g (d b)):sy d (ef rt (rt b) (rt a)) g:=by
 intro c
 rw[Go.Proofs.YtpfohmboflcneaaGreatDoor.ef]
 by_cases hc:rt c=rt b
 ·rw[if_pos hc,<-h a,e,h b,<-hc,<-h c]
 ·rw[if_neg hc];exact h c
theorem Dn.fn {d:Nat->Tm} (hd:Dn cl d) {c:Nat} (h:(cl c).nm≠[]) (g:Int->Tm):aB g (d c)= .mk (cl c).nm 0 ((cl c).ks.map fun x=>aB g (d x)):=by
 rw[hd c,if_neg h,aB,if_neg h,mo,List.map_map];rfl
theorem sy.args {d:Nat->Tm} {g:Int->Tm} {a b:Nat} (hd:Dn cl d) (h:sy d rt g) (e:aB g (d a)=aB g (d b)) (ha:(cl (rt a)).nm≠[]) (hb:(cl (rt b)).nm≠[]):
  (cl (rt a)).nm=(cl (rt b)).nm/\(cl (rt a)).ks.length=(cl (rt b)).ks.length/\∀p∈(cl (rt a)).ks.zip (cl (rt b)).ks,aB g (d p.1)=aB g (d p.2):=by
 rw[h a,h b,hd.fn ha g,hd.fn hb g,Tm.mk.injEq]at e
 obtain⟨e1,_,e2⟩:=e
 have hl:=congrArg List.length e2
 rw[List.length_map,List.length_map]at hl
 refine⟨e1,hl,?_⟩
 suffices H:∀l m:List Nat,(l.map fun x=>aB g (d x))=(m.map fun x=>aB g (d x))->∀p∈l.zip m,aB g (d p.1)=aB g (d p.2) from H _ _ e2
 intro l
 induction l with
 |nil=>intro m _ p hp;simp at hp
 |cons x l ih=>
  intro m hm p hp
  cases m with
  |nil=>simp at hp
  |cons y m=>
   rw[List.map_cons,List.map_cons,List.cons.injEq]at hm
   rw[List.zip_cons_cons]at hp
   rcases List.mem_cons.1 hp with rfl|hp
   ·exact hm.1
   ·exact ih m hm.2 p hp
inductive Tc (cl:Nat->Nd) (rt:Nat->Nat):Nat->Tm->Prop
 |var {c:Nat}:(cl (rt c)).nm=[]->Tc cl rt c (bn (cl (rt c)).num)
 |fn {c:Nat} {ts:List Tm}:(cl (rt c)).nm≠[]->ts.length=(cl (rt c)).ks.length->(∀(k:Nat) (x:Nat) (t:Tm),(cl (rt c)).ks[k]?=some x->ts[k]?=some t->Tc cl rt x t)->Tc cl rt c (.mk (cl (rt c)).nm 0 ts)
theorem Tc.lf {c:Nat} {t:Tm} (k:Tc cl rt c t):Lf t:=by
 induction k with
 |var _=>exact za _
 |@fn c ts hn hl _ ih=>
  refine⟨_,fun h=>absurd h hn,fun _=>rfl,fun a ha=>?_⟩
  obtain⟨i,hi,e⟩:=List.getElem_of_mem ha
  have rh:i<ts.length:=hi
  have U:ts[i]?=some a:=by rw[List.getElem?_eq_getElem rh,<-e];rfl
  exact ih i _ a (List.getElem?_eq_getElem (by omega)) U
end Go.Proofs.YtpfohmboflcneaaGreatDoor
end
section
namespace Go.Proofs.YtpfohmboflcneaaGreatDoor
open Go Go.AL Go.RowKit
set_option maxRecDepth 10000
set_option maxHeartbeats 4000000
abbrev Bi (b:Bool):IV:= .v (.bool b)
abbrev lX (l:Lt):List IV:=[Bi l.ng,Si l.pd,.sl 3 (ay l.xs)]
abbrev rP (l:Lt):IV:= .pt (lX l)
abbrev ju (l:Lt):AV:= .agg [Bv l.ng,Sv l.pd,.im (.sl 3 (ay l.xs))]
def bX (c:List Lt):List (List IV):=c.map lX
abbrev aV (c:List Lt):AV:= .im (.sl 3 (bX c))
theorem aJ (l:List Lt):(bX l).length=l.length:=by rw[bX,List.length_map]
theorem jt (l:List Lt) (k:Nat) (h:k<l.length):∃t,l[k]?=some t/\(bX l).getD k []=[Bi t.ng,Si t.pd,.sl 3 (ay t.xs)]:=by
 refine⟨l[k],List.getElem?_eq_getElem h,?_⟩
 rw[List.getD_eq_getElem?_getD,bX,List.getElem?_map,List.getElem?_eq_getElem h];rfl
theorem uG (l:List Lt) (w:Lt):bX (l++[w])=bX l++[lX w]:=by
 rw[bX,List.map_append];rfl
def kC (l:Lt):Prop:=l.pd.length<=1000000000/\l.xs.length<=1000000000/\b_ l.xs
def dD (c:List Lt):Prop:=c.length<=1000000000/\∀l∈c,kC l
theorem nL {c:List Lt} {k:Nat} {l:Lt} (h:dD c) (hk:c[k]?=some l):kC l:=h.2 l (List.mem_of_getElem? hk)
theorem Mm (c:List Lt) (hs:dD c):aR Tryz.prog 13 [aV c] (aV c):=by
 refine al.walk [0,2,3,5,6,8,9,10,11,12,21,22,23,24] [5,6,8] Tryz.func13 rfl Tryz.ntmps13 (by kernel_rfl) (by rfl) rfl fun W own I0 aw lay=>?_
 refine gE @aJ ?_
 refine AP.own 3 119 3 rfl ?_
 refine sI ?_
 refine AP.loop rfl (α:=Nat) (fun k=>[(3,.os 0 3 0 k),(9,aV c),(10,Iv c.length),(11,Iv k)]) (fun k=>[(0,.vec 119 3 (bX (c.take k)))]) (fun k=>k<=c.length) (fun k=>c.length-k) 0 (by omega) (sU) rfl fun k hk=>?_
 have ca:=hs.1
 rcases Nat.eq_or_lt_of_le hk with aN|ag
 ·subst aN
  rw[List.take_length]
  refine gE @aJ ?_
  refine cF ?_
  refine gO ?_
  refine AE.freeze 0 (el:=119) (es:=3) (rows:=bX c) rfl (by simp only[go_sem,Nat.reduceAdd,Nat.reduceLeDiff,Nat.reduceSub,Int.reduceToNat,reduceCtorEq,aJ];first|done|trivial|omega|(simp;done)|(simp;omega)) (by simp only[go_sem,Nat.reduceAdd,Nat.reduceLeDiff,Nat.reduceSub,Int.reduceToNat,reduceCtorEq,aJ];first|done|trivial|omega|(simp;done)|(simp;omega)) ?_;simp only[go_sem,Nat.reduceAdd,Nat.reduceLeDiff,Nat.reduceSub,Int.reduceToNat,reduceCtorEq,aJ]
  rw[List.take_of_length_le (by rw[aJ];omega)]
  exact AE.a7 rfl ⟨rfl,trivial⟩ rfl ⟨rfl,rfl⟩
 ·obtain⟨u,hu,aX⟩:=jt c k ag
  have hw:=wr (x:=(k:Int)+1) (by omega)
  have bc:=kK (l:=c) (k:=k) (by omega)
  have cG:=nL hs hu
  have bx:=dV hu
  refine gE @aJ ?_
  refine cT ?_
  refine gE @aX ?_
  refine⟨by rw[aJ];omega,?_⟩
  refine gE @ao ?_
  refine AP.iu 2 2 71 3 rfl rfl ?_
  refine sI ?_
  refine AP.loop rfl (α:=Nat) (fun j=>[(3,.os 0 3 0 k),(6,.ob 2 0),(9,aV c),(10,Iv c.length),(11,Iv k),(21,.im (.sl 3 (ay u.xs))),(22,Iv u.xs.length),(23,Iv j)]) (fun j=>[(3,.vec 71 3 (ay (u.xs.take j))),(2,.var 119 [Bv u.ng,Sv u.pd,.os 3 3 0 j]),(1,.var 61 [Bv u.ng,Sv u.pd,.im (.sl 3 (ay u.xs))]),(0,.vec 119 3 (bX (c.take k)))]) (fun j=>j<=u.xs.length) (fun j=>u.xs.length-j) 0 (by omega) (sU) rfl fun j hj=>?_
  rcases Nat.eq_or_lt_of_le hj with fk|k5
  ·subst fk
   rw[List.take_length]
   refine gE @ao ?_
   refine cF ?_
   refine sI ?_
   refine AP.freeze 3 (el:=71) (es:=3) (rows:=ay u.xs) rfl (by simp only[go_sem,Nat.reduceAdd,Nat.reduceLeDiff,Nat.reduceSub,Int.reduceToNat,reduceCtorEq,ao];first|done|trivial|omega|(simp;done)|(simp;omega)) (by simp only[go_sem,Nat.reduceAdd,Nat.reduceLeDiff,Nat.reduceSub,Int.reduceToNat,reduceCtorEq,ao];first|done|trivial|omega|(simp;done)|(simp;omega)) ?_;simp only[go_sem,Nat.reduceAdd,Nat.reduceLeDiff,Nat.reduceSub,Int.reduceToNat,reduceCtorEq,ao]
   rw[show List.take u.xs.length (ay u.xs)=ay u.xs from List.take_of_length_le (by rw[ao];omega)]
   refine gO ?_
   refine AQ.append (hnb:=rfl) (rows:=bX (c.take k)) (es:=2) (by kernel_rfl) rfl rfl rfl (by rfl) Tryz.yP Tryz.yM (by show Option.map _ (az Tryz.prog 119)=_;rw[Tryz.y7];rfl) Tryz.v_ (by first|rfl|(simp only[aJ,bc,List.length_cons,List.length_nil];done)|(simp only[aJ,bc,List.length_cons,List.length_nil];omega)) (by simp only[aJ,bc,List.length_cons,List.length_nil];omega) (by simp only[aJ,bc,List.length_cons,List.length_nil];omega) ?_
   refine sI ?_
   refine gE @hw ?_
   refine AE.eu [2,1] rfl ?_
   refine sE (an @aJ @bc) ?_
   refine AE.round (k+1) (by omega) (by omega) (sU) ?_
   rw[bx,uG]
  ·obtain⟨v,hv,dH⟩:=dL u.xs j k5
   have jS:=wr (x:=(j:Int)+1) (by have:=cG.2.1;omega)
   have gN:=kK (l:=u.xs) (k:=j) (by omega)
   have ih:=Eu v (eh cG.2.2 hv)
   have mP:=dV hv
   have ua:=cG.2.1
   refine gE @ao ?_
   refine cT ?_
   refine gE @dH ?_
   refine⟨by rw[ao];omega,?_⟩
   refine gO ?_
   refine AP.dh 8 (Tree.node [] [0,1,2] [3] [Tree.node [0,1] [] [4] [Tree.node [0,1] [] [5] [Tree.node [] [6] [7] [Tree.node [] [] [] []]]]]) (by kernel_rfl) rfl (by kernel_rfl) (by kernel_rfl) ?_
   refine de ?_
   refine sI ?_
   refine AQ.fn (by kernel_rfl) rfl rfl rfl (ih) rfl ?_
   refine sI ?_
   refine AQ.nx rfl ?_
   refine sI ?_
   refine AQ.go (by kernel_rfl) ?_
   refine sI ?_
   refine AQ.nx rfl ?_
   refine sI ?_
   refine AQ.kill 3 ?_
   refine sI ?_
   refine AQ.append (hnb:=rfl) (rows:=ay (u.xs.take j)) (es:=2) (by kernel_rfl) rfl rfl rfl (by rfl) Tryz.sg Tryz.se (by show Option.map _ (az Tryz.prog 71)=_;rw[Tryz.sr];rfl) Tryz.qG (by first|rfl|(simp only[ao,gN,List.length_cons,List.length_nil];done)|(simp only[ao,gN,List.length_cons,List.length_nil];omega)) (by simp only[ao,gN,List.length_cons,List.length_nil];omega) (by simp only[ao,gN,List.length_cons,List.length_nil];omega) ?_
   refine sI ?_
   refine AQ.nx rfl ?_
   refine sI ?_
   refine AQ.go (by kernel_rfl) ?_
   refine sI ?_
   refine AQ.nx rfl ?_
   refine sI ?_
   refine AQ.done ?_
   refine gE @jS ?_
   refine AE.eu [4] rfl ?_
   refine sI ?_
   refine AE.round (j+1) (by omega) (by omega) (sU) ?_
   rw[mP,oV,ao,gN]
theorem D1 (c:List Lt) (hs:dD c):aR Tryz.prog 45 [aV c] (aV c):=by
 refine al.walk [0,2,3,5,6,8,9,10,11,12,21,22,23,24] [5,6,8] Tryz.func45 rfl Tryz.ntmps45 (by kernel_rfl) (by rfl) rfl fun W own I0 aw lay=>?_
 refine gE @aJ ?_
 refine AP.own 3 61 3 rfl ?_
 refine sI ?_
 refine AP.loop rfl (α:=Nat) (fun k=>[(3,.os 0 3 0 k),(9,aV c),(10,Iv c.length),(11,Iv k)]) (fun k=>[(0,.vec 61 3 (bX (c.take k)))]) (fun k=>k<=c.length) (fun k=>c.length-k) 0 (by omega) (sU) rfl fun k hk=>?_
 have ca:=hs.1
 rcases Nat.eq_or_lt_of_le hk with aN|ag
 ·subst aN
  rw[List.take_length]
  refine gE @aJ ?_
  refine cF ?_
  refine gO ?_
  refine AE.freeze 0 (el:=61) (es:=3) (rows:=bX c) rfl (by simp only[go_sem,Nat.reduceAdd,Nat.reduceLeDiff,Nat.reduceSub,Int.reduceToNat,reduceCtorEq,aJ];first|done|trivial|omega|(simp;done)|(simp;omega)) (by simp only[go_sem,Nat.reduceAdd,Nat.reduceLeDiff,Nat.reduceSub,Int.reduceToNat,reduceCtorEq,aJ];first|done|trivial|omega|(simp;done)|(simp;omega)) ?_;simp only[go_sem,Nat.reduceAdd,Nat.reduceLeDiff,Nat.reduceSub,Int.reduceToNat,reduceCtorEq,aJ]
  rw[List.take_of_length_le (by rw[aJ];omega)]
  exact AE.a7 rfl ⟨rfl,trivial⟩ rfl ⟨rfl,rfl⟩
 ·obtain⟨u,hu,aX⟩:=jt c k ag
  have hw:=wr (x:=(k:Int)+1) (by omega)
  have bc:=kK (l:=c) (k:=k) (by omega)
  have cG:=nL hs hu
  have bx:=dV hu
  refine gE @aJ ?_
  refine cT ?_
  refine gE @aX ?_
  refine⟨by rw[aJ];omega,?_⟩
  refine gE @ao ?_
  refine AP.iu 2 2 57 3 rfl rfl ?_
  refine sI ?_
  refine AP.loop rfl (α:=Nat) (fun j=>[(3,.os 0 3 0 k),(6,.ob 2 0),(9,aV c),(10,Iv c.length),(11,Iv k),(21,.im (.sl 3 (ay u.xs))),(22,Iv u.xs.length),(23,Iv j)]) (fun j=>[(3,.vec 57 3 (ay (u.xs.take j))),(2,.var 61 [Bv u.ng,Sv u.pd,.os 3 3 0 j]),(1,.var 119 [Bv u.ng,Sv u.pd,.im (.sl 3 (ay u.xs))]),(0,.vec 61 3 (bX (c.take k)))]) (fun j=>j<=u.xs.length) (fun j=>u.xs.length-j) 0 (by omega) (sU) rfl fun j hj=>?_
  rcases Nat.eq_or_lt_of_le hj with fk|k5
  ·subst fk
   rw[List.take_length]
   refine gE @ao ?_
   refine cF ?_
   refine sI ?_
   refine AP.freeze 3 (el:=57) (es:=3) (rows:=ay u.xs) rfl (by simp only[go_sem,Nat.reduceAdd,Nat.reduceLeDiff,Nat.reduceSub,Int.reduceToNat,reduceCtorEq,ao];first|done|trivial|omega|(simp;done)|(simp;omega)) (by simp only[go_sem,Nat.reduceAdd,Nat.reduceLeDiff,Nat.reduceSub,Int.reduceToNat,reduceCtorEq,ao];first|done|trivial|omega|(simp;done)|(simp;omega)) ?_;simp only[go_sem,Nat.reduceAdd,Nat.reduceLeDiff,Nat.reduceSub,Int.reduceToNat,reduceCtorEq,ao]
   rw[show List.take u.xs.length (ay u.xs)=ay u.xs from List.take_of_length_le (by rw[ao];omega)]
   refine gO ?_
   refine AQ.append (hnb:=rfl) (rows:=bX (c.take k)) (es:=2) (by kernel_rfl) rfl rfl rfl (by rfl) Tryz.SI Tryz.SC (by show Option.map _ (az Tryz.prog 61)=_;rw[Tryz.TF];rfl) Tryz.L_ (by first|rfl|(simp only[aJ,bc,List.length_cons,List.length_nil];done)|(simp only[aJ,bc,List.length_cons,List.length_nil];omega)) (by simp only[aJ,bc,List.length_cons,List.length_nil];omega) (by simp only[aJ,bc,List.length_cons,List.length_nil];omega) ?_
   refine sI ?_
   refine gE @hw ?_
   refine AE.eu [2,1] rfl ?_
   refine sE (an @aJ @bc) ?_
   refine AE.round (k+1) (by omega) (by omega) (sU) ?_
   rw[bx,uG]
  ·obtain⟨v,hv,dH⟩:=dL u.xs j k5
   have jS:=wr (x:=(j:Int)+1) (by have:=cG.2.1;omega)
   have gN:=kK (l:=u.xs) (k:=j) (by omega)
   have ih:=D2 v (eh cG.2.2 hv)
   have mP:=dV hv
   have ua:=cG.2.1
   refine gE @ao ?_
   refine cT ?_
   refine gE @dH ?_
   refine⟨by rw[ao];omega,?_⟩
   refine gO ?_
   refine AP.dh 8 (Tree.node [] [0,1,2] [3] [Tree.node [0,1] [] [4] [Tree.node [0,1] [] [5] [Tree.node [] [6] [7] [Tree.node [] [] [] []]]]]) (by kernel_rfl) rfl (by kernel_rfl) (by kernel_rfl) ?_
   refine de ?_
   refine sI ?_
   refine AQ.fn (by kernel_rfl) rfl rfl rfl (ih) rfl ?_
   refine sI ?_
   refine AQ.nx rfl ?_
   refine sI ?_
   refine AQ.go (by kernel_rfl) ?_
   refine sI ?_
   refine AQ.nx rfl ?_
   refine sI ?_
   refine AQ.kill 3 ?_
   refine sI ?_
   refine AQ.append (hnb:=rfl) (rows:=ay (u.xs.take j)) (es:=2) (by kernel_rfl) rfl rfl rfl (by rfl) Tryz.J_ Tryz.J5 (by show Option.map _ (az Tryz.prog 57)=_;rw[Tryz.KY];rfl) Tryz.D7 (by first|rfl|(simp only[ao,gN,List.length_cons,List.length_nil];done)|(simp only[ao,gN,List.length_cons,List.length_nil];omega)) (by simp only[ao,gN,List.length_cons,List.length_nil];omega) (by simp only[ao,gN,List.length_cons,List.length_nil];omega) ?_
   refine sI ?_
   refine AQ.nx rfl ?_
   refine sI ?_
   refine AQ.go (by kernel_rfl) ?_
   refine sI ?_
   refine AQ.nx rfl ?_
   refine sI ?_
   refine AQ.done ?_
   refine gE @jS ?_
   refine AE.eu [4] rfl ?_
   refine sI ?_
   refine AE.round (j+1) (by omega) (by omega) (sU) ?_
   rw[mP,oV,ao,gN]
def cS {α:Type} (p:α->α->Bool):List α->List α->Bool
 |[],[]=>true
 |a::l,b::m=>p a b&&cS p l m
 |_,_=>false
theorem sL {α:Type} (p:α->α->Bool):∀(l m:List α),l.length≠m.length->cS p l m=false
 |[],[],h=>by simp at h
 |[],_::_,_=>rfl
 |_::_,[],_=>rfl
 |a::l,b::m,h=>by rw[cS,sL p l m (by simpa using h),Bool.and_false]
theorem vS {α:Type} (p:α->α->Bool) (l m:List α) (k:Nat) (t u:α) (ht:l[k]?=some t) (hu:m[k]?=some u):cS p (l.drop k) (m.drop k)=(p t u&&cS p (l.drop (k+1)) (m.drop (k+1))):=by
 obtain⟨U,e1⟩:=List.getElem?_eq_some_iff.1 ht
 obtain⟨h2,e2⟩:=List.getElem?_eq_some_iff.1 hu
 rw[List.drop_eq_getElem_cons U,List.drop_eq_getElem_cons h2,e1,e2,cS]
theorem zK:∀l m:List Tm,jJ l m=cS cW l m
 |[],[]=>by rw[jJ,cS]
 |[],_::_=>by rw[jJ,cS]<;>simp
 |_::_,[]=>by rw[jJ,cS]<;>simp
 |a::l,b::m=>by rw[jJ,cS,zK l m]
theorem E6 (t u:Tm):cW t u=((t.nm==u.nm&&t.ix==u.ix)&&cS cW t.xs u.xs):=by cases t;rw[cW,zK];rfl
theorem Jq (t v:Tm) (hs:aY t):aR Tryz.prog 39 [bD t,bD v] (Bv (cW t v)):=by
 have d_:=ga.1 hs
 have he:=E6 t v
 refine al.walk [0,1,2,3,4,5,26,31,45] [] Tryz.func39 rfl Tryz.ntmps39 (by kernel_rfl) (by rfl) rfl fun W own I0 aw lay=>?_
 refine gE @ao ?_
 refine AP.cond rfl rfl (fun h=>?_) (fun h=>?_)
 ·have:cW t v=false:=by
   rw[he]
   by_cases hl:t.xs.length=v.xs.length
   ·have:(t.nm==v.nm&&t.ix==v.ix)=false:=by
     by_cases hA:t.nm=v.nm
     ·by_cases hB:t.ix=v.ix
      ·simp[hA,hB,hl]at h
      ·simp[hB]
     ·simp[hA]
    rw[this,Bool.false_and]
   ·rw[sL cW _ _ hl,Bool.and_false]
  refine gO ?_
  exact AE.a7 rfl ⟨rfl,trivial⟩ rfl ⟨rfl,by rw[this];rfl⟩
 have hA:t.nm=v.nm:=Classical.byContradiction fun hc=>by simp[hc]at h
 have hB:t.ix=v.ix:=Classical.byContradiction fun hc=>by simp[hc]at h
 have hl:t.xs.length=v.xs.length:=Classical.byContradiction fun hc=>by simp[hA,hB]at h;omega
 have he:cW t v=cS cW t.xs v.xs:=by rw[he,hA,hB];simp
 refine gO ?_
 refine AP.loop rfl (α:=Nat) (fun k=>[(2,.im (oU t)),(3,.im (oU v)),(5,Iv k)]) (fun _=>[]) (fun k=>k<=t.xs.length/\cW t v=cS cW (t.xs.drop k) (v.xs.drop k)) (fun k=>t.xs.length-k) 0 ⟨by omega,he⟩ (sU) rfl fun k ⟨hk,hm⟩=>?_
 rcases Nat.eq_or_lt_of_le hk with aN|ag
 ·rw[aN,List.drop_length,hl,List.drop_length,cS]at hm
  refine gE @ao ?_
  refine cF ?_
  refine gO ?_
  exact AE.a7 rfl ⟨rfl,trivial⟩ rfl ⟨rfl,by rw[hm];rfl⟩
 ·obtain⟨u,hu,aX⟩:=dL t.xs k ag
  obtain⟨w,cQ,dH⟩:=dL v.xs k (by omega)
  rw[vS cW t.xs v.xs k u w hu cQ]at hm
  have hw:=wr (x:=(k:Int)+1) (by omega)
  refine gE @ao ?_
  refine cT ?_
  refine gO ?_
  refine AP.dh 12 (Tree.node [] [0,1,2,3,4,5,6,7,8,9] [10] [Tree.node [] [11] [] []]) (by kernel_rfl) rfl (by kernel_rfl) (by kernel_rfl) ?_
  refine de ?_
  refine sE (an @aX (an @dH @ao)) ?_
  refine⟨by omega,by omega,?_⟩
  refine AQ.fn (by kernel_rfl) rfl rfl rfl (Jq u w (eh d_.2.2 hu)) rfl ?_
  refine sI ?_
  refine AQ.nx rfl ?_
  refine sI ?_
  refine AQ.done ?_
  refine gO ?_
  refine AP.cond rfl rfl (fun h5=>?_) (fun h5=>?_)
  ·have h5:cW u w=false:=by simpa using h5
   rw[h5,Bool.false_and]at hm
   refine gO ?_
   exact AE.a7 rfl ⟨rfl,trivial⟩ rfl ⟨rfl,by rw[hm];rfl⟩
  ·have h5:cW u w=true:=by simpa using h5
   rw[h5,Bool.true_and]at hm
   refine gE @hw ?_
   exact AE.round (k+1) ⟨by omega,hm⟩ (by omega) (sU) rfl
termination_by SizeOf.sizeOf t
decreasing_by exact kM hu
theorem Jp (t v:Lt):dm t v=((t.ng==v.ng&&t.pd==v.pd)&&cS cW t.xs v.xs):=by rw[dm,zK]
theorem R2 (t v:Lt) (d_:kC t):aR Tryz.prog 48 [ju t,ju v] (Bv (dm t v)):=by
 have he:=Jp t v
 refine al.walk [0,1,2,3,4,5,26,31,45] [] Tryz.func48 rfl Tryz.ntmps48 (by kernel_rfl) (by rfl) rfl fun W own I0 aw lay=>?_
 refine gE @ao ?_
 refine AP.cond rfl rfl (fun h=>?_) (fun h=>?_)
 ·have:dm t v=false:=by
   rw[he]
   by_cases hl:t.xs.length=v.xs.length
   ·have:(t.ng==v.ng&&t.pd==v.pd)=false:=by
     by_cases hA:t.ng=v.ng
     ·by_cases hB:t.pd=v.pd
      ·simp[hA,hB,hl]at h
      ·simp[hB]
     ·simp[hA]
    rw[this,Bool.false_and]
   ·rw[sL cW _ _ hl,Bool.and_false]
  refine gO ?_
  exact AE.a7 rfl ⟨rfl,trivial⟩ rfl ⟨rfl,by rw[this];rfl⟩
 have hA:t.ng=v.ng:=Classical.byContradiction fun hc=>by simp[hc]at h
 have hB:t.pd=v.pd:=Classical.byContradiction fun hc=>by simp[hc]at h
 have hl:t.xs.length=v.xs.length:=Classical.byContradiction fun hc=>by simp[hA,hB]at h;omega
 have he:dm t v=cS cW t.xs v.xs:=by rw[he,hA,hB];simp
 refine gO ?_
 refine AP.loop rfl (α:=Nat) (fun k=>[(2,.im (rP t)),(3,.im (rP v)),(5,Iv k)]) (fun _=>[]) (fun k=>k<=t.xs.length/\dm t v=cS cW (t.xs.drop k) (v.xs.drop k)) (fun k=>t.xs.length-k) 0 ⟨by omega,he⟩ (sU) rfl fun k ⟨hk,hm⟩=>?_
 have mT:=d_.2.1
 rcases Nat.eq_or_lt_of_le hk with aN|ag
 ·rw[aN,List.drop_length,hl,List.drop_length,cS]at hm
  refine gE @ao ?_
  refine cF ?_
  refine gO ?_
  exact AE.a7 rfl ⟨rfl,trivial⟩ rfl ⟨rfl,by rw[hm];rfl⟩
 ·obtain⟨u,hu,aX⟩:=dL t.xs k ag
  obtain⟨w,cQ,dH⟩:=dL v.xs k (by omega)
  rw[vS cW t.xs v.xs k u w hu cQ]at hm
  have hw:=wr (x:=(k:Int)+1) (by omega)
  refine gE @ao ?_
  refine cT ?_
  refine gO ?_
  refine AP.dh 12 (Tree.node [] [0,1,2,3,4,5,6,7,8,9] [10] [Tree.node [] [11] [] []]) (by kernel_rfl) rfl (by kernel_rfl) (by kernel_rfl) ?_
  refine de ?_
  refine sE (an @aX (an @dH @ao)) ?_
  refine⟨by omega,by omega,?_⟩
  refine AQ.fn (by kernel_rfl) rfl rfl rfl (Jq u w (eh d_.2.2 hu)) rfl ?_
  refine sI ?_
  refine AQ.nx rfl ?_
  refine sI ?_
  refine AQ.done ?_
  refine gO ?_
  refine AP.cond rfl rfl (fun h5=>?_) (fun h5=>?_)
  ·have h5:cW u w=false:=by simpa using h5
   rw[h5,Bool.false_and]at hm
   refine gO ?_
   exact AE.a7 rfl ⟨rfl,trivial⟩ rfl ⟨rfl,by rw[hm];rfl⟩
  ·have h5:cW u w=true:=by simpa using h5
   rw[h5,Bool.true_and]at hm
   refine gE @hw ?_
   exact AE.round (k+1) ⟨by omega,hm⟩ (by omega) (sU) rfl
theorem R1 (c d:List Lt) (hs:dD c):aR Tryz.prog 86 [aV c,aV d] (Bv (cS dm c d)):=by
 refine al.walk [0,1,4,5,10,14,26] [] Tryz.func86 rfl Tryz.ntmps86 (by kernel_rfl) (by rfl) rfl fun W own I0 aw lay=>?_
 refine gE @aJ ?_
 have ca:=hs.1
 refine AP.cond rfl rfl (fun h=>?_) (fun h=>?_)
 ·have hl:¬c.length=d.length:=by simp at h;omega
  refine gO ?_
  exact AE.a7 rfl ⟨rfl,trivial⟩ rfl ⟨rfl,by rw[sL dm _ _ hl];rfl⟩
 have hl:c.length=d.length:=by simp at h;omega
 refine gO ?_
 refine AP.loop rfl (α:=Nat) (fun k=>[(0,aV c),(1,aV d),(5,Iv k)]) (fun _=>[]) (fun k=>k<=c.length/\cS dm c d=cS dm (c.drop k) (d.drop k)) (fun k=>c.length-k) 0 ⟨by omega,rfl⟩ (sU) rfl fun k ⟨hk,hm⟩=>?_
 rcases Nat.eq_or_lt_of_le hk with aN|ag
 ·rw[aN,List.drop_length,hl,List.drop_length,cS]at hm
  refine gE @aJ ?_
  refine cF ?_
  refine gO ?_
  exact AE.a7 rfl ⟨rfl,trivial⟩ rfl ⟨rfl,by rw[hm];rfl⟩
 ·obtain⟨u,hu,aX⟩:=jt c k ag
  obtain⟨w,cQ,dH⟩:=jt d k (by omega)
  rw[vS dm c d k u w hu cQ]at hm
  have hw:=wr (x:=(k:Int)+1) (by omega)
  refine gE @aJ ?_
  refine cT ?_
  refine gO ?_
  refine AP.dh 10 (Tree.node [] [0,1,2,3,4,5,6,7] [8] [Tree.node [] [9] [] []]) (by kernel_rfl) rfl (by kernel_rfl) (by kernel_rfl) ?_
  refine de ?_
  refine sE (an @aX (an @dH @aJ)) ?_
  refine⟨by omega,by omega,?_⟩
  refine AQ.fn (by kernel_rfl) rfl rfl rfl (R2 u w (nL hs hu)) rfl ?_
  refine sI ?_
  refine AQ.nx rfl ?_
  refine sI ?_
  refine AQ.done ?_
  refine gO ?_
  refine AP.cond rfl rfl (fun h5=>?_) (fun h5=>?_)
  ·have h5:dm u w=false:=by simpa using h5
   rw[h5,Bool.false_and]at hm
   refine gO ?_
   exact AE.a7 rfl ⟨rfl,trivial⟩ rfl ⟨rfl,by rw[hm];rfl⟩
  ·have h5:dm u w=true:=by simpa using h5
   rw[h5,Bool.true_and]at hm
   refine gE @hw ?_
   exact AE.round (k+1) ⟨by omega,hm⟩ (by omega) (sU) rfl
theorem DQ:∀c d:List Lt,cS dm c d=true↔c=d
 |[],[]=>by rw[cS];simp
 |[],_::_=>by rw[cS]<;>simp
 |_::_,[]=>by rw[cS]<;>simp
 |a::l,b::m=>by rw[cS,Bool.and_eq_true,CX,DQ l m,List.cons.injEq]
theorem Jr (c d:List Lt) (hs:dD c):aR Tryz.prog 21 [aV c,aV d] (Bv (cS dm c d)):=by
 refine al.walk [0,1,4] [] Tryz.func21 rfl Tryz.ntmps21 (by kernel_rfl) (by rfl) rfl fun W own I0 aw lay=>?_
 refine gO ?_
 refine AQ.fn (by kernel_rfl) rfl rfl rfl (D1 c hs) rfl ?_
 refine sI ?_
 refine gO ?_
 refine AQ.fn (by kernel_rfl) rfl rfl rfl (R1 c d hs) rfl ?_
 refine sI ?_
 refine gO ?_
 exact AE.a7 rfl ⟨rfl,trivial⟩ rfl ⟨rfl,rfl⟩
theorem E8 (f:FuncId) (p:Tm->Tm->Bool) (xs ys:List Tm) (hx:xs.length<=9223372036854775807) (h:∀(k:Nat) (t u:Tm),xs[k]?=some t->ys[k]?=some u->aR Tryz.prog f [bD t,bD u] (Bv (p t u))):
  aR Tryz.prog 163 [.im (.sl 3 (ay xs)),.im (.sl 3 (ay ys)),.fn f [] []] (Bv (cS p xs ys)):=by
 refine al.walk [0,1,2,6,7,8,9,14,15,16,17,18,30] [8,9] Tryz.func163 rfl Tryz.ntmps163 (by kernel_rfl) (by rfl) rfl fun W own I0 aw lay=>?_
 refine gE @ao ?_
 refine AP.cond rfl rfl (fun U=>?_) (fun U=>?_)
 ·refine gO ?_
  exact AE.a7 rfl ⟨rfl,trivial⟩ rfl ⟨rfl,by rw[sL p xs ys (by simp at U;omega)];rfl⟩
 ·have U:xs.length=ys.length:=by simp at U;omega
  refine gE @ao ?_
  refine AP.loop rfl (α:=Nat) (fun k=>[(1,.im (.sl 3 (ay ys))),(2,.fn f [] []),(15,.im (.sl 3 (ay xs))),(16,Iv xs.length),(17,Iv k)]) (fun _=>[]) (fun k=>k<=xs.length/\cS p xs ys=cS p (xs.drop k) (ys.drop k)) (fun k=>xs.length-k) 0 ⟨by omega,rfl⟩ (sU) rfl fun k ⟨hk,hm⟩=>?_
  rcases Nat.eq_or_lt_of_le hk with aN|ag
  ·refine gO ?_
   refine cF ?_
   refine gO ?_
   exact AE.a7 rfl ⟨rfl,trivial⟩ rfl ⟨rfl,by rw[hm,aN,List.drop_length,U,List.drop_length,cS];rfl⟩
  ·obtain⟨t,ht,aX⟩:=dL xs k ag
   obtain⟨u,hu,dH⟩:=dL ys k (by omega)
   have fF:=vS p xs ys k t u ht hu
   have hw:=wr (x:=(k:Int)+1) (by omega)
   refine gO ?_
   refine cT ?_
   refine gE @aX ?_
   refine⟨by rw[ao];omega,?_⟩
   refine gE @dH ?_
   refine⟨by rw[ao];omega,?_⟩
   refine gO ?_
   refine AQ.wa [] (by kernel_rfl) rfl rfl rfl rfl rfl rfl (fun k=>by exact trivial) (fun k=>rfl) (fun k=>rfl) (h k t u ht hu) ?_
   refine gO ?_
   refine AP.cond rfl rfl (fun h2=>?_) (fun h2=>?_)
   ·refine gO ?_
    refine AE.bk [1,0] rfl ⟨rfl,trivial⟩ rfl ⟨rfl,?_⟩
    rw[hm,fF,show p t u=false by simpa using h2];rfl
   ·refine gE @hw ?_
    refine AE.eu [1,0] rfl ?_
    refine sI ?_
    exact AE.round (k+1) ⟨by omega,by rw[hm,fF,show p t u=true by simpa using h2,Bool.true_and]⟩ (by omega) (sU) rfl
theorem s6 (t u:Tm) (hs:aY t):aR Tryz.prog 97 [bD t,bD u] (Bv (cW t u)):=by
 have d_:=ga.1 hs
 have hc:=E8 97 cW t.xs u.xs (by omega) fun k a b ha hb=>s6 a b (eh d_.2.2 ha)
 refine al.walk [0,1,2,3,4] [] Tryz.func97 rfl Tryz.ntmps97 (by kernel_rfl) (by rfl) rfl fun W own I0 aw lay=>?_
 refine gO ?_
 refine AQ.kd (by kernel_rfl) rfl rfl (fun h=>by first|(simp[gs,AV.g];done)|(simp[gs,AV.g,bl];done)|(simp[gs,AV.g,bl,bw]at h⊢;done)|(simp[gs,AV.g,bl,bw]at h⊢;exact h)|(simp[gs,AV.g,bl,bw]at h⊢;simp[h];done)|(simp[bw]at h;done)|(simp[gs,AV.g,bw]at h⊢;simp[h];done)|(simp[gs,AV.g,bw]at h⊢;exact h.1)|(simp[gs,AV.g];rfl)|(simp[gs,AV.g,bw]at h⊢;rfl)|(simp[gs,AV.g,bw]at h⊢;simp[h];rfl)|(simp[gs,AV.g,bw]at h⊢;simp_all)) rfl (fun _=>hc) rfl ?_
 refine gO ?_
 exact AE.a7 rfl ⟨rfl,trivial⟩ rfl ⟨rfl,by rw[E6];rfl⟩
termination_by SizeOf.sizeOf t
decreasing_by exact kM ha
theorem R3 (t u:Lt) (hs:kC t):aR Tryz.prog 89 [ju t,ju u] (Bv (dm t u)):=by
 have hx:=hs.2.1
 have hc:=E8 97 cW t.xs u.xs (by omega) fun k a b ha hb=>s6 a b (eh hs.2.2 ha)
 refine al.walk [0,1,2,3,4] [] Tryz.func89 rfl Tryz.ntmps89 (by kernel_rfl) (by rfl) rfl fun W own I0 aw lay=>?_
 refine gO ?_
 refine AQ.kd (by kernel_rfl) rfl rfl (fun h=>by first|(simp[gs,AV.g];done)|(simp[gs,AV.g,bl];done)|(simp[gs,AV.g,bl,bw]at h⊢;done)|(simp[gs,AV.g,bl,bw]at h⊢;exact h)|(simp[gs,AV.g,bl,bw]at h⊢;simp[h];done)|(simp[bw]at h;done)|(simp[gs,AV.g,bw]at h⊢;simp[h];done)|(simp[gs,AV.g,bw]at h⊢;exact h.1)|(simp[gs,AV.g];rfl)|(simp[gs,AV.g,bw]at h⊢;rfl)|(simp[gs,AV.g,bw]at h⊢;simp[h];rfl)|(simp[gs,AV.g,bw]at h⊢;simp_all)) rfl (fun _=>hc) rfl ?_
 refine gO ?_
 exact AE.a7 rfl ⟨rfl,trivial⟩ rfl ⟨rfl,by rw[Jp];rfl⟩
mutual
def iY:Tm->Int->Int
 | .mk _ _ xs,m=>bM xs m 1
def bM:List Tm->Int->Int->Int
 |[],_,n=>n
 |t::l,m,n=>if m<n then n else bM l m (n+iY t (m-n))
end
theorem J6 (t:Tm) (m:Int):iY t m=bM t.xs m 1:=by cases t;rw[iY];rfl
theorem u9:∀(l:List Tm) (m n:Int),m<n->bM l m n=n
 |[],m,n,_=>by rw[bM]
 |t::l,m,n,h=>by rw[bM,if_pos h]
theorem sf:∀(l k:List Tm) (m n:Int),bM (l++k) m n=bM k m (bM l m n)
 |[],k,m,n=>by rw[List.nil_append,bM]
 |t::l,k,m,n=>by
  rw[List.cons_append,bM,bM]
  split
  ·rename_i h;rw[u9 k m n h]
  ·exact sf l k m _
mutual
theorem yN:∀(t:Tm) (m:Int),0<=m->((wT t:Int)<=m->iY t m=wT t)/\(m<wT t->m<iY t m)/\1<=iY t m/\iY t m<=m+1
 | .mk _ _ xs,m,hm=>by
  have h:=yO xs m 1 hm (by omega) (by omega)
  rw[iY,wT]
  exact⟨fun hh=>by rw[h.1 (by omega)];omega,fun hh=>h.2.1 (by omega),h.2.2.1,h.2.2.2⟩
theorem yO:∀(l:List Tm) (m n:Int),0<=m->1<=n->n<=m+1->(n+(aF l:Int)<=m->bM l m n=n+aF l)/\(m<n+aF l->m<bM l m n)/\1<=bM l m n/\bM l m n<=m+1
 |[],m,n,hm,U,h2=>by
  rw[bM,aF]
  exact⟨fun _=>by omega,fun h=>by omega,U,h2⟩
 |t::l,m,n,hm,U,h2=>by
  rw[bM,aF]
  have hp:=KH t
  split
  ·rename_i h
   exact⟨fun hh=>by omega,fun _=>h,U,h2⟩
  ·rename_i h
   obtain⟨a1,a2,a3,a4⟩:=yN t (m-n) (by omega)
   obtain⟨b1,b2,b3,b4⟩:=yO l m (n+iY t (m-n)) hm (by omega) (by omega)
   refine⟨fun hh=>?_,fun hh=>?_,b3,b4⟩
   ·rw[b1 (by rw[a1 (by omega)];omega),a1 (by omega)];omega
   ·by_cases hc:m-n<wT t
    ·have:=a2 hc
     rw[u9 l m _ (by omega)];omega
    ·exact b2 (by rw[a1 (by omega)];omega)
end
def qg (c:List Lt) (m:Int):Int:=bM (c.flatMap (·.xs)) m c.length
theorem vf:∀l k:List Tm,aF (l++k)=aF l+aF k
 |[],k=>by rw[List.nil_append,aF];omega
 |t::l,k=>by rw[List.cons_append,aF,aF,vf l k];omega
theorem Cl:∀c:List Lt,bT c=c.length+aF (c.flatMap (·.xs))
 |[]=>by rw[List.flatMap_nil,aF];rfl
 |l::c=>by rw[iq,List.flatMap_cons,vf,List.length_cons,Cl c];omega
theorem QK (c:List Lt) (m:Int) (hm:0<=m):((bT c:Int)<=m->qg c m=bT c)/\(m<bT c->m<qg c m):=by
 rw[qg,Cl]
 by_cases h:m<c.length
 ·rw[u9 _ _ _ h]
  exact⟨fun hh=>by omega,fun _=>h⟩
 ·by_cases h0:c.length=0
  ·rw[List.length_eq_zero_iff.1 h0,List.flatMap_nil,bM,aF]
   exact⟨fun _=>rfl,fun hh=>by simpa using hh⟩
  ·obtain⟨a,b,_⟩:=yO (c.flatMap (·.xs)) m c.length hm (by omega) (by omega)
   exact⟨fun hh=>by rw[a (by omega)];omega,fun hh=>b (by omega)⟩
theorem J7 {l:List Tm} {k:Nat} {u:Tm} (h:l[k]?=some u) (m n:Int):bM (l.take (k+1)) m n=if m<bM (l.take k) m n then bM (l.take k) m n else bM (l.take k) m n+iY u (m-bM (l.take k) m n):=by
 rw[dV h,sf,bM]
 split
 ·rfl
 ·rw[bM]
theorem SE {l:List Tm} (k:Nat) (m n:Int) (h:m<bM (l.take k) m n):bM l m n=bM (l.take k) m n:=by
 conv=>lhs;rw[<-List.take_append_drop k l,sf]
 exact u9 _ _ _ h
theorem C8:∀(l:List Tm) (m n:Int),0<=m->0<=n->n<=bM l m n/\(bM l m n<=n\/bM l m n<=m+1)
 |[],m,n,_,_=>by rw[bM];omega
 |t::l,m,n,hm,h=>by
  rw[bM]
  split
  ·omega
  ·have ha:=yN t (m-n) (by omega)
   have hb:=C8 l m (n+iY t (m-n)) hm (by omega)
   omega
theorem MY {c:List Lt} {k:Nat} {u:Lt} (h:c[k]?=some u):(c.take (k+1)).flatMap (·.xs)=(c.take k).flatMap (·.xs)++u.xs:=by
 rw[dV h,List.flatMap_append];simp
theorem MX {c:List Lt} {k j:Nat} {u:Lt} (h:c[k]?=some u) (m n:Int) (hn:m<bM (u.xs.take j) m (bM ((c.take k).flatMap (·.xs)) m n)):
  bM (c.flatMap (·.xs)) m n=bM (u.xs.take j) m (bM ((c.take k).flatMap (·.xs)) m n):=by
 have e:c.flatMap (·.xs)=(c.take k).flatMap (·.xs)++(u.xs.take j++(u.xs.drop j++(c.drop (k+1)).flatMap (·.xs))):=by
  have U:c=c.take k++(u::c.drop (k+1)):=by
   obtain⟨U,h2⟩:=List.getElem?_eq_some_iff.1 h
   rw[<-h2,<-List.drop_eq_getElem_cons U,List.take_append_drop]
  conv=>lhs;rw[U]
  rw[List.flatMap_append,List.flatMap_cons,<-List.append_assoc (u.xs.take j),List.take_append_drop]
 rw[e,sf,sf]
 exact u9 _ _ _ hn
def fX {α:Type} (p:α->Bool):List α->Nat->Int
 |[],_=>-1
 |a::l,i=>if p a then i else fX p l (i+1)
theorem xO {α:Type} (p:α->Bool):∀(l:List α) (i:Nat),decide (0<=fX p l i)=l.any p
 |[],i=>by rw[fX];rfl
 |a::l,i=>by
  rw[fX,List.any_cons]
  by_cases h:p a=true
  ·rw[if_pos h,h,Bool.true_or];exact decide_eq_true (by omega)
  ·rw[if_neg h,xO p l (i+1),show p a=false by simpa using h,Bool.false_or]
theorem BN {α:Type} (p:α->Bool) {l:List α} {k:Nat} {u:α} (h:l[k]?=some u):fX p (l.drop k) k=if p u then(k:Int)else fX p (l.drop (k+1)) (k+1):=by
 obtain⟨U,h2⟩:=List.getElem?_eq_some_iff.1 h
 rw[List.drop_eq_getElem_cons U,h2,fX]
mutual
def gP:Tm->Bool
 | .mk n _ xs=>decide (100<n.length)||rM xs
def rM:List Tm->Bool
 |[]=>false
 |t::l=>gP t||rM l
end
theorem BX:∀l,rM l=l.any gP
 |[]=>rfl
 |t::l=>by rw[rM,BX l,List.any_cons]
theorem P_ (t:Tm):gP t=(decide (100<t.nm.length)||t.xs.any gP):=by cases t;rw[gP,BX];rfl
def iQ (l:Lt):Bool:=decide (100<l.pd.length)||l.xs.any gP
abbrev fa:aa:=[(0,.var 116 [.fn 67 [] [.ob 0 0]])]
abbrev Uv (c:UInt8):AV:= .im (.v (.int .u8 c.toNat))
theorem PE (c:UInt8) (b:Bool):fp c b=((decide ((97:Int)<=c.toNat)&&decide ((c.toNat:Int)<=122)||decide ((65:Int)<=c.toNat)&&decide ((c.toNat:Int)<=90))||(!b&&((decide ((48:Int)<=c.toNat)&&decide ((c.toNat:Int)<=57)||decide ((c.toNat:Int)=95))||decide ((c.toNat:Int)=39)))):=by
 have U:(c==95)=decide ((c.toNat:Int)=95):=by
  rw[Bool.eq_iff_iff,beq_iff_eq,decide_eq_true_iff,<-UInt8.toNat_inj];show c.toNat=95↔_;omega
 have h2:(c==39)=decide ((c.toNat:Int)=39):=by
  rw[Bool.eq_iff_iff,beq_iff_eq,decide_eq_true_iff,<-UInt8.toNat_inj];show c.toNat=39↔_;omega
 have e:∀a d:Nat,decide (a<=d)=decide ((a:Int)<=(d:Int)):=fun a d=>by rw[decide_eq_decide];omega
 rw[fp,U,h2,e,e,e,e,e,e];rfl
theorem G1 (c:UInt8) (b:Bool):aR Tryz.prog 148 [Uv c,Bv b] (Bv (fp c b)):=by
 refine al.walk [0,1,4,5] [] Tryz.func148 rfl Tryz.ntmps148 (by kernel_rfl) (by rfl) rfl fun W own I0 aw lay=>?_
 refine gO ?_
 exact AE.a7 rfl ⟨rfl,trivial⟩ rfl ⟨rfl,by rw[PE];rfl⟩
theorem QM {t:List UInt8} {k:Nat} (h:k<t.length) (b:Bool):jy b (t.drop k)=(fp (t.getD k 0) b&&jy false (t.drop (k+1))):=by
 rw[List.drop_eq_getElem_cons h,jy,List.getD_eq_getElem?_getD,List.getElem?_eq_getElem h];rfl
theorem QN {t:List UInt8} (h:¬(t=[]\/60<t.length)):dq t=jy true t:=by
 have U:t≠[]:=fun e=>h (.inl e)
 have h2:t.length<=60:=by have:=fun e=>h (.inr e);omega
 rw[dq,decide_eq_true U,decide_eq_true h2];rfl
theorem QO {t:List UInt8} (h:t=[]\/60<t.length):dq t=false:=by
 rw[dq]
 rcases h with rfl|h
 ·rfl
 ·rw[show decide (t.length<=60)=false from decide_eq_false (by omega),Bool.and_false];rfl
theorem Ha (t:List UInt8) (ht:t.length<=9223372036854775807):aR Tryz.prog 72 [Sv t] (Bv (dq t)):=by
 refine al.walk [0,2,3,10,12,13,14,22] [] Tryz.func72 rfl Tryz.ntmps72 (by kernel_rfl) (by rfl) rfl fun W own I0 aw lay=>?_
 refine gO ?_
 refine AP.cond rfl rfl (fun h=>?_) (fun h=>?_)
 ·have h:t=[]\/60<t.length:=by
   simp at h;rcases h with h|h
   ·exact .inl h
   ·exact .inr (by omega)
  refine gO ?_
  exact AE.a7 rfl ⟨rfl,trivial⟩ rfl ⟨rfl,by rw[QO h];rfl⟩
 ·have h:¬(t=[]\/60<t.length):=by
   intro h';simp at h;rcases h' with h'|h'
   ·exact h.1 h'
   ·omega
  have gH:=QN h
  refine gO ?_
  refine AP.loop rfl (α:=Nat) (fun k=>[(0,Sv t),(12,Iv t.length),(13,Iv k)]) (fun _=>[]) (fun k=>k<=t.length/\dq t=jy (decide (k=0)) (t.drop k)) (fun k=>t.length-k) 0 ⟨by omega,gH⟩ (sU) rfl fun k ⟨hk,hm⟩=>?_
  rcases Nat.eq_or_lt_of_le hk with aN|ag
  ·refine gO ?_
   refine cF ?_
   refine gO ?_
   exact AE.a7 rfl ⟨rfl,trivial⟩ rfl ⟨rfl,by rw[hm,aN,List.drop_length,jy];rfl⟩
  ·have hw:=wr (x:=(k:Int)+1) (by omega)
   have fF:=QM ag (decide (k=0))
   refine gO ?_
   refine cT ?_
   refine gO ?_
   refine AQ.fn (by kernel_rfl) rfl rfl rfl (G1 (t.getD k 0) (decide ((k:Int)=0))) rfl ?_
   refine sI ?_
   refine gO ?_
   have hd:decide (k=0)=decide ((k:Int)=0):=by rw[decide_eq_decide];omega
   rw[hd]at fF
   refine AP.cond rfl rfl (fun U=>?_) (fun U=>?_)
   ·refine gO ?_
    exact AE.a7 rfl ⟨rfl,trivial⟩ rfl ⟨rfl,by rw[hm,hd,fF,show fp (t.getD k 0) (decide ((k:Int)=0))=false by simpa using U];rfl⟩
   ·refine gE @hw ?_
    refine AE.round (k+1) ⟨by omega,?_⟩ (by omega) (sU) rfl
    rw[hm,hd,fF,show fp (t.getD k 0) (decide ((k:Int)=0))=true by simpa using U];rfl
theorem Fu (t:Tm) (hs:aY t):aR Tryz.prog 74 [bD t] (Iv (eo 2 3 t)):=by
 have d_:=ga.1 hs
 refine al.walk [0,1,2,3,10,18,19] [] Tryz.func74 rfl Tryz.ntmps74 (by kernel_rfl) (by rfl) rfl fun W own I0 aw lay=>?_
 refine gO ?_
 refine AP.cond rfl rfl (fun h=>?_) (fun h=>?_)
 ·have hn:t.nm=[]:=by simpa using h
  refine gE @ao ?_
  refine AP.cond rfl rfl (fun U=>?_) (fun U=>?_)
  ·refine gO ?_
   exact AE.a7 rfl ⟨rfl,trivial⟩ rfl ⟨rfl,by rw[eo,if_pos hn,if_pos (show t.xs≠[] by intro e;rw[e]at U;simp at U)];rfl⟩
  ·have hx:¬t.xs≠[]:=by simpa using U
   refine gO ?_
   refine AP.cond rfl rfl (fun h2=>?_) (fun h2=>?_)
   ·refine gO ?_
    exact AE.a7 rfl ⟨rfl,trivial⟩ rfl ⟨rfl,by rw[eo,if_pos hn,if_neg hx,if_pos (by simpa using h2)];rfl⟩
   ·refine gO ?_
    exact AE.a7 rfl ⟨rfl,trivial⟩ rfl ⟨rfl,by rw[eo,if_pos hn,if_neg hx,if_neg (by simpa using h2)];rfl⟩
 ·have hn:¬t.nm=[]:=by simpa using h
  refine gO ?_
  refine AQ.fn (by kernel_rfl) rfl rfl rfl (Ha t.nm (by omega)) rfl ?_
  refine sI ?_
  refine gO ?_
  refine AP.cond rfl rfl (fun U=>?_) (fun U=>?_)
  ·refine gO ?_
   exact AE.a7 rfl ⟨rfl,trivial⟩ rfl ⟨rfl,by rw[eo,if_neg hn,if_pos (by simpa using U)];rfl⟩
  ·refine gO ?_
   exact AE.a7 rfl ⟨rfl,trivial⟩ rfl ⟨rfl,by rw[eo,if_neg hn,if_neg (by simpa using U)];rfl⟩
mutual
def iX:Tm->Int->Int×Int->Int×Int
 | .mk _ _ xs,k,s=>dc xs (k+1) (s.1+1,max s.2 k)
def dc:List Tm->Int->Int×Int->Int×Int
 |[],_,s=>s
 |t::l,k,s=>if 4000<s.1 then s else dc l k (iX t k s)
end
theorem JT (t:Tm) (k:Int) (s:Int×Int):iX t k s=dc t.xs (k+1) (s.1+1,max s.2 k):=by cases t;rw[iX];rfl
theorem JV:∀(l:List Tm) (k:Int) (s:Int×Int),4000<s.1->dc l k s=s
 |[],_,_,_=>by rw[dc]
 |t::l,k,s,h=>by rw[dc,if_pos h]
theorem C6:∀(l m:List Tm) (k:Int) (s:Int×Int),dc (l++m) k s=dc m k (dc l k s)
 |[],m,k,s=>by rw[List.nil_append,dc]
 |t::l,m,k,s=>by
  rw[List.cons_append,dc,dc]
  split
  ·rename_i h;rw[JV m k s h]
  ·exact C6 l m k _
mutual
theorem u5:∀(t:Tm) (k n d:Int),n+wT t<=4000->iX t k (n,d)=(n+wT t,max d (k-1+jH t))
 | .mk _ _ xs,k,n,d,h=>by
  rw[wT]at h
  rw[iX,wT,jH]
  simp only
  rw[JU xs (k+1) (n+1) (max d k) (by omega) (by omega),Prod.mk.injEq]
  omega
theorem JU:∀(l:List Tm) (k n d:Int),k-1<=d->n+aF l<=4000->dc l k (n,d)=(n+aF l,max d (k-1+fB l))
 |[],k,n,d,hd,_=>by rw[dc,aF,fB,Prod.mk.injEq];omega
 |t::l,k,n,d,hd,h=>by
  rw[aF]at h
  rw[dc,if_neg (by simp only;omega),u5 t k n d (by omega),JU l k _ _ (by omega) (by omega),aF,fB,Prod.mk.injEq]
  omega
end
mutual
theorem JS:∀(t:Tm) (k n d:Int),n+1<=(iX t k (n,d)).1/\(iX t k (n,d)).1<=max (n+1) 4001/\(4000<n+wT t->4000<(iX t k (n,d)).1)
 | .mk _ _ xs,k,n,d=>by
  have h:=C5 xs (k+1) (n+1) (max d k)
  rw[iX,wT]
  simp only
  omega
theorem C5:∀(l:List Tm) (k n d:Int),n<=(dc l k (n,d)).1/\(dc l k (n,d)).1<=max n 4001/\(4000<n+aF l->4000<(dc l k (n,d)).1)
 |[],k,n,d=>by rw[dc,aF];simp only;omega
 |t::l,k,n,d=>by
  rw[dc]
  by_cases h:4000<(n,d).1
  ·rw[if_pos h];simp only at h⊢;omega
  ·rw[if_neg h,aF]
   simp only at h
   have U:=JS t k n d
   obtain⟨n1,d1,he⟩:∃n1 d1,iX t k (n,d)=(n1,d1):=⟨_,_,rfl⟩
   have h2:=C5 l k n1 d1
   rw[he]
   have h3:n+wT t<=4000->n1=n+wT t:=fun hh=>by
    have:=u5 t k n d hh
    rw[he,Prod.mk.injEq]at this;exact this.1
   rw[he]at U
   simp only at U
   by_cases hc:n+wT t<=4000
   ·have:=h3 hc;omega
   ·omega
end
theorem Sn {l:List Tm} {k:Nat} {u:Tm} (h:l[k]?=some u) (m:Int) (s:Int×Int):dc (l.take (k+1)) m s=if 4000<(dc (l.take k) m s).1 then dc (l.take k) m s else iX u m (dc (l.take k) m s):=by
 rw[dV h,C6,dc]
 split
 ·rfl
 ·rw[dc]
theorem Sm {l:List Tm} (k:Nat) (m:Int) (s:Int×Int) (h:4000<(dc (l.take k) m s).1):dc l m s=dc (l.take k) m s:=by
 conv=>lhs;rw[<-List.take_append_drop k l,C6]
 exact JV _ _ _ h
abbrev nw (s:Int×Int):aa:=[(0,.var 164 [Iv s.1,Iv s.2])]
theorem JL (t:Tm) (k n d:Int) (hs:aY t) (hn:0<=n/\n<=1000000000000) (hk:0<=k/\k<=n+1):
  al Tryz.prog 147 [.ob 0 0,bD t,Iv k] (nw (n,d)) (fun r H'=>r= .aK []/\H'=nw (iX t k (n,d))):=by
 have d_:=ga.1 hs
 have hx:=d_.2.1
 have Bw:=wr (x:=n+1) (by omega)
 have ug:=wr (x:=k+1) (by omega)
 refine al.walk [0,1,2,4,7,25,26,27,28,35] [7] Tryz.func147 rfl Tryz.ntmps147 (by kernel_rfl) (by rfl) rfl fun W own I0 aw lay=>?_
 refine gE (an @Bw @ao) ?_
 refine AP.loop rfl (α:=Nat) (fun j=>[(0,.ob 0 0),(2,Iv k),(25,.im (.sl 3 (ay t.xs))),(26,Iv t.xs.length),(27,Iv j)]) (fun j=>nw (dc (t.xs.take j) (k+1) (n+1,max d k))) (fun j=>j<=t.xs.length) (fun j=>t.xs.length-j) 0 (by omega) (sU) (by rw[List.take_zero,dc,show max d k=if d<k then k else d from by split<;>omega];rfl) fun j hj=>?_
 have hb:=C5 (t.xs.take j) (k+1) (n+1) (max d k)
 rcases Nat.eq_or_lt_of_le hj with fk|ag
 ·subst fk
  rw[List.take_length]
  refine gO ?_
  refine cF ?_
  refine gO ?_
  exact AE.gZ rfl trivial ⟨rfl,by rw[JT]⟩
 ·obtain⟨u,hu,aX⟩:=dL t.xs j ag
  have hw:=wr (x:=(j:Int)+1) (by omega)
  have bx:=Sn hu (k+1) (n+1,max d k)
  have Bc:=fun h=>Sm (l:=t.xs) j (k+1) (n+1,max d k) h
  obtain⟨n1,d1,he⟩:∃n1 d1,dc (t.xs.take j) (k+1) (n+1,max d k)=(n1,d1):=⟨_,_,rfl⟩
  rw[he]at hb bx Bc⊢
  simp only at hb bx Bc
  simp only[go_sem,Nat.reduceAdd,Nat.reduceLeDiff,Nat.reduceSub,Int.reduceToNat,reduceCtorEq,nw]
  refine gO ?_
  refine cT ?_
  refine gE @aX ?_
  refine⟨by rw[ao];omega,?_⟩
  refine gO ?_
  refine AP.cond rfl rfl (fun U=>?_) (fun U=>?_)
  ·have U:4000<n1:=by simpa using U
   refine gO ?_
   refine AE.eu [1] rfl ?_
   refine sI ?_
   exact AE.ret rfl ⟨⟩ ⟨rfl,by rw[JT,Bc U]⟩
  ·have U:¬4000<n1:=by simpa using U
   rw[if_neg U]at bx
   refine gE @ug ?_
   refine AQ.bE [(0,0)] (by kernel_rfl) rfl rfl rfl rfl rfl rfl (by exact⟨rfl,trivial⟩) rfl (JL u (k+1) n1 d1 (eh d_.2.2 hu) (by omega) (by omega)) ?_
   rintro r H' ⟨rfl,rfl⟩
   refine⟨rfl,?_⟩
   simp only[go_sem,Nat.reduceAdd,Nat.reduceLeDiff,Nat.reduceSub,Int.reduceToNat,reduceCtorEq,nw,cK,dU,bZ,eN]
   refine gE @hw ?_
   refine AE.eu [1] rfl ?_
   refine sI ?_
   exact AE.round (j+1) (by omega) (by omega) (sU) (by rw[bx])
termination_by SizeOf.sizeOf t
decreasing_by exact kM hu
def dS:List Tm->Int×Int->Int×Int
 |[],s=>s
 |t::l,s=>dS l (iX t 1 s)
def eI:List Lt->Int×Int->Int×Int
 |[],s=>s
 |l::c,s=>eI c (dS l.xs (s.1+1,s.2))
theorem HF:∀(l m:List Tm) (s:Int×Int),dS (l++m) s=dS m (dS l s)
 |[],m,s=>rfl
 |t::l,m,s=>by rw[List.cons_append,dS,dS,HF l m]
theorem HB:∀(c e:List Lt) (s:Int×Int),eI (c++e) s=eI e (eI c s)
 |[],e,s=>rfl
 |l::c,e,s=>by rw[List.cons_append,eI,eI,HB c e]
theorem HE:∀(l:List Tm) (n d:Int),0<=d->n+aF l<=4000->dS l (n,d)=(n+aF l,max d (fB l))
 |[],n,d,h,_=>by rw[dS,aF,fB,Prod.mk.injEq];omega
 |t::l,n,d,hd,h=>by
  rw[aF]at h
  rw[dS,u5 t 1 n d (by omega),HE l _ _ (by omega) (by omega),aF,fB,Prod.mk.injEq];omega
theorem x7:∀(l:List Tm) (n d:Int),n<=(dS l (n,d)).1/\(dS l (n,d)).1<=max n 4000+l.length/\(4000<n+aF l->4000<(dS l (n,d)).1)
 |[],n,d=>by rw[dS,aF];simp only[List.length_nil];omega
 |t::l,n,d=>by
  have U:=JS t 1 n d
  obtain⟨n1,d1,he⟩:∃n1 d1,iX t 1 (n,d)=(n1,d1):=⟨_,_,rfl⟩
  have h2:=x7 l n1 d1
  have h3:n+wT t<=4000->n1=n+wT t:=fun hh=>by
   have:=u5 t 1 n d hh
   rw[he,Prod.mk.injEq]at this;exact this.1
  rw[he]at U
  simp only at U
  rw[dS,he,aF,List.length_cons]
  by_cases hc:n+wT t<=4000
  ·have:=h3 hc;omega
  ·omega
theorem HA:∀(c:List Lt) (n d:Int),0<=d->n+bT c<=4000->eI c (n,d)=(n+bT c,max d (dY c))
 |[],n,d,h,_=>by rw[eI,dY,Prod.mk.injEq];simp only[bT,List.map_nil,List.sum_nil];omega
 |l::c,n,d,hd,h=>by
  rw[iq]at h
  rw[eI]
  simp only
  rw[HE l.xs (n+1) d hd (by omega),HA c _ _ (by omega) (by omega),iq,dY,Prod.mk.injEq];omega
theorem HD:∀(l:List Tm) (n d:Int),n+aF l<=4000->(dS l (n,d)).1=n+aF l
 |[],n,d,_=>by rw[dS,aF];simp
 |t::l,n,d,h=>by
  rw[aF]at h
  rw[dS,u5 t 1 n d (by omega),HD l _ _ (by omega),aF];omega
theorem B6:∀(c:List Lt) (n d:Int),n<=(eI c (n,d)).1/\(4000<n+bT c->4000<(eI c (n,d)).1)
 |[],n,d=>by rw[eI];simp only[bT,List.map_nil,List.sum_nil];omega
 |l::c,n,d=>by
  have U:=x7 l.xs (n+1) d
  have h3:=HD l.xs (n+1) d
  obtain⟨n1,d1,he⟩:∃n1 d1,dS l.xs (n+1,d)=(n1,d1):=⟨_,_,rfl⟩
  have h2:=B6 c n1 d1
  rw[he]at U h3
  simp only at U h3
  rw[eI]
  simp only
  rw[he,iq]
  by_cases hc:n+1+aF l.xs<=4000
  ·have:=h3 hc;omega
  ·omega
theorem HC:∀(c:List Lt) (n d:Int),(∀l∈c,l.xs.length<=1000000000)->(eI c (n,d)).1<=max n 4000+c.length*1000000001
 |[],n,d,_=>by rw[eI];simp only[List.length_nil];omega
 |l::c,n,d,h=>by
  have U:=x7 l.xs (n+1) d
  obtain⟨n1,d1,he⟩:∃n1 d1,dS l.xs (n+1,d)=(n1,d1):=⟨_,_,rfl⟩
  have h2:=HC c n1 d1 fun m hm=>h m (by simp[hm])
  have h3:=h l (by simp)
  rw[he]at U
  simp only at U
  rw[eI]
  simp only
  rw[he,List.length_cons]
  omega
def k_ (c:List Lt):Int:=if 40<c.length then 4 else if 4000<bT c then 4 else if 100<dY c then 9 else 0
theorem Qa (c:List Lt) (h:¬40<c.length):k_ c=if 4000<(eI c (0,0)).1 then 4 else if 100<(eI c (0,0)).2 then 9 else 0:=by
 rw[k_,if_neg h]
 by_cases hc:4000<bT c
 ·rw[if_pos hc,if_pos ((B6 c 0 0).2 (by omega))]
 ·have:=HA c 0 0 (by omega) (by omega)
  rw[if_neg hc,this]
  simp only
  by_cases hd:100<dY c
  ·rw[if_pos hd,if_neg (show¬(4000:Int)<0+(bT c:Int) by omega),if_pos (show(100:Int)<max 0 (dY c:Int) by omega)]
  ·rw[if_neg hd,if_neg (show¬(4000:Int)<0+(bT c:Int) by omega),if_neg (show¬(100:Int)<max 0 (dY c:Int) by omega)]
theorem Qj {l:List Tm} {k:Nat} {u:Tm} (h:l[k]?=some u) (s:Int×Int):dS (l.take (k+1)) s=iX u 1 (dS (l.take k) s):=by
 rw[dV h,HF];rfl
theorem Qi {c:List Lt} {k:Nat} {u:Lt} (h:c[k]?=some u) (s:Int×Int):eI (c.take (k+1)) s=dS u.xs ((eI (c.take k) s).1+1,(eI (c.take k) s).2):=by
 rw[dV h,HB];rfl
theorem Qc (c:List Lt) (hs:dD c):aR Tryz.prog 71 [aV c] (Iv (k_ c)):=by
 refine al.walk [0,2,3,5,7,10,13,14,15,16,27,28,29,30,42,47] [5,7,12] Tryz.func71 rfl Tryz.ntmps71 (by kernel_rfl) (by rfl) rfl fun W own I0 aw lay=>?_
 refine gE @aJ ?_
 refine AP.cond rfl rfl (fun h=>?_) (fun h=>?_)
 ·have h:40<c.length:=by simp at h;omega
  refine gO ?_
  exact AE.a7 rfl ⟨rfl,trivial⟩ rfl ⟨rfl,by rw[k_,if_pos h];rfl⟩
 have h:¬40<c.length:=by simp at h;omega
 have eT:=Qa c h
 refine gE @aJ ?_
 refine AP.loop rfl (α:=Nat) (fun k=>[(3,.ob 0 0),(13,aV c),(14,Iv c.length),(15,Iv k)]) (fun k=>nw (eI (c.take k) (0,0))) (fun k=>k<=c.length) (fun k=>c.length-k) 0 (by omega) (sU) (by rw[List.take_zero,eI];rfl) fun k hk=>?_
 rcases Nat.eq_or_lt_of_le hk with aN|ag
 ·subst aN
  rw[List.take_length]
  refine gO ?_
  refine cF ?_
  obtain⟨n1,d1,he⟩:∃n1 d1,eI c (0,0)=(n1,d1):=⟨_,_,rfl⟩
  rw[he]at eT⊢
  simp only at eT
  simp only[go_sem,Nat.reduceAdd,Nat.reduceLeDiff,Nat.reduceSub,Int.reduceToNat,reduceCtorEq,nw]
  refine gO ?_
  refine AP.cond rfl rfl (fun U=>?_) (fun U=>?_)
  ·rw[if_pos (by simpa using U)]at eT
   refine gO ?_
   exact AE.bk [0] rfl ⟨rfl,trivial⟩ rfl ⟨rfl,by rw[eT];rfl⟩
  ·rw[if_neg (by simpa using U)]at eT
   refine gO ?_
   refine AP.cond rfl rfl (fun h2=>?_) (fun h2=>?_)
   ·rw[if_pos (by simpa using h2)]at eT
    refine gO ?_
    exact AE.bk [0] rfl ⟨rfl,trivial⟩ rfl ⟨rfl,by rw[eT];rfl⟩
   ·rw[if_neg (by simpa using h2)]at eT
    refine gO ?_
    exact AE.bk [0] rfl ⟨rfl,trivial⟩ rfl ⟨rfl,by rw[eT];rfl⟩
 ·obtain⟨u,hu,aX⟩:=jt c k ag
  have hw:=wr (x:=(k:Int)+1) (by omega)
  have cG:=nL hs hu
  have ua:=cG.2.1
  have e8:=(B6 (c.take k) 0 0).1
  have GF:=HC (c.take k) 0 0 fun l hl=>(hs.2 l (List.mem_of_mem_take hl)).2.1
  have Pa:(c.take k).length<=40:=by rw[List.length_take];omega
  have bx:=Qi hu (0,0)
  obtain⟨n1,d1,he⟩:∃n1 d1,eI (c.take k) (0,0)=(n1,d1):=⟨_,_,rfl⟩
  rw[he]at e8 GF bx⊢
  simp only at e8 GF bx
  have cQ:=wr (x:=n1+1) (by omega)
  simp only[go_sem,Nat.reduceAdd,Nat.reduceLeDiff,Nat.reduceSub,Int.reduceToNat,reduceCtorEq,nw]
  refine gO ?_
  refine cT ?_
  refine gE @aX ?_
  refine⟨by rw[aJ];omega,?_⟩
  refine gE (an @cQ @ao) ?_
  refine AP.loop rfl (α:=Nat) (fun j=>[(3,.ob 0 0),(13,aV c),(14,Iv c.length),(15,Iv k),(27,.im (.sl 3 (ay u.xs))),(28,Iv u.xs.length),(29,Iv j)]) (fun j=>[(1,.var 119 [Bv u.ng,Sv u.pd,.im (.sl 3 (ay u.xs))]),(0,.var 164 [Iv (dS (u.xs.take j) (n1+1,d1)).1,Iv (dS (u.xs.take j) (n1+1,d1)).2])]) (fun j=>j<=u.xs.length) (fun j=>u.xs.length-j) 0 (by omega) (sU) (by rw[List.take_zero,dS];rfl) fun j hj=>?_
  rcases Nat.eq_or_lt_of_le hj with fk|k5
  ·subst fk
   rw[List.take_length]
   refine gO ?_
   refine cF ?_
   refine gE @hw ?_
   refine AE.eu [1] rfl ?_
   refine sI ?_
   exact AE.round (k+1) (by omega) (by omega) (sU) (by rw[bx])
  ·obtain⟨v,hv,dH⟩:=dL u.xs j k5
   have jS:=wr (x:=(j:Int)+1) (by omega)
   have mP:=Qj hv (n1+1,d1)
   have kf:=x7 (u.xs.take j) (n1+1) d1
   have Vo:(u.xs.take j).length<=1000000000:=by rw[List.length_take];omega
   obtain⟨n2,d2,wS⟩:∃n2 d2,dS (u.xs.take j) (n1+1,d1)=(n2,d2):=⟨_,_,rfl⟩
   rw[wS]at kf mP⊢
   simp only at kf
   refine sI ?_
   refine gO ?_
   refine cT ?_
   refine gE @dH ?_
   refine⟨by rw[ao];omega,?_⟩
   refine gO ?_
   refine AQ.bE [(0,0)] (by kernel_rfl) rfl rfl rfl rfl rfl rfl (by exact⟨rfl,trivial⟩) rfl (JL v 1 n2 d2 (eh cG.2.2 hv) (by omega) (by omega)) ?_
   rintro r H' ⟨rfl,rfl⟩
   refine⟨rfl,?_⟩
   simp only[go_sem,Nat.reduceAdd,Nat.reduceLeDiff,Nat.reduceSub,Int.reduceToNat,reduceCtorEq,nw,cK,dU,bZ,eN]
   refine gE @jS ?_
   refine AE.eu [2] rfl ?_
   refine sI ?_
   exact AE.round (j+1) (by omega) (by omega) (sU) (by rw[mP])
theorem M4 {l:List Tm} {k:Nat} {u:Tm} (h:l[k]?=some u):er 2 3 (l.drop k)=if mB 2 3 u≠0 then mB 2 3 u else er 2 3 (l.drop (k+1)):=by
 obtain⟨U,h2⟩:=List.getElem?_eq_some_iff.1 h
 rw[List.drop_eq_getElem_cons U,h2,er]
theorem drop_cons {α:Type} {l:List α} {k:Nat} {u:α} (h:l[k]?=some u):l.drop k=u::l.drop (k+1):=by
 obtain⟨U,h2⟩:=List.getElem?_eq_some_iff.1 h
 rw[List.drop_eq_getElem_cons U,h2]
theorem M0 (l:Lt) (c:List Lt):kY 2 3 (l::c)=if(l.pd≠[61]/\dq l.pd=false)\/(l.pd=[61]/\l.xs.length≠2)then 2 else if er 2 3 l.xs≠0 then er 2 3 l.xs else kY 2 3 c:=by
 rw[kY,qV]
 by_cases h:(l.pd≠[61]/\dq l.pd=false)\/(l.pd=[61]/\l.xs.length≠2)
 ·rw[if_pos h,if_pos h,if_pos (by decide)]
 ·rw[if_neg h,if_neg h]
def jB (t:Tm):List Lt:=[⟨false,[80],[t]⟩]
theorem R8 {t:Tm} (h:aY t):dD (jB t):=by
 refine⟨by simp[jB],fun l hl=>?_⟩
 rw[jB,List.mem_singleton]at hl
 subst hl
 exact⟨by simp,by simp,by rw[b_,b_];exact⟨h,trivial⟩⟩
abbrev LW (b:Int×Tm):List IV:=[Ii b.1,Si b.2.nm,Ii b.2.ix,.sl 3 (ay b.2.xs)]
def jG (l:Bd):List (List IV):=l.map LW
abbrev qD (l:Bd):AV:= .im (.sl 4 (jG l))
theorem mn (l:Bd):(jG l).length=l.length:=by rw[jG,List.length_map]

mutual
def yG (l:Bd):Tm->Int
 | .mk n i xs=>if n=[]then(match iR l i with
   |some x=>min (iY x 5000) 5000
   |none=>1)else Jx l xs 1
def Jx (l:Bd):List Tm->Int->Int
 |[],a=>a
 |t::k,a=>Jx l k (min (a+yG l t) 5000)
end

def Lw (l:Bd):List Tm->Int->Int
 |[],n=>n
 |t::k,n=>if 4000<n+yG l t then n+yG l t else Lw l k (n+yG l t)
theorem s8 {c:List Lt} {k:Nat} {u:Lt} (h:c[k]?=some u) (j:Nat):∃r,c.flatMap (·.xs)=((c.take k).flatMap (·.xs)++u.xs.take j)++r:=by
 refine⟨u.xs.drop j++(c.drop (k+1)).flatMap (·.xs),?_⟩
 have U:c=c.take k++(u::c.drop (k+1)):=by rw[<-drop_cons h,List.take_append_drop]
 conv=>lhs;rw[U]
 rw[List.flatMap_append,List.flatMap_cons,List.append_assoc,<-List.append_assoc (u.xs.take j),List.take_append_drop]

theorem Mk (x:AV) (w:World) (φ:ak) (I:Nat->Prop) (v:Value) (h:AV.den w φ I (.aK [gp,x]) v):AV.den w φ I (.aK [aV [],x]) v:=by
 rw[AV.den]at h⊢
 obtain⟨us,hu,rfl⟩:=h
 refine⟨us,?_,rfl⟩
 rw[AV.ab]at hu⊢
 obtain⟨a,b,e,U,h2⟩:=hu
 exact⟨a,b,e,H9 3 w φ I a U,h2⟩
structure Yields (P:Program) (nb l n:Nat) (args:Nat->List AV) (Hs:Nat->aa) (m:Nat) (Hx:aa):Prop where
 go:∀k,k<m->k<n->fx P nb l (args k) (Hs k) (fun r H'=>r=Bv true/\H'=Hs (k+1))
 stop:m<n->fx P nb l (args m) (Hs m) (fun r H'=>r=Bv false/\H'=Hx)
 low:∀k k',dT nb (Hs k) (Hs k')
 HI:∀k,dT nb (Hs k) Hx
def KS (Hs:Nat->aa) (m:Nat) (Hx:aa) (k:Nat) (r:AV) (H':aa):Prop:=
 (k<=m/\r=Bv true/\H'=Hs k)\/(m<k/\r=Bv false/\H'=Hx)
def CP (Hs:Nat->aa) (m:Nat) (Hx:aa) (n:Nat) (_:AV) (H':aa):Prop:=(n<=m/\H'=Hs n)\/(m<n/\H'=Hx)
def yR (xs:List Tm) (k:Nat):List AV:=match xs[k]? with
 |some t=>[bD t]
 |none=>[]
theorem u_ {xs:List Tm} {k:Nat} {t:Tm} (h:xs[k]?=some t):yR xs k=[bD t]:=by rw[yR,h]
theorem KT {nb l m:Nat} {Hs:Nat->aa} {Hx:aa} {args:Nat->List AV} {n:Nat} (hy:Yields Tryz.prog nb l n args Hs m Hx) (k q:Nat) (r:AV) (H':aa) (h:KS Hs m Hx q r H'):dT nb (Hs k) H':=by
 rcases h with⟨_,_,rfl⟩|⟨_,_,rfl⟩
 ·exact hy.low k q
 ·exact hy.HI k
abbrev oZ (l b:Nat):Ob:= .var 219 [.fn 195 [] [.im (.pt [.v (.func (.yield l) #[] #[])]),.ob b 0]]
theorem CY:∀l m:List Tm,cf (l++m)=cf l++cf m
 |[],m=>by rw[cf];rfl
 |t::l,m=>by rw[List.cons_append,cf,cf,CY l m,List.append_assoc]
theorem R5 {l:List Tm} {j:Nat} {u:Tm} (h:l[j]?=some u):cf l=cf (l.take j)++(bL u++cf (l.drop (j+1))):=by
 conv=>lhs;rw[<-List.take_append_drop j l,drop_cons h]
 rw[CY,cf]
theorem R6 {l:List Tm} {j:Nat} {u:Tm} (h:l[j]?=some u):cf (l.take (j+1))=cf (l.take j)++bL u:=by
 rw[dV h,CY,cf,cf,List.append_nil]
theorem KM {nb l m b M:Nat} {Hs:Nat->aa} {Hx:aa} {xs:List Tm} (hy:Yields Tryz.prog nb l xs.length (yR xs) Hs m Hx) (hb:∀k,lk (Hs k) b=some (oZ l b)) (e6:b<nb) (hM:nb<=M) (cn:∀k,cH (Hs k)=M) (eA:∀k r,g_ M r (Hs k)=Hs k) (t:Tm) (ht:aY t) (k:Nat) (hk:k<=m) (hx:∀j,j<(bL t).length->xs[k+j]?=(bL t)[j]?):
  gX Tryz.prog nb 195 [bD t,.im (.pt [.v (.func (.yield l) #[] #[])]),.ob b 0] (Hs k) (KS Hs m Hx (k+(bL t).length)):=by
 have xm:=ga.1 ht
 have hit:xs[k]?=some t:=by
  have:=hx 0 (by rw[uZ];simp)
  rw[Nat.add_zero]at this
  rw[this,uZ];rfl
 have w8:k<xs.length:=(List.getElem?_eq_some_iff.1 hit).1
 have oh:∀j,j<(cf t.xs).length->xs[k+1+j]?=(cf t.xs)[j]?:=fun j hj=>by
  rw[show k+1+j=k+(j+1) by omega,hx (j+1) (by rw[uZ];simpa using hj),uZ];rfl
 have hlen:k+(bL t).length=k+1+(cf t.xs).length:=by rw[uZ,List.length_cons];omega
 rw[hlen]
 have e7:Nat.ble nb b=false:=by cases hq:Nat.ble nb b with|false=>rfl|true=>exact absurd (Nat.le_of_ble_eq_true hq) (by omega)
 have FN:Nat.ble nb M=true:=Nat.ble_eq_true_of_le hM
 have wJ:Nat.beq M M=true:=by simp
 have Ad:Nat.beq M b=false:=by cases hq:Nat.beq M b with|false=>rfl|true=>exact absurd (Nat.eq_of_beq_eq_true hq) (by omega)
 have NF:Nat.beq b M=false:=by cases hq:Nat.beq b M with|false=>rfl|true=>exact absurd (Nat.eq_of_beq_eq_true hq) (by omega)
 refine gX.walk [0,1,2,3,4,6,10,12,13,14,15,21] [6] Tryz.func195 rfl Tryz.ntmps195 (by kernel_rfl) (by rfl) fun W own I0 aw lay=>?_
 refine gO ?_
 have OC:=fun k q r H' h=>KT hy k q r H' h
 by_cases hm:k<m
 ·have um:=hy.go k hm w8
  rw[u_ hit]at um
  refine AQ.vl nb (Nat.ble_eq_true_of_le (Nat.le_refl _)) (by kernel_rfl) rfl ⟨rfl,rfl⟩ rfl rfl um (fun r H' h=>by rw[h.2];exact hy.low _ _) fun r H' h=>?_
  obtain⟨rfl,rfl⟩:=h
  refine sE @e7 ?_
  refine AQ.go (by kernel_rfl) ?_
  refine gE (an @e7 @ao) ?_
  refine AP.loop rfl (α:=Nat) (fun j=>[(1,.im (.pt [.v (.func (.yield l) #[] #[])])),(2,.ob b 0),(12,.im (.sl 3 (ay t.xs))),(13,Iv t.xs.length),(14,Iv j)]) (fun j=>Hs (k+1+(cf (t.xs.take j)).length)) (fun j=>j<=t.xs.length/\k+1+(cf (t.xs.take j)).length<=m) (fun j=>t.xs.length-j) 0 ⟨by omega,by rw[List.take_zero,cf];exact hm⟩ (sU) (by rw[List.take_zero,cf];rfl) fun j ⟨hj,jh⟩=>?_
  rcases Nat.eq_or_lt_of_le hj with fk|ag
  ·subst fk
   rw[List.take_length]at jh⊢
   refine gE @ao ?_
   refine cF ?_
   refine gO ?_
   exact AE.ret rfl ⟨rfl,trivial⟩ (.inl ⟨jh,rfl,rfl⟩)
  ·obtain⟨u,hu,aX⟩:=dL t.xs j ag
   have cG:=eh xm.2.2 hu
   have hw:=wr (x:=(j:Int)+1) (by omega)
   have lV:=R5 hu
   have bz:=R6 hu
   have ih:=KM hy hb e6 hM cn eA u cG (k+1+(cf (t.xs.take j)).length) jh fun i hi=>by
    have hl:(cf t.xs).length=(cf (t.xs.take j)).length+((bL u).length+(cf (t.xs.drop (j+1))).length):=by rw[lV,List.length_append,List.length_append]
    rw[Nat.add_assoc,oh _ (by omega),lV,List.getElem?_append_right (by omega),Nat.add_sub_cancel_left,List.getElem?_append_left hi]
   have hn:k+1+(cf (t.xs.take (j+1))).length=k+1+(cf (t.xs.take j)).length+(bL u).length:=by rw[bz,List.length_append];omega
   have hle:(cf (t.xs.take (j+1))).length<=(cf t.xs).length:=by
    rw[bz,lV,List.length_append,List.length_append,List.length_append];omega
   refine gE @ao ?_
   refine cT ?_
   refine gE (an @aX (an @hb (an @cn (an @FN (an @wJ @Ad))))) ?_
   refine⟨by rw[ao];omega,?_⟩
   refine gE (an @aX (an @hb (an @cn (an @FN (an @wJ @Ad))))) ?_
   refine AQ.fix M (by simp only[lk,wJ,cond_true];rfl) rfl ?_
   refine sE (an @wJ (an @Ad (an @NF @eA))) ?_
   refine AQ.Ed nb (Nat.ble_eq_true_of_le (Nat.le_refl _)) (by kernel_rfl) rfl rfl rfl ih (fun r H' h=>OC _ _ r H' h) fun r H' h=>?_
   rw[<-hn]at h
   rcases h with⟨U,rfl,rfl⟩|⟨U,rfl,rfl⟩
   ·refine sE @e7 ?_
    refine AQ.go (by kernel_rfl) ?_
    refine gE (an @e7 @hw) ?_
    exact AE.round (j+1) ⟨by omega,U⟩ (by omega) (sU) rfl
   ·refine sE @e7 ?_
    refine AQ.go (by kernel_rfl) ?_
    refine gE @e7 ?_
    exact AE.ret rfl ⟨rfl,trivial⟩ (.inr ⟨by omega,rfl,rfl⟩)
 ·have gI:k=m:=by omega
  have um:=hy.stop (by omega)
  rw[<-gI,u_ hit]at um
  refine AQ.vl nb (Nat.ble_eq_true_of_le (Nat.le_refl _)) (by kernel_rfl) rfl ⟨rfl,rfl⟩ rfl rfl um (fun r H' h=>by rw[h.2];exact hy.HI _) fun r H' h=>?_
  obtain⟨rfl,rfl⟩:=h
  refine sE @e7 ?_
  refine AQ.go (by kernel_rfl) ?_
  refine gE @e7 ?_
  exact AE.ret rfl ⟨rfl,trivial⟩ (.inr ⟨by omega,rfl,rfl⟩)
termination_by SizeOf.sizeOf t
decreasing_by exact kM hu
theorem J1 {nb l m M:Nat} {Hs:Nat->aa} {Hx:aa} (t:Tm) (ht:aY t) (hy:Yields Tryz.prog (M+1) l (bL t).length (yR (bL t)) (fun k=>(M,oZ l M)::Hs k) m ((M,oZ l M)::Hx)) (hM:Nat.ble nb M=true) (cn:∀k,cH (Hs k)=M) (eA:∀k r,g_ (M+1) r (Hs k)=Hs k):
  gX Tryz.prog nb 194 [Yl l,.im (oU t)] (Hs 0) (CP (fun k=>(M,oZ l M)::Hs k) m ((M,oZ l M)::Hx) (bL t).length):=by
 refine gX.walk [0,1,2,3] [3] Tryz.func194 rfl Tryz.ntmps194 (by kernel_rfl) (by rfl) fun W own I0 aw lay=>?_
 refine gE (an @cn @hM) ?_
 have U:Nat.beq M (M+1)=false:=by cases hq:Nat.beq M (M+1)with|false=>rfl|true=>exact absurd (Nat.eq_of_beq_eq_true hq) (by omega)
 have h2:Nat.beq M M=true:=by simp
 have h3:Nat.ble M M=true:=Nat.ble_eq_true_of_le (Nat.le_refl _)
 have hw:=KM (k:=0) (xs:=bL t) hy (fun k=>by simp only[lk,h2,cond_true]) (Nat.lt_succ_self _) (Nat.le_refl _) (fun k=>by simp only[cH,cn,h3,cond_true]) (fun k r=>by simp only[g_,nU,gi,eY,U,eA,cond_false]) t ht (Nat.zero_le _) (fun j _=>by rw[Nat.zero_add])
 rw[Nat.zero_add]at hw
 refine AQ.Ed (M+1) (Nat.ble_eq_true_of_le (Nat.le_succ_of_le (Nat.le_of_ble_eq_true hM))) (by kernel_rfl) rfl rfl rfl hw (fun r H' h=>KT hy _ _ r H' h) fun r H' h=>?_
 rcases h with⟨h4,rfl,rfl⟩|⟨h4,rfl,rfl⟩
 ·refine sI ?_
  refine AQ.go (by kernel_rfl) ?_
  refine gO ?_
  exact AE.gZ rfl trivial (.inl ⟨h4,rfl⟩)
 ·refine sI ?_
  refine AQ.go (by kernel_rfl) ?_
  refine gO ?_
  exact AE.gZ rfl trivial (.inr ⟨h4,rfl⟩)
theorem J3 (t:Tm):aR Tryz.prog 150 [bD t] (.fn 194 [] [.im (oU t)]):=by
 refine al.walk [0,1,2] [] Tryz.func150 rfl Tryz.ntmps150 (by kernel_rfl) (by rfl) rfl fun W own I0 aw lay=>?_
 refine gO ?_
 exact AE.a7 rfl ⟨rfl,trivial⟩ rfl ⟨rfl,rfl⟩
theorem SF (c:List Lt):aR Tryz.prog 73 [aV c] (.fn 149 [] [.im (.pt [.sl 3 (bX c)])]):=by
 refine al.walk [0,1,2] [] Tryz.func73 rfl Tryz.ntmps73 (by kernel_rfl) (by rfl) rfl fun W own I0 aw lay=>?_
 refine gO ?_
 exact AE.a7 rfl ⟨rfl,trivial⟩ rfl ⟨rfl,rfl⟩
theorem Mj (c:List Lt):bR 4 9 2 3 c=if k_ c≠0 then k_ c else kY 2 3 c:=by
 rw[bR,k_]
 by_cases U:40<c.length
 ·rw[if_pos U,if_pos U,if_pos (by decide)]
 ·rw[if_neg U,if_neg U]
  by_cases h2:4000<bT c
  ·rw[if_pos h2,if_pos h2,if_pos (by decide)]
  ·rw[if_neg h2,if_neg h2]
   by_cases h3:100<dY c
   ·rw[if_pos h3,if_pos h3,if_pos (by decide)]
   ·rw[if_neg h3,if_neg h3,if_neg (by decide)]
theorem Qb {c:List Lt} (h:¬k_ c≠0):c.length<=40:=Classical.byContradiction fun hc=>h (by rw[k_,if_pos (by omega)];decide)
theorem Ft (pd:List UInt8) (n:Nat) (b:Bool):((!(pd==[61])&&!b)||(pd==[61]&&(n:Int)!=2))=true↔(pd≠[61]/\b=false)\/(pd=[61]/\n≠2):=by
 have aA:((n:Int)=2)↔n=2:=by omega
 by_cases hp:pd=[61]<;>cases b<;>by_cases hl:n=2<;>simp[hp,hl,aA]
noncomputable def fg (l:Nat) (st:fP):Ob:= .lp l 53 st Tryz.f15 [0,1,1,1,0,0,1,1,0,0,1,0,1,1] [46] [(2,.ob 0 0)]
noncomputable def nA (l l2:Nat) (st:fP):Ob:= .lp l2 30 st Tryz.f149 [0,1,1,0,0,1,1,0,0,1,1,0,0,1,1,0,0,1,1] [23] [(2,.im (.pt [.v (.func (.yield l) #[] #[])]))]
noncomputable def gg (l l2:Nat) (Sl st:fP) (e:Int):aa:=[(3,oZ l2 3),(2,nA l l2 Sl),(1,fg l st),(0,.var 30 [Iv e])]
theorem Mh (nb l l2:Nat) (t:Tm) (ht:aY t) (hf:eo 2 3 t=0) (hnb:Nat.ble nb 4=true):fx Tryz.prog nb l [bD t] (gg l l2 .busy .ready 0) (fun r H'=>r=Bv true/\H'=gg l l2 .busy .ready 0):=by
 refine fx.walk (b:=1) [2,6,7,46,50] [2] rfl rfl rfl fun w own I0 aw lay=>?_
 simp only[go_sem,Nat.reduceAdd,Nat.reduceLeDiff,Nat.reduceSub,Int.reduceToNat,reduceCtorEq,mf,gg,fg,nA]
 refine gE @hnb ?_
 refine AE.begin (b:=1) rfl rfl _ ?_
 refine sI ?_
 refine gO ?_
 refine AQ.fn (by kernel_rfl) rfl rfl rfl (Fu t ht) rfl ?_
 refine sI ?_
 refine gE @hf ?_
 refine AE.eu [4] rfl ?_
 refine sI ?_
 exact AE.r7 (b:=1) rfl ⟨rfl,rfl⟩
theorem Mi (nb l l2:Nat) (t:Tm) (ht:aY t) (hf:eo 2 3 t≠0) (hnb:Nat.ble nb 4=true):fx Tryz.prog nb l [bD t] (gg l l2 .busy .ready 0) (fun r H'=>r=Bv false/\H'=gg l l2 .busy (.done .ret) (eo 2 3 t)):=by
 refine fx.walk (b:=1) [2,6,7,46,50] [2] rfl rfl rfl fun w own I0 aw lay=>?_
 simp only[go_sem,Nat.reduceAdd,Nat.reduceLeDiff,Nat.reduceSub,Int.reduceToNat,reduceCtorEq,mf,gg,fg,nA]
 refine gE @hnb ?_
 refine AE.begin (b:=1) rfl rfl _ ?_
 refine sI ?_
 refine gO ?_
 refine AQ.fn (by kernel_rfl) rfl rfl rfl (Fu t ht) rfl ?_
 refine sI ?_
 refine gO ?_
 refine AP.cond rfl rfl (fun h=>?_) (fun h=>?_)
 ·refine gO ?_
  refine AE.eu [4] rfl ?_
  refine sI ?_
  exact AE.Ja (b:=1) rfl ⟨rfl,rfl⟩
 ·exact absurd (by simpa using h) hf
theorem SP (l l2:Nat) (t:Tm) (ht:aY t) (hf:eo 2 3 t=0):fx Tryz.prog 4 l2 [bD t] (gg l l2 .ready .ready 0) (fun r H'=>r=Bv true/\H'=gg l l2 .ready .ready 0):=by
 have hy:=Mh 4 l l2 t ht hf rfl
 refine fx.walk (b:=2) [2,7,23,26,27] [] rfl rfl rfl fun w own I0 aw lay=>?_
 simp only[go_sem,Nat.reduceAdd,Nat.reduceLeDiff,Nat.reduceSub,Int.reduceToNat,reduceCtorEq,mf,gg,fg,nA]
 refine gO ?_
 refine AE.begin (b:=2) rfl rfl _ ?_
 refine sI ?_
 refine gO ?_
 refine AQ.fix 4 rfl rfl ?_
 refine sI ?_
 refine AQ.vl 4 (Nat.ble_eq_true_of_le (Nat.le_refl _)) (by kernel_rfl) rfl ⟨rfl,rfl⟩ rfl rfl hy (fun r H' h=>by rw[h.2];exact dT.of _ _ _ rfl) fun r H' h=>?_
 obtain⟨rfl,rfl⟩:=h
 simp only[go_sem,Nat.reduceAdd,Nat.reduceLeDiff,Nat.reduceSub,Int.reduceToNat,reduceCtorEq,gg,fg,nA]
 refine AQ.go (by kernel_rfl) ?_
 refine gO ?_
 exact AE.r7 (b:=2) rfl ⟨rfl,rfl⟩
theorem SQ (l l2:Nat) (t:Tm) (ht:aY t) (hf:eo 2 3 t≠0):fx Tryz.prog 4 l2 [bD t] (gg l l2 .ready .ready 0) (fun r H'=>r=Bv false/\H'=gg l l2 (.done .ret) (.done .ret) (eo 2 3 t)):=by
 have hy:=Mi 4 l l2 t ht hf rfl
 refine fx.walk (b:=2) [2,7,23,26,27] [] rfl rfl rfl fun w own I0 aw lay=>?_
 simp only[go_sem,Nat.reduceAdd,Nat.reduceLeDiff,Nat.reduceSub,Int.reduceToNat,reduceCtorEq,mf,gg,fg,nA]
 refine gO ?_
 refine AE.begin (b:=2) rfl rfl _ ?_
 refine sI ?_
 refine gO ?_
 refine AQ.fix 4 rfl rfl ?_
 refine sI ?_
 refine AQ.vl 4 (Nat.ble_eq_true_of_le (Nat.le_refl _)) (by kernel_rfl) rfl ⟨rfl,rfl⟩ rfl rfl hy (fun r H' h=>by rw[h.2];exact dT.of _ _ _ rfl) fun r H' h=>?_
 obtain⟨rfl,rfl⟩:=h
 simp only[go_sem,Nat.reduceAdd,Nat.reduceLeDiff,Nat.reduceSub,Int.reduceToNat,reduceCtorEq,gg,fg,nA]
 refine AQ.go (by kernel_rfl) ?_
 refine gO ?_
 exact AE.Ja (b:=2) rfl ⟨rfl,rfl⟩
def pD (f:Tm->Int):List Tm->Nat
 |[]=>0
 |t::l=>if f t≠0 then 0 else pD f l+1
theorem FA (f:Tm->Int):∀l:List Tm,(∀k,k<pD f l->∃t,l[k]?=some t/\f t=0)/\(pD f l<l.length->∃t,l[pD f l]?=some t/\f t≠0/\hO f l=f t)/\(l.length<=pD f l->hO f l=0)
 |[]=>⟨fun k h=>absurd h (Nat.not_lt_zero _),fun h=>absurd h (Nat.not_lt_zero _),fun _=>rfl⟩
 |t::l=>by
  obtain⟨U,h2,h3⟩:=FA f l
  rw[pD,hO]
  by_cases h:f t≠0
  ·rw[if_pos h,if_pos h]
   exact⟨fun k h=>absurd h (Nat.not_lt_zero _),fun _=>⟨t,rfl,h,rfl⟩,fun h=>absurd h (by simp)⟩
  ·rw[if_neg h,if_neg h]
   refine⟨fun k hk=>?_,fun hk=>?_,fun hk=>h3 (by simpa using hk)⟩
   ·cases k with
    |zero=>exact⟨t,rfl,by simpa using h⟩
    |succ k=>obtain⟨u,h4,h5⟩:=U k (by omega);exact⟨u,h4,h5⟩
   ·obtain⟨u,h4,h5⟩:=h2 (by simpa using hk)
    exact⟨u,by rw[List.getElem?_cons_succ];exact h4,h5⟩
mutual
theorem Kb:∀t,aY t->∀u∈bL t,aY u
 | .mk n i xs,h,u,hu=>by
  rw[bL]at hu
  rcases List.mem_cons.1 hu with rfl|hu
  ·exact h
  ·rw[aY]at h;exact Kd xs h.2.2 u hu
theorem Kd:∀l,b_ l->∀u∈cf l,aY u
 |[],_,u,hu=>by rw[cf]at hu;cases hu
 |t::l,h,u,hu=>by
  rw[cf]at hu
  rw[b_]at h
  rcases List.mem_append.1 hu with hu|hu
  ·exact Kb t h.1 u hu
  ·exact Kd l h.2 u hu
end
theorem SG (l:Nat) (u:Lt) (hu:kC u):gX Tryz.prog 1 149 [Yl l,.im (.pt [.sl 3 (bX [u])])] [(1,fg l .ready),(0,.var 30 [Iv 0])] (fun _ H'=>H'=[(1,fg l (if er 2 3 u.xs=0 then .ready else .done .ret)),(0,.var 30 [Iv (er 2 3 u.xs)])]):=by
 have mT:=hu.2.1
 have tQ:bX [u]=[lX u]:=rfl
 rw[tQ]
 refine gX.walk [0,1,2,4,6,7,8,9,10,11,15,16,17,18,22,23,27] [4,6,7] Tryz.func149 rfl Tryz.ntmps149 (by kernel_rfl) (by rfl) fun W own I0 aw lay=>?_
 simp only[go_sem,Nat.reduceAdd,Nat.reduceLeDiff,Nat.reduceSub,Int.reduceToNat,reduceCtorEq,fg]
 refine gO ?_
 refine AP.loop rfl (α:=Nat) (fun k=>[(2,.im (.pt [.v (.func (.yield l) #[] #[])])),(8,.im (.sl 3 [lX u])),(9,Iv 1),(10,Iv k)]) (fun k=>[(1,fg l .ready),(0,.var 30 [Iv 0])]) (fun k=>k<=1/\(k=1->er 2 3 u.xs=0)) (fun k=>1-k) 0 ⟨by omega,by omega⟩ (sU) rfl fun k ⟨hk,k7⟩=>?_
 rcases Nat.eq_or_lt_of_le hk with aN|ag
 ·subst aN
  simp only[go_sem,Nat.reduceAdd,Nat.reduceLeDiff,Nat.reduceSub,Int.reduceToNat,reduceCtorEq,fg]
  refine gO ?_
  refine AE.gZ rfl trivial ?_
  rw[k7 rfl];rfl
 ·have kq:k=0:=by omega
  subst kq
  have mO:[lX u].getD 0 []=[Bi u.ng,Si u.pd,.sl 3 (ay u.xs)]:=rfl
  simp only[go_sem,Nat.reduceAdd,Nat.reduceLeDiff,Nat.reduceSub,Int.reduceToNat,reduceCtorEq,fg]
  refine gE (an @ao @mO) ?_
  refine AP.fix 2 rfl rfl ?_
  refine sI ?_
  refine AP.loop rfl (α:=Nat) (fun j=>[(2,.im (.pt [.v (.func (.yield l) #[] #[])])),(8,.im (.sl 3 [lX u])),(9,Iv 1),(10,Iv 0),(15,.im (.sl 3 (ay u.xs))),(16,Iv u.xs.length),(17,Iv j)]) (fun j=>[(1,fg l .ready),(0,.var 30 [Iv 0])]) (fun j=>j<=u.xs.length/\er 2 3 u.xs=er 2 3 (u.xs.drop j)) (fun j=>u.xs.length-j) 0 ⟨by omega,rfl⟩ (sU) rfl fun j ⟨hj,jh⟩=>?_
  rcases Nat.eq_or_lt_of_le hj with fk|k5
  ·subst fk
   simp only[go_sem,Nat.reduceAdd,Nat.reduceLeDiff,Nat.reduceSub,Int.reduceToNat,reduceCtorEq,fg]
   refine gO ?_
   refine cF ?_
   refine gO ?_
   rw[List.drop_length,er]at jh
   exact AE.round 1 ⟨by omega,fun _=>jh⟩ (by omega) (sU) rfl
  ·obtain⟨v,hv,dH⟩:=dL u.xs j k5
   have jS:=wr (x:=(j:Int)+1) (by omega)
   simp only[go_sem,Nat.reduceAdd,Nat.reduceLeDiff,Nat.reduceSub,Int.reduceToNat,reduceCtorEq,fg]
   refine gE @ao ?_
   refine cT ?_
   refine gE (an @dH @ao) ?_
   refine AQ.fix 2 rfl rfl ?_
   refine sI ?_
   refine AQ.fn (by kernel_rfl) rfl rfl rfl (J3 v) rfl ?_
   refine sI ?_
   refine gO ?_
   have fo:=eh hu.2.2 hv
   rw[M4 hv,Fm]at jh
   obtain⟨n_,jm,AT⟩:=FA (eo 2 3) (bL v)
   have lV:=Kb v fo
   refine AP.yw 2 1 2 [(2,.im (.pt [.v (.func (.yield l) #[] #[])]))] (R:=fun l2=>CP (fun _=>gg l l2 .ready .ready 0) (pD (eo 2 3) (bL v)) (gg l l2 (.done .ret) (.done .ret) (hO (eo 2 3) (bL v))) (bL v).length) rfl rfl (by kernel_rfl) (sU) rfl rfl (fun l2=>?_) (fun l2 r H' hR=>?_)
   ·refine J1 (M:=3) (Hs:=fun _=>[(2,nA l l2 .ready),(1,fg l .ready),(0,.var 30 [Iv 0])]) (Hx:=[(2,nA l l2 (.done .ret)),(1,fg l (.done .ret)),(0,.var 30 [Iv (hO (eo 2 3) (bL v))])]) v fo ⟨fun k hk w8=>?_,fun hk=>?_,fun _ _=>dT.of _ _ _ rfl,fun k=>dT.of _ _ _ rfl⟩ rfl (fun _=>rfl) (fun _ _=>rfl)
    ·obtain⟨t,ht,hf⟩:=n_ k hk
     rw[u_ ht]
     exact SP l l2 t (lV t (List.mem_of_getElem? ht)) hf
    ·obtain⟨t,ht,hf,he⟩:=jm hk
     rw[u_ ht,he]
     exact SQ l l2 t (lV t (List.mem_of_getElem? ht)) hf
   ·rcases hR with⟨U,rfl⟩|⟨U,rfl⟩
    ·refine⟨dT.of _ _ _ rfl,.ready,_,rfl,rfl,?_⟩
     rw[AT U,if_neg (by decide)]at jh
     simp only[go_sem,Nat.reduceAdd,Nat.reduceLeDiff,Nat.reduceSub,Int.reduceToNat,reduceCtorEq,gg,fg]
     refine gE @jS ?_
     refine AE.eu [3] rfl ?_
     refine sI ?_
     exact AE.round (j+1) ⟨by omega,jh⟩ (by omega) (sU) rfl
    ·refine⟨dT.of _ _ _ rfl,.done .ret,_,rfl,rfl,?_⟩
     obtain⟨t,ht,hf,he⟩:=jm U
     rw[he,if_pos hf,<-he]at jh
     have aG:er 2 3 u.xs≠0:=by rw[jh,he];exact hf
     simp only[go_sem,Nat.reduceAdd,Nat.reduceLeDiff,Nat.reduceSub,Int.reduceToNat,reduceCtorEq,gg,fg]
     refine gO ?_
     refine AE.bk [3] rfl trivial rfl ?_
     rw[if_neg aG,jh];rfl
theorem pf (c:List Lt) (hs:dD c):aR Tryz.prog 15 [aV c] (Iv (bR 4 9 2 3 c)):=by
 have ca:=hs.1
 have dZ:=Mj c
 refine al.walk [0,2,3,4,5,6,7,11,13,14,15,16,39,45,46,50] [2,5,6] Tryz.func15 rfl Tryz.ntmps15 (by kernel_rfl) (by rfl) rfl fun W own I0 aw lay=>?_
 refine gE @aJ ?_
 refine AQ.fn (by kernel_rfl) rfl rfl rfl (Qc c hs) rfl ?_
 refine sI ?_
 refine gO ?_
 refine AP.cond rfl rfl (fun h=>?_) (fun h=>?_)
 ·have h:k_ c≠0:=by simpa using h
  refine gO ?_
  exact AE.bk [0] rfl ⟨⟨rfl,Nat.le_of_ble_eq_true (by kernel_rfl)⟩,trivial⟩ rfl ⟨rfl,by rw[dZ,if_pos h];rfl⟩
 have h:¬k_ c≠0:=by simpa using h
 rw[if_neg h]at dZ
 have q0:c.length<=40:=Qb h
 refine gE @aJ ?_
 refine AP.loop rfl (α:=Nat) (fun k=>[(0,aV c),(2,.ob 0 0),(13,aV c),(14,Iv c.length),(15,Iv k)]) (fun k=>[(0,.var 30 [Iv 0])]) (fun k=>k<=c.length/\bR 4 9 2 3 c=kY 2 3 (c.drop k)) (fun k=>c.length-k) 0 ⟨by omega,dZ⟩ (sU) rfl fun k ⟨hk,hm⟩=>?_
 rcases Nat.eq_or_lt_of_le hk with aN|ag
 ·rw[aN,List.drop_length,kY]at hm
  refine gO ?_
  refine cF ?_
  refine gO ?_
  exact AE.bk [0] rfl ⟨⟨rfl,Nat.le_of_ble_eq_true (by kernel_rfl)⟩,trivial⟩ rfl ⟨rfl,by rw[hm];rfl⟩
 ·obtain⟨u,hu,aX⟩:=jt c k ag
  have hw:=wr (x:=(k:Int)+1) (by omega)
  have cG:=nL hs hu
  have ua:=cG.2.1
  rw[drop_cons hu,M0]at hm
  refine gE @aJ ?_
  refine cT ?_
  refine gE (an @aX (an @aJ @ao)) ?_
  refine AQ.kd (by kernel_rfl) rfl rfl (fun h=>by first|(simp[gs,AV.g];done)|(simp[gs,AV.g,bl];done)|(simp[gs,AV.g,bl,bw]at h⊢;done)|(simp[gs,AV.g,bl,bw]at h⊢;exact h)|(simp[gs,AV.g,bl,bw]at h⊢;simp[h];done)|(simp[bw]at h;done)|(simp[gs,AV.g,bw]at h⊢;simp[h];done)|(simp[gs,AV.g,bw]at h⊢;exact h.1)|(simp[gs,AV.g];rfl)|(simp[gs,AV.g,bw]at h⊢;rfl)|(simp[gs,AV.g,bw]at h⊢;simp[h];rfl)|(simp[gs,AV.g,bw]at h⊢;simp_all)) rfl (fun _=>Ha u.pd (by have:=cG.1;omega)) rfl ?_
  refine sI ?_
  refine gE @ao ?_
  refine AP.cond rfl rfl (fun h5=>?_) (fun h5=>?_)
  ·have h5:=(Ft u.pd u.xs.length (dq u.pd)).1 h5
   rw[if_pos h5]at hm
   refine gO ?_
   exact AE.bk [1,0] rfl ⟨⟨rfl,Nat.le_of_ble_eq_true (by kernel_rfl)⟩,trivial⟩ rfl ⟨rfl,by rw[hm];rfl⟩
  ·have h5:¬((u.pd≠[61]/\dq u.pd=false)\/(u.pd=[61]/\u.xs.length≠2)):=fun hh=>by
    have h6:=(Ft u.pd u.xs.length (dq u.pd)).2 hh
    exact absurd (h6.symm.trans h5) (by decide)
   rw[if_neg h5]at hm
   have Bm:List.drop k (List.take (k+1) (bX c))=bX [u]:=by
    rw[bX,<-List.map_take,<-List.map_drop,dV hu,List.drop_append_of_le_length (by rw[List.length_take];omega),List.drop_take_self];rfl
   have ug:((k:Int)+1).toNat=k+1:=by omega
   refine gE @aJ ?_
   rw[hw]
   refine AQ.fix 1 rfl rfl ?_
   refine sE (an @ug @Bm) ?_
   refine AQ.fn (by kernel_rfl) rfl rfl rfl (SF [u]) rfl ?_
   refine sI ?_
   refine gO ?_
   have ht:=fun l=>SG l u cG
   refine AP.yw 1 0 1 [(2,.ob 0 0)] (R:=fun l _ H'=>H'=[(1,fg l (if er 2 3 u.xs=0 then .ready else .done .ret)),(0,.var 30 [Iv (er 2 3 u.xs)])]) rfl rfl (by kernel_rfl) (sU) rfl rfl ht (fun l r H' hR=>?_)
   subst hR
   by_cases hf:er 2 3 u.xs=0
   ·rw[if_neg (by simpa using hf)]at hm
    rw[if_pos hf,hf]
    refine⟨dT.of _ _ _ rfl,.ready,_,rfl,rfl,?_⟩
    refine sI ?_
    refine gE @hw ?_
    exact AE.round (k+1) ⟨by omega,hm⟩ (by omega) (sU) rfl
   ·rw[if_pos hf]at hm
    rw[if_neg hf]
    refine⟨dT.of _ _ _ rfl,.done .ret,_,rfl,rfl,?_⟩
    refine sI ?_
    refine gO ?_
    exact AE.bk [0] rfl ⟨⟨rfl,Nat.le_of_ble_eq_true (by kernel_rfl)⟩,trivial⟩ rfl ⟨rfl,by rw[hm];rfl⟩
def dR {α:Type}:List (Int×α)->Int->Option Nat
 |[],_=>none
 |p::m,v=>if p.1=v then some 0 else(dR m v).map (·+1)
def bA {α:Type}:List (Int×α)->Int->Option α
 |[],_=>none
 |p::m,v=>if p.1=v then some p.2 else bA m v
def l8 {α:Type} (m:List (Int×α)) (v:Int) (x:α):List (Int×α):=match dR m v with
 |some j=>m.set j (v,x)
 |none=>m++[(v,x)]
theorem rI {α:Type}:∀{m:List (Int×α)} {v:Int} {j:Nat},dR m v=some j->∃x,m[j]?=some (v,x)/\bA m v=some x
 |[],v,j,h=>by cases h
 |p::m,v,j,h=>by
  rw[dR]at h
  rw[bA]
  by_cases hp:p.1=v
  ·rw[if_pos hp]at h⊢
   cases h
   exact⟨p.2,by rw[List.getElem?_cons_zero,<-hp],rfl⟩
  ·rw[if_neg hp]at h⊢
   cases hq:dR m v with
   |none=>rw[hq]at h;cases h
   |some i=>
    rw[hq]at h;cases h
    obtain⟨x,U,h2⟩:=rI hq
    exact⟨x,by rw[List.getElem?_cons_succ];exact U,h2⟩
theorem om {α:Type}:∀{m:List (Int×α)} {v:Int},dR m v=none->bA m v=none/\v∉m.map (·.1)
 |[],v,h=>⟨rfl,by simp⟩
 |p::m,v,h=>by
  rw[dR]at h
  rw[bA]
  by_cases hp:p.1=v
  ·rw[if_pos hp]at h;cases h
  ·rw[if_neg hp]at h⊢
   cases hq:dR m v with
   |some i=>rw[hq]at h;cases h
   |none=>
    obtain⟨U,h2⟩:=om hq
    exact⟨U,by rw[List.map_cons,List.mem_cons];rintro(h|h);exact hp h.symm;exact h2 h⟩
theorem Hp {α:Type} {m:List (Int×α)} {v:Int} {x:α} (h:bA m v=some x):∃j,dR m v=some j/\m[j]?=some (v,x):=by
 cases hq:dR m v with
 |none=>rw[(om hq).1]at h;cases h
 |some j=>
  obtain⟨y,U,h2⟩:=rI hq
  rw[h]at h2;cases h2
  exact⟨j,rfl,U⟩
theorem Hq {α:Type} (m:List (Int×α)) (v:Int) (x:α) (w:Int):bA (l8 m v x) w=if w=v then some x else bA m w:=by
 rw[l8]
 have bt:∀(m:List (Int×α)) (j:Nat),dR m v=some j->bA (m.set j (v,x)) w=if w=v then some x else bA m w:=by
  intro m
  induction m with
  |nil=>intro j h;cases h
  |cons p m ih=>
   intro j h
   rw[dR]at h
   by_cases hp:p.1=v
   ·rw[if_pos hp]at h;cases h
    rw[List.set_cons_zero,bA,bA]
    by_cases hw:w=v
    ·rw[if_pos hw,if_pos hw.symm]
    ·rw[if_neg hw,if_neg (fun h=>hw h.symm),if_neg (fun h=>hw (h.symm.trans hp))]
   ·rw[if_neg hp]at h
    cases hq:dR m v with
    |none=>rw[hq]at h;cases h
    |some i=>
     rw[hq]at h;cases h
     rw[List.set_cons_succ,bA,bA,ih i hq]
     by_cases hw:w=v
     ·rw[if_pos hw,if_neg (fun h=>hp (h.trans hw)),if_pos hw]
     ·rw[if_neg hw,if_neg hw]
 cases hq:dR m v with
 |some j=>exact bt m j hq
 |none=>
  have h0:=(om hq).1
  have Ak:∀m:List (Int×α),bA (m++[(v,x)]) w=match bA m w with
   |some y=>some y
   |none=>if v=w then some x else none:=by
   intro m
   induction m with
   |nil=>rw[List.nil_append,bA,bA,bA]
   |cons p m ih=>
    rw[List.cons_append,bA,bA]
    by_cases hp:p.1=w
    ·rw[if_pos hp,if_pos hp]
    ·rw[if_neg hp,if_neg hp,ih]
  rw[Ak]
  by_cases hw:w=v
  ·subst hw;simp only[h0,if_pos]
  ·rw[if_neg hw]
   cases bA m w with
   |some y=>rfl
   |none=>simp only[if_neg (fun h=>hw (Eq.symm h))]
def kI {α:Type} (m:List (Int×α)):List Value:=m.map fun p=> .int .i64 p.1
theorem xP {α:Type} (m:List (Int×α)):(kI m).length=m.length:=List.length_map ..
theorem iO {α:Type} (m:List (Int×α)):nE (.int .i64) (kI m):=fun v hv=>by
 obtain⟨p,_,rfl⟩:=List.mem_map.1 hv
 rfl
theorem He {α:Type} (m:List (Int×α)):∀k∈kI m,k.oneCell'=true:=fun v hv=>by
 obtain⟨p,_,rfl⟩:=List.mem_map.1 hv
 rfl
theorem qd {α:Type} {m:List (Int×α)} {v:Int} (h:dR m v=none):Value.int .i64 v∉kI m:=fun hc=>by
 obtain⟨p,hp,e⟩:=List.mem_map.1 hc
 cases e
 exact(om h).2 (List.mem_map.2 ⟨p,hp,rfl⟩)
theorem ov {α:Type} {m:List (Int×α)} {j:Nat} {p:Int×α} (h:m[j]?=some p):(kI m)[j]?=some (.int .i64 p.1):=by rw[kI,List.getElem?_map,h];rfl
theorem BO {α:Type} {m:List (Int×α)} {j:Nat} {k:Value} (h:(kI m)[j]?=some k):∃p,m[j]?=some p/\k= .int .i64 p.1:=by
 rw[kI,List.getElem?_map]at h
 cases hq:m[j]? with
 |none=>rw[hq]at h;cases h
 |some p=>rw[hq]at h;exact⟨p,rfl,by simpa using h.symm⟩
def eg {α:Type} (m:List (Int×α)):Prop:=(m.map (·.1)).Nodup
theorem ow {α:Type} {m:List (Int×α)} (cn:eg m) {v:Int} {x:α} {j i:Nat} (hj:m[j]?=some (v,x)) (hi:(kI m)[i]?=some (.int .i64 v)):i=j:=by
 obtain⟨p,hp,e⟩:=BO hi
 cases e
 have U:(m.map (·.1))[i]?=some p.1:=by rw[List.getElem?_map,hp];rfl
 have h2:(m.map (·.1))[j]?=some p.1:=by rw[List.getElem?_map,hj];rfl
 obtain⟨a1,b1⟩:=List.getElem?_eq_some_iff.1 U
 obtain⟨a2,b2⟩:=List.getElem?_eq_some_iff.1 h2
 exact(List.getElem_inj cn).1 (b1.trans b2.symm)
theorem BP {α:Type} (m:List (Int×α)) (v:Int) (x:α):kI (l8 m v x)=match dR m v with
  |some _=>kI m
  |none=>kI m++[.int .i64 v]:=by
 rw[l8]
 cases h:dR m v with
 |none=>simp[kI]
 |some j=>
  obtain⟨y,U,_⟩:=rI h
  simp only[kI,List.map_set]
  exact List.ext_getElem? fun i=>by
   rw[List.getElem?_set]
   by_cases ia:j=i
   ·subst ia
    rw[if_pos rfl,List.getElem?_map,U]
    have:=(List.getElem?_eq_some_iff.1 U).1
    rw[if_pos (by simpa using this)];rfl
   ·rw[if_neg ia]
theorem QI {α:Type} {m:List (Int×α)} (h:eg m) (v:Int) (x:α):eg (l8 m v x):=by
 have hk:(l8 m v x).map (·.1)=match dR m v with
  |some _=>m.map (·.1)
  |none=>m.map (·.1)++[v]:=by
  have:=BP m v x
  have hi:∀m:List (Int×α),(kI m).map (fun u=>match u with| .int _ n=>n|_=>0)=m.map (·.1):=fun m=>by simp[kI,Function.comp_def]
  rw[<-hi (l8 m v x),this]
  cases dR m v with
  |some j=>exact hi m
  |none=>rw[List.map_append,hi];rfl
 rw[eg,hk]
 cases hq:dR m v with
 |some j=>exact h
 |none=>
  refine List.nodup_append.2 ⟨h,by simp,fun a ha b hb=>?_⟩
  rw[List.mem_singleton]at hb
  subst hb
  exact fun e=>(om hq).2 (e▸ha)
theorem H6 {α:Type}:∀{m:List (Int×α)} {v:Int} {x:α},eg m->(v,x)∈m->bA m v=some x
 |[],v,x,_,h=>by cases h
 |p::m,v,x,cn,h=>by
  rw[eg,List.map_cons,List.nodup_cons]at cn
  rw[bA]
  rcases List.mem_cons.1 h with rfl|h
  ·rw[if_pos rfl]
  ·rw[if_neg (fun e=>cn.1 (List.mem_map.2 ⟨(v,x),h,e.symm⟩)),H6 cn.2 h]
theorem Qf {α:Type} {m:List (Int×α)} {v:Int} {x:α} (h:bA m v=some x):(v,x)∈m:=by
 obtain⟨j,_,h2⟩:=Hp h
 exact List.mem_of_getElem? h2
def vN (m:List (Int×Int)):List AV:=m.map fun p=>Iv p.2
theorem S7 (m:List (Int×Int)):(vN m).length=m.length:=List.length_map ..
@[go_sem] theorem uX (ρ:Nat->Nat):∀m:List (Int×Int),AV.cy ρ (vN m)=vN m
 |[]=>rfl
 |_::m=>by rw[vN,List.map_cons,AV.cy,<-vN,uX ρ m];rfl
@[go_sem] theorem PT (b:Nat):∀m:List (Int×Int),kB b (vN m)=vN m
 |[]=>rfl
 |_::m=>by rw[vN,List.map_cons,kB,<-vN,PT b m];rfl
@[go_sem] theorem fJ (b:Nat):∀m:List (Int×Int),AV.mens b (vN m)=false
 |[]=>rfl
 |_::m=>by rw[vN,List.map_cons,AV.mens,<-vN,fJ b m];rfl
@[go_sem] theorem Nn (b:Nat):∀m:List (Int×Int),AV.hU b (vN m)=false
 |[]=>rfl
 |_::m=>by rw[vN,List.map_cons,AV.hU,<-vN,Nn b m];rfl
@[go_sem] theorem Fy (b:Nat) (l:List IV):∀m:List (Int×Int),gi b l (vN m)=vN m
 |[]=>rfl
 |_::m=>by rw[vN,List.map_cons,gi,<-vN,Fy b l m];rfl
@[go_sem] theorem Nb (b es:Nat) (rows:List (List IV)):∀m:List (Int×Int),gy b es rows (vN m)=vN m
 |[]=>rfl
 |_::m=>by rw[vN,List.map_cons,gy,<-vN,Nb b es rows m];rfl
@[go_sem] theorem M9 (b:Nat) (rows:List (List IV)):∀m:List (Int×Int),gk b rows (vN m)=True
 |[]=>rfl
 |_::m=>by rw[vN,List.map_cons,gk,<-vN,M9 b rows m];simp[gj]
theorem yX {m:List (Int×Int)} {j:Nat} {p:Int×Int} (h:m[j]?=some p):(vN m)[j]?=some (Iv p.2):=by rw[vN,List.getElem?_map,h];rfl
theorem Ku (m:List (Int×Int)) (v:Int) (x:Int):vN (l8 m v x)=match dR m v with
  |some j=>(vN m).set j ((fun p:Int×Int=>Iv p.2) (v,x))
  |none=>vN m++[(fun p:Int×Int=>Iv p.2) (v,x)]:=by
 rw[l8]
 cases dR m v with
 |none=>simp only[vN,List.map_append];rfl
 |some j=>simp[vN,List.map_set]
def vT (m:List (Int×Tm)):List AV:=m.map fun p=>bD p.2
theorem Kx (m:List (Int×Tm)):(vT m).length=m.length:=List.length_map ..
@[go_sem] theorem ma (ρ:Nat->Nat):∀m:List (Int×Tm),AV.cy ρ (vT m)=vT m
 |[]=>rfl
 |_::m=>by rw[vT,List.map_cons,AV.cy,<-vT,ma ρ m];rfl
@[go_sem] theorem PU (b:Nat):∀m:List (Int×Tm),kB b (vT m)=vT m
 |[]=>rfl
 |_::m=>by rw[vT,List.map_cons,kB,<-vT,PU b m];rfl
@[go_sem] theorem fK (b:Nat):∀m:List (Int×Tm),AV.mens b (vT m)=false
 |[]=>rfl
 |_::m=>by rw[vT,List.map_cons,AV.mens,<-vT,fK b m];rfl
@[go_sem] theorem No (b:Nat):∀m:List (Int×Tm),AV.hU b (vT m)=false
 |[]=>rfl
 |_::m=>by rw[vT,List.map_cons,AV.hU,<-vT,No b m];rfl
@[go_sem] theorem M7 (b:Nat) (l:List IV):∀m:List (Int×Tm),gi b l (vT m)=vT m
 |[]=>rfl
 |_::m=>by rw[vT,List.map_cons,gi,<-vT,M7 b l m];rfl
@[go_sem] theorem Nc (b es:Nat) (rows:List (List IV)):∀m:List (Int×Tm),gy b es rows (vT m)=vT m
 |[]=>rfl
 |_::m=>by rw[vT,List.map_cons,gy,<-vT,Nc b es rows m];rfl
@[go_sem] theorem M_ (b:Nat) (rows:List (List IV)):∀m:List (Int×Tm),gk b rows (vT m)=True
 |[]=>rfl
 |_::m=>by rw[vT,List.map_cons,gk,<-vT,M_ b rows m];simp[gj,gk]
theorem Kw {m:List (Int×Tm)} {j:Nat} {p:Int×Tm} (h:m[j]?=some p):(vT m)[j]?=some (bD p.2):=by rw[vT,List.getElem?_map,h];rfl
def vZ (m:List (Int×Int×Int)):List AV:=m.map fun p=> .agg [Iv p.2.1,Iv p.2.2]
@[go_sem] theorem RP (ρ:Nat->Nat):∀m:List (Int×Int×Int),AV.cy ρ (vZ m)=vZ m
 |[]=>rfl
 |_::m=>by rw[vZ,List.map_cons,AV.cy,<-vZ,RP ρ m];rfl
@[go_sem] theorem PV (b:Nat):∀m:List (Int×Int×Int),kB b (vZ m)=vZ m
 |[]=>rfl
 |_::m=>by rw[vZ,List.map_cons,kB,<-vZ,PV b m];rfl
@[go_sem] theorem Qz (b:Nat):∀m:List (Int×Int×Int),AV.mens b (vZ m)=false
 |[]=>rfl
 |_::m=>by rw[vZ,List.map_cons,AV.mens,<-vZ,Qz b m];rfl
@[go_sem] theorem Np (b:Nat):∀m:List (Int×Int×Int),AV.hU b (vZ m)=false
 |[]=>rfl
 |_::m=>by rw[vZ,List.map_cons,AV.hU,<-vZ,Np b m];rfl
@[go_sem] theorem M8 (b:Nat) (l:List IV):∀m:List (Int×Int×Int),gi b l (vZ m)=vZ m
 |[]=>rfl
 |_::m=>by rw[vZ,List.map_cons,gi,<-vZ,M8 b l m];rfl
@[go_sem] theorem Nf (b es:Nat) (rows:List (List IV)):∀m:List (Int×Int×Int),gy b es rows (vZ m)=vZ m
 |[]=>rfl
 |_::m=>by rw[vZ,List.map_cons,gy,<-vZ,Nf b es rows m];rfl
@[go_sem] theorem Na (b:Nat) (rows:List (List IV)):∀m:List (Int×Int×Int),gk b rows (vZ m)=True
 |[]=>rfl
 |_::m=>by rw[vZ,List.map_cons,gk,<-vZ,Na b rows m];simp[gj,gk]
section
open Go.MapKept
variable {C:Cx} {K:List PK} {E:Env} {H:aa}
theorem AQ.Qm {ds:List (Nat×Nat)} {i:Nat} {d:Option Nat} {ty t kt et:TypeId} {pos:String} {af:Array Edge} {os:List Oper} {m k:Operand} {ok:Bool} {b:Nat} {ks:List Value} {cs:List AV} {kv z:Value} {dk:TypeDesc} (xz:AV)
  (ah:a6 C.n ({dst:=d,op:= .lookup t m k ok,type:=ty,pos:=pos,after:=af,guard:=none}::os)=true)
  (hm:ev E m=some (.mp b)) (hk:ev E k=some (.im (.v kv))) (hH:lk H b=some (.var (.map ks) cs)) (ht:C.P.underlying t=some (.map kt et)) (hd:C.P.underlying kt=some dk)
  (jN:nE dk ks) (fl:Go.MapKept.IsKey dk kv) (bH:kv∉ks) (hz:(C.P.info? et).bind (·.zero)=some z) (iK:∀w φ I,AV.den w φ I xz z)
  (h:vq C K os (aQ d i ds) (i+1) (aS d (bif ok then .aK [xz,.im (.v (.bool false))]else xz) E) H):
  AQ C ds i ({dst:=d,op:= .lookup t m k ok,type:=ty,pos:=pos,after:=af,guard:=none}::os) K E H:=by
 refine AQ.val (bif ok then .aK [xz,.im (.v (.bool false))]else xz) ah rfl (fun φ I a w hs=>?_) h
 obtain⟨g,es,clock,gI,hg,hh,aN,hY,kg⟩:=oE hs.st.real hH (aL hs.env hm)
 have gF:=aL hs.env hk
 simp only[AV.den,IV.den]at gF
 rcases rQ aN jN fl with⟨U,_⟩|⟨j',e,U,h2,h3,h4⟩
 ·have BD:(zeroValue et).run C.P w= .ok z w:=by
   cases hi:C.P.info? et with
   |none=>rw[hi]at hz;cases hz
   |some inf=>
    rw[hi]at hz
    simp only[Option.bind_some]at hz
    simp[zeroValue,typeInfo,hi,hz]
  have ax:(Instr.lookup t (a.eval m) (a.eval k) ok).run C.P w= .ok (if ok then .tuple #[z,.bool false]else z) w:=by
   rw[gI,gF.1]
   cases ok<;>simp[Instr.lookup,run_underlying ht,MapKept.run_getObj_map hh,run_checkKey hd fl,run_findKey hd U,BD,Result.andThen]
  refine⟨if ok then .tuple #[z,.bool false]else z,by simp only[execOp,Sem.run_bind,Sem.run_map,ax,Result.andThen_ok,Sem.run_pure],?_⟩
  cases ok with
  |true=>simp only[cond_true,if_true,AV.den,AV.ab,IV.den];exact⟨_,⟨_,_,rfl,iK _ _ _,_,_,rfl,⟨rfl,rfl⟩,rfl⟩,rfl⟩
  |false=>simp only[cond_false,Bool.false_eq_true,if_false];exact iK _ _ _
 ·exact absurd (List.mem_of_getElem? h4) bH
end
theorem u3:Tryz.prog.underlying 3=some (.int .i64):=by kernel_rfl
theorem lz:Tryz.prog.underlying 149=some (.map 3 3):=by kernel_rfl
def bump (m:List (Int×Int)) (v:Int):List (Int×Int):=l8 m v ((bA m v).getD 0+1)
def stM (m:List (Int×Int)) (x:Tm):List (Int×Int):=if x.nm=[]then bump m x.ix else m
def dv (xs:List Tm):List (Int×Int):=xs.foldl stM []
def i_ (xs:List Tm):List Int:=xs.flatMap fun x=>if x.nm=[]then[x.ix]else[]
theorem Mn (xs:List Tm) (x:Tm):dv (xs++[x])=stM (dv xs) x:=by rw[dv,List.foldl_append];rfl
theorem Fs:∀(xs:List Tm) (m:List (Int×Int)),eg m->eg (xs.foldl stM m)
 |[],m,h=>h
 |x::xs,m,h=>Fs xs _ (by
   rw[stM]
   by_cases hx:x.nm=[]
   ·rw[if_pos hx];exact QI h _ _
   ·rw[if_neg hx];exact h)
theorem we (xs:List Tm):eg (dv xs):=Fs xs [] List.nodup_nil
theorem Fq:∀(xs:List Tm) (m:List (Int×Int)) (v:Int),(∀v,(bA m v).getD 0≥0/\(bA m v=none\/(bA m v).getD 0>0))->
  (bA (xs.foldl stM m) v).getD 0=(bA m v).getD 0+(i_ xs).count v/\(bA (xs.foldl stM m) v=none\/(bA (xs.foldl stM m) v).getD 0>0)
 |[],m,v,h=>⟨by simp[i_],(h v).2⟩
 |x::xs,m,v,h=>by
  have U:∀v,(bA (stM m x) v).getD 0=(bA m v).getD 0+((if x.nm=[]then[x.ix]else[]):List Int).count v:=fun v=>by
   rw[stM]
   by_cases hx:x.nm=[]
   ·rw[if_pos hx,if_pos hx,bump,Hq]
    by_cases hv:v=x.ix
    ·subst hv;rw[if_pos rfl];simp
    ·rw[if_neg hv,List.count_cons_of_ne (fun e=>hv e.symm)];simp
   ·rw[if_neg hx,if_neg hx];simp
  have h2:∀v,(bA (stM m x) v).getD 0≥0/\(bA (stM m x) v=none\/(bA (stM m x) v).getD 0>0):=fun v=>by
   refine⟨by rw[U];have:=(h v).1;omega,?_⟩
   by_cases hx:x.nm=[]
   ·by_cases hv:v=x.ix
    ·refine .inr ?_
     rw[U,if_pos hx,<-hv]
     have:=(h v).1
     simp;omega
    ·rw[stM,if_pos hx,bump,Hq,if_neg hv];exact(h v).2
   ·rw[stM,if_neg hx];exact(h v).2
  obtain⟨a,b⟩:=Fq xs (stM m x) v h2
  rw[List.foldl_cons]
  refine⟨?_,b⟩
  rw[a,U,show i_ (x::xs)=(if x.nm=[]then[x.ix]else[])++i_ xs by simp[i_],List.count_append]
  omega
theorem sV (xs:List Tm) (v:Int):(bA (dv xs) v).getD 0=(i_ xs).count v:=by
 have:=(Fq xs [] v fun v=>⟨by simp[bA],.inl rfl⟩).1
 rw[dv,this];simp[bA]
mutual
theorem ve:∀t,cM t=i_ (bL t)
 | .mk n i xs=>by
  rw[cM,bL,KE xs]
  by_cases h:n=[]<;>simp[i_,Tm.nm,Tm.ix,h]
theorem KE:∀l,ba l=i_ (cf l)
 |[]=>by rw[ba,cf];rfl
 |t::l=>by rw[ba,cf,ve t,KE l];simp[i_]
end
mutual
theorem KJ:∀t,wT t=(bL t).length
 | .mk n i xs=>by rw[wT,bL,KL xs,List.length_cons];omega
theorem KL:∀l,aF l=(cf l).length
 |[]=>by rw[aF,cf];rfl
 |t::l=>by rw[aF,cf,KJ t,KL l,List.length_append]
end
theorem count_le (xs:List Tm) (v:Int):(i_ xs).count v<=xs.length:=by
 induction xs with
 |nil=>simp[i_]
 |cons x xs ih=>
  rw[show i_ (x::xs)=(if x.nm=[]then[x.ix]else[])++i_ xs by simp[i_],List.count_append,List.length_cons]
  have:((if x.nm=[]then[x.ix]else[]):List Int).count v<=1:=by
   by_cases hx:x.nm=[]
   ·rw[if_pos hx];exact Nat.le_trans (List.count_le_length) (by simp)
   ·rw[if_neg hx];simp
  omega
noncomputable def pg (l:Nat) (st:fP):Ob:= .lp l 23 st Tryz.f208 [0,1,0,1,1] [10] [(4,.ob 1 0),(5,.ob 2 0)]
noncomputable def nM (l:Nat) (st:fP) (xs:List Tm):aa:=[(4,oZ l 4),(3,pg l st),(2,.var 3 [Iv xs.length]),(1,.var 149 [.mp 0]),(0,.var (.map (kI (dv xs))) (vN (dv xs)))]
theorem Mr (l:Nat) (xs:List Tm) (x:Tm) (hx:xs.length<=1000000):fx Tryz.prog 5 l [bD x] (nM l .ready xs) (fun r H'=>r=Bv true/\H'=nM l .ready (xs++[x])):=by
 have hw:=wr (x:=(xs.length:Int)+1) (by omega)
 have bx:=Mn xs x
 have cn:=we xs
 have gA:∀v,(0:Int)<=(bA (dv xs) v).getD 0/\(bA (dv xs) v).getD 0<=xs.length:=fun v=>by rw[sV];have:=count_le xs v;omega
 have hlen:((xs.length:Int)+1)=((xs++[x]).length:Nat):=by simp
 refine fx.walk (b:=3) [4,5,6,10,15] [4,5] rfl rfl rfl fun w own I0 aw lay=>?_
 simp only[go_sem,Nat.reduceAdd,Nat.reduceLeDiff,Nat.reduceSub,Int.reduceToNat,reduceCtorEq,mf,nM,pg]
 refine gO ?_
 refine AE.begin (b:=3) rfl rfl _ ?_
 refine sI ?_
 refine gE @hw ?_
 refine AP.fix 5 rfl rfl ?_
 refine sI ?_
 refine AP.cond rfl rfl (fun h=>?_) (fun h=>?_)
 ·have h:x.nm=[]:=by simpa using h
  rw[stM,if_pos h,bump]at bx
  refine gO ?_
  cases hq:dR (dv xs) x.ix with
  |none=>
   have iF:(bA (dv xs) x.ix).getD 0=0:=by rw[(om hq).1];rfl
   rw[iF]at bx
   refine AQ.B9 (by kernel_rfl) rfl rfl rfl lz u3 (iO _) rfl (qd hq) rfl rfl ?_
   refine sI ?_
   refine gO ?_
   refine AQ.Cc (by kernel_rfl) rfl rfl rfl rfl lz u3 (iO _) rfl (qd hq) ?_
   refine sI ?_
   refine gO ?_
   refine AE.r7 (b:=3) rfl ⟨rfl,?_⟩
   have e1:=BP (dv xs) x.ix (0+1)
   have e2:=Ku (dv xs) x.ix (0+1)
   rw[hq]at e1 e2
   rw[bx,<-hlen,e1,e2];rfl
  |some j=>
   obtain⟨y,U,h2⟩:=rI hq
   refine AQ.uF j (by kernel_rfl) rfl rfl rfl lz u3 (iO _) rfl (List.mem_of_getElem? (ov U)) (fun i hi=>ow cn U hi) (yX U) ?_
   have hy:=gA x.ix
   rw[h2]at bx hy
   have GJ:=wr (x:=y+1) (by simp only[Option.getD_some]at hy;omega)
   refine sI ?_
   refine gE @GJ ?_
   refine AQ.QC j (by kernel_rfl) rfl rfl rfl rfl lz u3 (iO _) rfl (List.mem_of_getElem? (ov U)) (fun i hi=>ow cn U hi) ?_
   refine sI ?_
   refine gO ?_
   refine AE.r7 (b:=3) rfl ⟨rfl,?_⟩
   have e1:=BP (dv xs) x.ix (y+1)
   have e2:=Ku (dv xs) x.ix (y+1)
   rw[hq]at e1 e2
   rw[bx,<-hlen,Option.getD_some,e1,e2,GJ];rfl
 ·have h:¬x.nm=[]:=by simpa using h
  rw[stM,if_neg h]at bx
  refine gO ?_
  exact AE.r7 (b:=3) rfl ⟨rfl,by rw[bx,<-hlen];rfl⟩
theorem Ex (t:Tm) (ht:aY t) (hw:wT t<=1000000):al Tryz.prog 208 [bD t] [] (fun r H'=>r= .aK [.mp 0,Iv (wT t)]/\H'=[(0,.var (.map (kI (dv (bL t)))) (vN (dv (bL t))))]):=by
 refine al.walk [0,1,2,3,4,5,6,9,10,15] [4,5,6] Tryz.func208 rfl Tryz.ntmps208 (by kernel_rfl) (by rfl) rfl fun W own I0 aw lay=>?_
 refine gO ?_
 refine AQ.Cb (by kernel_rfl) ?_
 refine sI ?_
 refine gO ?_
 refine AQ.fn (by kernel_rfl) rfl rfl rfl (J3 t) rfl ?_
 refine sI ?_
 refine gO ?_
 have hlen:=KJ t
 have jP:∀l k k',dT 5 (nM l .ready ((bL t).take k)) (nM l .ready ((bL t).take k')):=fun l k k'=>dT.of _ _ _ rfl
 refine AP.yw 3 0 3 [(4,.ob 1 0),(5,.ob 2 0)] (R:=fun l=>CP (fun k=>nM l .ready ((bL t).take k)) (bL t).length [(4,oZ l 4),(3,pg l .ready),(2,.var 3 []),(1,.var 3 []),(0,.var 3 [])] (bL t).length) rfl rfl (by kernel_rfl) (sU) rfl rfl (fun l=>?_) (fun l r H' hR=>?_)
 ·refine J1 (nb:=3) (M:=4) (m:=(bL t).length) (Hs:=fun k=>[(3,pg l .ready),(2,.var 3 [Iv ((bL t).take k).length]),(1,.var 149 [.mp 0]),(0,.var (.map (kI (dv ((bL t).take k)))) (vN (dv ((bL t).take k))))]) (Hx:=[(3,pg l .ready),(2,.var 3 []),(1,.var 3 []),(0,.var 3 [])]) t ht ⟨fun k hk w8=>?_,fun hk=>absurd hk (Nat.lt_irrefl _),fun k k'=>jP l k k',fun k=>dT.of _ _ _ rfl⟩ rfl (fun _=>rfl) (fun _ _=>?_)
  ·obtain⟨u,hu⟩:∃u,(bL t)[k]?=some u:=⟨_,List.getElem?_eq_getElem w8⟩
   have:=Mr l ((bL t).take k) u (by rw[List.length_take];omega)
   rw[u_ hu]
   rw[<-dV hu]at this
   exact this
  ·simp only[g_,nU,gi,eY,Fy];rfl
 ·rcases hR with⟨U,rfl⟩|⟨U,rfl⟩
  ·refine⟨dT.of _ _ _ rfl,.ready,_,rfl,by simp only[go_sem,Nat.reduceAdd,Nat.reduceLeDiff,Nat.reduceSub,Int.reduceToNat,reduceCtorEq,nM,pg,noMen,AV.mens,AV.men,fJ,Bool.or_false];first|done|rfl,?_⟩
   simp only[go_sem,Nat.reduceAdd,Nat.reduceLeDiff,Nat.reduceSub,Int.reduceToNat,reduceCtorEq,nM,pg,List.take_length]
   refine gO ?_
   exact AE.bk [4,2,1] rfl ⟨rfl,rfl,trivial⟩ (by simp only[go_sem,Nat.reduceAdd,Nat.reduceLeDiff,Nat.reduceSub,Int.reduceToNat,reduceCtorEq,bW,noMen,AV.mens,AV.men,fJ,Bool.or_false];first|done|rfl) ⟨by rw[hlen];rfl,rfl⟩
  ·exact absurd U (Nat.lt_irrefl _)
def oX (bs seen:List Nat):Nat:=(bs.filter fun n=>decide (n∉seen)).length
theorem Kt {bs seen:List Nat} {n:Nat} (h:n∈bs) (hs:n∉seen):oX bs (seen++[n])<oX bs seen:=by
 induction bs with
 |nil=>cases h
 |cons a l ih=>
  have hle:∀l:List Nat,oX l (seen++[n])<=oX l seen:=fun l=>by
   induction l with
   |nil=>exact Nat.le_refl _
   |cons b m G0=>
    unfold oX at G0⊢
    by_cases hb:b∈seen
    ·rw[List.filter_cons_of_neg (by simp[hb]),List.filter_cons_of_neg (by simp[hb])];exact G0
    ·by_cases e6:b=n
     ·rw[List.filter_cons_of_neg (by simp[e6]),List.filter_cons_of_pos (by simp[hb]),List.length_cons];omega
     ·rw[List.filter_cons_of_pos (by simp[hb,e6]),List.filter_cons_of_pos (by simp[hb]),List.length_cons,List.length_cons];omega
  by_cases Aj:a=n
  ·subst Aj
   have:=hle l
   unfold oX at this⊢
   rw[List.filter_cons_of_neg (by simp),List.filter_cons_of_pos (by simp[hs]),List.length_cons];omega
  ·have U:n∈l:=by rcases List.mem_cons.1 h with e|e;exact absurd e.symm Aj;exact e
   have h2:=ih U
   unfold oX at h2⊢
   by_cases ha:a∈seen
   ·rw[List.filter_cons_of_neg (by simp[ha]),List.filter_cons_of_neg (by simp[ha])];exact h2
   ·rw[List.filter_cons_of_pos (by simp[ha,Aj]),List.filter_cons_of_pos (by simp[ha]),List.length_cons,List.length_cons];omega
def mu (a b:List (Int×Int)):Bool:=b.all fun p=>decide (p.2<=(bA a p.1).getD 0)
theorem MD (a b:List (Int×Int)) (ha:eg a) (hb:eg b):al Tryz.prog 209 [.mp 0,.mp 1] [(1,.var (.map (kI b)) (vN b)),(0,.var (.map (kI a)) (vN a))] (fun r H'=>r=Bv (mu a b)/\H'=[(1,.var (.map (kI b)) (vN b)),(0,.var (.map (kI a)) (vN a))]):=by
 refine al.walk [0,1,4,5,6,8,10,18] [] Tryz.func209 rfl Tryz.ntmps209 (by kernel_rfl) (by rfl) rfl fun W own I0 aw lay=>?_
 refine gO ?_
 refine AQ.HU (by kernel_rfl) rfl rfl lz fun bs clock bz=>?_
 have ca:(vN b).length=bs.length:=by rw[<-bz.len,S7,xP]
 have ku:=He b
 refine sI ?_
 refine gO ?_
 refine AP.loop rfl (α:=List Nat) (fun _=>[(0,.mp 0),(8,.ob 2 0)]) (fun seen=>[(2,.var (.raw (iN clock seen clock)) [.mp 1]),(1,.var (.raw (jv (kI b) bs clock)) (vN b)),(0,.var (.map (kI a)) (vN a))])
  (fun seen=>∀(j n:Nat) (p:Int×Int),bs[j]?=some n->n∈seen->b[j]?=some p->p.2<=(bA a p.1).getD 0) (fun seen=>oX bs seen) [] (fun _ _ _ _ h _=>by cases h) (sU) rfl fun seen Bk=>?_
 refine gO ?_
 refine AQ.HS (by kernel_rfl) rfl rfl rfl bz rfl rfl ku ca (fun gz=>?_) (fun j n key y e6 ru pO hy=>?_)
 ·have kl:mu a b=true:=by
   rw[mu,List.all_eq_true]
   intro p hp
   obtain⟨j,hj⟩:=List.mem_iff_getElem?.1 hp
   have kn:j<bs.length:=by have:=(List.getElem?_eq_some_iff.1 hj).1;rw[<-bz.len,xP];exact this
   exact decide_eq_true (Bk j bs[j] p (List.getElem?_eq_getElem kn) (gz _ (List.getElem_mem _)) hj)
  refine sI ?_
  refine gO ?_
  refine AE.lY 1 rfl bz ca ?_
  refine sI ?_
  exact AE.bk [2] rfl ⟨rfl,trivial⟩ (by simp only[go_sem,Nat.reduceAdd,Nat.reduceLeDiff,Nat.reduceSub,Int.reduceToNat,reduceCtorEq,bW,noMen,AV.mens,AV.men,fJ,Bool.or_false];first|done|rfl) ⟨by rw[kl];rfl,rfl⟩
 ·obtain⟨p,hp,rfl⟩:=BO pO
  have GK:=yX hp
  rw[hy]at GK
  cases GK
  refine sI ?_
  refine gO ?_
  refine AQ.HR (by kernel_rfl) rfl rfl rfl bz ku ca e6 pO hy ?_
  refine sI ?_
  refine gO ?_
  cases hq:dR a p.1 with
  |none=>
   refine AQ.B9 (by kernel_rfl) rfl rfl rfl lz u3 (iO _) rfl (qd hq) rfl rfl ?_
   have hv:(bA a p.1).getD 0=0:=by rw[(om hq).1];rfl
   refine sI ?_
   refine gO ?_
   refine AP.cond rfl rfl (fun h5=>?_) (fun h5=>?_)
   ·have h5:¬p.2<=(bA a p.1).getD 0:=by rw[hv];simp at h5;omega
    have kl:mu a b=false:=by
     rw[<-Bool.not_eq_true,mu,List.all_eq_true]
     exact fun hc=>h5 (by simpa using hc p (List.mem_of_getElem? hp))
    refine gO ?_
    refine AE.lY 1 rfl bz ca ?_
    refine sI ?_
    exact AE.bk [2] rfl ⟨rfl,trivial⟩ (by simp only[go_sem,Nat.reduceAdd,Nat.reduceLeDiff,Nat.reduceSub,Int.reduceToNat,reduceCtorEq,bW,noMen,AV.mens,AV.men,fJ,Bool.or_false];first|done|rfl) ⟨by rw[kl];rfl,rfl⟩
   ·have h5:p.2<=(bA a p.1).getD 0:=by rw[hv];simp at h5;omega
    refine gO ?_
    refine AE.round (seen++[n]) (fun j' n' v' h7 h8 h9=>?_) (Kt (List.mem_of_getElem? e6) ru) (sU) rfl
    rcases List.mem_append.1 h8 with h8|h8
    ·exact Bk j' n' v' h7 h8 h9
    ·have e1:n'=n:=by simpa using h8
     subst e1
     have e2:j'=j:=by
      obtain⟨a1,b1⟩:=List.getElem?_eq_some_iff.1 h7
      obtain⟨a2,b2⟩:=List.getElem?_eq_some_iff.1 e6
      exact(List.getElem_inj bz.nd).1 (b1.trans b2.symm)
     subst e2
     rw[hp]at h9
     cases h9
     exact h5
  |some j'=>
   obtain⟨x,U,h2⟩:=rI hq
   have hv:(bA a p.1).getD 0=x:=by rw[h2];rfl
   refine AQ.uF j' (by kernel_rfl) rfl rfl rfl lz u3 (iO _) rfl (List.mem_of_getElem? (show(kI a)[j']?=some (.int .i64 p.1) from ov (p:=(p.1,x)) U)) (fun i hi=>ow ha U hi) (show(vN a)[j']?=some (Iv x) from yX (p:=(p.1,x)) U) ?_
   refine sI ?_
   refine gO ?_
   refine AP.cond rfl rfl (fun h5=>?_) (fun h5=>?_)
   ·have h5:¬p.2<=(bA a p.1).getD 0:=by rw[hv];simp at h5;omega
    have kl:mu a b=false:=by
     rw[<-Bool.not_eq_true,mu,List.all_eq_true]
     exact fun hc=>h5 (by simpa using hc p (List.mem_of_getElem? hp))
    refine gO ?_
    refine AE.lY 1 rfl bz ca ?_
    refine sI ?_
    exact AE.bk [2] rfl ⟨rfl,trivial⟩ (by simp only[go_sem,Nat.reduceAdd,Nat.reduceLeDiff,Nat.reduceSub,Int.reduceToNat,reduceCtorEq,bW,noMen,AV.mens,AV.men,fJ,Bool.or_false];first|done|rfl) ⟨by rw[kl];rfl,rfl⟩
   ·have h5:p.2<=(bA a p.1).getD 0:=by rw[hv];simp at h5;omega
    refine gO ?_
    refine AE.round (seen++[n]) (fun j' n' v' h7 h8 h9=>?_) (Kt (List.mem_of_getElem? e6) ru) (sU) rfl
    rcases List.mem_append.1 h8 with h8|h8
    ·exact Bk j' n' v' h7 h8 h9
    ·have e1:n'=n:=by simpa using h8
     subst e1
     have e2:j'=j:=by
      obtain⟨a1,b1⟩:=List.getElem?_eq_some_iff.1 h7
      obtain⟨a2,b2⟩:=List.getElem?_eq_some_iff.1 e6
      exact(List.getElem_inj bz.nd).1 (b1.trans b2.symm)
     subst e2
     rw[hp]at h9
     cases h9
     exact h5
theorem MB (s t:Tm):mu (dv (bL s)) (dv (bL t))=sX s t:=by
 rw[Bool.eq_iff_iff,MC,mu,List.all_eq_true]
 constructor
 ·intro h v
  rw[ve,ve]
  have U:=sV (bL t) v
  have h2:=sV (bL s) v
  cases hq:bA (dv (bL t)) v with
  |none=>rw[hq]at U;simp only[Option.getD_none]at U;omega
  |some x=>
   rw[hq]at U
   have:=h (v,x) (Qf hq)
   simp only[decide_eq_true_eq,h2]at this
   simp only[Option.getD_some]at U
   omega
 ·intro h p hp
  have U:=sV (bL t) p.1
  rw[H6 (we _) hp,Option.getD_some]at U
  rw[decide_eq_true_eq,sV,U]
  have:=h p.1
  rw[ve,ve]at this
  omega
theorem HZ (a:Int):aR Tryz.prog 229 [Iv a] (Bv false):=by
 refine al.walk [0,2] [] Tryz.func229 rfl Tryz.ntmps229 (by kernel_rfl) (by rfl) rfl fun W own I0 aw lay=>?_
 refine gO ?_
 exact AE.a7 rfl ⟨rfl,trivial⟩ rfl ⟨rfl,by simp[dA];rfl⟩
theorem H2 (a:List UInt8):aR Tryz.prog 165 [Sv a] (Bv false):=by
 refine al.walk [0,2] [] Tryz.func165 rfl Tryz.ntmps165 (by kernel_rfl) (by rfl) rfl fun W own I0 aw lay=>?_
 refine gO ?_
 exact AE.a7 rfl ⟨rfl,trivial⟩ rfl ⟨rfl,by simp[dA];rfl⟩
def kW (a b:Int):Int:=if a<b then-1 else if b<a then 1 else 0
def j9 (a b:List UInt8):Int:=if a<b then-1 else if b<a then 1 else 0
theorem Mo (a b:Int):aR Tryz.prog 211 [Iv a,Iv b] (Iv (kW a b)):=by
 refine al.walk [0,1,4,5,6,11,12,13,16,19] [] Tryz.func211 rfl Tryz.ntmps211 (by kernel_rfl) (by rfl) rfl fun W own I0 aw lay=>?_
 refine gO ?_
 refine AQ.fn (by kernel_rfl) rfl rfl rfl (HZ a) rfl ?_
 refine sI ?_
 refine gO ?_
 refine AQ.fn (by kernel_rfl) rfl rfl rfl (HZ b) rfl ?_
 refine sI ?_
 refine gO ?_
 refine AP.cond rfl rfl (fun h=>?_) (fun h=>?_)
 ·refine gO ?_
  exact AE.a7 rfl ⟨rfl,trivial⟩ rfl ⟨rfl,by rw[kW,if_pos (by simpa using h)];rfl⟩
 ·refine gO ?_
  refine AP.cond rfl rfl (fun h2=>?_) (fun h2=>?_)
  ·refine gO ?_
   exact AE.a7 rfl ⟨rfl,trivial⟩ rfl ⟨rfl,by rw[kW,if_neg (by simpa using h),if_pos (by simpa using h2)];rfl⟩
  ·refine gO ?_
   exact AE.a7 rfl ⟨rfl,trivial⟩ rfl ⟨rfl,by rw[kW,if_neg (by simpa using h),if_neg (by simpa using h2)];rfl⟩
theorem uA:∀a b:List UInt8,Op.bytesLess a b=decide (a<b)
 |[],[]=>by simp[Op.bytesLess]
 |[],_::_=>by simp[Op.bytesLess]
 |_::_,[]=>by simp[Op.bytesLess]
 |x::a,y::b=>by
  rw[Op.bytesLess,uA a b,Bool.eq_iff_iff]
  simp only[Bool.or_eq_true,Bool.and_eq_true,decide_eq_true_eq,beq_iff_eq,List.cons_lt_cons_iff]
theorem Qq {a b:List UInt8} (_:Op.bytesLess a b=false) (h2:(!(Op.bytesLess a b||a==b))=true):b<a:=by
 simp only[uA,Bool.not_eq_true',Bool.or_eq_false_iff,decide_eq_false_iff_not,beq_eq_false_iff_ne]at h2
 rcases x8 a b with h|h|h
 ·exact absurd h h2.1
 ·exact absurd h h2.2
 ·exact h
theorem Qp {a b:List UInt8} (U:Op.bytesLess a b=false) (h2:(!(Op.bytesLess a b||a==b))=false):¬b<a:=by
 intro hc
 rw[U,Bool.false_or,Bool.not_eq_false',beq_iff_eq]at h2
 subst h2
 exact List.lt_irrefl _ hc
theorem Es (a b:List UInt8):aR Tryz.prog 92 [Sv a,Sv b] (Iv (j9 a b)):=by
 refine al.walk [0,1,4,5,6,11,12,13,16,19] [] Tryz.func92 rfl Tryz.ntmps92 (by kernel_rfl) (by rfl) rfl fun W own I0 aw lay=>?_
 refine gO ?_
 refine AQ.fn (by kernel_rfl) rfl rfl rfl (H2 a) rfl ?_
 refine sI ?_
 refine gO ?_
 refine AQ.fn (by kernel_rfl) rfl rfl rfl (H2 b) rfl ?_
 refine sI ?_
 refine gO ?_
 refine AP.cond rfl rfl (fun h=>?_) (fun h=>?_)
 ·refine gO ?_
  exact AE.a7 rfl ⟨rfl,trivial⟩ rfl ⟨rfl,by rw[j9,if_pos (by simpa[uA]using h)];rfl⟩
 ·refine gO ?_
  refine AP.cond rfl rfl (fun h2=>?_) (fun h2=>?_)
  ·refine gO ?_
   exact AE.a7 rfl ⟨rfl,trivial⟩ rfl ⟨rfl,by rw[j9,if_neg (by simpa[uA]using h),if_pos (Qq h h2)];rfl⟩
  ·refine gO ?_
   exact AE.a7 rfl ⟨rfl,trivial⟩ rfl ⟨rfl,by rw[j9,if_neg (by simpa[uA]using h),if_neg (Qp h h2)];rfl⟩
@[go_sem] theorem Sb (k:Nat):∀m:List (Int×Int),AV.iW k (vN m)=vN m
 |[]=>rfl
 |_::m=>by rw[vN,List.map_cons,AV.iW,<-vN,Sb k m];rfl
theorem Ri (a b:Int):aR Tryz.prog 210 [.im (.sl 1 [[Ii a],[Ii b]])] (Iv (if a≠0 then a else b)):=by
 refine al.walk [0,2,3,5,6,7,8,9,14] [] Tryz.func210 rfl Tryz.ntmps210 (by kernel_rfl) (by rfl) rfl fun W own I0 aw lay=>?_
 refine gO ?_
 refine AP.loop rfl (α:=Nat) (fun k=>[(3,Iv 0),(6,.im (.sl 1 [[Ii a],[Ii b]])),(7,Iv 2),(8,Iv k)]) (fun _=>[]) (fun k=>k<=2/\(0<k->a=0)/\(1<k->b=0)) (fun k=>2-k) 0 ⟨by omega,by omega,by omega⟩ (sU) rfl fun k ⟨hk,U,h2⟩=>?_
 have hw:=wr (x:=(k:Int)+1) (by omega)
 obtain rfl|rfl|rfl:k=0\/k=1\/k=2:=by omega
 ·refine gE (an @List.getD_cons_zero.{0} (an @List.length_cons.{0} @List.length_nil.{0})) ?_
  refine AP.cond rfl rfl (fun h=>?_) (fun h=>?_)
  ·refine gO ?_
   exact AE.a7 rfl ⟨rfl,trivial⟩ rfl ⟨rfl,by rw[if_pos (by simpa using h)];rfl⟩
  ·refine gO ?_
   exact AE.round 1 ⟨by omega,fun _=>by simpa using h,by omega⟩ (by omega) (sU) rfl
 ·refine gE (an @List.getD_cons_zero.{0} (an @List.getD_cons_succ.{0} (an @List.length_cons.{0} @List.length_nil.{0}))) ?_
  have ha:=U (by omega)
  refine AP.cond rfl rfl (fun h=>?_) (fun h=>?_)
  ·refine gO ?_
   exact AE.a7 rfl ⟨rfl,trivial⟩ rfl ⟨rfl,by rw[if_neg (by simpa using ha)];rfl⟩
  ·refine gO ?_
   exact AE.round 2 ⟨by omega,fun _=>ha,fun _=>by simpa using h⟩ (by omega) (sU) rfl
 ·have ha:=U (by omega)
  have hb:=h2 (by omega)
  refine gO ?_
  exact AE.a7 rfl ⟨rfl,trivial⟩ rfl ⟨rfl,by rw[if_neg (by simpa using ha),hb];rfl⟩
theorem Mq {s t:Tm} {q:Int} (hg:lJ s t=if s.xs.length≠t.xs.length then decide (t.xs.length<s.xs.length)else if s.nm≠t.nm then decide (t.nm<s.nm)else nV s.xs t.xs)
  (hq:(if kW s.xs.length t.xs.length≠0 then kW s.xs.length t.xs.length else j9 s.nm t.nm)=q):(q≠0->lJ s t=decide (0<q))/\(q=0->s.xs.length=t.xs.length/\s.nm=t.nm/\lJ s t=nV s.xs t.xs):=by
 have hI:kW s.xs.length t.xs.length=if s.xs.length<t.xs.length then-1 else if t.xs.length<s.xs.length then 1 else 0:=by
  rw[kW];simp only[Int.ofNat_lt]
 rw[hI,j9]at hq
 by_cases U:s.xs.length=t.xs.length
 ·rw[if_neg (by omega:¬s.xs.length<t.xs.length),if_neg (by omega:¬t.xs.length<s.xs.length),if_neg (by decide)]at hq
  rw[if_neg (by omega)]at hg
  rcases x8 s.nm t.nm with h2|h2|h2
  ·rw[if_pos h2]at hq
   rw[if_pos (fun e=>by rw[e]at h2;exact List.lt_irrefl _ h2),decide_eq_false (fun h3=>List.lt_asymm h2 h3)]at hg
   subst hq
   exact⟨fun _=>hg,fun h=>absurd h (by decide)⟩
  ·rw[h2,if_neg (List.lt_irrefl _),if_neg (List.lt_irrefl _)]at hq
   rw[if_neg (by simpa using h2)]at hg
   subst hq
   exact⟨fun h=>absurd rfl h,fun _=>⟨U,h2,hg⟩⟩
  ·rw[if_neg (fun h3=>List.lt_asymm h2 h3),if_pos h2]at hq
   rw[if_pos (fun e=>by rw[e]at h2;exact List.lt_irrefl _ h2),decide_eq_true h2]at hg
   subst hq
   exact⟨fun _=>hg,fun h=>absurd h (by decide)⟩
 ·rw[if_pos U]at hg
  by_cases h2:s.xs.length<t.xs.length
  ·rw[if_pos h2,if_pos (by decide)]at hq
   rw[decide_eq_false (by omega)]at hg
   subst hq
   exact⟨fun _=>hg,fun h=>absurd h (by decide)⟩
  ·rw[if_neg h2,if_pos (show t.xs.length<s.xs.length by omega),if_pos (by decide)]at hq
   rw[decide_eq_true (by omega)]at hg
   subst hq
   exact⟨fun _=>hg,fun h=>absurd h (by decide)⟩
theorem zZ (s t:Tm) (hs:aY s) (ht:aY t) (rA:wT s<=1000000) (xo:wT t<=1000000):aR Tryz.prog 168 [bD s,bD t] (Bv (lJ s t)):=by
 have d_:=ga.1 hs
 have xm:=ga.1 ht
 have hg:=Nu s t
 have FU:=Ex s hs rA
 have wN:=Ex t ht xo
 have fE:=MD (dv (bL s)) (dv (bL t)) (we _) (we _)
 rw[MB]at fE
 refine al.walk [0,1,2,3,4,5,6,7,8,9,10,21,26,33,57,62,63,64,77] [] Tryz.func168 rfl Tryz.ntmps168 (by kernel_rfl) (by rfl) rfl fun W own I0 aw lay=>?_
 refine gO ?_
 refine AQ.Ee (by kernel_rfl) rfl rfl rfl FU fun r' H' ⟨e1,e2⟩=>?_
 subst e1;subst e2
 refine sI ?_
 refine gO ?_
 refine AQ.Ee (by kernel_rfl) rfl rfl rfl wN fun r' H' ⟨e1,e2⟩=>?_
 subst e1;subst e2
 refine sI ?_
 refine gO ?_
 refine AQ.bE [(1,1),(0,0)] (by kernel_rfl) rfl rfl rfl rfl rfl rfl (by refine⟨?_,?_,trivial⟩<;>(rw[c7,uX];rfl)) rfl fE fun r' H' ⟨e1,e2⟩=>?_
 subst e1;subst e2
 refine sH ?_
 refine gO ?_
 refine AP.cond rfl rfl (fun U=>?_) (fun U=>?_)
 ·refine gO ?_
  exact AE.bk [1,0] rfl ⟨rfl,trivial⟩ (by simp only[go_sem,Nat.reduceAdd,Nat.reduceLeDiff,Nat.reduceSub,Int.reduceToNat,reduceCtorEq,bW,noMen,AV.mens,AV.men,fJ,Bool.or_false];first|done|rfl) ⟨rfl,by rw[hg,if_pos (by simpa using U)];rfl⟩
 rw[if_neg (by simpa using U)]at hg
 refine gO ?_
 refine AP.cond rfl rfl (fun h2=>?_) (fun h2=>?_)
 ·refine gO ?_
  refine AE.bk [1,0] rfl ⟨rfl,trivial⟩ (by simp only[go_sem,Nat.reduceAdd,Nat.reduceLeDiff,Nat.reduceSub,Int.reduceToNat,reduceCtorEq,bW,noMen,AV.mens,AV.men,fJ,Bool.or_false];first|done|rfl) ⟨rfl,?_⟩
  rw[hg,if_pos (by simp at h2;omega),show decide (wT t<wT s)=decide ((wT t:Int)<wT s) by rw[decide_eq_decide];omega]
  simp[dA];rfl
 rw[if_neg (by simp at h2;omega)]at hg
 refine gO ?_
 refine AP.cond rfl rfl (fun h3=>?_) (fun h3=>?_)
 ·refine gO ?_
  exact AE.bk [1,0] rfl ⟨rfl,trivial⟩ (by simp only[go_sem,Nat.reduceAdd,Nat.reduceLeDiff,Nat.reduceSub,Int.reduceToNat,reduceCtorEq,bW,noMen,AV.mens,AV.men,fJ,Bool.or_false];first|done|rfl) ⟨rfl,by rw[hg,if_pos (by simpa using h3)];rfl⟩
 rw[if_neg (by simpa using h3)]at hg
 refine gE @ao ?_
 refine AP.dh 15 (Tree.node [] [0,1,2,3,4,5,7,8,9,10] [6] [Tree.node [7,8,9,10] [] [11] [Tree.node [] [] [12] [Tree.node [] [] [13] [Tree.node [] [14] [] []]]]]) (by kernel_rfl) rfl (by kernel_rfl) (by kernel_rfl) ?_
 refine de ?_
 refine sE @ao ?_
 refine AQ.fn (by kernel_rfl) rfl rfl rfl (Mo s.xs.length t.xs.length) rfl ?_
 refine sI ?_
 refine AQ.nx rfl ?_
 refine sI ?_
 refine AQ.fn (by kernel_rfl) rfl rfl rfl (Es s.nm t.nm) rfl ?_
 refine sI ?_
 refine AQ.nx rfl ?_
 refine sI ?_
 refine AQ.go (by kernel_rfl) ?_
 refine sI ?_
 refine AQ.nx rfl ?_
 refine sI ?_
 refine AQ.fn (by kernel_rfl) rfl rfl rfl (Ri (kW s.xs.length t.xs.length) (j9 s.nm t.nm)) rfl ?_
 refine sI ?_
 refine AQ.nx rfl ?_
 refine sI ?_
 refine AQ.done ?_
 obtain⟨q,hq⟩:∃q,(if kW s.xs.length t.xs.length≠0 then kW s.xs.length t.xs.length else j9 s.nm t.nm)=q:=⟨_,rfl⟩
 obtain⟨q1,q2⟩:=Mq hg hq
 rw[hq]
 refine gO ?_
 refine AP.cond rfl rfl (fun h4=>?_) (fun h4=>?_)
 ·refine gO ?_
  exact AE.bk [1,0] rfl ⟨rfl,trivial⟩ (by simp only[go_sem,Nat.reduceAdd,Nat.reduceLeDiff,Nat.reduceSub,Int.reduceToNat,reduceCtorEq,bW,noMen,AV.mens,AV.men,fJ,Bool.or_false];first|done|rfl) ⟨rfl,by rw[q1 (by simpa using h4)];simp[dA];rfl⟩
 obtain⟨hl,hn,hm⟩:=q2 (by simpa using h4)
 refine gE @ao ?_
 refine AP.loop rfl (α:=Nat) (fun k=>[(2,.im (oU s)),(3,.im (oU t)),(62,Iv s.xs.length),(63,Iv k)]) (fun _=>[(1,.var (.map (kI (dv (bL t)))) (vN (dv (bL t)))),(0,.var (.map (kI (dv (bL s)))) (vN (dv (bL s))))]) (fun k=>k<=s.xs.length/\lJ s t=nV (s.xs.drop k) (t.xs.drop k)) (fun k=>s.xs.length-k) 0 ⟨by omega,hm⟩ (sU) rfl fun k ⟨hk,hm⟩=>?_
 rcases Nat.eq_or_lt_of_le hk with aN|ag
 ·rw[aN,List.drop_length,hl,List.drop_length,nV]at hm
  refine gE @ao ?_
  refine cF ?_
  refine gO ?_
  exact AE.bk [1,0] rfl ⟨rfl,trivial⟩ (by simp only[go_sem,Nat.reduceAdd,Nat.reduceLeDiff,Nat.reduceSub,Int.reduceToNat,reduceCtorEq,bW,noMen,AV.mens,AV.men,fJ,Bool.or_false];first|done|rfl) ⟨rfl,by rw[hm];rfl⟩
  all_goals simp
 ·obtain⟨u,hu,aX⟩:=dL s.xs k ag
  obtain⟨w,cQ,dH⟩:=dL t.xs k (by omega)
  rw[drop_cons hu,drop_cons cQ,nV]at hm
  have hw:=wr (x:=(k:Int)+1) (by omega)
  have cG:=eh d_.2.2 hu
  have jT:=eh xm.2.2 cQ
  have Vq:wT u<wT s:=KG (List.mem_of_getElem? hu)
  have Vs:wT w<wT t:=KG (List.mem_of_getElem? cQ)
  refine gE @ao ?_
  refine cT ?_
  refine gO ?_
  refine AP.dh 12 (Tree.node [] [0,1,2,3,4,5,6,7,8,9] [10] [Tree.node [] [11] [] []]) (by kernel_rfl) rfl (by kernel_rfl) (by kernel_rfl) ?_
  refine de ?_
  refine sE (an @aX (an @dH @ao)) ?_
  refine⟨by omega,by omega,?_⟩
  refine AQ.fn (by kernel_rfl) rfl rfl rfl (s6 u w cG) rfl ?_
  refine sI ?_
  refine AQ.nx rfl ?_
  refine sI ?_
  refine AQ.done ?_
  refine gO ?_
  refine AP.cond rfl rfl (fun h5=>?_) (fun h5=>?_)
  ·have h5:cW u w=false:=by simpa using h5
   rw[h5,if_neg (by decide)]at hm
   refine gO ?_
   refine AP.dh 12 (Tree.node [] [0,1,2,3,4,5,6,7,8,9] [10] [Tree.node [] [11] [] []]) (by kernel_rfl) rfl (by kernel_rfl) (by kernel_rfl) ?_
   refine de ?_
   refine sE (an @aX (an @dH @ao)) ?_
   refine⟨by omega,by omega,?_⟩
   refine AQ.fn (by kernel_rfl) rfl rfl rfl (zZ u w cG jT (by omega) (by omega)) rfl ?_
   refine sI ?_
   refine AQ.nx rfl ?_
   refine sI ?_
   refine AQ.done ?_
   refine gO ?_
   exact AE.bk [1,0] rfl ⟨rfl,trivial⟩ (by simp only[go_sem,Nat.reduceAdd,Nat.reduceLeDiff,Nat.reduceSub,Int.reduceToNat,reduceCtorEq,bW,noMen,AV.mens,AV.men,fJ,Bool.or_false];first|done|rfl) ⟨rfl,by rw[hm];rfl⟩
  ·have h5:cW u w=true:=by simpa using h5
   rw[if_pos h5]at hm
   refine gE @hw ?_
   exact AE.round (k+1) ⟨by omega,hm⟩ (by omega) (sU) rfl
termination_by SizeOf.sizeOf s
decreasing_by exact kM hu
theorem Mx (s t:Tm) (hs:aY s) (ht:aY t) (rA:wT s<=1000000) (xo:wT t<=1000000):aR Tryz.prog 101 [bD s,bD t] (Iv (qJ s t)):=by
 refine al.walk [0,1,2,3,4,5,9,13] [] Tryz.func101 rfl Tryz.ntmps101 (by kernel_rfl) (by rfl) rfl fun W own I0 aw lay=>?_
 refine gO ?_
 refine AQ.fn (by kernel_rfl) rfl rfl rfl (s6 s t hs) rfl ?_
 refine sI ?_
 refine gO ?_
 refine AP.cond rfl rfl (fun U=>?_) (fun U=>?_)
 ·refine gO ?_
  exact AE.a7 rfl ⟨rfl,trivial⟩ rfl ⟨rfl,by rw[qJ,if_pos (by simpa using U)];rfl⟩
 refine gO ?_
 refine AQ.fn (by kernel_rfl) rfl rfl rfl (zZ s t hs ht rA xo) rfl ?_
 refine sI ?_
 refine gO ?_
 refine AP.cond rfl rfl (fun h2=>?_) (fun h2=>?_)
 ·refine gO ?_
  exact AE.a7 rfl ⟨rfl,trivial⟩ rfl ⟨rfl,by rw[qJ,if_neg (by simpa using U),if_pos (by simpa using h2)];rfl⟩
 refine gO ?_
 refine AQ.fn (by kernel_rfl) rfl rfl rfl (zZ t s ht hs xo rA) rfl ?_
 refine sI ?_
 refine gO ?_
 refine AP.cond rfl rfl (fun h3=>?_) (fun h3=>?_)
 ·refine gO ?_
  exact AE.a7 rfl ⟨rfl,trivial⟩ rfl ⟨rfl,by rw[qJ,if_neg (by simpa using U),if_neg (by simpa using h2),if_pos (by simpa using h3)];rfl⟩
 ·refine gO ?_
  exact AE.a7 rfl ⟨rfl,trivial⟩ rfl ⟨rfl,by rw[qJ,if_neg (by simpa using U),if_neg (by simpa using h2),if_neg (by simpa using h3)];rfl⟩
theorem Sd (t:Tm):aR Tryz.prog 173 [bD t] (aV (jB t)):=by
 have e:aV (jB t)= .im (.sl 3 [[Bi false,Si [80],.sl 3 [[Si t.nm,Ii t.ix,.sl 3 (ay t.xs)]]]]):=by
  rw[aV,bX,jB,List.map_cons,List.map_nil,lX]
  simp only[ay,oT]
 rw[e]
 refine al.walk [0,1,2] [] Tryz.func173 rfl Tryz.ntmps173 (by kernel_rfl) (by rfl) rfl fun W own I0 aw lay=>?_
 refine gO ?_
 exact AE.a7 rfl ⟨rfl,trivial⟩ rfl ⟨rfl,rfl⟩
def j8:List Tm->Int
 |[]=>0
 |t::l=>if bR 4 9 2 3 (jB t)≠0 then bR 4 9 2 3 (jB t)else j8 l
theorem Mg (l:List Tm) (hl:l.length<=1000000) (hs:∀t∈l,aY t):aR Tryz.prog 111 [.im (.sl 3 (ay l))] (Iv (j8 l)):=by
 refine al.walk [0,2,4,5,6,7,8,9,16] [4] Tryz.func111 rfl Tryz.ntmps111 (by kernel_rfl) (by rfl) rfl fun W own I0 aw lay=>?_
 refine gE @ao ?_
 refine AP.loop rfl (α:=Nat) (fun k=>[(6,.im (.sl 3 (ay l))),(7,Iv l.length),(8,Iv k)]) (fun _=>[]) (fun k=>k<=l.length/\j8 l=j8 (l.drop k)) (fun k=>l.length-k) 0 ⟨by omega,rfl⟩ (sU) rfl fun k ⟨hk,hm⟩=>?_
 rcases Nat.eq_or_lt_of_le hk with aN|ag
 ·rw[aN,List.drop_length,j8]at hm
  refine gO ?_
  refine cF ?_
  refine gO ?_
  exact AE.a7 rfl ⟨rfl,trivial⟩ rfl ⟨rfl,by rw[hm];rfl⟩
 ·obtain⟨u,hu,aX⟩:=dL l k ag
  have hw:=wr (x:=(k:Int)+1) (by omega)
  rw[drop_cons hu,j8]at hm
  refine gE @ao ?_
  refine cT ?_
  refine gE (an @aX @ao) ?_
  refine AQ.fix 0 rfl rfl ?_
  refine sI ?_
  refine AQ.fn (by kernel_rfl) rfl rfl rfl (Sd u) rfl ?_
  refine sI ?_
  refine gO ?_
  refine AQ.fn (by kernel_rfl) rfl rfl rfl (pf (jB u) (R8 (hs u (List.mem_of_getElem? hu)))) rfl ?_
  refine sI ?_
  refine gO ?_
  refine AP.cond rfl rfl (fun h=>?_) (fun h=>?_)
  ·rw[if_pos (by simpa using h)]at hm
   refine gO ?_
   exact AE.a7 rfl ⟨rfl,trivial⟩ rfl ⟨rfl,by rw[hm];rfl⟩
  ·rw[if_neg (by simpa using h)]at hm
   refine gE @hw ?_
   exact AE.round (k+1) ⟨by omega,hm⟩ (by omega) (sU) rfl
def sW (s t:Tm):Int×Int:=if j8 [s,t]≠0 then(0,j8 [s,t])else(qJ s t,0)
theorem Ep {s:Tm} (h:¬bR 4 9 2 3 (jB s)≠0):wT s<=4000:=by
 have h0:bR 4 9 2 3 (jB s)=0:=by simpa using h
 rw[zw (by decide) (by decide) (by decide) (by decide)]at h0
 have:=h0.2.1
 simp only[jB,bT,kE,List.map_cons,List.map_nil,List.sum_cons,List.sum_nil,aF]at this
 omega
theorem K6 (s t:Tm) (hs:aY s) (ht:aY t):aR Tryz.prog 37 [bD s,bD t] (.aK [Iv (sW s t).1,Iv (sW s t).2]):=by
 have hc:=Mg [s,t] (by simp) (fun u hu=>by
  rcases List.mem_cons.1 hu with rfl|hu
  ·exact hs
  ·rcases List.mem_cons.1 hu with rfl|hu
   ·exact ht
   ·cases hu)
 have e:(.im (.sl 3 (ay [s,t])):AV)= .im (.sl 3 [[Si s.nm,Ii s.ix,.sl 3 (ay s.xs)],[Si t.nm,Ii t.ix,.sl 3 (ay t.xs)]]):=by simp only[ay,oT]
 rw[e]at hc
 refine al.walk [0,1,2,3,4,5,6,12] [] Tryz.func37 rfl Tryz.ntmps37 (by kernel_rfl) (by rfl) rfl fun W own I0 aw lay=>?_
 refine gO ?_
 refine AQ.fn (by kernel_rfl) rfl rfl rfl (hc) rfl ?_
 refine sI ?_
 refine gO ?_
 refine AP.cond rfl rfl (fun h=>?_) (fun h=>?_)
 ·refine gO ?_
  exact AE.a7 rfl ⟨rfl,rfl,trivial⟩ rfl ⟨rfl,by rw[sW,if_pos (by simpa using h)];rfl⟩
 ·have h:¬j8 [s,t]≠0:=by simpa using h
  have hb:wT s<=4000/\wT t<=4000:=by
   rw[j8,j8,j8]at h
   have U:¬bR 4 9 2 3 (jB s)≠0:=fun hc=>h (by rw[if_pos hc];exact hc)
   rw[if_neg U]at h
   have h2:¬bR 4 9 2 3 (jB t)≠0:=fun hc=>h (by rw[if_pos hc];exact hc)
   exact⟨Ep U,Ep h2⟩
  refine gO ?_
  refine AQ.fn (by kernel_rfl) rfl rfl rfl (Mx s t hs ht (by omega) (by omega)) rfl ?_
  refine sI ?_
  refine gO ?_
  exact AE.a7 rfl ⟨rfl,rfl,trivial⟩ rfl ⟨rfl,by rw[sW,if_neg h];rfl⟩
theorem S8 (n:Int):aR Tryz.prog 95 [Iv n] (.agg [Sv [],Iv n,gp]):=by
 refine al.walk [0,2] [2] Tryz.func95 rfl Tryz.ntmps95 (by kernel_rfl) (by rfl) rfl fun W own I0 aw lay=>?_
 refine gO ?_
 exact AE.bk [0] rfl ⟨⟨rfl,Nat.le_of_ble_eq_true (by kernel_rfl)⟩,trivial⟩ rfl ⟨rfl,rfl⟩
theorem Di (n:Int):aR Tryz.prog 95 [Iv n] (bD (bn n)):=(show aR Tryz.prog 95 [Iv n] (.agg [Sv [],Iv n,.im (.sl 3 [])]) from aR.told (S8 n) (by repeat' (first|with_reducible exact dW.refl _|with_reducible exact gb.refl _|exact gb.nil _|with_reducible exact ct.refl _|with_reducible exact kG.refl _|with_reducible exact kH.refl _|refine ct.wh ?_ ?_|refine dW.agg ?_|refine dW.im ?_|refine gb.sl ?_|refine kH.cons ?_ ?_|refine kG.cons ?_ ?_)))
theorem Eo (f:FuncId) (g:Int->Tm) (hg:∀n,aR Tryz.prog f [Iv n] (bD (g n))) (x:Tm) (hs:aY x):aR Tryz.prog 140 [bD x,.fn f [] []] (bD (aB g x)):=by
 have d_:=ga.1 hs
 have hc:=pe g x
 refine al.walk [0,1,2,4,5,7,10,19,20,21,22] [4,5,7] Tryz.func140 rfl Tryz.ntmps140 (by kernel_rfl) (by rfl) rfl fun W own I0 aw lay=>?_
 refine gO ?_
 refine AP.cond rfl rfl (fun h=>?_) (fun h=>?_)
 ·rw[if_pos (by simpa using h)]at hc
  refine gO ?_
  refine AQ.wa [] (by kernel_rfl) rfl rfl rfl rfl rfl rfl (fun k=>by exact trivial) (fun k=>rfl) (fun k=>rfl) (hg x.ix) ?_
  refine sI ?_
  refine gO ?_
  exact AE.bk [0] rfl ⟨⟨rfl,Nat.le_of_ble_eq_true (by kernel_rfl)⟩,trivial⟩ rfl ⟨rfl,by rw[hc];rfl⟩
 rw[if_neg (by simpa using h)]at hc
 refine gE @ao ?_
 rw[mo]at hc
 refine AP.iu 1 2 71 3 rfl rfl ?_
 refine sI ?_
 refine AP.loop rfl (α:=Nat) (fun k=>[(1,.fn f [] []),(4,.ob 0 0),(5,.ob 1 0),(19,.im (.sl 3 (ay x.xs))),(20,Iv x.xs.length),(21,Iv k)]) (fun k=>[(2,.vec 71 3 (ay ((x.xs.take k).map (aB g)))),(1,.var 71 [Sv x.nm,Iv 0,.os 2 3 0 k]),(0,.var 71 [Sv [],Iv 0,gp])]) (fun k=>k<=x.xs.length) (fun k=>x.xs.length-k) 0 (by omega) (sU) rfl fun k hk=>?_
 rcases Nat.eq_or_lt_of_le hk with aN|ag
 ·subst aN
  rw[List.take_length]
  refine gE @ao ?_
  refine cF ?_
  refine gO ?_
  refine AE.freeze 2 (el:=71) (es:=3) (rows:=ay (x.xs.map (aB g))) rfl (by simp only[go_sem,Nat.reduceAdd,Nat.reduceLeDiff,Nat.reduceSub,Int.reduceToNat,reduceCtorEq,ao,List.length_map];first|done|trivial|omega|(simp;done)|(simp;omega)) (by simp only[go_sem,Nat.reduceAdd,Nat.reduceLeDiff,Nat.reduceSub,Int.reduceToNat,reduceCtorEq,ao,List.length_map];first|done|trivial|omega|(simp;done)|(simp;omega)) ?_;simp only[go_sem,Nat.reduceAdd,Nat.reduceLeDiff,Nat.reduceSub,Int.reduceToNat,reduceCtorEq,ao,List.length_map]
  rw[List.take_of_length_le (by rw[ao,List.length_map];omega)]
  exact AE.bk [1,0] rfl ⟨⟨rfl,Nat.le_of_ble_eq_true (by kernel_rfl)⟩,trivial⟩ rfl ⟨rfl,by rw[hc];rfl⟩
 ·obtain⟨u,hu,aX⟩:=dL x.xs k ag
  have hw:=wr (x:=(k:Int)+1) (by omega)
  have bc:=kK (l:=x.xs) (k:=k) (by omega)
  have ih:=Eo f g hg u (eh d_.2.2 hu)
  have bx:=x9 (aB g) hu
  obtain⟨w,uf⟩:∃w,aB g u=w:=⟨_,rfl⟩
  rw[uf]at ih bx
  refine gE @ao ?_
  refine cT ?_
  refine gE @aX ?_
  refine⟨by rw[ao];omega,?_⟩
  refine gO ?_
  refine AP.dh 9 (Tree.node [] [0,1,2,3] [4] [Tree.node [0,1] [] [5] [Tree.node [0,1] [] [6] [Tree.node [] [7] [8] [Tree.node [] [] [] []]]]]) (by kernel_rfl) rfl (by kernel_rfl) (by kernel_rfl) ?_
  refine de ?_
  refine sI ?_
  refine AQ.fn (by kernel_rfl) rfl rfl rfl (ih) rfl ?_
  refine sI ?_
  refine AQ.nx rfl ?_
  refine sI ?_
  refine AQ.go (by kernel_rfl) ?_
  refine sI ?_
  refine AQ.nx rfl ?_
  refine sI ?_
  refine AQ.kill 2 ?_
  refine sI ?_
  refine AQ.append (hnb:=rfl) (rows:=ay ((x.xs.take k).map (aB g))) (es:=2) (by kernel_rfl) rfl rfl rfl (by rfl) Tryz.sg Tryz.se (by show Option.map _ (az Tryz.prog 71)=_;rw[Tryz.sr];rfl) Tryz.qG (by first|rfl|(simp only[ao,List.length_map,bc,List.length_cons,List.length_nil];done)|(simp only[ao,List.length_map,bc,List.length_cons,List.length_nil];omega)) (by simp only[ao,List.length_map,bc,List.length_cons,List.length_nil];omega) (by simp only[ao,List.length_map,bc,List.length_cons,List.length_nil];omega) ?_
  refine sI ?_
  refine AQ.nx rfl ?_
  refine sI ?_
  refine AQ.go (by kernel_rfl) ?_
  refine sI ?_
  refine AQ.nx rfl ?_
  refine sI ?_
  refine AQ.done ?_
  refine gE @hw ?_
  refine AE.eu [3] rfl ?_
  refine sI ?_
  refine AE.round (k+1) (by omega) (by omega) (sU) ?_
  rw[bx,oV,ao,List.length_map,bc]
termination_by SizeOf.sizeOf x
decreasing_by exact kM hu
theorem MA (x:Tm) (hs:aY x):aR Tryz.prog 108 [bD x] (bD (aB bn x)):=by
 have h:=Eo 95 bn Di x hs
 refine al.walk [0,1,2] [2] Tryz.func108 rfl Tryz.ntmps108 (by kernel_rfl) (by rfl) rfl fun W own I0 aw lay=>?_
 refine gO ?_
 refine AQ.fn (by kernel_rfl) rfl rfl rfl (h) rfl ?_
 refine sI ?_
 refine gO ?_
 exact AE.bk [0] rfl ⟨⟨rfl,Nat.le_of_ble_eq_true (by kernel_rfl)⟩,trivial⟩ rfl ⟨rfl,rfl⟩
theorem Hm:∀(l:Bd) (v:Int),iR l v=bA l v
 |[],v=>rfl
 |b::l,v=>by rw[iR,bA,Hm l v]
theorem qu:Tryz.prog.underlying 158=some (.map 3 71):=by kernel_rfl
theorem TA:(Tryz.prog.info? 71).bind (·.zero)=some (.agg #[.string (BA []),.int .i64 0,.slice none 0 0]):=by kernel_rfl
theorem TB (w:World) (φ:ak) (I:Nat->Prop):AV.den w φ I (.agg [Sv [],Iv 0,gp]) (.agg #[.string (BA []),.int .i64 0,.slice none 0 0]):=by
 simp only[AV.den,AV.ab,IV.den]
 exact⟨[_,_,_],⟨_,_,rfl,⟨rfl,rfl⟩,_,_,rfl,⟨rfl,rfl⟩,_,_,rfl,⟨rfl,rfl⟩,rfl⟩,rfl,by simp[Value.oneCell']⟩

theorem Dt:∀(l:List Tm) (k:Nat),aF (l.take k)<=aF l
 |[],k=>by rw[List.take_nil];exact Nat.le_refl _
 |t::l,0=>by rw[List.take_zero,aF];omega
 |t::l,k+1=>by rw[List.take_succ_cons,aF,aF];have:=Dt l k;omega

def Qo (w d:Int->Nat):List Tm->Nat->Option Nat
 |[],n=>some n
 |t::l,n=>if 4000<n+zY w t\/100<FE d t then none else Qo w d l (n+zY w t)
theorem CC {l:Lt} (h:bO l=true):bJ l.xs=true:=by
 rw[bO]at h
 split at h<;>exact(Bool.and_eq_true _ _▸h).2
theorem nK {c:List Lt} (h:bR 4 9 2 3 c=0):c.length<=40/\bT c<=4000/\dY c<=100/\∀l∈c,bO l=true:=by
 rw[zw (by decide) (by decide) (by decide) (by decide)]at h
 exact⟨h.1,h.2.1,h.2.2.1,List.all_eq_true.1 h.2.2.2⟩
theorem al.Rj {P:Program} {f:FuncId} {xs:List AV} {H:aa} {c:List Lt} {e:AV} {H0:aa} (h:al P f xs H (fun r H'=>H'=H0/\(r= .aK [aV c,e]\/c=[]/\r= .aK [gp,e]))):al P f xs H (fun r H'=>H'=H0/\r= .aK [aV c,e]):=
 al.told h fun r H' ⟨hH,hr⟩=>⟨_,⟨hH,rfl⟩,by
  rcases hr with rfl|⟨hc,rfl⟩
  ·exact fun _ _ _ _ h=>h
  ·subst hc;exact Mk _⟩
@[go_sem] theorem Sc (k:Nat):∀m:List (Int×Tm),AV.iW k (vT m)=vT m
 |[]=>rfl
 |_::m=>by rw[vT,List.map_cons,AV.iW,<-vT,Sc k m];rfl
end Go.Proofs.YtpfohmboflcneaaGreatDoor
end
