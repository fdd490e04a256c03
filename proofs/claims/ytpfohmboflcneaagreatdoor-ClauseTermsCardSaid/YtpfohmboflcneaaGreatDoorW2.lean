import Derived.Test.YtpfohmboflcneaaGreatDoorW1
import Derived.Shelf.LaysM
import Derived.Shelf.Strconv.Itoa3
import Derived.Shelf.LaysC
import Derived.Shelf.Strconv.AtoiAll
import Derived.Shelf.Strconv.ErrVarAll
import Derived.Shelf.Strings.Prefix
import Derived.Lib.AtoiErrMem
import Derived.Test.YtpfohmboflcneaaGreatDoorCards
import Derived.Test.YtpfohmboflcneaaGreatDoorTie
import Derived.Stop.LaidErr
import Derived.Lib.LaidTab
import Derived.Shelf.Vars
import Derived.Shelf.Sort.Plain
import Derived.Shelf.Slices.In.SortNone
set_option linter.unusedSimpArgs false
set_option linter.unusedVariables false
set_option linter.unnecessarySimpa false
section
namespace Go.Proofs
open Go.Shelf
def Tryz.Za:Go.Shelf.Ren:=⟨fun|171=>202|243=>227|246=>249|283=>259|284=>260|285=>261|286=>262|129=>240|317=>266|318=>267|319=>268|320=>269|337=>270|338=>271|n=>n,fun|3=>3|9=>9|2=>2|4=>4|171=>338|0=>0|53=>314|37=>230|5=>5|173=>340|212=>350|51=>312|20=>20|213=>351|46=>295|232=>352|233=>353|n=>n,fun|17=>3|18=>4|19=>5|n=>n⟩
theorem Tryz.Y_:Go.Proofs.LaysM.n171 Tryz.prog Tryz.Za:={
 mixed:=by kernel_rfl
 f129:=Tryz.func240.trans (congrArg some (by kernel_rfl))
 f171:=Tryz.func202.trans (congrArg some (by kernel_rfl))
 f243:=Tryz.func227.trans (congrArg some (by kernel_rfl))
 f246:=Tryz.func249.trans (congrArg some (by kernel_rfl))
 f283:=Tryz.func259.trans (congrArg some (by kernel_rfl))
 f284:=Tryz.func260.trans (congrArg some (by kernel_rfl))
 f285:=Tryz.func261.trans (congrArg some (by kernel_rfl))
 f286:=Tryz.func262.trans (congrArg some (by kernel_rfl))
 f317:=Tryz.func266.trans (congrArg some (by kernel_rfl))
 f318:=Tryz.func267.trans (congrArg some (by kernel_rfl))
 f319:=Tryz.func268.trans (congrArg some (by kernel_rfl))
 f320:=Tryz.func269.trans (congrArg some (by kernel_rfl))
 f337:=Tryz.func270.trans (congrArg some (by kernel_rfl))
 f338:=Tryz.func271.trans (congrArg some (by kernel_rfl))
 t0:=Tryz.underlying0
 a0:=Tryz.isAgg0
 z0:=Tryz.sizeOf0
 v0:=Tryz.zeroValue0
 t2:=Tryz.underlying2
 a2:=Tryz.isAgg2
 z2:=Tryz.sizeOf2
 v2:=Tryz.zeroValue2
 t3:=Tryz.underlying3
 a3:=Tryz.isAgg3
 z3:=Tryz.sizeOf3
 v3:=Tryz.zeroValue3
 t4:=Tryz.underlying4
 a4:=Tryz.isAgg4
 z4:=Tryz.sizeOf4
 v4:=Tryz.zeroValue4
 t5:=Tryz.underlying5
 a5:=Tryz.isAgg5
 z5:=Tryz.sizeOf5
 v5:=Tryz.zeroValue5
 t9:=Tryz.underlying9
 a9:=Tryz.isAgg9
 z9:=Tryz.sizeOf9
 v9:=Tryz.zeroValue9
 t20:=Tryz.underlying20
 a20:=Tryz.isAgg20
 z20:=Tryz.sizeOf20
 v20:=Tryz.zeroValue20
 t37:=Tryz.underlying230
 a37:=Tryz.isAgg230
 z37:=Tryz.sizeOf230
 v37:=Tryz.zeroValue230
 t46:=Tryz.underlying295
 a46:=Tryz.isAgg295
 z46:=Tryz.sizeOf295
 v46:=Tryz.zeroValue295
 t51:=Tryz.underlying312
 a51:=Tryz.isAgg312
 z51:=Tryz.sizeOf312
 v51:=Tryz.zeroValue312
 t53:=Tryz.underlying314
 a53:=Tryz.isAgg314
 z53:=Tryz.sizeOf314
 v53:=Tryz.zeroValue314
 t171:=Tryz.underlying338
 a171:=Tryz.isAgg338
 z171:=Tryz.sizeOf338
 v171:=Tryz.zeroValue338
 t173:=Tryz.underlying340
 a173:=Tryz.isAgg340
 z173:=Tryz.sizeOf340
 v173:=Tryz.zeroValue340
 t212:=Tryz.underlying350
 a212:=Tryz.isAgg350
 z212:=Tryz.sizeOf350
 v212:=Tryz.zeroValue350
 t213:=Tryz.underlying351
 a213:=Tryz.isAgg351
 z213:=Tryz.sizeOf351
 t232:=Tryz.underlying352
 a232:=Tryz.isAgg352
 z232:=Tryz.sizeOf352
 v232:=Tryz.zeroValue352
 t233:=Tryz.underlying353
 a233:=Tryz.isAgg353
 z233:=Tryz.sizeOf353
 v233:=Tryz.zeroValue353
 g17:=by kernel_rfl
 g18:=by kernel_rfl
 g19:=by kernel_rfl
 i0:=by kernel_rfl
 i2:=by kernel_rfl
 i3:=by kernel_rfl
 i4:=by kernel_rfl
 i5:=by kernel_rfl
 i9:=by kernel_rfl
 i20:=by kernel_rfl
 i37:=by kernel_rfl
 i46:=by kernel_rfl
 i51:=by kernel_rfl
 i53:=by kernel_rfl
 i171:=by kernel_rfl
 i173:=by kernel_rfl
 i212:=by kernel_rfl
 i232:=by kernel_rfl
 i233:=by kernel_rfl
 m17:=by kernel_rfl
 m18:=by kernel_rfl
 m19:=by kernel_rfl}
open Go.RowKit Go.Sort Go.Lib in
theorem Tryz.strconv_Itoa (n:Int) (h0:-9223372036854775808<=n) (U:n<=9223372036854775807) (w:World) (X_:Lib.TabIs Tryz.prog w "internal/strconv.uint64pow10" .u64 Lib.pow10Tab):
  Calls Tryz.prog 202 #[.int .i64 n] w fun e w'=>e= .returned (.string ⟨(Lib.itoa n).toArray⟩)/\∃k os,w'=grow (w.drewN k) os:=Any.strconv_Itoa Tryz.Y_ n h0 U w X_
def Tryz.Y9:Go.Shelf.Ren:=⟨fun|172=>201|244=>225|245=>226|247=>244|279=>245|280=>246|281=>247|282=>248|287=>256|316=>257|171=>202|205=>258|321=>264|322=>265|243=>227|246=>249|283=>259|284=>260|285=>261|286=>262|129=>240|317=>266|318=>267|319=>268|320=>269|337=>270|338=>271|n=>n,fun|9=>9|3=>3|75=>236|76=>237|4=>4|5=>5|167=>319|37=>230|0=>0|85=>320|2=>2|168=>322|53=>314|175=>332|46=>295|210=>336|127=>278|145=>348|143=>346|21=>21|171=>338|173=>340|212=>350|51=>312|20=>20|213=>351|232=>352|233=>353|80=>240|n=>n,fun|15=>1|16=>2|17=>3|18=>4|19=>5|n=>n⟩
theorem Tryz.DX:Go.Proofs.LaysC.n172 Tryz.prog Tryz.Y9:={
 mixed:=by kernel_rfl
 f129:=Tryz.func240.trans (congrArg some (by kernel_rfl))
 f171:=Tryz.func202.trans (congrArg some (by kernel_rfl))
 f172:=Tryz.func201.trans (congrArg some (by kernel_rfl))
 f205:=Tryz.func258.trans (congrArg some (by kernel_rfl))
 f243:=Tryz.func227.trans (congrArg some (by kernel_rfl))
 f244:=Tryz.func225.trans (congrArg some (by kernel_rfl))
 f245:=Tryz.func226.trans (congrArg some (by kernel_rfl))
 f246:=Tryz.func249.trans (congrArg some (by kernel_rfl))
 f247:=Tryz.func244.trans (congrArg some (by kernel_rfl))
 f279:=Tryz.func245.trans (congrArg some (by kernel_rfl))
 f280:=Tryz.func246.trans (congrArg some (by kernel_rfl))
 f281:=Tryz.func247.trans (congrArg some (by kernel_rfl))
 f282:=Tryz.func248.trans (congrArg some (by kernel_rfl))
 f283:=Tryz.func259.trans (congrArg some (by kernel_rfl))
 f284:=Tryz.func260.trans (congrArg some (by kernel_rfl))
 f285:=Tryz.func261.trans (congrArg some (by kernel_rfl))
 f286:=Tryz.func262.trans (congrArg some (by kernel_rfl))
 f287:=Tryz.func256.trans (congrArg some (by kernel_rfl))
 f316:=Tryz.func257.trans (congrArg some (by kernel_rfl))
 f317:=Tryz.func266.trans (congrArg some (by kernel_rfl))
 f318:=Tryz.func267.trans (congrArg some (by kernel_rfl))
 f319:=Tryz.func268.trans (congrArg some (by kernel_rfl))
 f320:=Tryz.func269.trans (congrArg some (by kernel_rfl))
 f321:=Tryz.func264.trans (congrArg some (by kernel_rfl))
 f322:=Tryz.func265.trans (congrArg some (by kernel_rfl))
 f337:=Tryz.func270.trans (congrArg some (by kernel_rfl))
 f338:=Tryz.func271.trans (congrArg some (by kernel_rfl))
 t0:=Tryz.underlying0
 a0:=Tryz.isAgg0
 z0:=Tryz.sizeOf0
 v0:=Tryz.zeroValue0
 t2:=Tryz.underlying2
 a2:=Tryz.isAgg2
 z2:=Tryz.sizeOf2
 v2:=Tryz.zeroValue2
 t3:=Tryz.underlying3
 a3:=Tryz.isAgg3
 z3:=Tryz.sizeOf3
 v3:=Tryz.zeroValue3
 t4:=Tryz.underlying4
 a4:=Tryz.isAgg4
 z4:=Tryz.sizeOf4
 v4:=Tryz.zeroValue4
 t5:=Tryz.underlying5
 a5:=Tryz.isAgg5
 z5:=Tryz.sizeOf5
 v5:=Tryz.zeroValue5
 t9:=Tryz.underlying9
 a9:=Tryz.isAgg9
 z9:=Tryz.sizeOf9
 v9:=Tryz.zeroValue9
 t20:=Tryz.underlying20
 a20:=Tryz.isAgg20
 z20:=Tryz.sizeOf20
 v20:=Tryz.zeroValue20
 t21:=Tryz.underlying21
 a21:=Tryz.isAgg21
 z21:=Tryz.sizeOf21
 v21:=Tryz.zeroValue21
 t37:=Tryz.underlying230
 a37:=Tryz.isAgg230
 z37:=Tryz.sizeOf230
 v37:=Tryz.zeroValue230
 t46:=Tryz.underlying295
 a46:=Tryz.isAgg295
 z46:=Tryz.sizeOf295
 v46:=Tryz.zeroValue295
 t51:=Tryz.underlying312
 a51:=Tryz.isAgg312
 z51:=Tryz.sizeOf312
 v51:=Tryz.zeroValue312
 t53:=Tryz.underlying314
 a53:=Tryz.isAgg314
 z53:=Tryz.sizeOf314
 v53:=Tryz.zeroValue314
 t75:=Tryz.underlying236
 a75:=Tryz.isAgg236
 z75:=Tryz.sizeOf236
 v75:=Tryz.zeroValue236
 t76:=Tryz.underlying237
 a76:=Tryz.isAgg237
 z76:=Tryz.sizeOf237
 v76:=Tryz.zeroValue237
 t85:=Tryz.underlying320
 a85:=Tryz.isAgg320
 z85:=Tryz.sizeOf320
 v85:=Tryz.zeroValue320
 t127:=Tryz.underlying278
 a127:=Tryz.isAgg278
 z127:=Tryz.sizeOf278
 v127:=Tryz.zeroValue278
 t143:=Tryz.underlying346
 a143:=Tryz.isAgg346
 z143:=Tryz.sizeOf346
 v143:=Tryz.zeroValue346
 t145:=Tryz.underlying348
 a145:=Tryz.isAgg348
 z145:=Tryz.sizeOf348
 v145:=Tryz.zeroValue348
 t167:=Tryz.underlying319
 a167:=Tryz.isAgg319
 z167:=Tryz.sizeOf319
 v167:=Tryz.zeroValue319
 t168:=Tryz.underlying322
 a168:=Tryz.isAgg322
 z168:=Tryz.sizeOf322
 v168:=Tryz.zeroValue322
 t171:=Tryz.underlying338
 a171:=Tryz.isAgg338
 z171:=Tryz.sizeOf338
 v171:=Tryz.zeroValue338
 t173:=Tryz.underlying340
 a173:=Tryz.isAgg340
 z173:=Tryz.sizeOf340
 v173:=Tryz.zeroValue340
 t175:=Tryz.underlying332
 a175:=Tryz.isAgg332
 z175:=Tryz.sizeOf332
 v175:=Tryz.zeroValue332
 t210:=Tryz.underlying336
 a210:=Tryz.isAgg336
 z210:=Tryz.sizeOf336
 v210:=Tryz.zeroValue336
 t212:=Tryz.underlying350
 a212:=Tryz.isAgg350
 z212:=Tryz.sizeOf350
 v212:=Tryz.zeroValue350
 t213:=Tryz.underlying351
 a213:=Tryz.isAgg351
 z213:=Tryz.sizeOf351
 t232:=Tryz.underlying352
 a232:=Tryz.isAgg352
 z232:=Tryz.sizeOf352
 v232:=Tryz.zeroValue352
 t233:=Tryz.underlying353
 a233:=Tryz.isAgg353
 z233:=Tryz.sizeOf353
 v233:=Tryz.zeroValue353
 g15:=by kernel_rfl
 g16:=by kernel_rfl
 g17:=by kernel_rfl
 g18:=by kernel_rfl
 g19:=by kernel_rfl
 t80:=Tryz.underlying240
 a80:=Tryz.isAgg240
 z80:=Tryz.sizeOf240
 v80:=Tryz.zeroValue240
 i0:=by kernel_rfl
 i2:=by kernel_rfl
 i3:=by kernel_rfl
 i4:=by kernel_rfl
 i5:=by kernel_rfl
 i9:=by kernel_rfl
 i20:=by kernel_rfl
 i21:=by kernel_rfl
 i37:=by kernel_rfl
 i46:=by kernel_rfl
 i51:=by kernel_rfl
 i53:=by kernel_rfl
 i75:=by kernel_rfl
 i76:=by kernel_rfl
 i80:=by kernel_rfl
 i85:=by kernel_rfl
 i127:=by kernel_rfl
 i143:=by kernel_rfl
 i145:=by kernel_rfl
 i167:=by kernel_rfl
 i168:=by kernel_rfl
 i171:=by kernel_rfl
 i173:=by kernel_rfl
 i175:=by kernel_rfl
 i210:=by kernel_rfl
 i212:=by kernel_rfl
 i232:=by kernel_rfl
 i233:=by kernel_rfl
 m15:=by kernel_rfl
 m16:=by kernel_rfl
 m17:=by kernel_rfl
 m18:=by kernel_rfl
 m19:=by kernel_rfl
 c0:=by kernel_rfl
 c2:=by kernel_rfl
 c3:=by kernel_rfl
 c4:=by kernel_rfl
 c5:=by kernel_rfl
 c9:=by kernel_rfl
 c20:=by kernel_rfl
 c21:=by kernel_rfl
 c37:=by kernel_rfl
 c46:=by kernel_rfl
 c51:=by kernel_rfl
 c53:=by kernel_rfl
 c75:=by kernel_rfl
 c76:=by kernel_rfl
 c80:=by kernel_rfl
 c85:=by kernel_rfl
 c127:=by kernel_rfl
 c143:=by kernel_rfl
 c145:=by kernel_rfl
 c167:=by kernel_rfl
 c168:=by kernel_rfl
 c171:=by kernel_rfl
 c173:=by kernel_rfl
 c175:=by kernel_rfl
 c210:=by kernel_rfl
 c212:=by kernel_rfl
 c213:=by kernel_rfl
 c232:=by kernel_rfl
 c233:=by kernel_rfl}
open Go.RowKit in
theorem Tryz.strconv_Atoi_ok (s:ByteArray) (Xh:s.size<=9223372036854775806) (v:Int) (h:Lib.atoiAll s.data.toList= .ok v) (w:World):
  Calls Tryz.prog 201 #[.string s] w fun e w'=>e= .returned (.tuple #[.int .i64 v,.nilIface])/\(w'=w\/∃t,w'=Lib.bytesWorld w 5 t):=Any.strconv_Atoi_ok Tryz.DX s Xh v h w
open Go.RowKit in
theorem Tryz.strconv_Atoi_syntax_var (s:ByteArray) (Hk:s.size<=281474976710656) (h:Lib.atoiAll s.data.toList= .«syntax») (tp:TypeId) (p:Value) (w:World) (xq:w.var? Tryz.prog "strconv.ErrSyntax" =some #[.iface tp p]):
  Calls Tryz.prog 201 #[.string s] w fun e w'=>∃N,e= .returned (.tuple #[.int .i64 0,.iface 322 (.pointer (some ⟨N,0,none⟩))])/\w.heap.size<=N/\w'.heap[N]?=some (.cells #[.string ⟨#[65,116,111,105]⟩,.string s,.iface tp p] 336 (0,0))/\Below w.heap.size w w':=Any.strconv_Atoi_syntax_var Tryz.DX s Hk h tp p w xq
open Go.RowKit in
theorem Tryz.strconv_Atoi_range_var (s:ByteArray) (Hk:s.size<=281474976710656) (h:Lib.atoiAll s.data.toList= .range) (tp:TypeId) (p:Value) (w:World) (xq:w.var? Tryz.prog "strconv.ErrRange" =some #[.iface tp p]):
  Calls Tryz.prog 201 #[.string s] w fun e w'=>∃N,e= .returned (.tuple #[.int .i64 (Lib.atoiSat s.data.toList),.iface 322 (.pointer (some ⟨N,0,none⟩))])/\w.heap.size<=N/\w'.heap[N]?=some (.cells #[.string ⟨#[65,116,111,105]⟩,.string s,.iface tp p] 336 (0,0))/\Below w.heap.size w w':=Any.strconv_Atoi_range_var Tryz.DX s Hk h tp p w xq
def Tryz.Y8:Go.Shelf.Ren:=⟨fun|99=>160|206=>203|n=>n,fun|9=>9|4=>4|3=>3|n=>n,fun|n=>n⟩
theorem Tryz.Y7:Go.Proofs.Lays.n99 Tryz.prog Tryz.Y8:={
 mixed:=by kernel_rfl
 f99:=Tryz.func160.trans (congrArg some (by kernel_rfl))
 f206:=Tryz.func203.trans (congrArg some (by kernel_rfl))
 t3:=Tryz.underlying3
 a3:=Tryz.isAgg3
 z3:=Tryz.sizeOf3
 v3:=Tryz.zeroValue3
 t4:=Tryz.underlying4
 a4:=Tryz.isAgg4
 z4:=Tryz.sizeOf4
 v4:=Tryz.zeroValue4
 t9:=Tryz.underlying9
 a9:=Tryz.isAgg9
 z9:=Tryz.sizeOf9
 v9:=Tryz.zeroValue9}
open Go.RowKit Go.Lib in
theorem Tryz.strings_HasPrefix (s p:ByteArray) (w:World):
  Calls Tryz.prog 160 #[.string s,.string p] w fun e w'=>e= .returned (.bool (Lib.hasPrefix s.data.toList p.data.toList))/\w'=w:=Any.strings_HasPrefix Tryz.Y7 s p w
end Go.Proofs
end
section
namespace Go.Proofs.YtpfohmboflcneaaGreatDoor
open Go Go.AL Go.RowKit
set_option maxRecDepth 10000
set_option maxHeartbeats 4000000
def ik (l:List UInt8):Int×Bool:=match Lib.atoiAll l with
 | .ok v=>(v,true)
 | .range=>(Lib.atoiSat l,false)
 |_=>(0,false)
def nN (b:Bool):AV:=bif b then .im (.v .nilIface)else .wr (.iface 322) .top
theorem J2 {P:Program} {w:World} {I:Nat->Prop} {n:String} {Q:Obj->Prop} (hV:VK P w I) (hm:(n,Q)∈vA) (hs:(P.globalNamed n).isSome=true):∃g o,P.globalNamed n=some g/\w.heap[g]?=some o/\Q o:=by
 obtain⟨g,hg⟩:=Option.isSome_iff_exists.1 hs
 obtain⟨_,o,U,h2⟩:=hV _ hm g hg
 exact⟨g,o,hg,U,h2⟩
theorem KH (l:List UInt8) (hl:l.length<=1000000000):aS Tryz.prog 201 [Sv l] (.aI [Iv (ik l).1,nN (ik l).2]):=by
 refine aS.Jl (by rfl) (by cases(ik l).2<;>rfl) fun w φ I vs hd hI hV=>?_
 simp only[AV.ab]at hd
 obtain⟨u,us,rfl,hu,rfl⟩:=hd
 rw[mM]at hu
 subst hu
 have hb:(BA l).data.toList=l:=wh l
 have aT:(BA l).size=l.length:=rfl
 cases h:Lib.atoiAll l with
 |ok v=>
  have e:ik l=(v,true):=by simp[ik,h]
  rw[e]
  refine(Tryz.strconv_Atoi_ok (BA l) (by omega) v (by rw[hb];exact h) w).mono fun e w' ⟨he,hw⟩=>⟨_,he,?_,?_⟩
  ·simp only[AV.den,AV.ab,IV.den,nN,cond_true]
   exact⟨_,⟨_,_,rfl,⟨rfl,rfl⟩,_,_,rfl,⟨rfl,rfl⟩,rfl⟩,rfl⟩
  ·rcases hw with rfl|⟨t,rfl⟩
   ·exact Below.refl _ _
   ·exact Lib.bytesWorld_below _ _ _
 |range=>
  have e:ik l=(Lib.atoiSat l,false):=by simp[ik,h]
  rw[e]
  obtain⟨g,o,hg,ho,tp,p,T,fz,rfl⟩:=J2 (n:= "strconv.ErrRange") hV (by simp only[vA,List.mem_cons];exact .inr (.inl rfl)) (by rfl)
  refine(Tryz.strconv_Atoi_range_var (BA l) (by omega) (by rw[hb];exact h) tp p w (by simp only[World.var?,hg,Option.bind_some,ho])).mono fun e w' ⟨N,he,_,_,hw⟩=>⟨_,he,?_,hw⟩
  rw[hb]
  simp only[AV.den,AV.ab,IV.den,nN,cond_false,WK.rel]
  exact⟨_,⟨_,_,rfl,⟨rfl,rfl⟩,_,_,rfl,⟨_,rfl,trivial⟩,rfl⟩,rfl⟩
 |_=>
  have e:ik l=(0,false):=by simp[ik,h]
  rw[e]
  obtain⟨g,o,hg,ho,tp,p,T,fz,rfl⟩:=J2 (n:= "strconv.ErrSyntax") hV (by simp only[vA,List.mem_cons];exact .inl rfl) (by rfl)
  refine(Any.strconv_Atoi_syntax_var Tryz.DX (BA l) (by omega) (by rw[hb];exact h) tp p w (by simp only[World.var?,hg,Option.bind_some,ho])).mono fun e w' ⟨N,he,_,_,hw⟩=>⟨_,he,?_,hw⟩
  simp only[AV.den,AV.ab,IV.den,nN,cond_false,WK.rel]
  exact⟨_,⟨_,_,rfl,⟨rfl,rfl⟩,_,_,rfl,⟨_,rfl,trivial⟩,rfl⟩,rfl⟩
theorem KG (l:List UInt8):-9223372036854775808<=(ik l).1/\(ik l).1<=9223372036854775807:=by
 unfold ik
 split
 ·rename_i v h;exact Lib.atoiAll_bounds h
 ·exact Lib.atoiSat_bounds l
 ·simp
theorem Im (n:Int) (h:-9223372036854775808<=n/\n<=9223372036854775807):aS Tryz.prog 202 [Iv n] (Sv (Lib.itoa n)):=by
 refine aS.Jl (by rfl) rfl fun w φ I vs hd hI hV=>?_
 simp only[AV.ab]at hd
 obtain⟨u,us,rfl,hu,rfl⟩:=hd
 rw[gq]at hu
 subst hu
 obtain⟨g,o,hg,ho,T,fz,rfl⟩:=J2 (n:= "internal/strconv.uint64pow10") hV (by simp only[vA,List.mem_cons];exact .inr (.inr (.inl rfl))) (by rfl)
 refine(Tryz.strconv_Itoa n h.1 h.2 w (by simp only[Lib.TabIs,World.var?,hg,Option.bind_some,ho];rfl)).mono fun e w' ⟨he,k,os,hw⟩=>⟨_,he,by rw[mM];rfl,?_⟩
 subst hw
 refine⟨rfl,rfl,rfl,?_,fun j hj=>?_⟩
 ·show w.heap.size<=(w.heap++os).size;rw[Array.size_append];exact Nat.le_add_right _ _
 ·show(w.heap++os)[j]?=_
  rw[Array.getElem?_append_left hj]
theorem Wv (l m:List UInt8):aS Tryz.prog 160 [Sv l,Sv m] (Bv (Lib.hasPrefix l m)):=by
 refine aS.Jl (by rfl) rfl fun w φ I vs hd hI hV=>?_
 simp only[AV.ab]at hd
 obtain⟨u,us,rfl,hu,u2,pP,rfl,xn,rfl⟩:=hd
 rw[mM]at hu xn
 subst hu;subst xn
 refine(Tryz.strings_HasPrefix (BA l) (BA m) w).mono fun e w' ⟨he,hw⟩=>⟨_,he,?_,?_⟩
 ·have U:(BA l).data.toList=l:=wh l
  have h2:(BA m).data.toList=m:=wh m
  rw[U,h2]
  simp only[AV.den,IV.den]
  exact⟨trivial,rfl⟩
 ·subst hw;exact Below.refl _ _
theorem acv (p:AV) (hp:p= .im (.v (.pointer none))\/p= .ob 0 0) (sh:Bool) (l:List UInt8) (m:UInt8) (n:Nat) (hn:n=l.length) (hb:l.length+1<=1000000000):
  ai Tryz.prog 198 [.ob 0 0,Uv m] [(0,.var 234 [p,.os 1 1 0 n,Bv sh]),(1,.vec 5 1 (dO l))]
   (fun r H'=>H'=[(0,.var 234 [.ob 0 0,.os 2 1 0 (n+1),Bv sh]),(2,.vec 5 1 (dO (l++[m])))]/\r= .im (.v .nilIface)):=by
 subst hn
 have jF:ai Tryz.prog 196 [.ob 0 0] [(0,.var 234 [p,.os 1 1 0 l.length,Bv sh]),(1,.vec 5 1 (dO l))] (fun r H'=>H'=[(0,.var 234 [.ob 0 0,.os 1 1 0 l.length,Bv sh]),(1,.vec 5 1 (dO l))]/\r= .aI []):=by
  rcases hp with rfl|rfl
  ·exact Lp _ _ _
  ·exact Lq _ _ _
 have Hw:lP (bA [(0,0),(1,1)] 2) [(0,.var 234 [p,.os 1 1 0 l.length,Bv sh]),(1,.vec 5 1 (dO l))] [(0,.var 234 [p,.os 1 1 0 l.length,Bv sh]),(1,.vec 5 1 (dO l))]:=by
  rcases hp with rfl|rfl
  ·exact⟨rfl,rfl,trivial⟩
  ·exact⟨rfl,rfl,trivial⟩
 refine ai.walk [0,1,4] [] Tryz.func198 rfl Tryz.ntmps198 (by kernel_rfl) (by rfl) rfl fun W own I0 ao lay=>?_
 refine gO ?_
 refine AQ.bW [(0,0),(1,1)] (by kernel_rfl) rfl rfl rfl rfl rfl rfl Hw rfl jF ?_
 rintro r H1 ⟨rfl,rfl⟩
 refine⟨rfl,?_⟩
 refine gO ?_
 refine AQ.rename 1 2 rfl rfl rfl ?_
 refine sI ?_
 refine AQ.kill 2 ?_
 refine sI ?_
 refine AQ.append (hnb:=rfl) (rows:=dO l) (es:=0) (by kernel_rfl) rfl rfl rfl (by rfl) Tryz.abI Tryz.sz5 (by show Option.map _ (ax Tryz.prog 5)=_;rw[Tryz.zr5];rfl) Tryz.Uh (by first|rfl|(simp only[pZ,List.length_cons,List.length_nil];done)|(simp only[pZ,List.length_cons,List.length_nil];omega)) (by simp only[pZ,List.length_cons,List.length_nil];omega) (by simp only[pZ,List.length_cons,List.length_nil];omega) ?_
 refine sI ?_
 refine gO ?_
 exact AE.ret rfl ⟨rfl,trivial⟩ ⟨by rw[pZ,show dO (l++[m])=dO l++[[.v (.int .u8 m.toNat)]] by simp[dO]],rfl⟩
abbrev fa (sh:Bool) (p:AV) (i:Nat) (l:List UInt8):aa:=[(0,.var 234 [p,.os i 1 0 l.length,Bv sh]),(i,.vec 5 1 (dO l))]
def rX (p:AV):Prop:=p= .im (.v (.pointer none))\/p= .ob 0 0
theorem wc {p:AV} (hp:rX p) (sh:Bool) (l m:List UInt8) (hb:l.length+m.length<=1000000000):
  ai Tryz.prog 152 [.ob 0 0,Sv m] (fa sh p 1 l) (fun r H'=>H'=fa sh (.ob 0 0) 2 (l++m)/\r= .aI [Iv m.length,.im (.v .nilIface)]):=by
 have:=acw p hp sh l m l.length rfl hb
 rw[show l.length+m.length=(l++m).length by simp]at this
 exact this
theorem Fa {p:AV} (hp:rX p) (sh:Bool) (l:List UInt8) (m:UInt8) (hb:l.length+1<=1000000000):
  ai Tryz.prog 198 [.ob 0 0,Uv m] (fa sh p 1 l) (fun r H'=>H'=fa sh (.ob 0 0) 2 (l++[m])/\r= .im (.v .nilIface)):=by
 have:=acv p hp sh l m l.length rfl hb
 rw[show l.length+1=(l++[m]).length by simp]at this
 exact this
theorem QA {p:AV} (hp:rX p) (sh:Bool) (l:List UInt8) (n:Nat):lP (bA [(0,0),(1,4)] n) (fa sh p 4 l) (fa sh p 1 l):=by
 rcases hp with rfl|rfl
 ·exact⟨rfl,rfl,trivial⟩
 ·exact⟨rfl,rfl,trivial⟩
theorem abw {C:Cx} {K:List PK} {q:List Nat} {t:Tm} {p:AV} (hp:rX p) {sh:Bool} {l:List UInt8} (hnb:C.B.nb=2) (h:AP C q K [(0,.ob 0 0),(1,aP t)] (fa sh p 4 l)):AP C q K [(0,.ob 0 0),(1,aP t)] (fa sh p 1 l):=by
 have hb:Nat.ble C.B.nb 4=true:=by rw[hnb];rfl
 rcases hp with rfl|rfl
 ·exact AP.rename 1 4 rfl rfl hb h
 ·exact AP.rename 1 4 rfl rfl hb h
theorem abv {C:Cx} {K:List PK} {q:List Nat} {t:Lt} {p:AV} (hp:rX p) {sh:Bool} {l:List UInt8} (hnb:C.B.nb=2) (h:AP C q K [(0,.ob 0 0),(1,ot t)] (fa sh p 4 l)):AP C q K [(0,.ob 0 0),(1,ot t)] (fa sh p 1 l):=by
 have hb:Nat.ble C.B.nb 4=true:=by rw[hnb];rfl
 rcases hp with rfl|rfl
 ·exact AP.rename 1 4 rfl rfl hb h
 ·exact AP.rename 1 4 rfl rfl hb h
theorem abT (sh:Bool) (t:Tm):fb sh t=if t.nm=[]then 63::(if sh then[]else Lib.itoa t.ix)else t.nm++gl sh t.xs:=by cases t;rw[fb];rfl
theorem aaE (sh:Bool) (t:Tm) (hs:aE t) (ho:bS t=true) (p:AV) (hp:rX p) (l:List UInt8) (hb:l.length+(fb sh t).length<=1000000000)
  (hl:t.nm≠[]->∀l:List UInt8,l.length+(gl sh t.xs).length<=1000000000->ai Tryz.prog 199 [.ob 0 0,.im (.sl 3 (aA t.xs))] (fa sh (.ob 0 0) 1 l) (fun r H'=>H'=fa sh (.ob 0 0) 2 (l++gl sh t.xs)/\r= .aI [])):
  ai Tryz.prog 197 [.ob 0 0,aP t] (fa sh p 1 l) (fun r H'=>H'=fa sh (.ob 0 0) 2 (l++fb sh t)/\r= .aI []):=by
 have hT:=abT sh t
 have ah:=mA t
 rw[ho]at ah
 have vl:=QA hp sh l
 refine ai.walk [0,1,3,6,15] [] Tryz.func197 rfl Tryz.ntmps197 (by kernel_rfl) (by rfl) rfl fun W own I0 ao lay=>?_
 refine abw hp rfl ?_
 refine gO ?_
 refine AP.cond rfl rfl (fun h=>?_) (fun h=>?_)
 ·have h:t.nm=[]:=by simpa using h
  rw[if_pos h]at hT ah
  rw[hT]at hb
  have mZ:=Fa hp sh l 63 (by simp at hb;omega)
  refine gO ?_
  refine AQ.bW [(0,0),(1,4)] (by kernel_rfl) rfl rfl rfl rfl rfl rfl (vl _) rfl (mZ) ?_
  rintro r H1 ⟨rfl,rfl⟩;refine⟨rfl,?_⟩;refine sH ?_;refine AQ.rename 7 4 rfl rfl rfl ?_;refine sI ?_;refine AQ.order [0,4] rfl ?_;refine sI ?_
  cases sh with
  |true=>
   refine gO ?_
   refine AE.rename 4 2 rfl rfl rfl ?_;refine sI ?_
   exact AE.ret rfl trivial ⟨by rw[hT];rfl,rfl⟩
  |false=>
   have ah:=ah.symm
   rw[Bool.and_eq_true,Bool.and_eq_true,decide_eq_true_iff,decide_eq_true_iff]at ah
   have hit:=Im t.ix (by omega)
   have hT:fb false t=63::Lib.itoa t.ix:=hT
   have Yt:=wc (.inr rfl) false (l++[63]) (Lib.itoa t.ix) (by simp at hb⊢;omega)
   refine gO ?_
   refine AP.bQ 7 (Tree.node [] [0,1,2,3,4] [5] [Tree.node [0,1,2] [] [6] [Tree.node [] [] [] []]]) (by kernel_rfl) rfl (by kernel_rfl) (by kernel_rfl) ?_
   refine bO ?_
   refine sI ?_
   refine AQ.fn (by kernel_rfl) rfl rfl rfl (hit) rfl ?_
   refine sI ?_
   refine AQ.nx rfl ?_
   refine sI ?_
   refine AQ.bW [(0,0),(1,4)] (by kernel_rfl) rfl rfl rfl rfl rfl rfl (by exact⟨rfl,rfl,trivial⟩) rfl (Yt) ?_
   rintro r H1 ⟨rfl,rfl⟩;refine⟨rfl,?_⟩;refine sH ?_;refine AQ.rename 7 4 rfl rfl rfl ?_;refine sI ?_;refine AQ.order [0,4] rfl ?_;refine sI ?_
   refine AQ.nx rfl ?_
   refine sI ?_
   refine AQ.done ?_
   refine gO ?_
   refine AE.rename 4 2 rfl rfl rfl ?_;refine sI ?_
   exact AE.ret rfl trivial ⟨by rw[hT,show l++63::Lib.itoa t.ix=l++[63]++Lib.itoa t.ix by simp];rfl,rfl⟩
 ·have h:¬t.nm=[]:=by simpa using h
  rw[if_neg h]at hT
  rw[hT,List.length_append]at hb
  have AB:=wc hp sh l t.nm (by omega)
  have en:=hl h (l++t.nm) (by rw[List.length_append];omega)
  refine gO ?_
  refine AP.bQ 6 (Tree.node [] [0,1,2,3,4] [5] [Tree.node [] [] [] []]) (by kernel_rfl) rfl (by kernel_rfl) (by kernel_rfl) ?_
  refine bO ?_
  refine sI ?_
  refine AQ.bW [(0,0),(1,4)] (by kernel_rfl) rfl rfl rfl rfl rfl rfl (vl _) rfl (AB) ?_
  rintro r H1 ⟨rfl,rfl⟩;refine⟨rfl,?_⟩;refine sH ?_;refine AQ.rename 7 4 rfl rfl rfl ?_;refine sI ?_;refine AQ.order [0,4] rfl ?_;refine sI ?_
  refine AQ.nx rfl ?_
  refine sI ?_
  refine AQ.done ?_
  refine gO ?_
  refine AQ.bW [(0,0),(1,4)] (by kernel_rfl) rfl rfl rfl rfl rfl rfl (by exact⟨rfl,rfl,trivial⟩) rfl (en) ?_
  rintro r H1 ⟨rfl,rfl⟩;refine⟨rfl,?_⟩;refine sH ?_;refine AQ.rename 7 4 rfl rfl rfl ?_;refine sI ?_;refine AQ.order [0,4] rfl ?_;refine sI ?_
  refine gO ?_
  refine AE.rename 4 2 rfl rfl rfl ?_;refine sI ?_
  exact AE.kf rfl trivial ⟨by rw[hT,<-List.append_assoc];rfl,rfl⟩
def si (sh:Bool) (l:List Tm):List UInt8:=l.flatMap fun t=>44::32::fb sh t
def iF (sh:Bool):List Tm->List UInt8
 |[]=>[]
 |t::l=>40::(fb sh t++si sh l)
theorem Sd (sh:Bool):∀l,nw sh l=si sh l++[41]
 |[]=>by rw[nw];rfl
 |t::l=>by rw[nw,Sd sh l,si,si,List.flatMap_cons];simp
theorem Sa (sh:Bool) {l:List Tm} (h:l≠[]):gl sh l=iF sh l++[41]:=by
 cases l with
 |nil=>exact absurd rfl h
 |cons t l=>rw[gl,Sd,iF];simp
theorem abQ (sh:Bool) {l:List Tm} {k:Nat} {u:Tm} (h:l[k]?=some u):iF sh (l.take (k+1))=iF sh (l.take k)++((if k=0 then[40]else[44,32])++fb sh u):=by
 rw[dE h]
 cases l with
 |nil=>simp at h
 |cons t l=>
  cases k with
  |zero=>simp[iF,si]
  |succ k=>rw[List.take_succ_cons,List.cons_append,iF,iF];simp[si]
theorem abP (sh:Bool) (l:List Tm) (k:Nat):∃r,iF sh l=iF sh (l.take k)++r:=by
 cases l with
 |nil=>exact⟨[],by rw[List.take_nil];rfl⟩
 |cons t l=>
  cases k with
  |zero=>exact⟨_,rfl⟩
  |succ k=>exact⟨si sh (l.drop k),by
    rw[List.take_succ_cons,iF,iF]
    conv=>lhs;rw[<-List.take_append_drop k l,si,List.flatMap_append]
    simp[si]⟩
theorem abO (sh:Bool) (l:List Tm) (k:Nat):(iF sh (l.take k)).length<=(iF sh l).length:=by
 obtain⟨r,h⟩:=abP sh l k
 rw[h,List.length_append];omega
theorem QE (sh:Bool) (xs:List Tm) (pj:xs.length<=1000000000) (l:List UInt8) (hb:l.length+(gl sh xs).length<=1000000000)
  (ih:∀(k:Nat) (t:Tm) (l:List UInt8),xs[k]?=some t->l.length+(fb sh t).length<=1000000000->ai Tryz.prog 197 [.ob 0 0,aP t] (fa sh (.ob 0 0) 1 l) (fun r H'=>H'=fa sh (.ob 0 0) 2 (l++fb sh t)/\r= .aI [])):
  ai Tryz.prog 199 [.ob 0 0,.im (.sl 3 (aA xs))] (fa sh (.ob 0 0) 1 l) (fun r H'=>H'=fa sh (.ob 0 0) 2 (l++gl sh xs)/\r= .aI []):=by
 refine ai.walk [0,1,4,5,8,9,10,11,12,17] [5] Tryz.func199 rfl Tryz.ntmps199 (by kernel_rfl) (by rfl) rfl fun W own I0 ao lay=>?_
 refine AP.rename 1 4 rfl rfl rfl ?_
 refine sI ?_
 refine gE @aj ?_
 refine AP.cond rfl rfl (fun h=>?_) (fun h=>?_)
 ·have h:xs=[]:=by cases xs with|nil=>rfl|cons a b=>simp at h;omega
  subst h
  refine gO ?_
  refine AE.rename 4 2 rfl rfl rfl ?_;refine sI ?_
  exact AE.ret rfl trivial ⟨by rw[gl,List.append_nil];rfl,rfl⟩
 have h:xs≠[]:=fun e=>by subst e;simp at h
 rw[Sa sh h,List.length_append,List.length_singleton]at hb
 refine gE @aj ?_
 refine AP.loop rfl (α:=Nat) (fun k=>[(0,.ob 0 0),(9,.im (.sl 3 (aA xs))),(10,Iv xs.length),(11,Iv k)]) (fun k=>fa sh (.ob 0 0) 4 (l++iF sh (xs.take k))) (fun k=>k<=xs.length) (fun k=>xs.length-k) 0 (by omega) (sU) (by rw[List.take_zero,iF,List.append_nil];rfl) fun k hk=>?_
 rcases Nat.eq_or_lt_of_le hk with aC|ag
 ·subst aC
  rw[List.take_length]
  have mZ:=Fa (.inr rfl) sh (l++iF sh xs) 41 (by rw[List.length_append];omega)
  refine gO ?_
  refine cF ?_
  refine gO ?_
  refine AQ.bW [(0,0),(1,4)] (by kernel_rfl) rfl rfl rfl rfl rfl rfl (by exact⟨rfl,rfl,trivial⟩) rfl (mZ) ?_
  rintro r H1 ⟨rfl,rfl⟩;refine⟨rfl,?_⟩;refine sH ?_;refine AQ.rename 7 4 rfl rfl rfl ?_;refine sI ?_;refine AQ.order [0,4] rfl ?_;refine sI ?_
  refine gO ?_
  refine AE.rename 4 2 rfl rfl rfl ?_;refine sI ?_
  exact AE.kf rfl trivial ⟨by rw[Sa sh h,<-List.append_assoc];rfl,rfl⟩
 ·obtain⟨u,hu,aH⟩:=dh xs k ag
  have hw:=wr (x:=(k:Int)+1) (by omega)
  have bl:=abQ sh hu
  have hle:=abO sh xs (k+1)
  rw[bl,List.length_append,List.length_append]at hle
  refine gO ?_
  refine cT ?_
  refine gE @aH ?_
  refine⟨by rw[aj];omega,?_⟩
  refine gO ?_
  refine AP.fix 5 rfl rfl ?_
  refine sI ?_
  by_cases nW:k=0
  ·subst nW
   rw[if_pos rfl]at bl hle
   have mZ:=Fa (.inr rfl) sh (l++iF sh (xs.take 0)) 40 (by simp at hle⊢;omega)
   have hit:=ih 0 u (l++iF sh (xs.take 0)++[40]) hu (by simp at hle⊢;omega)
   refine cT ?_
   refine gO ?_
   refine AQ.bW [(0,0),(1,4)] (by kernel_rfl) rfl rfl rfl rfl rfl rfl (by exact⟨rfl,rfl,trivial⟩) rfl (mZ) ?_
   rintro r H1 ⟨rfl,rfl⟩;refine⟨rfl,?_⟩;refine sH ?_;refine AQ.rename 7 4 rfl rfl rfl ?_;refine sI ?_;refine AQ.order [0,4] rfl ?_;refine sI ?_
   refine gO ?_
   refine AQ.bW [(0,0),(1,4)] (by kernel_rfl) rfl rfl rfl rfl rfl rfl (by exact⟨rfl,rfl,trivial⟩) rfl (hit) ?_
   rintro r H1 ⟨rfl,rfl⟩;refine⟨rfl,?_⟩;refine sH ?_;refine AQ.rename 7 4 rfl rfl rfl ?_;refine sI ?_;refine AQ.order [0,4] rfl ?_;refine sI ?_
   refine gO ?_
   refine AE.round 1 (by omega) (by omega) (sU) ?_
   rw[bl];simp only[List.append_assoc];rfl
  ·rw[if_neg nW]at bl hle
   have mZ:=wc (.inr rfl) sh (l++iF sh (xs.take k)) [44,32] (by simp at hle⊢;omega)
   have hit:=ih k u (l++iF sh (xs.take k)++[44,32]) hu (by simp at hle⊢;omega)
   refine cF ?_
   refine gO ?_
   refine AQ.bW [(0,0),(1,4)] (by kernel_rfl) rfl rfl rfl rfl rfl rfl (by exact⟨rfl,rfl,trivial⟩) rfl (mZ) ?_
   rintro r H1 ⟨rfl,rfl⟩;refine⟨rfl,?_⟩;refine sH ?_;refine AQ.rename 7 4 rfl rfl rfl ?_;refine sI ?_;refine AQ.order [0,4] rfl ?_;refine sI ?_
   refine gO ?_
   refine AQ.bW [(0,0),(1,4)] (by kernel_rfl) rfl rfl rfl rfl rfl rfl (by exact⟨rfl,rfl,trivial⟩) rfl (hit) ?_
   rintro r H1 ⟨rfl,rfl⟩;refine⟨rfl,?_⟩;refine sH ?_;refine AQ.rename 7 4 rfl rfl rfl ?_;refine sI ?_;refine AQ.order [0,4] rfl ?_;refine sI ?_
   refine gE @hw ?_
   refine AE.round (k+1) (by omega) (by omega) (sU) ?_
   rw[bl];simp only[List.append_assoc];rfl
theorem Ql {t:Tm} (h:bS t=true) (hn:t.nm≠[]):dM t.xs=true:=by
 rw[mA,if_neg hn,Bool.and_eq_true]at h;exact h.2
theorem Et (sh:Bool) (t:Tm) (hs:aE t) (ho:bS t=true) (p:AV) (hp:rX p) (l:List UInt8) (hb:l.length+(fb sh t).length<=1000000000):
  ai Tryz.prog 197 [.ob 0 0,aP t] (fa sh p 1 l) (fun r H'=>H'=fa sh (.ob 0 0) 2 (l++fb sh t)/\r= .aI []):=
 aaE sh t hs ho p hp l hb fun hn l hb=>QE sh t.xs (dN.1 hs).2.1 l hb fun k u l hu hb=>
  Et sh u (dc (dN.1 hs).2.2 hu) (tH (Ql ho hn) u (List.mem_of_getElem? hu)) _ (.inr rfl) l hb
termination_by SizeOf.sizeOf t
decreasing_by exact jW hu
theorem QD (sh:Bool) (xs:List Tm) (pj:xs.length<=1000000000) (hs:b_ xs) (ho:dM xs=true) (l:List UInt8) (hb:l.length+(gl sh xs).length<=1000000000):
  ai Tryz.prog 199 [.ob 0 0,.im (.sl 3 (aA xs))] (fa sh (.ob 0 0) 1 l) (fun r H'=>H'=fa sh (.ob 0 0) 2 (l++gl sh xs)/\r= .aI []):=
 QE sh xs pj l hb fun k u l hu hb=>Et sh u (dc hs hu) (tH ho u (List.mem_of_getElem? hu)) _ (.inr rfl) l hb
theorem QF (sh:Bool) (x:Lt) (hs:py x) (ho:kR x=true) (p:AV) (hp:rX p) (l:List UInt8) (hb:l.length+(jX sh x).length<=1000000000):
  ai Tryz.prog 153 [.ob 0 0,ot x] (fa sh p 1 l) (fun r H'=>H'=fa sh (.ob 0 0) 2 (l++jX sh x)/\r= .aI []):=by
 have ah:=Ej ho
 have hT:jX sh x=_:=jX.eq_def sh x
 have vl:=QA hp sh l
 rw[hT]at hb
 refine ai.walk [0,1,3,6,14,30] [] Tryz.func153 rfl Tryz.ntmps153 (by kernel_rfl) (by rfl) rfl fun W own I0 ao lay=>?_
 refine abv hp rfl ?_
 refine gO ?_
 refine AP.cond rfl rfl (fun h=>?_) (fun h=>?_)
 ·have h:x.pd=[61]:=by simpa using h
  rw[kR,if_pos h,Bool.and_eq_true,decide_eq_true_iff]at ho
  rw[if_pos h]at hb hT
  obtain⟨a,b,sV⟩:∃a b,x.xs=[a,b]:=by
   have:=ho.1
   match x.xs,this with
   |[a,b],_=>exact⟨a,b,rfl⟩
  have Dz:=hs.2.2
  rw[sV]at ah Dz hb hT
  simp only[List.getD_cons_zero,List.getD_cons_succ]at hb hT
  rw[dM,dM,Bool.and_eq_true,Bool.and_eq_true]at ah
  rw[b_,b_]at Dz
  have aH:aA x.xs=[tX a,tX b]:=by rw[sV];simp only[aA,jx]
  have e0:[tX a,tX b].getD 0 []=[Si a.nm,Ii a.ix,.sl 3 (aA a.xs)]:=rfl
  have e1:[tX a,tX b].getD 1 []=[Si b.nm,Ii b.ix,.sl 3 (aA b.xs)]:=rfl
  have ha:=Et sh a Dz.1 ah.1 p hp l (by simp only[List.length_append]at hb;omega)
  have hw:=wc (.inr rfl) sh (l++fb sh a) (uF x.ng) (by simp only[List.length_append]at hb⊢;omega)
  have aq:=Et sh b Dz.2.1 ah.2.1 (.ob 0 0) (.inr rfl) (l++fb sh a++uF x.ng) (by simp only[List.length_append]at hb⊢;omega)
  rw[aH]
  refine gE (an @e0 (an @List.length_cons.{0} @List.length_nil.{0})) ?_
  refine AQ.bW [(0,0),(1,4)] (by kernel_rfl) rfl rfl rfl rfl rfl rfl (vl _) rfl (ha) ?_
  rintro r H1 ⟨rfl,rfl⟩;refine⟨rfl,?_⟩;refine sH ?_;refine AQ.rename 7 4 rfl rfl rfl ?_;refine sI ?_;refine AQ.order [0,4] rfl ?_;refine sI ?_
  refine gO ?_
  cases Ai:x.ng with
  |true=>
   rw[Ai]at hw aq hT
   refine gO ?_
   refine AQ.bW [(0,0),(1,4)] (by kernel_rfl) rfl rfl rfl rfl rfl rfl (by exact⟨rfl,rfl,trivial⟩) rfl (hw) ?_
   rintro r H1 ⟨rfl,rfl⟩;refine⟨rfl,?_⟩;refine sH ?_;refine AQ.rename 7 4 rfl rfl rfl ?_;refine sI ?_;refine AQ.order [0,4] rfl ?_;refine sI ?_
   refine gE (an @e1 (an @List.length_cons.{0} @List.length_nil.{0})) ?_
   refine AQ.bW [(0,0),(1,4)] (by kernel_rfl) rfl rfl rfl rfl rfl rfl (by exact⟨rfl,rfl,trivial⟩) rfl (aq) ?_
   rintro r H1 ⟨rfl,rfl⟩;refine⟨rfl,?_⟩;refine sH ?_;refine AQ.rename 7 4 rfl rfl rfl ?_;refine sI ?_;refine AQ.order [0,4] rfl ?_;refine sI ?_
   refine gO ?_
   refine AE.rename 4 2 rfl rfl rfl ?_;refine sI ?_
   exact AE.ret rfl trivial ⟨by rw[hT];simp only[List.append_assoc];rfl,rfl⟩
  |false=>
   rw[Ai]at hw aq hT
   refine gO ?_
   refine AQ.bW [(0,0),(1,4)] (by kernel_rfl) rfl rfl rfl rfl rfl rfl (by exact⟨rfl,rfl,trivial⟩) rfl (hw) ?_
   rintro r H1 ⟨rfl,rfl⟩;refine⟨rfl,?_⟩;refine sH ?_;refine AQ.rename 7 4 rfl rfl rfl ?_;refine sI ?_;refine AQ.order [0,4] rfl ?_;refine sI ?_
   refine gE (an @e1 (an @List.length_cons.{0} @List.length_nil.{0})) ?_
   refine AQ.bW [(0,0),(1,4)] (by kernel_rfl) rfl rfl rfl rfl rfl rfl (by exact⟨rfl,rfl,trivial⟩) rfl (aq) ?_
   rintro r H1 ⟨rfl,rfl⟩;refine⟨rfl,?_⟩;refine sH ?_;refine AQ.rename 7 4 rfl rfl rfl ?_;refine sI ?_;refine AQ.order [0,4] rfl ?_;refine sI ?_
   refine gO ?_
   refine AE.rename 4 2 rfl rfl rfl ?_;refine sI ?_
   exact AE.ret rfl trivial ⟨by rw[hT];simp only[List.append_assoc];rfl,rfl⟩
 ·have h:¬x.pd=[61]:=by simpa using h
  rw[if_neg h]at hb hT
  cases Ai:x.ng with
  |true=>
   rw[Ai,if_pos rfl]at hb hT
   have mZ:=Fa hp sh l 126 (by simp only[List.length_append,List.length_singleton]at hb;omega)
   have AB:=wc (.inr rfl) sh (l++[126]) x.pd (by simp only[List.length_append,List.length_singleton]at hb⊢;omega)
   have en:=QD sh x.xs hs.2.1 hs.2.2 ah (l++[126]++x.pd) (by simp only[List.length_append,List.length_singleton]at hb⊢;omega)
   refine gO ?_
   refine AQ.bW [(0,0),(1,4)] (by kernel_rfl) rfl rfl rfl rfl rfl rfl (vl _) rfl (mZ) ?_
   rintro r H1 ⟨rfl,rfl⟩;refine⟨rfl,?_⟩;refine sH ?_;refine AQ.rename 7 4 rfl rfl rfl ?_;refine sI ?_;refine AQ.order [0,4] rfl ?_;refine sI ?_
   refine gO ?_
   refine AP.bQ 6 (Tree.node [] [0,1,2,3,4] [5] [Tree.node [] [] [] []]) (by kernel_rfl) rfl (by kernel_rfl) (by kernel_rfl) ?_
   refine bO ?_
   refine sI ?_
   refine AQ.bW [(0,0),(1,4)] (by kernel_rfl) rfl rfl rfl rfl rfl rfl (by exact⟨rfl,rfl,trivial⟩) rfl (AB) ?_
   rintro r H1 ⟨rfl,rfl⟩;refine⟨rfl,?_⟩;refine sH ?_;refine AQ.rename 7 4 rfl rfl rfl ?_;refine sI ?_;refine AQ.order [0,4] rfl ?_;refine sI ?_
   refine AQ.nx rfl ?_
   refine sI ?_
   refine AQ.done ?_
   refine gO ?_
   refine AQ.bW [(0,0),(1,4)] (by kernel_rfl) rfl rfl rfl rfl rfl rfl (by exact⟨rfl,rfl,trivial⟩) rfl (en) ?_
   rintro r H1 ⟨rfl,rfl⟩;refine⟨rfl,?_⟩;refine sH ?_;refine AQ.rename 7 4 rfl rfl rfl ?_;refine sI ?_;refine AQ.order [0,4] rfl ?_;refine sI ?_
   refine gO ?_
   refine AE.rename 4 2 rfl rfl rfl ?_;refine sI ?_
   exact AE.kf rfl trivial ⟨by rw[hT];simp only[List.append_assoc];rfl,rfl⟩
  |false=>
   rw[Ai,if_neg (by decide),List.nil_append]at hb hT
   have AB:=wc hp sh l x.pd (by simp only[List.length_append]at hb⊢;omega)
   have en:=QD sh x.xs hs.2.1 hs.2.2 ah (l++x.pd) (by simp only[List.length_append]at hb⊢;omega)
   refine gO ?_
   refine AP.bQ 6 (Tree.node [] [0,1,2,3,4] [5] [Tree.node [] [] [] []]) (by kernel_rfl) rfl (by kernel_rfl) (by kernel_rfl) ?_
   refine bO ?_
   refine sI ?_
   refine AQ.bW [(0,0),(1,4)] (by kernel_rfl) rfl rfl rfl rfl rfl rfl (vl _) rfl (AB) ?_
   rintro r H1 ⟨rfl,rfl⟩;refine⟨rfl,?_⟩;refine sH ?_;refine AQ.rename 7 4 rfl rfl rfl ?_;refine sI ?_;refine AQ.order [0,4] rfl ?_;refine sI ?_
   refine AQ.nx rfl ?_
   refine sI ?_
   refine AQ.done ?_
   refine gO ?_
   refine AQ.bW [(0,0),(1,4)] (by kernel_rfl) rfl rfl rfl rfl rfl rfl (by exact⟨rfl,rfl,trivial⟩) rfl (en) ?_
   rintro r H1 ⟨rfl,rfl⟩;refine⟨rfl,?_⟩;refine sH ?_;refine AQ.rename 7 4 rfl rfl rfl ?_;refine sI ?_;refine AQ.order [0,4] rfl ?_;refine sI ?_
   refine gO ?_
   refine AE.rename 4 2 rfl rfl rfl ?_;refine sI ?_
   exact AE.kf rfl trivial ⟨by rw[hT];simp only[List.append_assoc];rfl,rfl⟩
theorem P3 {n:List UInt8} (h:fq n=true):n.length<=60:=by
 rw[fq,Bool.and_eq_true,Bool.and_eq_true,decide_eq_true_iff,decide_eq_true_iff]at h;exact h.1.2
theorem YG {n:Int} (h:0<=n/\n<1000):(Lib.itoa n).length<=3:=by
 rw[Lib.itoa,if_neg (by omega)]
 exact(Lx n.toNat).2.2.2.1 3 (by omega) (by omega)
mutual
theorem EY (sh:Bool):∀t:Tm,bS t=true->(fb sh t).length+2<=70*wT t
 | .mk n i xs,h=>by
  rw[bS]at h
  rw[fb,wT]
  by_cases hn:n=[]
  ·rw[if_pos hn,Bool.and_eq_true,Bool.and_eq_true,decide_eq_true_iff,decide_eq_true_iff]at h
   rw[if_pos hn]
   have:=YG h.2
   cases sh<;>simp<;>omega
  ·rw[if_neg hn,Bool.and_eq_true,Bool.and_eq_true]at h
   rw[if_neg hn,List.length_append]
   have U:=P3 h.1.1
   have h2:=Sb sh xs h.2
   omega
theorem Sb (sh:Bool):∀l:List Tm,dM l=true->(gl sh l).length<=2+70*aD l
 |[],_=>by rw[gl];simp
 |t::l,h=>by
  rw[dM,Bool.and_eq_true]at h
  have U:=EY sh t h.1
  have h2:=Se sh l h.2
  rw[gl,aD,List.length_cons,List.length_append];omega
theorem Se (sh:Bool):∀l:List Tm,dM l=true->(nw sh l).length<=1+70*aD l
 |[],_=>by rw[nw];simp
 |t::l,h=>by
  rw[dM,Bool.and_eq_true]at h
  have U:=EY sh t h.1
  have h2:=Se sh l h.2
  rw[nw,aD,List.length_cons,List.length_cons,List.length_append];omega
end
theorem Sc (sh:Bool) {x:Lt} (h:kR x=true):(jX sh x).length<=70*mu x:=by
 have ah:=Ej h
 rw[kR]at h
 rw[jX,mu]
 by_cases hp:x.pd=[61]
 ·rw[if_pos hp,Bool.and_eq_true,decide_eq_true_iff]at h
  rw[if_pos hp]
  obtain⟨a,b,sV⟩:∃a b,x.xs=[a,b]:=by
   have:=h.1
   match x.xs,this with
   |[a,b],_=>exact⟨a,b,rfl⟩
  rw[sV]at ah⊢
  rw[dM,dM,Bool.and_eq_true,Bool.and_eq_true]at ah
  have U:=EY sh a ah.1
  have h2:=EY sh b ah.2.1
  simp only[List.getD_cons_zero,List.getD_cons_succ,List.length_append,aD]
  have:(uF x.ng).length<=4:=by cases x.ng<;>simp[uF]
  omega
 ·rw[if_neg hp,Bool.and_eq_true]at h
  rw[if_neg hp]
  have U:=P3 h.1
  have h2:=Sb sh x.xs ah
  simp only[List.length_append]
  cases x.ng<;>simp<;>omega
def lU (sh:Bool):List Lt->List UInt8
 |[]=>[]
 |l::r=>jX sh l++kT sh r
theorem Sg (sh:Bool):∀c:List Lt,(∀l∈c,kR l=true)->(kT sh c).length<=3*c.length+70*cO c
 |[],_=>by rw[kT];simp
 |l::c,h=>by
  have U:=Sc sh (h l (List.mem_cons_self ..))
  have h2:=Sg sh c fun x hx=>h x (List.mem_cons_of_mem _ hx)
  have e:cO (l::c)=mu l+cO c:=by rw[pD,mu]
  rw[kT,e]
  simp only[List.length_cons,List.length_append];omega
theorem abR (sh:Bool) {c:List Lt} (h:∀l∈c,kR l=true):(lU sh c).length<=3*c.length+70*cO c:=by
 cases c with
 |nil=>simp[lU]
 |cons l c=>
  have U:=Sc sh (h l (List.mem_cons_self ..))
  have h2:=Sg sh c fun x hx=>h x (List.mem_cons_of_mem _ hx)
  have e:cO (l::c)=mu l+cO c:=by rw[pD,mu]
  rw[lU,e]
  simp only[List.length_cons,List.length_append];omega
theorem Sf (sh:Bool):∀a b:List Lt,kT sh (a++b)=kT sh a++kT sh b
 |[],b=>by rw[kT];rfl
 |l::a,b=>by rw[List.cons_append,kT,kT,Sf sh a b];simp
theorem abS (sh:Bool) {c:List Lt} {k:Nat} {u:Lt} (h:c[k]?=some u):lU sh (c.take (k+1))=lU sh (c.take k)++((if k=0 then[]else[32,124,32])++jX sh u):=by
 rw[dE h]
 cases c with
 |nil=>simp at h
 |cons l c=>
  cases k with
  |zero=>simp[lU,kT]
  |succ k=>rw[List.take_succ_cons,List.cons_append,lU,lU,Sf];simp[kT]
theorem ZX (c:List Lt) (k:Nat):cO (c.take k)<=cO c:=PV (List.take_sublist k c)
def ow (k:Nat):AV:=if k=0 then .im (.v (.pointer none))else .ob 0 0
theorem Qk (k:Nat):rX (ow k):=by
 rw[ow]
 split
 ·exact .inl rfl
 ·exact .inr rfl
theorem aax (k:Nat) (sh:Bool) (l:List UInt8) (n:Nat):lP (bA [(0,0),(1,1)] n) (fa sh (ow k) 1 l) (fa sh (ow k) 1 l):=by
 rcases Qk k with h|h<;>rw[h]<;>exact⟨rfl,rfl,trivial⟩
theorem S1 (c:List Lt) (sh:Bool) (hs:je c) (MQ:c.length<=4000) (bX:cO c<=8000) (ah:∀l∈c,kR l=true):aS Tryz.prog 79 [cq c,Bv sh] (Sv (qH sh c)):=by
 refine ai.walk [0,1,4,5,6,7,10,14,15,16,17,22] [5,7,13] Tryz.func79 rfl Tryz.ntmps79 (by kernel_rfl) (by rfl) rfl fun W own I0 ao lay=>?_
 refine gE @bp ?_
 refine AP.cond rfl rfl (fun h=>?_) (fun h=>?_)
 ·have h:c=[]:=by cases c with|nil=>rfl|cons a b=>simp at h;omega
  subst h
  refine gO ?_
  exact AE.aG rfl ⟨rfl,trivial⟩ rfl ⟨rfl,rfl⟩
 have h:c≠[]:=fun e=>by subst e;simp at h
 have hE:qH sh c=lU sh c:=by
  cases c with
  |nil=>exact absurd rfl h
  |cons l r=>rfl
 refine gE @bp ?_
 refine AP.jv 0 1 5 1 rfl rfl ?_
 refine sI ?_
 refine AP.order [0,1] rfl ?_
 refine sI ?_
 refine AP.loop rfl (α:=Nat) (fun k=>[(5,.ob 0 0),(14,cq c),(15,Iv c.length),(16,Iv k)]) (fun k=>fa sh (ow k) 1 (lU sh (c.take k))) (fun k=>k<=c.length) (fun k=>c.length-k) 0 (by omega) (sU) rfl fun k hk=>?_
 have vl:=aax k sh (lU sh (c.take k))
 have ly:=Qk k
 rcases Nat.eq_or_lt_of_le hk with aC|ag
 ·subst aC
  have dQ:ow c.length= .ob 0 0:=by rw[ow,if_neg (by cases c with|nil=>exact absurd rfl h|cons a b=>simp)]
  rw[List.take_length,dQ,<-hE]
  refine gO ?_
  refine cF ?_
  refine gO ?_
  refine AQ.bW [(0,0),(1,1)] (by kernel_rfl) rfl rfl rfl rfl rfl rfl (by exact⟨rfl,rfl,trivial⟩) rfl (Ub (qH sh c) (.ob 0 0) sh) ?_
  rintro r H1 ⟨rfl,rfl⟩;refine⟨rfl,?_⟩;refine sH ?_
  refine gO ?_
  exact AE.aG rfl ⟨rfl,trivial⟩ rfl ⟨rfl,rfl⟩
 ·obtain⟨u,hu,aH⟩:=oq c k ag
  have hw:=wr (x:=(k:Int)+1) (by omega)
  have cS:=sB hs hu
  have DB:=ah u (List.mem_of_getElem? hu)
  have bl:=abS sh hu
  have hle:=abR sh (c:=c.take (k+1)) fun l hl=>ah l (List.mem_of_mem_take hl)
  have e7:=ZX c (k+1)
  have fG:(c.take (k+1)).length<=c.length:=by rw[List.length_take];omega
  rw[bl,List.length_append,List.length_append]at hle
  have N2:ow (k+1)= .ob 0 0:=by rw[ow,if_neg (by omega)]
  by_cases nW:k=0
  ·subst nW
   rw[if_pos rfl,List.nil_append]at bl
   have en:=QF sh u cS DB _ (.inl rfl) (lU sh (c.take 0)) (by simp only[List.take_zero,lU,List.length_nil]at hle⊢;omega)
   rw[show ow 0= .im (.v (.pointer none)) from rfl]
   refine gO ?_
   refine cT ?_
   refine gE @aH ?_
   refine⟨by rw[bp];omega,?_⟩
   refine gO ?_
   refine AQ.fix 2 rfl rfl ?_
   refine sI ?_
   refine AQ.bW [(0,0),(1,1)] (by kernel_rfl) rfl rfl rfl rfl rfl rfl (by exact⟨rfl,rfl,trivial⟩) rfl (en) ?_
   rintro r H1 ⟨rfl,rfl⟩;refine⟨rfl,?_⟩;refine sH ?_;refine AQ.rename 4 1 rfl rfl rfl ?_;refine sI ?_;refine AQ.order [0,1] rfl ?_;refine sI ?_
   refine gO ?_
   refine AE.round 1 (by omega) (by omega) (sU) ?_
   rw[bl,N2];rfl
  ·rw[if_neg nW]at bl hle
   rw[show ow k= .ob 0 0 by rw[ow,if_neg nW]]
   have Ot:=wc (.inr rfl) sh (lU sh (c.take k)) [32,124,32] (by simp at hle⊢;omega)
   have en:=QF sh u cS DB _ (.inr rfl) (lU sh (c.take k)++[32,124,32]) (by simp at hle⊢;omega)
   refine gO ?_
   refine cT ?_
   refine gE @aH ?_
   refine⟨by rw[bp];omega,?_⟩
   refine gO ?_
   refine AP.fix 2 rfl rfl ?_
   refine sI ?_
   refine cT ?_
   refine gO ?_
   refine AQ.bW [(0,0),(1,1)] (by kernel_rfl) rfl rfl rfl rfl rfl rfl (by exact⟨rfl,rfl,trivial⟩) rfl (Ot) ?_
   rintro r H1 ⟨rfl,rfl⟩;refine⟨rfl,?_⟩;refine sH ?_;refine AQ.rename 4 1 rfl rfl rfl ?_;refine sI ?_;refine AQ.order [0,1] rfl ?_;refine sI ?_
   refine gO ?_
   refine AQ.bW [(0,0),(1,1)] (by kernel_rfl) rfl rfl rfl rfl rfl rfl (by exact⟨rfl,rfl,trivial⟩) rfl (en) ?_
   rintro r H1 ⟨rfl,rfl⟩;refine⟨rfl,?_⟩;refine sH ?_;refine AQ.rename 4 1 rfl rfl rfl ?_;refine sI ?_;refine AQ.order [0,1] rfl ?_;refine sI ?_
   refine gE @hw ?_
   refine AE.round (k+1) (by omega) (by omega) (sU) ?_
   rw[bl,N2];simp only[List.append_assoc];rfl
def Bz (c:List Lt):List UInt8:=if ca 4 9 2 3 c≠0 then[]else if 40000<(qH false c).length then[]else qH false c
def By (c:List Lt):Int:=if ca 4 9 2 3 c≠0 then ca 4 9 2 3 c else if 40000<(qH false c).length then 15 else 0
theorem abG (c:List Lt) (hs:je c):aS Tryz.prog 17 [cq c] (.aI [Sv (Bz c),Iv (By c)]):=by
 have hS:Bz c=_:=Bz.eq_def c
 have hE:By c=_:=By.eq_def c
 refine ai.walk [0,2,3,4,5,9,15] [] Tryz.func17 rfl Tryz.ntmps17 (by kernel_rfl) (by rfl) rfl fun W own I0 ao lay=>?_
 refine gO ?_
 refine AQ.fn (by kernel_rfl) rfl rfl rfl (y9 c hs) rfl ?_
 refine sI ?_
 refine gO ?_
 refine AP.cond rfl rfl (fun h=>?_) (fun h=>?_)
 ·rw[if_pos (by simpa using h)]at hS hE
  refine gO ?_
  exact AE.aG rfl ⟨rfl,rfl,trivial⟩ rfl ⟨rfl,by rw[hS,hE];rfl⟩
 have h:ca 4 9 2 3 c=0:=by simpa using h
 rw[if_neg (by simpa using h)]at hS hE
 obtain⟨U,h2,h3,h4⟩:=FH h
 refine gO ?_
 refine AQ.fn (by kernel_rfl) rfl rfl rfl (S1 c false hs (by omega) (by omega) h4) rfl ?_
 refine sI ?_
 refine gO ?_
 refine AP.cond rfl rfl (fun h5=>?_) (fun h5=>?_)
 ·rw[if_pos (by simp at h5;omega)]at hS hE
  refine gO ?_
  exact AE.aG rfl ⟨rfl,rfl,trivial⟩ rfl ⟨rfl,by rw[hS,hE];rfl⟩
 ·rw[if_neg (by simp at h5;omega)]at hS hE
  refine gO ?_
  exact AE.aG rfl ⟨rfl,rfl,trivial⟩ rfl ⟨rfl,by rw[hS,hE];rfl⟩
abbrev Rs (l:Lt):List IV:=[Bi l.ng,Si l.pd,.sl 3 (aA l.xs),Si (eo l)]
abbrev Ru (l:Lt):AV:= .agg [Bv l.ng,Sv l.pd,.im (.sl 3 (aA l.xs)),Sv (eo l)]
def gZ (c:List Lt):List (List IV):=c.map Rs
theorem sa (l:List Lt):(gZ l).length=l.length:=by rw[gZ,List.length_map]
theorem EN {l:List Lt} {k:Nat} {x:Lt} (h:l[k]?=some x):(gZ l).getD k []=[Bi x.ng,Si x.pd,.sl 3 (aA x.xs),Si (eo x)]:=by
 rw[List.getD_eq_getElem?_getD,gZ,List.getElem?_map,h];rfl
theorem Rr (l:List Lt) (k:Nat) (x:Lt):(gZ l).set k (Rs x)=gZ (l.set k x):=by simp only[gZ,List.map_set]
theorem Uz (a b:Lt):aS Tryz.prog 91 [Ru a,Ru b] (Iv (nJ (eo a) (eo b))):=by
 refine ai.walk [0,1,2,3,4] [] Tryz.func91 rfl Tryz.ntmps91 (by kernel_rfl) (by rfl) rfl fun W own I0 ao lay=>?_
 refine gO ?_
 refine AQ.fn (by kernel_rfl) rfl rfl rfl (Lm (eo a) (eo b)) rfl ?_
 refine sI ?_
 refine gO ?_
 exact AE.aG rfl ⟨rfl,trivial⟩ rfl ⟨rfl,rfl⟩
abbrev gH (l:List Lt):aa:=[(0,.vec 145 4 (gZ l))]
theorem OS (pre mid post:List Lt) (hn:(pre++mid++post).length<=1000000):
  ai Tryz.prog 205 [.os 0 4 0 (pre++mid++post).length,Iv pre.length,Iv (pre.length+mid.length),.fn 91 [] []] (gH (pre++mid++post)) (fun r H'=>r= .aI []/\H'=gH (pre++dI [] mid++post)):=by
 obtain⟨n,nZ⟩:∃n,(pre++mid++post).length=n:=⟨_,rfl⟩
 have hlen:pre.length+mid.length+post.length=n:=by rw[<-nZ];simp only[List.length_append]
 rw[nZ]at hn⊢
 have HS:=wr (x:=(pre.length:Int)+1) (by omega)
 refine ai.walk [0,1,2,3,8,9,14,34] [] Tryz.func205 rfl Tryz.ntmps205 (by kernel_rfl) (by rfl) rfl fun W own I0 ao lay=>?_
 refine gE @HS ?_
 refine AP.loop rfl (α:=Nat) (fun k=>[(0,.os 0 4 0 n),(1,Iv pre.length),(2,Iv (pre.length+mid.length)),(3,.fn 91 [] []),(8,Iv (pre.length+k))]) (fun k=>gH (pre++dI [] (mid.take k)++(mid.drop k++post))) (fun k=>1<=k/\k<=mid.length+1) (fun k=>mid.length+1-k) 1 (by omega) (sU) (by
  cases mid with
  |nil=>simp[dI]
  |cons x r=>simp[dI,mr]) fun k ⟨qb,hk⟩=>?_
 by_cases ag:k<mid.length
 ·have hw:=wr (x:=(pre.length:Int)+k+1) (by omega)
  obtain⟨x,hx⟩:∃x,mid[k]?=some x:=⟨_,List.getElem?_eq_getElem ag⟩
  have hP:(dI [] (mid.take k)).length=k:=by rw[(vY _ _).length_eq];simp;omega
  have CR:(dI [] (mid.take k)).Pairwise ni:=RF _ _ List.Pairwise.nil
  have bl:dI [] (mid.take (k+1))=mr x (dI [] (mid.take k)):=by rw[dE hx,RE]
  have du:=drop_cons hx
  refine gO ?_
  refine cT ?_
  refine gO ?_
  refine AP.loop rfl (α:=List Lt×List Lt) (fun s=>[(0,.os 0 4 0 n),(1,Iv pre.length),(2,Iv (pre.length+mid.length)),(3,.fn 91 [] []),(8,Iv (pre.length+k)),(9,Iv (pre.length+s.1.length))]) (fun s=>gH (pre++s.1++x::(s.2++(mid.drop (k+1)++post)))) (fun s=>s.1++s.2=dI [] (mid.take k)/\∀y∈s.2,eo x<eo y) (fun s=>s.1.length) (dI [] (mid.take k),[]) ⟨List.append_nil _,fun y hy=>by cases hy⟩ (by rw[hP];exact(sU)) (by rw[du];rfl) fun⟨o1,o2⟩ ⟨ho,mj⟩=>?_
  simp only at ho mj⊢
  rcases List.eq_nil_or_concat o1 with rfl|⟨W,y,rfl⟩
  ·have e9:(pre.length:Int)+(([]:List Lt).length:Nat)=(pre.length:Int):=by simp
   have hd:decide ((pre.length:Int)<(pre.length:Int))=false:=decide_eq_false (by omega)
   rw[e9]
   refine gO ?_
   refine AP.bQ 17 (Tree.node [] [0,1,2,3,4,5,6,7,8,9,10,11,12,13] [14] [Tree.node [] [15,16] [] []]) (by kernel_rfl) rfl (by kernel_rfl) (by kernel_rfl) ?_
   refine bO ?_
   refine sE @hd ?_
   refine⟨fun h=>h.elim,fun h=>h.elim,fun h=>h.elim,fun h=>h.elim,?_⟩
   refine AQ.skip (by kernel_rfl) rfl ?_
   refine sI ?_
   refine AQ.nx rfl ?_
   refine sI ?_
   refine AQ.done ?_
   refine gE @hw ?_
   rw[List.nil_append]at ho
   refine AE.round (k+1) ⟨by omega,by omega⟩ (by omega) (sU) ?_
   have dP:mr x (dI [] (mid.take k))=x::o2:=by
    rw[<-ho]
    exact Ie [] o2 x (by rw[List.nil_append,ho];exact CR) mj (fun y hy=>by cases hy)
   rw[bl,dP];simp
  ·rw[List.concat_eq_append]at ho⊢
   obtain⟨q,hq⟩:∃q,pre.length+W.length=q:=⟨_,rfl⟩
   have e9:(pre.length:Int)+((W++[y]).length:Nat)=((q+1:Nat):Int):=by simp;omega
   obtain⟨T,hT⟩:∃T,o2++(mid.drop (k+1)++post)=T:=⟨_,rfl⟩
   obtain⟨Z,hZ⟩:∃Z,pre++W=Z:=⟨_,rfl⟩
   have zH:Z.length=q:=by rw[<-hZ,List.length_append];exact hq
   have eR:pre++(W++[y])++x::(o2++(mid.drop (k+1)++post))=Z++y::x::T:=by rw[hT,<-hZ];simp
   have oY:(gZ (Z++y::x::T)).getD q []=[Bi y.ng,Si y.pd,.sl 3 (aA y.xs),Si (eo y)]:=EN (by rw[List.getElem?_append_right (by omega),zH,Nat.sub_self];rfl)
   have zW:(gZ (Z++y::x::T)).getD (q+1) []=[Bi x.ng,Si x.pd,.sl 3 (aA x.xs),Si (eo x)]:=EN (by rw[List.getElem?_append_right (by omega),zH,Nat.add_sub_cancel_left];rfl)
   have eU:W.length+1+o2.length=k:=by
    have:=congrArg List.length ho
    rw[hP]at this;simp only[List.length_append,List.length_singleton]at this;exact this
   have HB:q+1<n:=by omega
   have zD:(gZ (Z++y::x::T)).length=n:=by
    rw[sa,<-hT];simp only[List.length_append,List.length_cons,List.length_drop];omega
   have hd:decide ((pre.length:Int)<((q+1:Nat):Int))=true:=decide_eq_true (by omega)
   have bT:IntKind.i64.wrap (((q+1:Nat):Int)-1)=(q:Int):=by rw[wr (by omega)];omega
   rw[e9,eR]
   refine gE (an @hd @bT) ?_
   refine AP.bQ 17 (Tree.node [] [0,1,2,3,4,5,6,7,8,9,10,11,12,13] [14] [Tree.node [] [15,16] [] []]) (by kernel_rfl) rfl (by kernel_rfl) (by kernel_rfl) ?_
   refine bO ?_
   refine sE (an @hd (an @bT (an @oY (an @zW (an @Int.toNat_natCast @zD))))) ?_
   refine⟨⟨by omega,by omega⟩,HB,⟨by omega,by omega⟩,by omega,?_⟩
   refine AQ.opt 22 rfl ?_
   refine AQ.nQ (by simp only[go_sem]) ?_
   refine AQ.y6 [] (by kernel_rfl) rfl rfl rfl rfl rfl rfl (fun k=>by exact trivial) (fun k=>rfl) (fun k=>rfl) (Uz x y) ?_
   refine sI ?_
   refine AQ.nx rfl ?_
   refine sI ?_
   refine AQ.done ?_
   refine gO ?_
   refine AP.cond rfl rfl (fun h5=>?_) (fun h5=>?_)
   ·have h5:eo x<eo y:=by
     have:nJ (eo x) (eo y)<0:=by simpa using h5
     rw[nJ]at this
     by_cases h6:eo x<eo y
     ·exact h6
     ·rw[if_neg h6]at this;split at this<;>omega
    refine gE @bT ?_
    refine AP.bQ 18 (Tree.node [] [0,1,2,3,4,5,6,7,8,9,10,11,12,13,14] [15] [Tree.node [2,3,4] [16] [17] [Tree.node [] [] [] []]]) (by kernel_rfl) rfl (by kernel_rfl) (by kernel_rfl) ?_
    refine bO ?_
    refine sE (an @bT (an @oY (an @zW (an @Int.toNat_natCast @zD)))) ?_
    refine⟨⟨by omega,by omega⟩,by omega,⟨by omega,by omega⟩,HB,⟨by omega,by omega⟩,?_⟩
    refine AQ.go (by kernel_rfl) ?_
    refine sE @zD ?_
    have jN:(gZ (Z++y::x::T)).set (q+1) (Bi y.ng::Si y.pd::IV.sl 3 (aA y.xs)::Si (eo y)::List.drop 4 ((gZ (Z++y::x::T)).getD (q+1) []))=gZ (Z++y::y::T):=by
     rw[zW]
     refine(Rr _ _ y).trans ?_
     rw[List.set_append_right _ _ (by omega),<-zH,Nat.add_sub_cancel_left];rfl
    have gW:(gZ (Z++y::y::T)).set q (Bi x.ng::Si x.pd::IV.sl 3 (aA x.xs)::Si (eo x)::List.drop 4 ((gZ (Z++y::y::T)).getD q []))=gZ (Z++x::y::T):=by
     have W1:(gZ (Z++y::y::T)).getD q []=[Bi y.ng,Si y.pd,.sl 3 (aA y.xs),Si (eo y)]:=EN (by rw[List.getElem?_append_right (by omega),zH,Nat.sub_self];rfl)
     rw[W1]
     refine(Rr _ _ x).trans ?_
     rw[List.set_append_right _ _ (by omega),<-zH,Nat.sub_self];rfl
    have M9:(gZ (Z++y::y::T)).length=n:=by rw[sa]at zD⊢;rw[<-zD];simp
    rw[jN]
    refine⟨HB,?_⟩
    refine AQ.nx rfl ?_
    refine sE (an @bT (an @Int.toNat_natCast @M9)) ?_
    refine⟨⟨by omega,by omega⟩,?_⟩
    refine AQ.go (by kernel_rfl) ?_
    refine sE @M9 ?_
    rw[gW]
    refine⟨by omega,?_⟩
    refine AQ.nx rfl ?_
    refine sI ?_
    refine AQ.done ?_
    refine gE @bT ?_
    refine AE.round (W,y::o2) ⟨by rw[<-ho];simp,fun z hz=>?_⟩ (by simp) (by rw[<-hq];exact(sU)) (by rw[<-hZ,<-hT];simp)
    rcases List.mem_cons.1 hz with rfl|hz
    ·exact h5
    ·exact mj z hz
   ·have h5:¬eo x<eo y:=fun h6=>by
     rw[nJ,if_pos h6]at h5;simp at h5
    refine gE @hw ?_
    refine AE.round (k+1) ⟨by omega,by omega⟩ (by omega) (sU) ?_
    have dP:mr x (dI [] (mid.take k))=W++[y]++x::o2:=by
     have:=Ie (W++[y]) o2 x (by rw[ho];exact CR) mj (fun z hz=>by rw[List.getLast?_concat]at hz;cases hz;exact h5)
     rw[ho]at this;exact this
    rw[bl,dP,<-hZ,<-hT];simp
 ·have aC:mid.take k=mid:=List.take_of_length_le (by omega)
  have W_:mid.drop k=[]:=List.drop_eq_nil_of_le (by omega)
  rw[aC,W_,List.nil_append]
  refine gO ?_
  refine cF ?_
  refine gO ?_
  exact AE.kf rfl trivial ⟨rfl,rfl⟩
theorem abx (l:List Lt) (h:l.length<=20):ai Tryz.prog 164 [.os 0 4 0 l.length,Iv l.length,.fn 91 [] []] (gH l) (fun r H'=>r= .aI []/\H'=gH (dI [] l)):=by
 have h0:=OS [] l [] (by simp;omega)
 simp only[List.nil_append,List.append_nil,List.length_nil]at h0
 rw[show((0:Nat):Int)+(l.length:Int)=l.length by omega]at h0
 have U:=OS (dI [] l) [] [] (by simp[(vY _ _).length_eq];omega)
 simp only[List.append_nil,List.length_nil]at U
 have gg:(dI [] l).length=l.length:=by rw[(vY _ _).length_eq];rfl
 rw[gg,show((l.length:Nat):Int)+((0:Nat):Int)=l.length by omega,show dI [] []=[] from rfl,List.append_nil]at U
 refine ai.walk [0,1,2,6,7,8,9,13,30,35,54] [] Tryz.func164 rfl Tryz.ntmps164 (by kernel_rfl) (by rfl) rfl fun W own I0 ao lay=>?_
 refine gO ?_
 refine AP.loop rfl (α:=Bool) (fun b=>[(0,.os 0 4 0 l.length),(1,Iv l.length),(2,.fn 91 [] []),(6,Iv 20),(7,Iv (if b then 20 else 0)),(8,Iv (if b then 40 else 20))]) (fun b=>gH (if b then dI [] l else l)) (fun b=>b=true->l.length=20) (fun b=>if b then 0 else 1) false (by simp) (by exact(sU)) rfl fun b hb=>?_
 cases b with
 |false=>
  simp only[Bool.false_eq_true,if_false]
  by_cases zu:l.length=20
  ·rw[zu]at h0
   have ML:ai Tryz.prog 205 [.os 0 4 0 20,Iv 0,Iv 20,.fn 91 [] []] (gH l) (fun r H'=>r= .aI []/\H'=gH (dI [] l)):=h0
   rw[zu]
   refine gO ?_
   refine AQ.bW [(0,0)] (by kernel_rfl) rfl rfl rfl rfl rfl rfl (by exact⟨rfl,trivial⟩) rfl (ML) ?_;rintro r H1 ⟨rfl,rfl⟩;refine⟨rfl,?_⟩;refine sH ?_
   have Yr:IntKind.i64.wrap (20+20)=40:=by rw[wr (by omega)];rfl
   refine gE @Yr ?_
   exact AE.round true (by simp) (by simp) (sU) rfl
  ·refine gO ?_
   refine cF ?_
   refine gO ?_
   refine AQ.bW [(0,0)] (by kernel_rfl) rfl rfl rfl rfl rfl rfl (by exact⟨rfl,trivial⟩) rfl (h0) ?_;rintro r H1 ⟨rfl,rfl⟩;refine⟨rfl,?_⟩;refine sH ?_
   refine gO ?_
   refine AP.loop rfl (α:=Unit) (fun _=>[(1,Iv l.length),(6,Iv 20)]) (fun _=>gH (dI [] l)) (fun _=>True) (fun _=>0) () trivial (sU) rfl fun _ _=>?_
   refine gO ?_
   refine cF ?_
   refine gO ?_
   exact AE.kf rfl trivial ⟨rfl,rfl⟩
 |true=>
  simp only[if_true]
  have zu:=hb rfl
  rw[zu]at U
  have VH:ai Tryz.prog 205 [.os 0 4 0 20,Iv 20,Iv 20,.fn 91 [] []] (gH (dI [] l)) (fun r H'=>r= .aI []/\H'=gH (dI [] l)):=U
  rw[zu]
  refine gO ?_
  refine AQ.bW [(0,0)] (by kernel_rfl) rfl rfl rfl rfl rfl rfl (by exact⟨rfl,trivial⟩) rfl (VH) ?_;rintro r H1 ⟨rfl,rfl⟩;refine⟨rfl,?_⟩;refine sH ?_
  refine gO ?_
  refine AP.loop rfl (α:=Unit) (fun _=>[(1,Iv 20),(6,Iv 20)]) (fun _=>gH (dI [] l)) (fun _=>True) (fun _=>0) () trivial (sU) rfl fun _ _=>?_
  refine gO ?_
  exact AE.kf rfl trivial ⟨rfl,rfl⟩
theorem abo (l:List Lt) (h:l.length<=20):ai Tryz.prog 90 [.os 0 4 0 l.length,.fn 91 [] []] (gH l) (fun r H'=>r= .aI []/\H'=gH (dI [] l)):=by
 refine ai.walk [0,1] [] Tryz.func90 rfl Tryz.ntmps90 (by kernel_rfl) (by rfl) rfl fun W own I0 ao lay=>?_
 refine gO ?_
 refine AQ.bW [(0,0)] (by kernel_rfl) rfl rfl rfl rfl rfl rfl (by exact⟨rfl,trivial⟩) rfl (abx l h) ?_;rintro r H1 ⟨rfl,rfl⟩;refine⟨rfl,?_⟩;refine sH ?_
 refine gO ?_
 exact AE.kf rfl trivial ⟨rfl,rfl⟩
def fW (k:Nat):List Int->List (Int×Int)
 |[]=>[]
 |v::o=>(v,(k:Int))::fW (k+1) o
theorem ZA (o:List Int) (k:Nat):(fW k o).length=o.length:=by
 induction o generalizing k with
 |nil=>rfl
 |cons v o ih=>rw[fW,List.length_cons,List.length_cons,ih]
theorem Zz (o:List Int) (k:Nat):(fW k o).map (·.1)=o:=by
 induction o generalizing k with
 |nil=>rfl
 |cons v o ih=>rw[fW,List.map_cons,ih]
theorem ZB (o:List Int) (v:Int) (k:Nat):fW k (o++[v])=fW k o++[(v,((k+o.length:Nat):Int))]:=by
 induction o generalizing k with
 |nil=>simp[fW]
 |cons w o ih=>
  rw[List.cons_append,fW,fW,ih,List.cons_append]
  simp only[List.length_cons]
  rw[show k+1+o.length=k+(o.length+1) by omega]
theorem Pz (o:List Int) (v:Int) (k:Nat):(v∈o->bo (fW k o) v=some ((k+o.idxOf v:Nat):Int))/\(v∉o->eL (fW k o) v=none):=by
 induction o generalizing k with
 |nil=>exact⟨fun h=>(by cases h),fun _=>rfl⟩
 |cons w o ih=>
  rw[fW,bo,eL,List.idxOf_cons]
  by_cases h:w=v
  ·subst h
   rw[if_pos rfl,if_pos rfl]
   exact⟨fun _=>by simp,fun h=>absurd (List.mem_cons_self ..) h⟩
  ·rw[if_neg h,if_neg h,show(w==v)=false by simpa using h]
   obtain⟨U,h2⟩:=ih (k+1)
   refine⟨fun hv=>?_,fun hv=>?_⟩
   ·rcases List.mem_cons.1 hv with e|hv
    ·exact absurd e.symm h
    ·rw[U hv,cond_false];congr 1;omega
   ·rw[h2 (fun h3=>hv (List.mem_cons_of_mem _ h3))];rfl
def e_ (F:List Int) (v:Int):Tm:=bt (F.idxOf v:Nat)
abbrev rV (o:List Int):aa:=[(1,.var 149 [.mp 0]),(0,.var (.map (kI (fW 0 o))) (vN (fW 0 o)))]
theorem OI {o r:List Int} {v:Int} (h:v∈o):(o++r).idxOf v=o.idxOf v:=by rw[List.idxOf_append,if_pos h]
theorem aaa (o F r:List Int) (v:Int) (hF:F=dm o [v]++r) (bX:o.Nodup) (hlen:o.length<=1000000):ai Tryz.prog 94 [Iv v,.ob 1 0] (rV o) (fun r H'=>r=aP (e_ F v)/\H'=rV (dm o [v])):=by
 have hm:fp (fW 0 o):=by rw[fp,Zz];exact bX
 have xf:dm o [v]=if v∈o then o else o++[v]:=rfl
 refine ai.walk [0,1,3,4,5,13] [3] Tryz.func94 rfl Tryz.ntmps94 (by kernel_rfl) (by rfl) rfl fun W own I0 ao lay=>?_
 refine gO ?_
 by_cases hv:v∈o
 ·rw[if_pos hv]at xf
  have hl:=(Pz o v 0).1 hv
  rw[Nat.zero_add]at hl
  obtain⟨j,hj,hg⟩:=DY hl
  have he:e_ F v=bt (o.idxOf v:Nat):=by rw[e_,hF,xf,OI hv]
  refine AQ.vF j (by kernel_rfl) rfl rfl rfl pN u3 (jQ _) rfl (List.mem_of_getElem? (show(kI (fW 0 o))[j]?=some (.int .i64 v) from tn hg)) (fun i hi=>tq hm hg hi) (E3 hg) ?_
  refine sI ?_
  refine gO ?_
  refine AQ.fn (by kernel_rfl) rfl rfl rfl (E5 (o.idxOf v:Nat)) rfl ?_
  refine sI ?_
  refine gO ?_
  exact AE.a6 [2] rfl ⟨⟨rfl,Nat.le_of_ble_eq_true (by kernel_rfl)⟩,trivial⟩ (by simp only[go_sem,Nat.reduceAdd,Nat.reduceLeDiff,Nat.reduceSub,Int.reduceToNat,reduceCtorEq,cw,noMen,AV.mens,AV.men,iB,Bool.or_false];first|done|rfl) ⟨by rw[he];rfl,by rw[xf];rfl⟩
 ·rw[if_neg hv]at xf
  have hl:=(Pz o v 0).2 hv
  have he:e_ F v=bt (o.length:Nat):=by
   rw[e_,hF,xf,OI (by simp),List.idxOf_append,if_neg hv];simp
  refine AQ.D5 (by kernel_rfl) rfl rfl rfl pN u3 (jQ _) rfl (qt hl) rfl rfl ?_
  refine sI ?_
  refine gO ?_
  refine AQ.ZN (by kernel_rfl) rfl rfl pN ?_
  have u6:(kI (fW 0 o)).length=o.length:=by rw[AT,ZA]
  rw[u6]
  refine sI ?_
  refine gO ?_
  refine AQ.D_ (by kernel_rfl) rfl rfl rfl rfl pN u3 (jQ _) rfl (qt hl) ?_
  refine sI ?_
  refine gO ?_
  have e0:fW 0 (o++[v])=fW 0 o++[(v,((o.length:Nat):Int))]:=by rw[ZB,Nat.zero_add]
  have e1:vN (fW 0 o)++[Iv (o.length:Nat)]=vN (fW 0 (o++[v])):=by rw[e0];simp only[vN,List.map_append];rfl
  have e2:kI (fW 0 o)++[.int .i64 v]=kI (fW 0 (o++[v])):=by rw[e0];simp only[kI,List.map_append];rfl
  rw[e1,e2]
  refine AQ.fn (by kernel_rfl) rfl rfl rfl (E5 (o.length:Nat)) rfl ?_
  refine sI ?_
  refine gO ?_
  exact AE.a6 [2] rfl ⟨⟨rfl,Nat.le_of_ble_eq_true (by kernel_rfl)⟩,trivial⟩ (by simp only[go_sem,Nat.reduceAdd,Nat.reduceLeDiff,Nat.reduceSub,Int.reduceToNat,reduceCtorEq,cw,noMen,AV.mens,AV.men,iB,Bool.or_false];first|done|rfl) ⟨by rw[he];rfl,by rw[xf];rfl⟩
theorem rW (o:List Int):∀(l m:List Int),dm o (l++m)=dm (dm o l) m
 |[],m=>rfl
 |v::l,m=>by rw[List.cons_append,dm,dm,rW _ l m]
theorem SL {l:List Tm} {k:Nat} {u:Tm} (h:l[k]?=some u):aW (l.take (k+1))=aW (l.take k)++bJ u:=by
 rw[dE h]
 have:∀a:List Tm,aW (a++[u])=aW a++bJ u:=fun a=>by
  induction a with
  |nil=>rw[List.nil_append,aW,aW,aW];simp
  |cons b a ih=>rw[List.cons_append,aW,aW,ih,List.append_assoc]
 exact this _
theorem SJ {l:List Tm} {k:Nat} {u:Tm} (h:l[k]?=some u):aW l=aW (l.take k)++(bJ u++aW (l.drop (k+1))):=by
 have zJ:∀a b:List Tm,aW (a++b)=aW a++aW b:=fun a b=>by
  induction a with
  |nil=>rw[List.nil_append,aW];rfl
  |cons c a ih=>rw[List.cons_append,aW,aW,ih,List.append_assoc]
 conv=>lhs;rw[<-List.take_append_drop k l,drop_cons h]
 rw[zJ,aW]
theorem Je:∀(l o:List Int),(dm o l).length<=o.length+l.length
 |[],o=>by rw[dm];simp
 |v::l,o=>by
  rw[dm]
  have:=Je l (if v∈o then o else o++[v])
  by_cases h:v∈o
  ·rw[if_pos h]at this⊢;simp only[List.length_cons];omega
  ·rw[if_neg h]at this⊢;simp only[List.length_cons,List.length_append,List.length_nil]at this⊢;omega
theorem Qf {o F r a b c:List Int} (h:F=dm o (a++(b++c))++r):∃r',F=dm (dm o a) b++r':=by
 rw[rW,rW]at h
 obtain⟨q,hq⟩:=Qe c (dm (dm o a) b)
 exact⟨q++r,by rw[h,hq,List.append_assoc]⟩
theorem Le (F:List Int) (x:Tm) (o r:List Int) (hF:F=dm o (bJ x)++r) (bX:o.Nodup) (hlen:o.length+(bJ x).length<=1000000) (hs:aE x) (ah:bS x=true):ai Tryz.prog 140 [aP x,.fn 94 [] [.ob 1 0]] (rV o) (fun r H'=>r=aP (ak (e_ F) x)/\H'=rV (dm o (bJ x))):=by
 have dD:=dN.1 hs
 have hc:=ff (e_ F) x
 have dH:=BH x
 have Dq:=mA x
 rw[ah]at Dq
 refine ai.walk [0,1,2,4,5,7,10,19,20,21,22] [4,5,7] Tryz.func140 rfl Tryz.ntmps140 (by kernel_rfl) (by rfl) rfl fun W own I0 ao lay=>?_
 refine gO ?_
 refine AP.cond rfl rfl (fun h=>?_) (fun h=>?_)
 ·have h:x.nm=[]:=by simpa using h
  rw[if_pos h]at hc Dq dH
  have kG:x.xs=[]:=by
   have:=Dq.symm
   rw[Bool.and_eq_true,List.isEmpty_iff]at this;exact this.1
  rw[kG,aW,List.append_nil]at dH
  rw[dH]at hF hlen⊢
  have Xt:=aaa o F r x.ix hF bX (by omega)
  refine gO ?_
  refine AQ.bW [(1,1),(0,0)] (by kernel_rfl) rfl rfl rfl rfl rfl rfl (by refine⟨?_,?_,trivial⟩<;>(simp only[dY,AV.cU,AV.rn,Bj];rfl)) rfl Xt fun r' H' ⟨e1,e2⟩=>?_
  subst e1;subst e2
  refine sH ?_
  refine gO ?_
  exact AE.a6 [2] rfl ⟨⟨rfl,Nat.le_of_ble_eq_true (by kernel_rfl)⟩,trivial⟩ (by simp only[go_sem,Nat.reduceAdd,Nat.reduceLeDiff,Nat.reduceSub,Int.reduceToNat,reduceCtorEq,cw,noMen,AV.mens,AV.men,iB,Bool.or_false];first|done|rfl) ⟨by rw[hc];rfl,rfl⟩
 have h:¬x.nm=[]:=by simpa using h
 rw[if_neg h,List.nil_append]at dH
 rw[if_neg h]at hc
 rw[dH]at hF hlen⊢
 have Xw:=Ql ah h
 refine gE @aj ?_
 rw[fy]at hc
 refine AP.jv 3 2 71 3 rfl rfl ?_
 refine sI ?_
 refine AP.loop rfl (α:=Nat) (fun k=>[(1,.fn 94 [] [.ob 1 0]),(4,.ob 2 0),(5,.ob 3 0),(19,.im (.sl 3 (aA x.xs))),(20,Iv x.xs.length),(21,Iv k)]) (fun k=>(4,.vec 71 3 (aA ((x.xs.take k).map (ak (e_ F)))))::(3,.var 71 [Sv x.nm,Iv 0,.os 4 3 0 k])::(2,.var 71 [Sv [],Iv 0,ew])::rV (dm o (aW (x.xs.take k)))) (fun k=>k<=x.xs.length) (fun k=>x.xs.length-k) 0 (by omega) (sU) (by rw[List.take_zero,aW];rfl) fun k hk=>?_
 rcases Nat.eq_or_lt_of_le hk with aC|ag
 ·subst aC
  rw[List.take_length]
  refine gE @aj ?_
  refine cF ?_
  refine gO ?_
  refine AE.freeze 4 (el:=71) (es:=3) (rows:=aA (x.xs.map (ak (e_ F)))) rfl (by simp only[go_sem,Nat.reduceAdd,Nat.reduceLeDiff,Nat.reduceSub,Int.reduceToNat,reduceCtorEq,aj,List.length_map];first|done|trivial|omega|(simp;done)|(simp;omega)) (by simp only[go_sem,Nat.reduceAdd,Nat.reduceLeDiff,Nat.reduceSub,Int.reduceToNat,reduceCtorEq,aj,List.length_map];first|done|trivial|omega|(simp;done)|(simp;omega)) ?_;simp only[go_sem,Nat.reduceAdd,Nat.reduceLeDiff,Nat.reduceSub,Int.reduceToNat,reduceCtorEq,aj,List.length_map]
  rw[List.take_of_length_le (by rw[aj,List.length_map];omega)]
  exact AE.a6 [3,2] rfl ⟨⟨rfl,Nat.le_of_ble_eq_true (by kernel_rfl)⟩,trivial⟩ (by simp only[go_sem,Nat.reduceAdd,Nat.reduceLeDiff,Nat.reduceSub,Int.reduceToNat,reduceCtorEq,cw,noMen,AV.mens,AV.men,iB,Bool.or_false];first|done|rfl) ⟨by rw[hc];rfl,rfl⟩
 ·obtain⟨u,hu,aH⟩:=dh x.xs k ag
  have hw:=wr (x:=(k:Int)+1) (by omega)
  have bf:=nu (l:=x.xs) (k:=k) (by omega)
  have HR:=SL hu
  have Az:=SJ hu
  obtain⟨r',rj⟩:=Qf (Az▸hF)
  have qe:(aW x.xs).length=(aW (x.xs.take k)).length+((bJ u).length+(aW (x.xs.drop (k+1))).length):=by rw[Az,List.length_append,List.length_append]
  have gV:=Je (aW (x.xs.take k)) o
  have ih:=Le F u (dm o (aW (x.xs.take k))) r' rj (Eg _ _ bX) (by omega) (dc dD.2.2 hu) (tH Xw u (List.mem_of_getElem? hu))
  rw[<-rW,<-HR]at ih
  have bl:=A3 (ak (e_ F)) hu
  obtain⟨w,vr⟩:∃w,ak (e_ F) u=w:=⟨_,rfl⟩
  rw[vr]at ih bl
  clear Az rj qe gV hF hc dH Dq
  refine gE @aj ?_
  refine cT ?_
  refine gE @aH ?_
  refine⟨by rw[aj];omega,?_⟩
  refine gO ?_
  refine AP.bQ 9 (Tree.node [] [0,1,2,3] [4] [Tree.node [0,1] [] [5] [Tree.node [0,1] [] [6] [Tree.node [] [7] [8] [Tree.node [] [] [] []]]]]) (by kernel_rfl) rfl (by kernel_rfl) (by kernel_rfl) ?_
  refine bO ?_
  refine sI ?_
  refine AQ.bW [(1,1),(0,0)] (by kernel_rfl) rfl rfl rfl rfl rfl rfl (by refine⟨?_,?_,trivial⟩<;>(simp only[dY,AV.cU,AV.rn,Bj];rfl)) rfl ih fun r' H' ⟨e1,e2⟩=>?_
  subst e1;subst e2
  refine sH ?_
  refine AQ.nx rfl ?_
  refine sI ?_
  refine AQ.go (by kernel_rfl) ?_
  refine sI ?_
  refine AQ.nx rfl ?_
  refine sI ?_
  refine AQ.kill 4 ?_
  refine sI ?_
  refine AQ.append (hnb:=rfl) (rows:=aA ((x.xs.take k).map (ak (e_ F)))) (es:=2) (by kernel_rfl) rfl rfl rfl (by first|(simp only[go_sem,noMen,AV.mens,AV.men,Bool.or_false];done)|(simp only[go_sem,noMen,AV.mens,AV.men,Bool.or_false];rfl)) Tryz.yB Tryz.yA (by show Option.map _ (ax Tryz.prog 71)=_;rw[Tryz.yN];rfl) Tryz.wo (by first|rfl|(simp only[aj,List.length_map,bf,List.length_cons,List.length_nil];done)|(simp only[aj,List.length_map,bf,List.length_cons,List.length_nil];omega)) (by simp only[aj,List.length_map,bf,List.length_cons,List.length_nil];omega) (by simp only[aj,List.length_map,bf,List.length_cons,List.length_nil];omega) ?_
  refine sI ?_
  refine AQ.nx rfl ?_
  refine sI ?_
  refine AQ.go (by kernel_rfl) ?_
  refine sI ?_
  refine AQ.nx rfl ?_
  refine sI ?_
  refine AQ.done ?_
  refine gE @hw ?_
  refine AE.gQ [5] (by simp only[go_sem,Nat.reduceAdd,Nat.reduceLeDiff,Nat.reduceSub,Int.reduceToNat,reduceCtorEq,cw,noMen,AV.mens,AV.men,iB,Bool.or_false];first|done|rfl) ?_
  refine sI ?_
  refine AE.round (k+1) (by omega) (by omega) (sU) ?_
  rw[bl,tW,aj,List.length_map,bf];rfl
termination_by SizeOf.sizeOf x
decreasing_by exact jW hu
theorem SG:∀a b:List Lt,eH (a++b)=eH a++eH b:=fun a b=>by rw[eH,List.flatMap_append];rfl
theorem acg {c:List Lt} {k:Nat} {u:Lt} (h:c[k]?=some u):eH (c.take (k+1))=eH (c.take k)++aW u.xs:=by
 rw[dE h,SG];simp[eH]
theorem acf {c:List Lt} {k j:Nat} {u:Lt} {v:Tm} (h:c[k]?=some u) (hv:u.xs[j]?=some v):∃q,eH c=(eH (c.take k)++aW (u.xs.take j))++(bJ v++q):=by
 have U:eH c=eH (c.take k)++(aW u.xs++eH (c.drop (k+1))):=by
  conv=>lhs;rw[<-List.take_append_drop k c,drop_cons h]
  rw[SG,SH]
 rw[U,SJ hv]
 exact⟨aW (u.xs.drop (j+1))++eH (c.drop (k+1)),by simp only[List.append_assoc]⟩
theorem Uo (F:List Int) (c:List Lt) (hF:F=dm [] (eH c)) (hlen:(eH c).length<=1000000) (hs:je c) (ah:∀l∈c,kR l=true):ai Tryz.prog 93 [cq c,.fn 94 [] [.ob 1 0]] (rV []) (fun r H'=>r=cq (KE (e_ F) c)/\H'=rV F):=by
 have cG:=hs.1
 refine ai.walk [0,1,4,5,7,8,10,11,12,13,14,23,24,25,26] [7,8,10] Tryz.func93 rfl Tryz.ntmps93 (by kernel_rfl) (by rfl) rfl fun W own I0 ao lay=>?_
 refine gE @bp ?_
 refine AP.own 5 119 3 rfl ?_
 refine sI ?_
 refine AP.loop rfl (α:=Nat) (fun k=>[(1,.fn 94 [] [.ob 1 0]),(5,.os 2 3 0 k),(11,cq c),(12,Iv c.length),(13,Iv k)]) (fun k=>(2,.vec 119 3 (dv ((c.take k).map (qW (e_ F)))))::rV (dm [] (eH (c.take k)))) (fun k=>k<=c.length) (fun k=>c.length-k) 0 (by omega) (sU) rfl fun k hk=>?_
 rcases Nat.eq_or_lt_of_le hk with aC|ag
 ·subst aC
  rw[List.take_length]
  refine gE @bp ?_
  refine cF ?_
  refine gO ?_
  refine AE.freeze 2 (el:=119) (es:=3) (rows:=dv (c.map (qW (e_ F)))) rfl (by simp only[go_sem,Nat.reduceAdd,Nat.reduceLeDiff,Nat.reduceSub,Int.reduceToNat,reduceCtorEq,bp,List.length_map];first|done|trivial|omega|(simp;done)|(simp;omega)) (by simp only[go_sem,Nat.reduceAdd,Nat.reduceLeDiff,Nat.reduceSub,Int.reduceToNat,reduceCtorEq,bp,List.length_map];first|done|trivial|omega|(simp;done)|(simp;omega)) ?_;simp only[go_sem,Nat.reduceAdd,Nat.reduceLeDiff,Nat.reduceSub,Int.reduceToNat,reduceCtorEq,bp,List.length_map]
  rw[List.take_of_length_le (by rw[bp,List.length_map];omega)]
  exact AE.a6 [] rfl ⟨rfl,trivial⟩ rfl ⟨rfl,by rw[hF];rfl⟩
 ·obtain⟨u,hu,aH⟩:=oq c k ag
  have hw:=wr (x:=(k:Int)+1) (by omega)
  have bf:=nu (l:=c) (k:=k) (by omega)
  have cS:=sB hs hu
  have xp:=cS.2.1
  have bl:=A3 (qW (e_ F)) hu
  refine gE @bp ?_
  refine cT ?_
  refine gE @aH ?_
  refine⟨by rw[bp];omega,?_⟩
  refine gE @aj ?_
  refine AP.jv 4 2 71 3 rfl rfl ?_
  refine sI ?_
  have Ng:qW (e_ F) u=⟨u.ng,u.pd,u.xs.map (ak (e_ F))⟩:=by rw[qW,fy]
  refine AP.loop rfl (α:=Nat) (fun j=>[(1,.fn 94 [] [.ob 1 0]),(5,.os 2 3 0 k),(8,.ob 4 0),(11,cq c),(12,Iv c.length),(13,Iv k),(23,.im (.sl 3 (aA u.xs))),(24,Iv u.xs.length),(25,Iv j)]) (fun j=>(5,.vec 71 3 (aA ((u.xs.take j).map (ak (e_ F)))))::(4,.var 119 [Bv u.ng,Sv u.pd,.os 5 3 0 j])::(3,.var 119 [Bv u.ng,Sv u.pd,.im (.sl 3 (aA u.xs))])::(2,.vec 119 3 (dv ((c.take k).map (qW (e_ F)))))::rV (dm (dm [] (eH (c.take k))) (aW (u.xs.take j)))) (fun j=>j<=u.xs.length) (fun j=>u.xs.length-j) 0 (by omega) (sU) (by rw[List.take_zero (l:=u.xs),aW];rfl) fun j hj=>?_
  rcases Nat.eq_or_lt_of_le hj with iS|mR
  ·subst iS
   rw[List.take_length]
   refine gE @aj ?_
   refine cF ?_
   refine sI ?_
   refine AP.freeze 5 (el:=71) (es:=3) (rows:=aA (u.xs.map (ak (e_ F)))) rfl (by simp only[go_sem,Nat.reduceAdd,Nat.reduceLeDiff,Nat.reduceSub,Int.reduceToNat,reduceCtorEq,aj,List.length_map];first|done|trivial|omega|(simp;done)|(simp;omega)) (by simp only[go_sem,Nat.reduceAdd,Nat.reduceLeDiff,Nat.reduceSub,Int.reduceToNat,reduceCtorEq,aj,List.length_map];first|done|trivial|omega|(simp;done)|(simp;omega)) ?_;simp only[go_sem,Nat.reduceAdd,Nat.reduceLeDiff,Nat.reduceSub,Int.reduceToNat,reduceCtorEq,aj,List.length_map]
   rw[show List.take u.xs.length (aA (u.xs.map (ak (e_ F))))=aA (u.xs.map (ak (e_ F))) from List.take_of_length_le (by rw[aj,List.length_map];omega)]
   refine gO ?_
   refine AQ.append (hnb:=rfl) (rows:=dv ((c.take k).map (qW (e_ F)))) (es:=2) (by kernel_rfl) rfl rfl rfl (by first|(simp only[go_sem,noMen,AV.mens,AV.men,Bool.or_false];done)|(simp only[go_sem,noMen,AV.mens,AV.men,Bool.or_false];rfl)) Tryz.JR Tryz.JL (by show Option.map _ (ax Tryz.prog 119)=_;rw[Tryz.Ke];rfl) Tryz.Fz (by first|rfl|(simp only[bp,List.length_map,bf,List.length_cons,List.length_nil];done)|(simp only[bp,List.length_map,bf,List.length_cons,List.length_nil];omega)) (by simp only[bp,List.length_map,bf,List.length_cons,List.length_nil];omega) (by simp only[bp,List.length_map,bf,List.length_cons,List.length_nil];omega) ?_
   refine sI ?_
   refine gE @hw ?_
   refine AE.gQ [4,3] (by simp only[go_sem,Nat.reduceAdd,Nat.reduceLeDiff,Nat.reduceSub,Int.reduceToNat,reduceCtorEq,cw,noMen,AV.mens,AV.men,iB,Bool.or_false];first|done|rfl) ?_
   refine sE (an @bp (an @List.length_map.{0,0} @bf)) ?_
   refine AE.round (k+1) (by omega) (by omega) (sU) ?_
   rw[bl,IU,Ng,acg hu,rW];rfl
  ·obtain⟨v,hv,dV⟩:=dh u.xs j mR
   have gi:=wr (x:=(j:Int)+1) (by have:=cS.2.1;omega)
   have Av:=nu (l:=u.xs) (k:=j) (by omega)
   obtain⟨q,hq⟩:=acf hu hv
   have HR:=SL hv
   have M1:F=dm (dm (dm [] (eH (c.take k))) (aW (u.xs.take j))) (bJ v++q)++[]:=by rw[hF,hq,rW _ (_++_),rW _ (eH _),List.append_nil]
   obtain⟨r',rj⟩:=Qf (a:=[]) M1
   have qe:=congrArg List.length hq
   simp only[List.length_append]at qe
   have gV:=Je (eH (c.take k)++aW (u.xs.take j)) []
   rw[rW,List.length_append,List.length_nil]at gV
   have ih:=Le F v (dm (dm [] (eH (c.take k))) (aW (u.xs.take j))) r' rj (Eg _ _ (Eg _ _ List.nodup_nil)) (by omega) (dc cS.2.2 hv) (tH (Ej (ah u (List.mem_of_getElem? hu))) v (List.mem_of_getElem? hv))
   rw[<-rW (dm [] (eH (c.take k))),<-HR]at ih
   clear M1 rj qe gV hq
   have pa:=A3 (ak (e_ F)) hv
   obtain⟨w,vr⟩:∃w,ak (e_ F) v=w:=⟨_,rfl⟩
   rw[vr]at ih pa
   refine gE @aj ?_
   refine cT ?_
   refine gE @dV ?_
   refine⟨by rw[aj];omega,?_⟩
   refine gO ?_
   refine AP.bQ 9 (Tree.node [] [0,1,2,3] [4] [Tree.node [0,1] [] [5] [Tree.node [0,1] [] [6] [Tree.node [] [7] [8] [Tree.node [] [] [] []]]]]) (by kernel_rfl) rfl (by kernel_rfl) (by kernel_rfl) ?_
   refine bO ?_
   refine sI ?_
   refine AQ.bW [(1,1),(0,0)] (by kernel_rfl) rfl rfl rfl rfl rfl rfl (by refine⟨?_,?_,trivial⟩<;>(simp only[dY,AV.cU,AV.rn,Bj];rfl)) rfl ih fun r' H' ⟨e1,e2⟩=>?_
   subst e1;subst e2
   refine sH ?_
   refine AQ.nx rfl ?_
   refine sI ?_
   refine AQ.go (by kernel_rfl) ?_
   refine sI ?_
   refine AQ.nx rfl ?_
   refine sI ?_
   refine AQ.kill 5 ?_
   refine sI ?_
   refine AQ.append (hnb:=rfl) (rows:=aA ((u.xs.take j).map (ak (e_ F)))) (es:=2) (by kernel_rfl) rfl rfl rfl (by first|(simp only[go_sem,noMen,AV.mens,AV.men,Bool.or_false];done)|(simp only[go_sem,noMen,AV.mens,AV.men,Bool.or_false];rfl)) Tryz.yB Tryz.yA (by show Option.map _ (ax Tryz.prog 71)=_;rw[Tryz.yN];rfl) Tryz.wo (by first|rfl|(simp only[aj,List.length_map,Av,List.length_cons,List.length_nil];done)|(simp only[aj,List.length_map,Av,List.length_cons,List.length_nil];omega)) (by simp only[aj,List.length_map,Av,List.length_cons,List.length_nil];omega) (by simp only[aj,List.length_map,Av,List.length_cons,List.length_nil];omega) ?_
   refine sI ?_
   refine AQ.nx rfl ?_
   refine sI ?_
   refine AQ.go (by kernel_rfl) ?_
   refine sI ?_
   refine AQ.nx rfl ?_
   refine sI ?_
   refine AQ.done ?_
   refine gE @gi ?_
   refine AE.gQ [6] (by simp only[go_sem,Nat.reduceAdd,Nat.reduceLeDiff,Nat.reduceSub,Int.reduceToNat,reduceCtorEq,cw,noMen,AV.mens,AV.men,iB,Bool.or_false];first|done|rfl) ?_
   refine sI ?_
   refine AE.round (j+1) (by omega) (by omega) (sU) ?_
   rw[pa,tW,aj,List.length_map,Av];rfl
theorem Z2 (x y:Lt) (hs:py x):aS Tryz.prog 88 [ot y,.im (D6 x)] (Bv (jU x y)):=by
 refine ai.walk [0,1,2,3] [] Tryz.func88 rfl Tryz.ntmps88 (by kernel_rfl) (by rfl) rfl fun W own I0 ao lay=>?_
 refine gO ?_
 refine AQ.fn (by kernel_rfl) rfl rfl rfl (abb x y hs) rfl ?_
 refine sI ?_
 refine gO ?_
 exact AE.aG rfl ⟨rfl,trivial⟩ rfl ⟨rfl,rfl⟩
theorem YI (l:List Lt) (x:Lt) (hl:l.length<=1000000000) (hs:py x):
  aS Tryz.prog 162 [cq l,.fn 88 [] [.im (D6 x)]] (Iv (fk (jU x) l 0)):=by
 refine ai.walk [0,1,4,5,7,8,9,16] [] Tryz.func162 rfl Tryz.ntmps162 (by kernel_rfl) (by rfl) rfl fun W own I0 ao lay=>?_
 refine gE @bp ?_
 refine AP.loop rfl (α:=Nat) (fun k=>[(0,cq l),(1,.fn 88 [] [.im (D6 x)]),(7,Iv l.length),(8,Iv k)]) (fun _=>[]) (fun k=>k<=l.length/\fk (jU x) l 0=fk (jU x) (l.drop k) k) (fun k=>l.length-k) 0 ⟨by omega,rfl⟩ (sU) rfl fun k ⟨hk,hm⟩=>?_
 rcases Nat.eq_or_lt_of_le hk with aC|ag
 ·refine gO ?_
  refine cF ?_
  refine gO ?_
  exact AE.aG rfl ⟨rfl,trivial⟩ rfl ⟨rfl,by rw[hm,aC,List.drop_length,fk];rfl⟩
 ·obtain⟨u,hu,aH⟩:=oq l k ag
  have hw:=wr (x:=(k:Int)+1) (by omega)
  have du:=DQ (jU x) hu
  refine gO ?_
  refine cT ?_
  refine gE @aH ?_
  refine⟨by rw[bp];omega,?_⟩
  refine gO ?_
  refine AQ.y6 [] (by kernel_rfl) rfl rfl rfl rfl rfl rfl (fun k=>by exact trivial) (fun k=>rfl) (fun k=>rfl) (Z2 x u hs) ?_
  refine sI ?_
  refine gO ?_
  refine AP.cond rfl rfl (fun U=>?_) (fun U=>?_)
  ·refine gO ?_
   exact AE.aG rfl ⟨rfl,trivial⟩ rfl ⟨rfl,by rw[hm,du,if_pos (by simpa using U)];rfl⟩
  ·refine gE @hw ?_
   exact AE.round (k+1) ⟨by omega,by rw[hm,du,if_neg (by simpa using U)]⟩ (by omega) (sU) rfl
theorem TO (l:List Lt) (x:Lt) (hl:l.length<=1000000000) (hs:py x):aS Tryz.prog 87 [cq l,.fn 88 [] [.im (D6 x)]] (Bv (l.any (jU x))):=by
 refine ai.walk [0,1,4] [] Tryz.func87 rfl Tryz.ntmps87 (by kernel_rfl) (by rfl) rfl fun W own I0 ao lay=>?_
 refine gO ?_
 refine AQ.fn (by kernel_rfl) rfl rfl rfl (YI l x hl hs) rfl ?_
 refine sI ?_
 refine gO ?_
 exact AE.aG rfl ⟨rfl,trivial⟩ rfl ⟨rfl,by rw[<-DP (jU x) l 0];rfl⟩
mutual
theorem ach:∀t:Tm,(bJ t).length<=wT t
 | .mk n i xs=>by
  rw[bJ,wT,List.length_append]
  have:=J5 xs
  split<;>simp<;>omega
theorem J5:∀l:List Tm,(aW l).length<=aD l
 |[]=>by rw[aW,aD];simp
 |t::l=>by rw[aW,aD,List.length_append];have:=ach t;have:=J5 l;omega
end
theorem SI:∀c:List Lt,(eH c).length<=cO c
 |[]=>by simp[eH]
 |l::c=>by rw[SH,List.length_append,pD];have:=J5 l.xs;have:=SI c;omega
theorem Z4 (N:Nat) (Ar:∀l:List Lt,l.length<=N->ai Tryz.prog 90 [.os 0 4 0 l.length,.fn 91 [] []] (gH l) (fun r H'=>r= .aI []/\H'=gH (dI [] l))) (c:List Lt) (hN:c.length<=N) (hs:je c) (fh:ca 4 9 2 3 c=0):
  aS Tryz.prog 22 [cq c] (.aI [cq (Ee c),Iv 0]):=by
 obtain⟨U,h2,h3,h4⟩:=FH fh
 refine ai.walk [0,2,3,4,5,6,7,8,10,11,15,17,18,19,20,29,44,45,46,47] [7,10,11] Tryz.func22 rfl Tryz.ntmps22 (by kernel_rfl) (by rfl) rfl fun W own I0 ao lay=>?_
 refine gO ?_
 refine AQ.fn (by kernel_rfl) rfl rfl rfl (y9 c hs) rfl ?_
 refine sE @fh ?_
 refine gE (an @fh @bp) ?_
 refine AP.own 5 145 4 rfl ?_
 refine sI ?_
 refine AP.loop rfl (α:=Nat) (fun k=>[(0,cq c),(5,.os 0 4 0 (fv [] (c.take k)).length),(17,cq c),(18,Iv c.length),(19,Iv k)]) (fun k=>gH (fv [] (c.take k))) (fun k=>k<=c.length) (fun k=>c.length-k) 0 (by omega) (sU) rfl fun k hk=>?_
 rcases Nat.eq_or_lt_of_le hk with aC|ag
 ·subst aC
  rw[List.take_length]
  have C2:(fv [] c).length<=c.length:=(wy c []).length_le
  have fU:=Ar (fv [] c) (by omega)
  have eU:(ju c).length=(fv [] c).length:=by rw[ju,(vY _ _).length_eq];rfl
  have NX:∀l∈ju c,py l:=fun l hl=>hs.2 l (Qq.1 hl)
  have Xz:∀l∈ju c,kR l=true:=fun l hl=>h4 l (Qq.1 hl)
  have Nf:je (ju c):=⟨by omega,NX⟩
  have xg:ju c=dI [] (fv [] c):=rfl
  rw[<-xg]at fU
  have fw:(eH (ju c)).length<=1000000:=by
   have h5:=SI (ju c)
   have h6:cO (ju c)=cO (fv [] c):=by rw[xg];exact ZW (vY _ _)
   have h7:=PV (wy c [])
   omega
  have GS:=Uo (dm [] (eH (ju c))) (ju c) rfl fw Nf Xz
  have qg:KE (e_ (dm [] (eH (ju c)))) (ju c)=Ee c:=rfl
  rw[qg]at GS
  rw[<-eU]at fU
  obtain⟨o,ho⟩:∃o,ju c=o:=⟨_,rfl⟩
  rw[ho]at fU eU NX Nf GS
  rw[<-eU]
  refine gO ?_
  refine cF ?_
  refine gO ?_
  refine AQ.bW [(0,0)] (by kernel_rfl) rfl rfl rfl rfl rfl rfl (by exact⟨rfl,trivial⟩) rfl fU ?_
  rintro r H1 ⟨rfl,rfl⟩
  refine⟨rfl,?_⟩
  refine sH ?_
  refine gE @sa ?_
  refine AP.own 8 119 3 rfl ?_
  refine sI ?_
  refine AP.loop rfl (α:=Nat) (fun k=>[(8,.os 1 3 0 k),(44,.os 0 4 0 o.length),(45,Iv o.length),(46,Iv k)]) (fun k=>(1,.vec 119 3 (dv (o.take k)))::gH o) (fun k=>k<=o.length) (fun k=>o.length-k) 0 (by omega) (sU) rfl fun k hk=>?_
  rcases Nat.eq_or_lt_of_le hk with aC|ag
  ·subst aC
   rw[List.take_length]
   refine gO ?_
   refine cF ?_
   refine gO ?_
   refine AQ.freeze 1 (el:=119) (es:=3) (rows:=dv o) rfl (by simp only[go_sem,Nat.reduceAdd,Nat.reduceLeDiff,Nat.reduceSub,Int.reduceToNat,reduceCtorEq,bp];first|done|trivial|omega|(simp;done)|(simp;omega)) (by simp only[go_sem,Nat.reduceAdd,Nat.reduceLeDiff,Nat.reduceSub,Int.reduceToNat,reduceCtorEq,bp];first|done|trivial|omega|(simp;done)|(simp;omega)) ?_;simp only[go_sem,Nat.reduceAdd,Nat.reduceLeDiff,Nat.reduceSub,Int.reduceToNat,reduceCtorEq,bp]
   rw[List.take_of_length_le (by rw[bp];omega)]
   refine AQ.A5 (by kernel_rfl) ?_
   refine sI ?_
   refine gO ?_
   refine AQ.bW [(1,2),(0,1)] (by kernel_rfl) rfl rfl rfl rfl rfl rfl (by exact⟨rfl,rfl,trivial⟩) rfl GS ?_
   rintro r H1 ⟨rfl,rfl⟩
   refine⟨rfl,?_⟩
   refine sH ?_
   refine gO ?_
   exact AE.a6 [2,1,0] rfl ⟨rfl,rfl,trivial⟩ (by simp only[go_sem,Nat.reduceAdd,Nat.reduceLeDiff,Nat.reduceSub,Int.reduceToNat,reduceCtorEq,cw,noMen,AV.mens,AV.men,iB,Bool.or_false];first|done|rfl) ⟨rfl,rfl⟩
  ·obtain⟨u,hu,_⟩:=oq o k ag
   have aH:=EN hu
   have hw:=wr (x:=(k:Int)+1) (by omega)
   have bl:=dE hu
   have bf:=nu (l:=o) (k:=k) (by omega)
   refine gO ?_
   refine cT ?_
   refine gE @aH ?_
   refine⟨by rw[sa];omega,?_⟩
   refine gO ?_
   refine AQ.append (hnb:=rfl) (rows:=dv (o.take k)) (es:=2) (by kernel_rfl) rfl rfl rfl (by rfl) Tryz.JR Tryz.JL (by show Option.map _ (ax Tryz.prog 119)=_;rw[Tryz.Ke];rfl) Tryz.Fz (by first|rfl|(simp only[bp,bf,List.length_cons,List.length_nil];done)|(simp only[bp,bf,List.length_cons,List.length_nil];omega)) (by simp only[bp,bf,List.length_cons,List.length_nil];omega) (by simp only[bp,bf,List.length_cons,List.length_nil];omega) ?_
   refine sI ?_
   refine gE @hw ?_
   refine AE.gQ [2] rfl ?_
   refine sI ?_
   refine AE.round (k+1) (by omega) (by omega) (by simp only[bp,bf];exact(sU)) ?_
   rw[bl,IU]
 ·obtain⟨u,hu,aH⟩:=oq c k ag
  have hw:=wr (x:=(k:Int)+1) (by omega)
  have cS:=sB hs hu
  have DB:=h4 u (List.mem_of_getElem? hu)
  have fC:=Lu (c.take k) [] u
  rw[<-dE hu,List.nil_append]at fC
  refine gE @bp ?_
  refine cT ?_
  refine gE @aH ?_
  refine⟨by rw[bp];omega,?_⟩
  refine gO ?_
  refine⟨⟨by omega,by rw[bp];omega⟩,?_⟩
  have bf:List.take k (dv c)=dv (c.take k):=by rw[dv,dv,List.map_take]
  have As:List.drop k (List.take (k+1) (dv c))=dv [u]:=by
   rw[dv,<-List.map_take,<-List.map_drop,dE hu,List.drop_append_of_le_length (by rw[List.length_take];omega),List.drop_take_self];rfl
  have mq:((k:Int)+1).toNat=k+1:=by omega
  have xx:=S1 [u] true ⟨by simp,fun l hl=>by rw[List.mem_singleton]at hl;subst hl;exact cS⟩ (by simp) (by
   have h6:=I_ c u (List.mem_of_getElem? hu)
   simp only[cO,List.map_cons,List.map_nil,List.sum_cons,List.sum_nil];omega) (fun l hl=>by rw[List.mem_singleton]at hl;subst hl;exact DB)
  have qd:qH true [u]=eo u:=by rw[qH,kT,List.append_nil,eo]
  rw[qd]at xx
  have ru:(fv [] (c.take k)).length<=k:=by
   have:=(wy (c.take k) []).length_le
   rw[List.length_take]at this;omega
  rw[bf]
  refine AQ.fix 1 rfl rfl ?_
  refine sI ?_
  refine AQ.fn (by kernel_rfl) rfl rfl rfl (TO (c.take k) u (by rw[List.length_take];omega) cS) rfl ?_
  refine sI ?_
  refine gO ?_
  refine AP.cond rfl rfl (fun h5=>?_) (fun h5=>?_)
  ·have h5:(c.take k).any (jU u)=false:=by simpa using h5
   rw[h5,if_neg (by decide)]at fC
   refine gO ?_
   refine AP.bQ 11 (Tree.node [] [0,1,2,3,4,5,6] [7] [Tree.node [0,1] [8] [9] [Tree.node [0] [] [10] [Tree.node [] [] [] []]]]) (by kernel_rfl) rfl (by kernel_rfl) (by kernel_rfl) ?_
   refine bO ?_
   refine sE (an @hw (an @mq (an @As @bp))) ?_
   refine⟨⟨by omega,by omega,by omega⟩,?_⟩
   refine AQ.fn (by kernel_rfl) rfl rfl rfl (xx) rfl ?_
   refine sI ?_
   refine AQ.nx rfl ?_
   refine sI ?_
   refine AQ.go (by kernel_rfl) ?_
   refine sI ?_
   refine AQ.nx rfl ?_
   refine sI ?_
   refine AQ.append (hnb:=rfl) (rows:=gZ (fv [] (c.take k))) (es:=3) (by kernel_rfl) rfl rfl rfl (by rfl) Tryz.abH Tryz.abC (by show Option.map _ (ax Tryz.prog 145)=_;rw[Tryz.acz];rfl) Tryz.Uf (by first|rfl|(simp only[sa,List.length_cons,List.length_nil];done)|(simp only[sa,List.length_cons,List.length_nil];omega)) (by simp only[sa,List.length_cons,List.length_nil];omega) (by simp only[sa,List.length_cons,List.length_nil];omega) ?_
   refine sI ?_
   refine AQ.nx rfl ?_
   refine sI ?_
   refine AQ.done ?_
   refine gE @hw ?_
   have hlen:(fv [] (c.take (k+1))).length=(fv [] (c.take k)).length+1:=by rw[fC,List.length_append];rfl
   refine AE.round (k+1) (by omega) (by omega) (by rw[hlen];simp only[sa];exact(sU)) ?_
   rw[fC];simp only[gH,gZ,List.map_append];rfl
  ·have h5:(c.take k).any (jU u)=true:=by simpa using h5
   rw[if_pos h5,List.append_nil]at fC
   refine gE @hw ?_
   exact AE.round (k+1) (by omega) (by omega) (by rw[fC];exact(sU)) (by rw[fC])
abbrev iC (s:List UInt8) (i:Nat):aa:=[(0,.var 135 [Sv s,Iv i])]
abbrev A4:AV:= .wr (.iface 131) (.agg [])
abbrev Ex:aa:=[(0,.var 135 [.top,.top])]
theorem tv (a b:AV):bP [a,b] [.top,.top]:=fun w φ I us h=>by
 simp only[AV.ab,AV.den]at h⊢
 obtain⟨u1,sn,rfl,_,u2,pP,rfl,_,rfl⟩:=h
 exact⟨_,_,rfl,trivial,_,_,rfl,trivial,rfl⟩
theorem sw {s:List UInt8} {i:Nat} {w:List UInt8} (h:di s i w=true) (hi:i<=s.length):i+w.length<=s.length:=by
 rcases KF h with h|h
 ·exact h
 ·subst h;simpa using hi
theorem sK (s w:List UInt8) (i:Nat) (hi:i<=s.length) (hs:s.length<=1000000) (hw:w.length<=1000):ai Tryz.prog 83 [.ob 0 0,Sv w] (iC s i) (fun r H'=>r=Bv (di s i w)/\H'=iC s (if di s i w then i+w.length else i)):=by
 have hp:=Wv (s.drop i) w
 have he:Lib.hasPrefix (s.drop i) w=di s i w:=rfl
 have bf:List.take (s.length-i) (List.drop i s)=List.drop i s:=List.take_of_length_le (by rw[List.length_drop];exact Nat.le_refl _)
 rw[he,<-bf]at hp
 clear he
 refine ai.walk [0,1,4,16] [] Tryz.func83 rfl Tryz.ntmps83 (by kernel_rfl) (by rfl) rfl fun W own I0 ao lay=>?_
 refine gO ?_
 refine AP.bQ 12 (Tree.node [] [0,1,2,3,4,5,6,7,8,9] [10] [Tree.node [] [11] [] []]) (by kernel_rfl) rfl (by kernel_rfl) (by kernel_rfl) ?_
 refine bO ?_
 refine sI ?_
 refine⟨by omega,?_⟩
 refine AQ.fn (by kernel_rfl) rfl rfl rfl (hp) rfl ?_
 refine sI ?_
 refine AQ.nx rfl ?_
 refine sI ?_
 refine AQ.done ?_
 refine gO ?_
 refine AP.cond rfl rfl (fun h=>?_) (fun h=>?_)
 ·have h:di s i w=false:=by simpa using h
  refine gO ?_
  exact AE.ret rfl ⟨rfl,trivial⟩ ⟨by rw[h];rfl,by rw[h];rfl⟩
 ·have h:di s i w=true:=by simpa using h
  have hle:=sw h hi
  have bT:=wr (x:=(i:Int)+w.length) (by omega)
  refine gE @bT ?_
  exact AE.ret rfl ⟨rfl,trivial⟩ ⟨by rw[h];rfl,by rw[h,if_pos rfl];rfl⟩
theorem MG {l:List UInt8} {k:Nat} (h:k<l.length):l.drop k=l.getD k 0::l.drop (k+1):=by
 rw[List.drop_eq_getElem_cons h,List.getD_eq_getElem?_getD,List.getElem?_eq_getElem h];rfl
theorem Z0 {s:List UInt8} {k:Nat} (b:Bool) (h:k<s.length):cY b (s.drop k)=if kH (s.getD k 0) b then 1+cY false (s.drop (k+1))else 0:=by
 rw[MG h,cY]
theorem PS (s:List UInt8) (i:Nat) (hi:i<=s.length) (hs:s.length<=1000000):dJ Tryz.prog 157 [.ob 0 0] (iC s i) (fun r H'=>cY true (s.drop i)≠0/\r=Sv ((s.drop i).take (cY true (s.drop i)))/\H'=iC s (i+cY true (s.drop i))) (fun r H'=>cY true (s.drop i)=0/\r=A4/\H'=Ex):=by
 refine dJ.walk [0,2,3,35,48] [] Tryz.func157 rfl Tryz.ntmps157 (by kernel_rfl) (by rfl) rfl fun W own I0 ao lay=>?_
 refine gO ?_
 refine AP.loop rfl (α:=Nat) (fun k=>[(0,.ob 0 0),(3,Iv i)]) (fun k=>iC s (i+k)) (fun k=>i+k<=s.length/\cY true (s.drop i)=k+cY (decide (k=0)) (s.drop (i+k))) (fun k=>s.length-(i+k)) 0 ⟨by omega,by simp⟩ (sU) rfl fun k ⟨hk,hm⟩=>?_
 by_cases ag:i+k<s.length
 ·have hw:=wr (x:=((i+k:Nat):Int)+1) (by omega)
  have hd:decide (((i+k:Nat):Int)<(s.length:Int))=true:=decide_eq_true (by omega)
  have he:decide (((i+k:Nat):Int)=(i:Int))=decide (k=0):=by rw[decide_eq_decide];omega
  rw[Z0 _ ag]at hm
  refine gE @hd ?_
  refine AP.bQ 28 (Tree.node [] [0,1,2,3,4,5,6,7,8,9,10,11,12,13,14,15,16,17,18,19,20,21,22,23,24,25] [26] [Tree.node [] [27] [] []]) (by kernel_rfl) rfl (by kernel_rfl) (by kernel_rfl) ?_
  refine bO ?_
  refine sE @hd ?_
  refine⟨⟨by omega,by omega⟩,?_⟩
  refine AQ.nQ (by simp only[go_sem]) ?_
  refine AQ.fn (by kernel_rfl) rfl rfl rfl (OP (s.getD (i+k) 0) (((i+k:Nat):Int)==(i:Int))) rfl ?_
  refine sI ?_
  refine AQ.nx rfl ?_
  refine sI ?_
  refine AQ.done ?_
  have Wz:(((i+k:Nat):Int)==(i:Int))=decide (k=0):=by
   rw[Bool.eq_iff_iff,beq_iff_eq,decide_eq_true_iff];omega
  rw[Wz]
  refine gO ?_
  refine AP.cond rfl rfl (fun h5=>?_) (fun h5=>?_)
  ·have h5:kH (s.getD (i+k) 0) (decide (k=0))=true:=by simpa using h5
   rw[if_pos h5]at hm
   refine gE @hw ?_
   refine AE.round (k+1) ⟨by omega,?_⟩ (by omega) (sU) rfl
   rw[hm,show decide (k+1=0)=false from decide_eq_false (by omega)];simp only[Nat.add_assoc];
  ·have h5:kH (s.getD (i+k) 0) (decide (k=0))=false:=by simpa using h5
   rw[if_neg (by rw[h5];decide)]at hm
   refine gO ?_
   have iU:cY true (s.drop i)=k:=hm
   by_cases nW:k=0
   ·subst nW
    refine cT ?_
    refine gO ?_
    refine xI ?_;refine sI ?_
    refine gO ?_
    refine AQ.fX 0 _ rfl (tv _ _) ?_
    refine sI ?_
    refine AQ.panic rfl ?_
    exact dA.out [] rfl rfl ⟨iU,rfl,rfl⟩
   ·refine cF ?_
    refine gO ?_
    exact AE.ret rfl ⟨rfl,trivial⟩ ⟨by omega,by rw[iU,Nat.add_sub_cancel_left];rfl,by rw[iU]⟩
 ·have hd:decide (((i+k:Nat):Int)<(s.length:Int))=false:=decide_eq_false (by omega)
  refine gE @hd ?_
  refine AP.bQ 28 (Tree.node [] [0,1,2,3,4,5,6,7,8,9,10,11,12,13,14,15,16,17,18,19,20,21,22,23,24,25] [26] [Tree.node [] [27] [] []]) (by kernel_rfl) rfl (by kernel_rfl) (by kernel_rfl) ?_
  refine bO ?_
  refine sE @hd ?_
  refine⟨fun h=>h.elim,fun h=>h.elim,?_⟩
  refine AQ.skip (by kernel_rfl) rfl ?_
  refine sI ?_
  refine AQ.nx rfl ?_
  refine sI ?_
  refine AQ.done ?_
  have hm:cY true (s.drop i)=k:=by rw[hm,List.drop_eq_nil_of_le (by omega),cY];rfl
  refine gO ?_
  have iU:cY true (s.drop i)=k:=hm
  by_cases nW:k=0
  ·subst nW
   refine cT ?_
   refine gO ?_
   refine xI ?_;refine sI ?_
   refine gO ?_
   refine AQ.fX 0 _ rfl (tv _ _) ?_
   refine sI ?_
   refine AQ.panic rfl ?_
   exact dA.out [] rfl rfl ⟨iU,rfl,rfl⟩
  ·refine cF ?_
   refine gO ?_
   exact AE.ret rfl ⟨rfl,trivial⟩ ⟨by omega,by rw[iU,Nat.add_sub_cancel_left];rfl,by rw[iU]⟩
theorem dJ.told {P:Program} {f:FuncId} {xs:List AV} {H:aa} {R R' X:AV->aa->Prop} (h:dJ P f xs H R X) (hr:∀r H',R r H'->∃r',R' r' H'/\c6 r r'):dJ P f xs H R' X:=
 ⟨h.gN,fun w φ I vs hd hR hV=>(h.run w φ I vs hd hR hV).mono fun _ _ h=>by
  rcases h with⟨r,H',φ',I',v,U,h2,h3,h4⟩|h
  ·obtain⟨r',mX,eZ⟩:=hr _ _ U
   exact .inl ⟨r',H',φ',I',v,mX,h2,eZ _ _ _ _ h3,h4⟩
  ·exact .inr h⟩
def RT (s:List UInt8) (f i:Nat) (r:AV) (H':aa):Prop:=∃t j,pT s f i=some (t,j)/\r=aP t/\H'=iC s j
def XT (s:List UInt8) (f i:Nat) (r:AV) (H':aa):Prop:=pT s f i=none/\r=A4/\H'=Ex
def RA (s:List UInt8) (f i:Nat) (r:AV) (H':aa):Prop:=∃l j,pA s f i=some (l,j)/\r= .im (.sl 3 (aA l))/\H'=iC s j
def XA (s:List UInt8) (f i:Nat) (r:AV) (H':aa):Prop:=pA s f i=none/\r=A4/\H'=Ex
theorem aar (s:List UInt8) (f i:Nat):pR s (f+1) i=if di s i [44,32]then
   match pT s f (i+2)with
   |none=>none
   |some (t,j)=>match pR s f j with
    |none=>none
    |some (l,k)=>some (t::l,k)
  else if di s i [41]then some ([],i+1)else none:=by rw[pR];rfl
def Es (a:List Tm):Option (List Tm×Nat)->Option (List Tm×Nat)
 |none=>none
 |some (l,k)=>some (a++l,k)
theorem QT (s:List UInt8) (hs:s.length<=1000000) (f i:Nat) (hi:i<=s.length) (hf:s.length<f+i)
  (ih:∀f' i',f'<=f->i'<=s.length->s.length<f'+i'->dJ Tryz.prog 159 [.ob 0 0] (iC s i') (RT s f' i') (XT s f' i')):
  dJ Tryz.prog 158 [.ob 0 0] (iC s i) (RA s f i) (XA s f i):=by
 refine dJ.told (R:=fun r H'=>∃l j,pA s f i=some (l,j)/\(r= .im (.sl 3 (aA l))\/l=[]/\r=ew)/\H'=iC s j) ?_ (fun r H' ⟨l,j,U,h2,h3⟩=>⟨_,⟨l,j,U,rfl,h3⟩,by
  rcases h2 with rfl|⟨rfl,rfl⟩
  ·exact c6.refl _
  ·exact fun w φ I u h=>P0 3 w φ I u h⟩)
 have hA:pA s f i=_:=pA.eq_def s f i
 have he:=sK s [40] i hi hs (by simp)
 refine dJ.walk [0,2,3,6,11,19] [3,9] Tryz.func158 rfl Tryz.ntmps158 (by kernel_rfl) (by rfl) rfl fun W own I0 ao lay=>?_
 refine gO ?_
 refine AQ.bW [(0,0)] (by kernel_rfl) rfl rfl rfl rfl rfl rfl (by exact⟨rfl,trivial⟩) rfl (he) ?_;rintro r H1 ⟨rfl,rfl⟩;refine⟨rfl,?_⟩;refine sH ?_
 refine gO ?_
 refine AP.cond rfl rfl (fun h=>?_) (fun h=>?_)
 ·have h:di s i [40]=false:=by simpa using h
  rw[h,if_neg (by decide)]at hA
  rw[h,if_neg (by decide)]
  refine gO ?_
  exact AE.ret rfl ⟨rfl,trivial⟩ ⟨[],i,hA,.inr ⟨rfl,rfl⟩,rfl⟩
 have h:di s i [40]=true:=by simpa using h
 have hle:=sw h hi
 simp only[List.length_cons,List.length_nil]at hle
 rw[if_pos h]at hA
 rw[if_pos h]
 have it:=ih f (i+1) (Nat.le_refl _) (by omega) (by omega)
 refine gO ?_
 refine AQ.oL [(0,0)] (by kernel_rfl) rfl rfl rfl rfl rfl rfl (by exact⟨rfl,trivial⟩) rfl (it) ?_ ?_
 ·rintro r H' ⟨hp,rfl,rfl⟩
  rw[hp]at hA
  refine⟨rfl,?_⟩;refine sH ?_
  exact dA.out [] rfl rfl ⟨hA,rfl,rfl⟩
 ·rintro r H' ⟨t,j,hp,rfl,rfl⟩
  have rK:=tI hp
  rw[hp]at hA
  simp only at hA
  refine⟨rfl,?_⟩;refine sH ?_
  refine AQ.go (by kernel_rfl) ?_
  refine sI ?_
  refine gO ?_
  have MY:pA s f i=Es [t] (pR s f j):=by rw[hA];cases pR s f j<;>rfl
  refine AP.loop rfl (α:=List Tm×Nat×Nat) (fun z=>[(0,.ob 0 0),(3,.os 1 3 0 z.1.length)]) (fun z=>(1,.vec 71 3 (aA z.1))::iC s z.2.1) (fun z=>z.1.length<=z.2.1/\z.2.1<=s.length/\s.length<z.2.2+z.2.1/\z.2.2<=f/\pA s f i=Es z.1 (pR s z.2.2 z.2.1)) (fun z=>s.length-z.2.1) ([t],j,f) ⟨by simp only[List.length_singleton];omega,rK.2.2,by simp only;omega,Nat.le_refl _,MY⟩ (sU) (by simp only[aA,jx];rfl) fun⟨a,j,g⟩ ⟨z1,z2,z3,z4,z5⟩=>?_
  simp only at z1 z2 z3 z4 z5⊢
  clear hA MY rK hp it he hle
  obtain⟨g,rfl⟩:∃q,g=q+1:=⟨g-1,by omega⟩
  rw[aar]at z5
  have he:=sK s [44,32] j z2 hs (by simp)
  refine gO ?_
  refine AQ.bW [(0,0)] (by kernel_rfl) rfl rfl rfl rfl rfl rfl (by exact⟨rfl,trivial⟩) rfl (he) ?_;rintro r H1 ⟨rfl,rfl⟩;refine⟨rfl,?_⟩;refine sH ?_
  refine gO ?_
  refine AP.cond rfl rfl (fun h2=>?_) (fun h2=>?_)
  ·have h2:di s j [44,32]=true:=by simpa using h2
   have hle:=sw h2 z2
   simp only[List.length_cons,List.length_nil]at hle
   have it:=ih g (j+2) (by omega) (by omega) (by omega)
   rw[if_pos h2]at z5
   rw[if_pos h2]
   refine gO ?_
   refine AQ.oL [(0,0)] (by kernel_rfl) rfl rfl rfl rfl rfl rfl (by exact⟨rfl,trivial⟩) rfl (it) ?_ ?_
   ·rintro r H' ⟨hp,rfl,rfl⟩
    rw[hp]at z5
    refine⟨rfl,?_⟩;refine sH ?_
    exact dA.out [1] rfl rfl ⟨z5,rfl,rfl⟩
   ·rintro r H' ⟨u,k,hp,rfl,rfl⟩
    have rK:=tI hp
    rw[hp]at z5
    refine⟨rfl,?_⟩;refine sH ?_
    refine AQ.go (by kernel_rfl) ?_
    refine sI ?_
    refine gO ?_
    refine AQ.append (hnb:=rfl) (rows:=aA a) (es:=2) (by kernel_rfl) rfl rfl rfl (by rfl) Tryz.yB Tryz.yA (by show Option.map _ (ax Tryz.prog 71)=_;rw[Tryz.yN];rfl) Tryz.wo (by first|rfl|(simp only[aj,List.length_cons,List.length_nil];done)|(simp only[aj,List.length_cons,List.length_nil];omega)) (by simp only[aj,List.length_cons,List.length_nil];omega) (by simp only[aj,List.length_cons,List.length_nil];omega) ?_
    refine sE @aj ?_
    refine gO ?_
    refine AE.round (a++[u],k,g) ⟨by simp only[List.length_append,List.length_singleton];omega,rK.2.2,by simp only;omega,by simp only;omega,?_⟩ (by simp only;omega) (by simp only[List.length_append,List.length_singleton];exact(sU)) (by simp only[tW];rfl)
    simp only at z5⊢
    rw[z5]
    cases hq:pR s g k with
    |none=>rfl
    |some x=>simp[Es]
  ·have h2:¬di s j [44,32]=true:=by simpa using h2
   rw[if_neg h2]at z5
   rw[if_neg h2]
   have WS:=sK s [41] j z2 hs (by simp)
   refine gO ?_
   refine AQ.bW [(0,0)] (by kernel_rfl) rfl rfl rfl rfl rfl rfl (by exact⟨rfl,trivial⟩) rfl (WS) ?_;rintro r H1 ⟨rfl,rfl⟩;refine⟨rfl,?_⟩;refine sH ?_
   refine gO ?_
   refine AP.cond rfl rfl (fun h3=>?_) (fun h3=>?_)
   ·have h3:¬di s j [41]=true:=by simpa using h3
    rw[if_neg h3]at z5
    rw[if_neg h3]
    refine gO ?_;refine xI ?_;refine sI ?_;refine gO ?_;refine AQ.fX 0 _ rfl (tv _ _) ?_;refine sI ?_;refine AQ.panic rfl ?_
    exact dA.out [1] rfl rfl ⟨z5,rfl,rfl⟩
   ·have h3:di s j [41]=true:=by simpa using h3
    rw[if_pos h3]at z5
    rw[if_pos h3]
    refine gO ?_
    refine AE.freeze 1 (el:=71) (es:=3) (rows:=aA a) rfl (by simp only[go_sem,Nat.reduceAdd,Nat.reduceLeDiff,Nat.reduceSub,Int.reduceToNat,reduceCtorEq,aj];first|done|trivial|omega|(simp;done)|(simp;omega)) (by simp only[go_sem,Nat.reduceAdd,Nat.reduceLeDiff,Nat.reduceSub,Int.reduceToNat,reduceCtorEq,aj];first|done|trivial|omega|(simp;done)|(simp;omega)) ?_;simp only[go_sem,Nat.reduceAdd,Nat.reduceLeDiff,Nat.reduceSub,Int.reduceToNat,reduceCtorEq,aj]
    rw[List.take_of_length_le (by rw[aj];exact Nat.le_refl _)]
    exact AE.ret rfl ⟨rfl,trivial⟩ ⟨a,j+1,by rw[z5];simp[Es],.inl rfl,rfl⟩
theorem QH:∀(l:List UInt8) (acc k:Nat),acc<10^k->l.length+k<=18->(∀c∈l,gk c=true)->Lib.parseUint10 acc l= .ok (l.foldl (fun n c=>10*n+(c.toNat-48)) acc)
 |[],acc,k,_,_,_=>rfl
 |c::r,acc,k,ha,hl,hd=>by
  have hc:=hd c (List.mem_cons_self ..)
  rw[gk,Bool.and_eq_true,decide_eq_true_iff,decide_eq_true_iff]at hc
  have hk:10^k<=10^17:=Nat.pow_le_pow_right (by decide) (by simp only[List.length_cons]at hl;omega)
  have hn:acc*10+(c.toNat-48)<10^(k+1):=by rw[Nat.pow_succ];omega
  have h17:(10:Nat)^17=100000000000000000:=by decide
  rw[Lib.parseUint10,if_pos hc,if_neg (by omega),if_neg (by omega),QH r _ (k+1) hn (by simp only[List.length_cons]at hl;omega) (fun x hx=>hd x (List.mem_cons_of_mem _ hx)),List.foldl_cons,Nat.mul_comm acc 10]
theorem TV {d:List UInt8} (hd:∀c∈d,gk c=true) (h0:d≠[]) (hl:d.length<=18):ik d=((fN d:Int),true):=by
 have hp:=QH d 0 0 (by decide) (by omega) hd
 have ag:fN d<10^18:=by
  have:∀(l:List UInt8) (acc k:Nat),acc<10^k->(∀c∈l,gk c=true)->l.foldl (fun n c=>10*n+(c.toNat-48)) acc<10^(k+l.length):=by
   intro l
   induction l with
   |nil=>intro acc k h _;exact h
   |cons c r ih=>
    intro acc k h hd
    have hc:=hd c (List.mem_cons_self ..)
    rw[gk,Bool.and_eq_true,decide_eq_true_iff,decide_eq_true_iff]at hc
    have:=ih (10*acc+(c.toNat-48)) (k+1) (by rw[Nat.pow_succ];omega) fun x hx=>hd x (List.mem_cons_of_mem _ hx)
    rw[List.foldl_cons,List.length_cons,show k+(r.length+1)=k+1+r.length by omega]
    exact this
  have U:=this d 0 0 (by decide) hd
  rw[Nat.zero_add]at U
  exact Nat.lt_of_lt_of_le U (Nat.pow_le_pow_right (by decide) hl)
 have h18:(10:Nat)^18=1000000000000000000:=by decide
 cases d with
 |nil=>exact absurd rfl h0
 |cons c r=>
  have hc:=hd c (List.mem_cons_self ..)
  rw[gk,Bool.and_eq_true,decide_eq_true_iff,decide_eq_true_iff]at hc
  have VP:¬(c.toNat=43\/c.toNat=45):=by omega
  have MS:¬c.toNat=45:=by omega
  have hA:Lib.atoiAll (c::r)= .ok ((fN (c::r):Nat):Int):=by
   rw[Lib.atoiAll]
   simp only[if_neg VP,Lib.parseMag,if_neg (List.cons_ne_nil c r)]
   rw[hp]
   simp only
   rw[if_neg,if_neg,if_neg MS]
   ·rfl
   ·exact fun h=>MS h.1
   ·rintro⟨_,h⟩
    have:fN (c::r)<1000000000000000000:=by omega
    unfold fN at this
    omega
  rw[ik,hA]
def yd (d:List UInt8):Bool:=(ik d).2&&!decide (9<d.length)&&(Lib.itoa (ik d).1==d)
theorem Qb {d:List UInt8} (hd:∀c∈d,gk c=true):yd d=mz d/\(mz d=true->(ik d).1=(fN d:Int)):=by
 rcases Decidable.em (d=[])with rfl|h0
 ·have:ik []=(0,false):=rfl
  refine⟨by rw[yd,this];rfl,fun h=>?_⟩
  exact absurd h (by decide)
 ·have HA:1<=d.length:=by cases d with|nil=>exact absurd rfl h0|cons c r=>simp
  by_cases h9:9<d.length
  ·rw[yd,mz,decide_eq_true h9,decide_eq_false (by omega:¬d.length<=9)]
   simp
  ·have ha:=TV hd h0 (by omega)
   have hi:Lib.itoa (fN d:Int)=Lib.decDigits (fN d):=by rw[Lib.itoa,if_neg (by omega)];rfl
   refine⟨?_,fun _=>by rw[ha]⟩
   rw[yd,ha,mz,decide_eq_false h9,decide_eq_true HA,decide_eq_true (by omega:d.length<=9)]
   simp only[Bool.true_and,Bool.not_false,hi]
   rw[Bool.eq_iff_iff,beq_iff_eq,Bool.or_eq_true,decide_eq_true_iff,decide_eq_true_iff]
   obtain⟨_,_,_,_,h5,h6⟩:=Lx (fN d)
   constructor
   ·intro h
    rw[h]at h5 h6
    by_cases U:d.length=1
    ·exact .inl U
    ·exact .inr (h5 (h6 (by omega)))
   ·intro h
    obtain⟨n,hn⟩:∃n,d.length=n+1:=⟨d.length-1,by omega⟩
    exact(FO n d hn hd (fun U=>by
     rcases h with h|h
     ·omega
     ·exact h)).1
theorem FU:∀l:List UInt8,∀c∈l.take (iu l),gk c=true
 |[],c,h=>by simp at h
 |x::l,c,h=>by
  rw[iu]at h
  by_cases hx:gk x=true
  ·rw[if_pos hx,Nat.add_comm,List.take_succ_cons]at h
   rcases List.mem_cons.1 h with rfl|h
   ·exact hx
   ·exact FU l c h
  ·rw[if_neg hx]at h;simp at h
theorem UZ {s:List UInt8} {k:Nat} (h:k<s.length):iu (s.drop k)=if gk (s.getD k 0)then 1+iu (s.drop (k+1))else 0:=by
 rw[MG h,iu]
theorem aa8 (s:List UInt8) (hs:s.length<=1000000) (f i:Nat) (hi:i<=s.length)
  (hl:∀i',i<i'->i'<=s.length->dJ Tryz.prog 158 [.ob 0 0] (iC s i') (RA s f i') (XA s f i')):
  dJ Tryz.prog 159 [.ob 0 0] (iC s i) (RT s (f+1) i) (XT s (f+1) i):=by
 refine dJ.told (R:=fun r H'=>∃t j,pT s (f+1) i=some (t,j)/\(r=aP t\/t.xs=[]/\r= .agg [Sv t.nm,Iv t.ix,ew])/\H'=iC s j) ?_ (fun r H' ⟨t,j,U,h2,h3⟩=>⟨_,⟨t,j,U,rfl,h3⟩,by
  rcases h2 with rfl|⟨hx,rfl⟩
  ·exact c6.refl _
  ·rw[aP,hx,aA];exact(by repeat' (first|with_reducible exact c6.refl _|with_reducible exact fK.refl _|exact fK.nil _|with_reducible exact bP.refl _|with_reducible exact mD.refl _|with_reducible exact mE.refl _|refine bP.k6 ?_ ?_|refine c6.agg ?_|refine c6.im ?_|refine fK.sl ?_|refine mE.cons ?_ ?_|refine mD.cons ?_ ?_))⟩)
 have hT:=Qw s f i
 have he:=sK s [63] i hi hs (by simp)
 refine dJ.walk [0,2,3,4,5,6,7,10,54,89] [2] Tryz.func159 rfl Tryz.ntmps159 (by kernel_rfl) (by rfl) rfl fun W own I0 ao lay=>?_
 refine gO ?_
 refine AQ.bW [(0,0)] (by kernel_rfl) rfl rfl rfl rfl rfl rfl (by exact⟨rfl,trivial⟩) rfl (he) ?_;rintro r H1 ⟨rfl,rfl⟩;refine⟨rfl,?_⟩;refine sH ?_
 refine gO ?_
 refine AP.cond rfl rfl (fun h=>?_) (fun h=>?_)
 ·have h:di s i [63]=false:=by simpa using h
  rw[h,if_neg (by decide)]at hT
  rw[h,if_neg (by decide)]
  have hn:=PS s i hi hs
  refine gO ?_
  refine AQ.oL [(0,0)] (by kernel_rfl) rfl rfl rfl rfl rfl rfl (by exact⟨rfl,trivial⟩) rfl (hn) ?_ ?_
  ·rintro r H' ⟨hp,rfl,rfl⟩
   rw[if_pos hp]at hT
   refine⟨rfl,?_⟩;refine sH ?_
   exact dA.out [1] rfl rfl ⟨hT,rfl,rfl⟩
  ·rintro r H' ⟨hp,rfl,rfl⟩
   rw[if_neg hp]at hT
   have gV:=A7 true (s.drop i)
   rw[List.length_drop]at gV
   have en:=hl (i+cY true (s.drop i)) (by omega) (by omega)
   refine⟨rfl,?_⟩;refine sH ?_
   refine AQ.go (by kernel_rfl) ?_
   refine sI ?_
   refine gO ?_
   refine AQ.oL [(0,0)] (by kernel_rfl) rfl rfl rfl rfl rfl rfl (by exact⟨rfl,trivial⟩) rfl (en) ?_ ?_
   ·rintro r H' ⟨hp,rfl,rfl⟩
    rw[hp]at hT
    refine⟨rfl,?_⟩;refine sH ?_
    exact dA.out [1] rfl rfl ⟨hT,rfl,rfl⟩
   ·rintro r H' ⟨l,k,hp,rfl,rfl⟩
    rw[hp]at hT
    refine⟨rfl,?_⟩;refine sH ?_
    refine AQ.go (by kernel_rfl) ?_
    refine sI ?_
    refine gO ?_
    exact AE.a6 [1] rfl ⟨⟨rfl,Nat.le_of_ble_eq_true (by kernel_rfl)⟩,trivial⟩ rfl ⟨_,k,hT,.inl rfl,rfl⟩
 ·have h:di s i [63]=true:=by simpa using h
  have hle:=sw h hi
  simp only[List.length_cons,List.length_nil]at hle
  rw[if_pos h]at hT
  rw[if_pos h]
  refine gO ?_
  refine AP.loop rfl (α:=Nat) (fun k=>[(0,.ob 0 0),(2,.ob 1 0),(4,Iv (i+1:Nat))]) (fun k=>(1,.var 71 [Sv [],Iv 0,ew])::iC s (i+1+k)) (fun k=>i+1+k<=s.length/\iu (s.drop (i+1))=k+iu (s.drop (i+1+k))) (fun k=>s.length-(i+1+k)) 0 ⟨by omega,by simp⟩ (sU) rfl fun k ⟨hk,hm⟩=>?_
  by_cases ag:i+1+k<s.length
  ·have hw:=wr (x:=((i+1+k:Nat):Int)+1) (by omega)
   have hd:decide (((i+1+k:Nat):Int)<(s.length:Int))=true:=decide_eq_true (by omega)
   rw[UZ ag]at hm
   refine gE @hd ?_
   refine AP.cond rfl rfl (fun h5=>?_) (fun h5=>?_)
   ·have h5:gk (s.getD (i+1+k) 0)=true:=by
     rw[gk];simp only[Bool.and_eq_true,decide_eq_true_eq]at h5⊢;omega
    rw[if_pos h5]at hm
    refine gE @hw ?_
    refine AE.round (k+1) ⟨by omega,by rw[hm];simp only[Nat.add_assoc]⟩ (by omega) (sU) rfl
   ·have h5:gk (s.getD (i+1+k) 0)=false:=by
     rw[gk,<-Bool.not_eq_true];intro hc;rw[<-Bool.not_eq_true]at h5;apply h5
     simp only[Bool.and_eq_true,decide_eq_true_eq]at hc⊢;omega
    rw[if_neg (by rw[h5];decide)]at hm
    refine gO ?_
    have iU:iu (s.drop (i+1))=k:=hm
    have ek:i+1+k-(i+1)=k:=Nat.add_sub_cancel_left ..
    have uU:=FU (s.drop (i+1))
    rw[iU]at uU
    have hV:pV s (i+1)=_:=pV.eq_def s (i+1)
    rw[iU]at hV
    rw[ek]
    have C2:((s.drop (i+1)).take k).length<=1000000:=by rw[List.length_take,List.length_drop];omega
    obtain⟨d,mf⟩:∃d,(s.drop (i+1)).take k=d:=⟨_,rfl⟩
    rw[mf]at uU hV C2⊢
    obtain⟨e7,ga⟩:=Qb uU
    have aU:=KH d (by omega)
    have jD:=KG d
    rw[yd]at e7
    obtain⟨⟨n,ok⟩,hq⟩:∃q,ik d=q:=⟨_,rfl⟩
    rw[hq]at aU jD e7 ga
    simp only at aU jD e7 ga
    have hit:=Im n jD
    cases ok with
    |false=>
     have a_:mz d=false:=by rw[<-e7];rfl
     rw[a_,if_neg (by decide)]at hV
     refine AQ.fn (by kernel_rfl) rfl rfl rfl (aU) rfl ?_
     refine sI ?_
     repeat(first|refine xA ?_|refine xB ?_|refine xC ?_|refine xE ?_|refine xD ?_|refine xK ?_|refine xS ?_|refine xM ?_|refine xT ?_|refine xF ?_|((first|refine xR ?_|refine xW ?_|refine gJ ?_);simp only[go_sem,Nat.reduceAdd,Nat.reduceLeDiff,Nat.reduceSub,Int.reduceToNat,reduceCtorEq,nN])|(refine⟨by first|omega|(intros;simp_all;done)|(intros;simp_all;omega),?_⟩;try simp only[go_sem,Nat.reduceAdd,Nat.reduceLeDiff,Nat.reduceSub,Int.reduceToNat,reduceCtorEq,nN]))
     refine xI ?_;refine sI ?_
     refine gO ?_
     refine AQ.fX 0 _ rfl (tv _ _) ?_
     refine sI ?_
     refine AQ.panic rfl ?_
     exact dA.out [1] rfl rfl ⟨by rw[hT,hV],rfl,rfl⟩
    |true=>
     refine AQ.fn (by kernel_rfl) rfl rfl rfl (aU) rfl ?_
     refine sI ?_
     repeat(first|refine xA ?_|refine xB ?_|refine xC ?_|refine xE ?_|refine xD ?_|refine xK ?_|refine xS ?_|refine xM ?_|refine xT ?_|refine xF ?_|((first|refine xR ?_|refine xW ?_|refine gJ ?_);simp only[go_sem,Nat.reduceAdd,Nat.reduceLeDiff,Nat.reduceSub,Int.reduceToNat,reduceCtorEq,nN])|(refine⟨by first|omega|(intros;simp_all;done)|(intros;simp_all;omega),?_⟩;try simp only[go_sem,Nat.reduceAdd,Nat.reduceLeDiff,Nat.reduceSub,Int.reduceToNat,reduceCtorEq,nN]))
     refine AQ.q_ (by kernel_rfl) rfl rfl (fun h=>by first|(simp[gs,AV.g];done)|(simp[gs,AV.g,cg];done)|(simp[gs,AV.g,cg,bw]at h⊢;done)|(simp[gs,AV.g,cg,bw]at h⊢;exact h)|(simp[gs,AV.g,cg,bw]at h⊢;simp[h];done)|(simp[bw]at h;done)|(simp[gs,AV.g,bw]at h⊢;simp[h];done)|(simp[gs,AV.g,bw]at h⊢;exact h.1)|(simp[gs,AV.g];rfl)|(simp[gs,AV.g,bw]at h⊢;rfl)|(simp[gs,AV.g,bw]at h⊢;simp[h];rfl)|(simp[gs,AV.g,bw]at h⊢;simp_all)) rfl (fun _=>hit) rfl ?_
     refine sI ?_
     refine gO ?_
     refine AP.cond rfl rfl (fun h6=>?_) (fun h6=>?_)
     ·have a_:mz d=false:=by
       rw[<-e7]
       by_cases h7:9<d.length
       ·rw[decide_eq_true h7];rfl
       ·rw[decide_eq_false h7]
        have h8:¬Lib.itoa n=d:=fun e=>by rw[e]at h6;simp at h6;omega
        rw[show(Lib.itoa n==d)=false by simpa using h8];rfl
      rw[a_,if_neg (by decide)]at hV
      refine gO ?_
      refine xI ?_;refine sI ?_
      refine gO ?_
      refine AQ.fX 0 _ rfl (tv _ _) ?_
      refine sI ?_
      refine AQ.panic rfl ?_
      exact dA.out [1] rfl rfl ⟨by rw[hT,hV],rfl,rfl⟩
     ·have AD:mz d=true:=by
       rw[<-e7]
       have h7:¬9<d.length/\Lib.itoa n=d:=by simp at h6;exact⟨by omega,h6.2⟩
       rw[decide_eq_false h7.1,h7.2];simp
      have nZ:=ga AD
      rw[AD,if_pos rfl]at hV
      subst nZ
      refine gO ?_
      exact AE.a6 [1] rfl ⟨⟨rfl,Nat.le_of_ble_eq_true (by kernel_rfl)⟩,trivial⟩ rfl ⟨_,_,by rw[hT,hV],.inr ⟨rfl,rfl⟩,rfl⟩
  ·have hd:decide (((i+1+k:Nat):Int)<(s.length:Int))=false:=decide_eq_false (by omega)
   have hm:iu (s.drop (i+1))=k:=by rw[hm,List.drop_eq_nil_of_le (by omega),iu];rfl
   refine gE @hd ?_
   have iU:iu (s.drop (i+1))=k:=hm
   have ek:i+1+k-(i+1)=k:=Nat.add_sub_cancel_left ..
   have uU:=FU (s.drop (i+1))
   rw[iU]at uU
   have hV:pV s (i+1)=_:=pV.eq_def s (i+1)
   rw[iU]at hV
   rw[ek]
   have C2:((s.drop (i+1)).take k).length<=1000000:=by rw[List.length_take,List.length_drop];omega
   obtain⟨d,mf⟩:∃d,(s.drop (i+1)).take k=d:=⟨_,rfl⟩
   rw[mf]at uU hV C2⊢
   obtain⟨e7,ga⟩:=Qb uU
   have aU:=KH d (by omega)
   have jD:=KG d
   rw[yd]at e7
   obtain⟨⟨n,ok⟩,hq⟩:∃q,ik d=q:=⟨_,rfl⟩
   rw[hq]at aU jD e7 ga
   simp only at aU jD e7 ga
   have hit:=Im n jD
   cases ok with
   |false=>
    have a_:mz d=false:=by rw[<-e7];rfl
    rw[a_,if_neg (by decide)]at hV
    refine AQ.fn (by kernel_rfl) rfl rfl rfl (aU) rfl ?_
    refine sI ?_
    repeat(first|refine xA ?_|refine xB ?_|refine xC ?_|refine xE ?_|refine xD ?_|refine xK ?_|refine xS ?_|refine xM ?_|refine xT ?_|refine xF ?_|((first|refine xR ?_|refine xW ?_|refine gJ ?_);simp only[go_sem,Nat.reduceAdd,Nat.reduceLeDiff,Nat.reduceSub,Int.reduceToNat,reduceCtorEq,nN])|(refine⟨by first|omega|(intros;simp_all;done)|(intros;simp_all;omega),?_⟩;try simp only[go_sem,Nat.reduceAdd,Nat.reduceLeDiff,Nat.reduceSub,Int.reduceToNat,reduceCtorEq,nN]))
    refine xI ?_;refine sI ?_
    refine gO ?_
    refine AQ.fX 0 _ rfl (tv _ _) ?_
    refine sI ?_
    refine AQ.panic rfl ?_
    exact dA.out [1] rfl rfl ⟨by rw[hT,hV],rfl,rfl⟩
   |true=>
    refine AQ.fn (by kernel_rfl) rfl rfl rfl (aU) rfl ?_
    refine sI ?_
    repeat(first|refine xA ?_|refine xB ?_|refine xC ?_|refine xE ?_|refine xD ?_|refine xK ?_|refine xS ?_|refine xM ?_|refine xT ?_|refine xF ?_|((first|refine xR ?_|refine xW ?_|refine gJ ?_);simp only[go_sem,Nat.reduceAdd,Nat.reduceLeDiff,Nat.reduceSub,Int.reduceToNat,reduceCtorEq,nN])|(refine⟨by first|omega|(intros;simp_all;done)|(intros;simp_all;omega),?_⟩;try simp only[go_sem,Nat.reduceAdd,Nat.reduceLeDiff,Nat.reduceSub,Int.reduceToNat,reduceCtorEq,nN]))
    refine AQ.q_ (by kernel_rfl) rfl rfl (fun h=>by first|(simp[gs,AV.g];done)|(simp[gs,AV.g,cg];done)|(simp[gs,AV.g,cg,bw]at h⊢;done)|(simp[gs,AV.g,cg,bw]at h⊢;exact h)|(simp[gs,AV.g,cg,bw]at h⊢;simp[h];done)|(simp[bw]at h;done)|(simp[gs,AV.g,bw]at h⊢;simp[h];done)|(simp[gs,AV.g,bw]at h⊢;exact h.1)|(simp[gs,AV.g];rfl)|(simp[gs,AV.g,bw]at h⊢;rfl)|(simp[gs,AV.g,bw]at h⊢;simp[h];rfl)|(simp[gs,AV.g,bw]at h⊢;simp_all)) rfl (fun _=>hit) rfl ?_
    refine sI ?_
    refine gO ?_
    refine AP.cond rfl rfl (fun h6=>?_) (fun h6=>?_)
    ·have a_:mz d=false:=by
      rw[<-e7]
      by_cases h7:9<d.length
      ·rw[decide_eq_true h7];rfl
      ·rw[decide_eq_false h7]
       have h8:¬Lib.itoa n=d:=fun e=>by rw[e]at h6;simp at h6;omega
       rw[show(Lib.itoa n==d)=false by simpa using h8];rfl
     rw[a_,if_neg (by decide)]at hV
     refine gO ?_
     refine xI ?_;refine sI ?_
     refine gO ?_
     refine AQ.fX 0 _ rfl (tv _ _) ?_
     refine sI ?_
     refine AQ.panic rfl ?_
     exact dA.out [1] rfl rfl ⟨by rw[hT,hV],rfl,rfl⟩
    ·have AD:mz d=true:=by
      rw[<-e7]
      have h7:¬9<d.length/\Lib.itoa n=d:=by simp at h6;exact⟨by omega,h6.2⟩
      rw[decide_eq_false h7.1,h7.2];simp
     have nZ:=ga AD
     rw[AD,if_pos rfl]at hV
     subst nZ
     refine gO ?_
     exact AE.a6 [1] rfl ⟨⟨rfl,Nat.le_of_ble_eq_true (by kernel_rfl)⟩,trivial⟩ rfl ⟨_,_,by rw[hT,hV],.inr ⟨rfl,rfl⟩,rfl⟩
theorem Bk (s:List UInt8) (hs:s.length<=1000000):∀(f i:Nat),i<=s.length->s.length<f+i->dJ Tryz.prog 159 [.ob 0 0] (iC s i) (RT s f i) (XT s f i)
 |0,i,hi,hf=>by omega
 |f+1,i,hi,hf=>aa8 s hs f i hi fun i' U h2=>QT s hs f i' h2 (by omega) fun f' YB h3 h4 h5=>Bk s hs f' YB h4 h5
termination_by f=>f
decreasing_by omega
theorem aaU (s:List UInt8) (hs:s.length<=1000000) (f i:Nat) (hi:i<=s.length) (hf:s.length<f+i):dJ Tryz.prog 158 [.ob 0 0] (iC s i) (RA s f i) (XA s f i):=
 QT s hs f i hi hf fun f' i' _ h4 h5=>Bk s hs f' i' h4 h5
def RL (s:List UInt8) (i:Nat) (r:AV) (H':aa):Prop:=∃l j,pL s i=some (l,j)/\r=ot l/\H'=iC s j
def XL (s:List UInt8) (i:Nat) (r:AV) (H':aa):Prop:=pL s i=none/\r=A4/\H'=Ex
theorem QU (s:List UInt8) (hs:s.length<=1000000) (i:Nat) (hi:i<=s.length):dJ Tryz.prog 82 [.ob 0 0] (iC s i) (RL s i) (XL s i):=by
 have hL:pL s i=_:=pL.eq_def s i
 have he:=sK s [126] i hi hs (by simp)
 refine dJ.walk [0,2,3,4,6,8,19,20,21,22,28,39] [2,4,6] Tryz.func82 rfl Tryz.ntmps82 (by kernel_rfl) (by rfl) rfl fun W own I0 ao lay=>?_
 refine gO ?_
 refine AQ.bW [(0,0)] (by kernel_rfl) rfl rfl rfl rfl rfl rfl (by exact⟨rfl,trivial⟩) rfl (he) ?_;rintro r H1 ⟨rfl,rfl⟩;refine⟨rfl,?_⟩;refine sH ?_
 refine gO ?_
 refine AP.cond rfl rfl (fun h=>?_) (fun h=>?_)
 ·have h:di s i [126]=true:=by simpa using h
  have hle:=sw h hi
  simp only[List.length_cons,List.length_nil]at hle
  rw[if_pos h]at hL
  rw[if_pos h]
  have hn:=PS s (i+1) (by omega) hs
  refine gO ?_
  refine AQ.oL [(0,0)] (by kernel_rfl) rfl rfl rfl rfl rfl rfl (by exact⟨rfl,trivial⟩) rfl (hn) ?_ ?_
  ·rintro r H' ⟨hp,rfl,rfl⟩
   rw[if_pos hp]at hL
   refine⟨rfl,?_⟩;refine sH ?_
   exact dA.out [1] rfl rfl ⟨hL,rfl,rfl⟩
  ·rintro r H' ⟨hp,rfl,rfl⟩
   rw[if_neg hp]at hL
   have gV:=A7 true (s.drop (i+1))
   rw[List.length_drop]at gV
   have en:=aaU s hs (s.length+1) (i+1+cY true (s.drop (i+1))) (by omega) (by omega)
   refine⟨rfl,?_⟩;refine sH ?_
   refine AQ.go (by kernel_rfl) ?_
   refine sI ?_
   refine gO ?_
   refine AQ.oL [(0,0)] (by kernel_rfl) rfl rfl rfl rfl rfl rfl (by exact⟨rfl,trivial⟩) rfl (en) ?_ ?_
   ·rintro r H' ⟨hp,rfl,rfl⟩
    rw[hp]at hL
    refine⟨rfl,?_⟩;refine sH ?_
    exact dA.out [1] rfl rfl ⟨hL,rfl,rfl⟩
   ·rintro r H' ⟨l,k,hp,rfl,rfl⟩
    rw[hp]at hL
    refine⟨rfl,?_⟩;refine sH ?_
    refine AQ.go (by kernel_rfl) ?_
    refine sI ?_
    refine gO ?_
    exact AE.a6 [1] rfl ⟨⟨rfl,Nat.le_of_ble_eq_true (by kernel_rfl)⟩,trivial⟩ rfl ⟨_,k,hL,rfl,rfl⟩
 ·have h:di s i [126]=false:=by simpa using h
  rw[h,if_neg (by decide)]at hL
  rw[h,if_neg (by decide)]
  have ht:=Bk s hs (s.length+1) i hi (by omega)
  refine gO ?_
  refine AQ.oL [(0,0)] (by kernel_rfl) rfl rfl rfl rfl rfl rfl (by exact⟨rfl,trivial⟩) rfl (ht) ?_ ?_
  ·rintro r H' ⟨hp,rfl,rfl⟩
   rw[hp]at hL
   refine⟨rfl,?_⟩;refine sH ?_
   exact dA.out [1] rfl rfl ⟨hL,rfl,rfl⟩
  ·rintro r H' ⟨t,j,hp,rfl,rfl⟩
   have rK:=tI hp
   rw[hp]at hL
   simp only at hL
   refine⟨rfl,?_⟩;refine sH ?_
   refine AQ.go (by kernel_rfl) ?_
   refine sI ?_
   refine gO ?_
   have lz:([[IV.v (Value.string (BA [32,61,32])),IV.v (Value.bool false)],[IV.v (Value.string (BA [32,33,61,32])),IV.v (Value.bool true)]]:List (List IV)).getD 0 []=[Si [32,61,32],Bi false]:=rfl
   have vm:([[IV.v (Value.string (BA [32,61,32])),IV.v (Value.bool false)],[IV.v (Value.string (BA [32,33,61,32])),IV.v (Value.bool true)]]:List (List IV)).getD 1 []=[Si [32,33,61,32],Bi true]:=rfl
   refine AP.loop rfl (α:=Nat) (fun k=>[(0,.ob 0 0),(2,.ob 1 0),(4,.ob 2 0),(19,.im (.sl 2 [[.v (.string (BA [32,61,32])),.v (.bool false)],[.v (.string (BA [32,33,61,32])),.v (.bool true)]])),(20,Iv 2),(21,Iv k)]) (fun _=>(2,.var 71 [Sv t.nm,Iv t.ix,.im (.sl 3 (aA t.xs))])::(1,.var 119 [Bv false,Sv [],ew])::iC s j) (fun k=>k<=2/\(0<k->di s j [32,61,32]=false)/\(1<k->di s j [32,33,61,32]=false)) (fun k=>2-k) 0 ⟨by omega,by omega,by omega⟩ (sU) rfl fun k ⟨hk,k1,k2⟩=>?_
   obtain rfl|rfl|rfl:k=0\/k=1\/k=2:=by omega
   ·have he:=sK s [32,61,32] j rK.2.2 hs (by simp)
    refine gE (an @lz (an @List.length_cons.{0} @List.length_nil.{0})) ?_
    refine AQ.fix 3 rfl rfl ?_
    refine sI ?_
    refine AQ.bW [(0,0)] (by kernel_rfl) rfl rfl rfl rfl rfl rfl (by exact⟨rfl,trivial⟩) rfl (he) ?_;rintro r H1 ⟨rfl,rfl⟩;refine⟨rfl,?_⟩;refine sH ?_
    refine gO ?_
    refine AP.cond rfl rfl (fun U=>?_) (fun U=>?_)
    ·have U:di s j [32,61,32]=true:=by simpa using U
     have hle:=sw U rK.2.2
     simp only[List.length_cons,List.length_nil]at hle
     rw[if_pos U]at hL
     rw[if_pos U]
     have it:=Bk s hs (s.length+1) (j+3) (by omega) (by omega)
     refine gO ?_
     refine AP.bQ 8 (Tree.node [] [0,1,2,3] [4] [Tree.node [0,1,2] [] [5] [Tree.node [0,1] [6] [7] [Tree.node [] [] [] []]]]) (by kernel_rfl) rfl (by kernel_rfl) (by kernel_rfl) ?_
     refine bO ?_
     refine sI ?_
     refine AQ.oL [(0,0)] (by kernel_rfl) rfl rfl rfl rfl rfl rfl (by exact⟨rfl,trivial⟩) rfl (it) ?_ ?_
     ·rintro r H' ⟨e8,rfl,rfl⟩
      rw[e8]at hL
      refine⟨rfl,?_⟩;refine sH ?_
      exact dA.Qr [2,1] rfl rfl rfl ⟨hL,rfl,rfl⟩
     ·rintro r H' ⟨u,k,e8,rfl,rfl⟩
      rw[e8]at hL
      refine⟨rfl,?_⟩;refine sH ?_
      refine AQ.nx rfl ?_
      refine sI ?_
      refine AQ.go (by kernel_rfl) ?_
      refine sI ?_
      refine AQ.nx rfl ?_
      refine sI ?_
      refine AQ.go (by kernel_rfl) ?_
      refine sI ?_
      refine AQ.nx rfl ?_
      refine sI ?_
      refine AQ.done ?_
      refine gO ?_
      exact AE.a6 [2,1] rfl ⟨⟨rfl,Nat.le_of_ble_eq_true (by kernel_rfl)⟩,trivial⟩ rfl ⟨_,k,hL,by simp only[ot,aA,jx];rfl,rfl⟩
    ·have U:di s j [32,61,32]=false:=by simpa using U
     rw[U,if_neg (by decide)]
     refine gO ?_
     exact AE.round 1 ⟨by omega,by omega⟩ (by omega) (sU) rfl
   ·have he:=sK s [32,33,61,32] j rK.2.2 hs (by simp)
    refine gE (an @vm (an @List.length_cons.{0} @List.length_nil.{0})) ?_
    refine AQ.fix 3 rfl rfl ?_
    refine sI ?_
    refine AQ.bW [(0,0)] (by kernel_rfl) rfl rfl rfl rfl rfl rfl (by exact⟨rfl,trivial⟩) rfl (he) ?_;rintro r H1 ⟨rfl,rfl⟩;refine⟨rfl,?_⟩;refine sH ?_
    refine gO ?_
    refine AP.cond rfl rfl (fun U=>?_) (fun U=>?_)
    ·have U:di s j [32,33,61,32]=true:=by simpa using U
     have hle:=sw U rK.2.2
     simp only[List.length_cons,List.length_nil]at hle
     rw[if_neg (by rw[k1 (by omega)];decide),if_pos U]at hL
     rw[if_pos U]
     have it:=Bk s hs (s.length+1) (j+4) (by omega) (by omega)
     refine gO ?_
     refine AP.bQ 8 (Tree.node [] [0,1,2,3] [4] [Tree.node [0,1,2] [] [5] [Tree.node [0,1] [6] [7] [Tree.node [] [] [] []]]]) (by kernel_rfl) rfl (by kernel_rfl) (by kernel_rfl) ?_
     refine bO ?_
     refine sI ?_
     refine AQ.oL [(0,0)] (by kernel_rfl) rfl rfl rfl rfl rfl rfl (by exact⟨rfl,trivial⟩) rfl (it) ?_ ?_
     ·rintro r H' ⟨e8,rfl,rfl⟩
      rw[e8]at hL
      refine⟨rfl,?_⟩;refine sH ?_
      exact dA.Qr [2,1] rfl rfl rfl ⟨hL,rfl,rfl⟩
     ·rintro r H' ⟨u,k,e8,rfl,rfl⟩
      rw[e8]at hL
      refine⟨rfl,?_⟩;refine sH ?_
      refine AQ.nx rfl ?_
      refine sI ?_
      refine AQ.go (by kernel_rfl) ?_
      refine sI ?_
      refine AQ.nx rfl ?_
      refine sI ?_
      refine AQ.go (by kernel_rfl) ?_
      refine sI ?_
      refine AQ.nx rfl ?_
      refine sI ?_
      refine AQ.done ?_
      refine gO ?_
      exact AE.a6 [2,1] rfl ⟨⟨rfl,Nat.le_of_ble_eq_true (by kernel_rfl)⟩,trivial⟩ rfl ⟨_,k,hL,by simp only[ot,aA,jx];rfl,rfl⟩
    ·have U:di s j [32,33,61,32]=false:=by simpa using U
     rw[U,if_neg (by decide)]
     refine gO ?_
     exact AE.round 2 ⟨by omega,fun _=>k1 (by omega)⟩ (by omega) (sU) rfl
   ·rw[if_neg (by rw[k1 (by omega)];decide),if_neg (by rw[k2 (by omega)];decide)]at hL
    refine gO ?_
    refine AP.cond rfl rfl (fun h3=>?_) (fun h3=>?_)
    ·rw[if_pos (by simpa using h3)]at hL
     refine gO ?_;refine xI ?_;refine sI ?_;refine gO ?_;refine AQ.fX 0 _ rfl (tv _ _) ?_;refine sI ?_;refine AQ.panic rfl ?_
     exact dA.out [2,1] rfl rfl ⟨hL,rfl,rfl⟩
    ·rw[if_neg (by simpa using h3)]at hL
     refine gO ?_
     exact AE.a6 [2,1] rfl ⟨⟨rfl,Nat.le_of_ble_eq_true (by kernel_rfl)⟩,trivial⟩ rfl ⟨_,j,hL,rfl,rfl⟩
abbrev r8 (a:AV) (e:Int):aa:=[(1,.var 30 [Iv e]),(0,.var 27 [a])]
theorem Jq (x:IV) (e:Int):oF Tryz.prog 81 [.ob 0 0,.ob 1 0] (r8 (.im x) e) none (fun H'=>H'=r8 (.im x) e):=by
 refine oF.walk [0,1,2,3,4,7,14] [3] Tryz.func81 rfl Tryz.ntmps81 ⟨rfl,rfl,rfl⟩ ⟨rfl,rfl,rfl⟩ rfl (by kernel_rfl) (by rfl) rfl fun W own I0 ao lay=>?_
 simp only[go_sem,Nat.reduceAdd,Nat.reduceLeDiff,Nat.reduceSub,Int.reduceToNat,reduceCtorEq,tM]
 refine gO ?_
 exact AE.QP [] (.inr rfl) rfl rfl trivial rfl rfl
theorem Qz (e:Int):oF Tryz.prog 81 [.ob 0 0,.ob 1 0] (r8 .top e) (some A4) (fun H'=>H'=r8 (.im (.sl 3 [])) 2):=by
 refine oF.walk [0,1,2,3,4,7,14] [3] Tryz.func81 rfl Tryz.ntmps81 ⟨rfl,rfl,rfl⟩ ⟨rfl,rfl,rfl⟩ rfl (by kernel_rfl) (by rfl) rfl fun W own I0 ao lay=>?_
 simp only[go_sem,Nat.reduceAdd,Nat.reduceLeDiff,Nat.reduceSub,Int.reduceToNat,reduceCtorEq,tM]
 refine gO ?_
 refine AQ.TU (by kernel_rfl) rfl rfl ?_;refine sI ?_
 refine gO ?_
 refine AE.fX 0 [.im (.sl 3 [])] rfl (bP.nil (bP.refl _)) ?_
 refine sI ?_
 exact AE.QP [2] (.inr rfl) rfl rfl trivial rfl rfl
def wk (s:List UInt8) (g j:Nat):Option (List Lt):=if di s j [32,124,32]then pS s g (j+3)else if j<s.length then none else some []
def vQ (a:List Lt):Option (List Lt)->Option (List Lt)
 |none=>none
 |some l=>some (a++l)
theorem Qv (s:List UInt8) (f i:Nat):pS s (f+1) i=match pL s i with
  |none=>none
  |some (l,j)=>vQ [l] (wk s f j):=by
 rw[pS]
 cases pL s i with
 |none=>rfl
 |some x=>
  obtain⟨l,j⟩:=x
  simp only[wk]
  split
  ·cases pS s f (j+3)<;>rfl
  ·split<;>rfl
def yl (s:List UInt8):Int:=if 40000<s.length then 15 else match pC s with
 |none=>2
 |some c=>ca 4 9 2 3 c
def tJ (s:List UInt8):List Lt:=if 40000<s.length then[]else match pC s with
 |none=>[]
 |some c=>if ca 4 9 2 3 c≠0 then[]else c
theorem dA.fX {C:Cx} {r:AV} {K:List PK} {E:Env} {H:aa} (b:Nat) (cs':List AV) {s:Sh} {cs:List AV} (hl:lk H b=some (.var s cs)) (hc:bP cs cs') (h:dA C r K E (aR H b (.var s cs'))):dA C r K E H:=by
 unfold dA at h⊢
 exact fun φ I a w v hs hd=>h _ _ _ _ _ ⟨hs.bF,hs.bC,hs.env,hs.st.fX hl hc⟩ hd
theorem O5 (a:AV):bP [a] [.top]:=fun w φ I us h=>by
 simp only[AV.ab,AV.den]at h⊢
 obtain⟨u1,sn,rfl,_,rfl⟩:=h
 exact⟨_,_,rfl,trivial,rfl⟩
theorem aaw (s:List UInt8) (hs:s.length<=1000000) (cG:∀c,pC s=some c->je c):dJ Tryz.prog 19 [Sv s] [] (fun r H'=>H'=[]/\r= .aI [cq (tJ s),Iv (yl s)]) (fun _ _=>False):=by
 have hE:yl s=_:=yl.eq_def s
 have hR:tJ s=_:=tJ.eq_def s
 refine dJ.acm [0,2,3,4,5,8,10,11,19,31,35] [2,3,4,14,17] Tryz.func19 rfl Tryz.ntmps19 (by kernel_rfl) (by rfl) rfl fun W own I0 ao lay=>?_
 refine gO ?_
 refine AP.cond rfl rfl (fun h=>?_) (fun h=>?_)
 ·rw[if_pos (by simp at h;omega)]at hE hR
  refine gO ?_
  refine AE.fX 0 [.im (.sl 3 [])] rfl (bP.nil (bP.refl _)) ?_
  refine sI ?_
  exact AE.O6 (.inl rfl) rfl<|LV.a6 [1,0] rfl ⟨⟨rfl,Nat.le_of_ble_eq_true (by kernel_rfl)⟩,⟨rfl,Nat.le_of_ble_eq_true (by kernel_rfl)⟩,trivial⟩ rfl ⟨rfl,by rw[hE,hR];rfl⟩
 rw[if_neg (by simp at h;omega)]at hE hR
 refine gO ?_
 refine AP.cond rfl rfl (fun U=>?_) (fun U=>?_)
 ·have U:s=[91,93]:=by simpa using U
  have hC:pC s=some []:=by rw[pC,if_pos U]
  rw[hC]at hE hR
  have e0:ca 4 9 2 3 []=0:=by decide
  simp only[e0]at hE hR
  refine gO ?_
  refine AE.fX 0 [.im (.sl 3 [])] rfl (bP.nil (bP.refl _)) ?_
  refine sI ?_
  exact AE.O6 (.inl rfl) rfl<|LV.a6 [1,0] rfl ⟨⟨rfl,Nat.le_of_ble_eq_true (by kernel_rfl)⟩,⟨rfl,Nat.le_of_ble_eq_true (by kernel_rfl)⟩,trivial⟩ rfl ⟨rfl,by rw[hE,hR];rfl⟩
 ·have U:¬s=[91,93]:=by simpa using U
  have hC:pC s=pS s (s.length+1) 0:=by rw[pC,if_neg U]
  rw[Qv]at hC
  refine sI ?_
  refine xA ?_
  refine AP.aaR rfl rfl ?_
  refine AQ.VA (by kernel_rfl) rfl rfl ?_ ?_
  ·simp only[go_sem]
   done
  refine sI ?_
  refine AQ.defer rfl rfl rfl fun u=>?_
  refine sI ?_
  refine gO ?_
  refine AQ.oL [(0,2)] (by kernel_rfl) rfl rfl rfl rfl rfl rfl (by exact⟨rfl,trivial⟩) rfl (QU s hs 0 (by omega)) ?_ ?_
  ·rintro r H' ⟨hp,rfl,rfl⟩
   rw[hp]at hC
   rw[hC]at hE hR
   simp only at hE hR
   refine⟨rfl,?_⟩;refine sH ?_
   refine dA.fX 0 _ rfl (O5 _) ?_
   refine sI ?_
   refine dA.xO [(1,1),(0,0)] (K':=[_]) (t:=11) (Hc:=r8 .top 0) rfl rfl rfl rfl rfl (by exact⟨rfl,rfl,trivial⟩) rfl (Qz _) rfl ?_ rfl
   rintro H1 rfl
   refine⟨rfl,?_⟩
   refine sH ?_
   exact LV.a6 [2,1,0] rfl ⟨⟨rfl,Nat.le_of_ble_eq_true (by kernel_rfl)⟩,⟨rfl,Nat.le_of_ble_eq_true (by kernel_rfl)⟩,trivial⟩ rfl ⟨rfl,by rw[hE,hR];rfl⟩
  ·rintro r H' ⟨x,j,hp,rfl,rfl⟩
   rw[hp]at hC
   simp only at hC
   refine⟨rfl,?_⟩;refine sH ?_
   refine AQ.go (by kernel_rfl) ?_
   refine sI ?_
   refine gO ?_
   have NA:=Qt hp
   have MZ:pC s=vQ [x] (wk s s.length j):=hC
   refine AP.loop rfl (α:=List Lt×Nat×Nat) (fun z=>[(0,Sv s),(2,.ob 0 0),(3,.ob 1 0),(4,.ob 2 0),(11,.wr (.exact u) (.fn 81 [] [.ob 0 0,.ob 1 0]))]) (fun z=>[(3,.vec 119 3 (dv z.1)),(2,.var 135 [Sv s,Iv z.2.1]),(1,.var 30 [Iv 0]),(0,.var 27 [.os 3 3 0 z.1.length])]) (fun z=>z.1.length<=z.2.1/\z.2.1<=s.length/\s.length<z.2.2+z.2.1/\pC s=vQ z.1 (wk s z.2.2 z.2.1)) (fun z=>s.length-z.2.1) ([x],j,s.length) ⟨by simp only[List.length_singleton];omega,by simp only;omega,by simp only;omega,MZ⟩ (sU) rfl fun⟨a,j,g⟩ ⟨z1,z2,z3,z4⟩=>?_
   simp only at z1 z2 z3 z4⊢
   clear hC MZ NA hp
   have he:=sK s [32,124,32] j z2 hs (by simp)
   rw[wk]at z4
   refine gO ?_
   refine AQ.bW [(0,2)] (by kernel_rfl) rfl rfl rfl rfl rfl rfl (by exact⟨rfl,trivial⟩) rfl he ?_
   rintro r H1 ⟨rfl,rfl⟩
   refine⟨rfl,?_⟩
   refine sH ?_
   refine gO ?_
   refine AP.cond rfl rfl (fun h2=>?_) (fun h2=>?_)
   ·have h2:di s j [32,124,32]=true:=by simpa using h2
    have hle:=sw h2 z2
    simp only[List.length_cons,List.length_nil]at hle
    obtain⟨g,rfl⟩:∃q,g=q+1:=⟨g-1,by omega⟩
    rw[if_pos h2,Qv]at z4
    rw[if_pos h2]
    refine gO ?_
    refine AP.bQ 6 (Tree.node [] [0,1] [2] [Tree.node [0] [] [3] [Tree.node [0] [] [4] [Tree.node [] [] [5] [Tree.node [] [] [] []]]]]) (by kernel_rfl) rfl (by kernel_rfl) (by kernel_rfl) ?_
    refine bO ?_
    refine sI ?_
    refine AQ.oL [(0,2)] (by kernel_rfl) rfl rfl rfl rfl rfl rfl (by exact⟨rfl,trivial⟩) rfl (QU s hs (j+3) (by omega)) ?_ ?_
    ·rintro r H' ⟨hp,rfl,rfl⟩
     rw[hp]at z4
     rw[z4]at hE hR
     simp only[vQ]at hE hR
     refine⟨rfl,?_⟩;refine sH ?_
     refine dA.draw [2,3,11] rfl (by kernel_rfl) ?_
     refine sI ?_
     refine dA.fX 0 _ rfl (O5 _) ?_
     refine sI ?_
     refine dA.xO [(1,1),(0,0)] (K':=[_,_,_,_]) (t:=11) (Hc:=r8 .top 0) rfl rfl rfl rfl rfl (by exact⟨rfl,rfl,trivial⟩) rfl (Qz _) rfl ?_ rfl
     rintro H1 rfl
     refine⟨rfl,?_⟩
     refine sH ?_
     exact LV.a6 [3,2,1,0] rfl ⟨⟨rfl,Nat.le_of_ble_eq_true (by kernel_rfl)⟩,⟨rfl,Nat.le_of_ble_eq_true (by kernel_rfl)⟩,trivial⟩ rfl ⟨rfl,by rw[hE,hR];rfl⟩
    ·rintro r H' ⟨y,k,hp,rfl,rfl⟩
     rw[hp]at z4
     simp only at z4
     have NA:=Qt hp
     refine⟨rfl,?_⟩;refine sH ?_
     refine AQ.nx rfl ?_
     refine sI ?_
     refine AQ.go (by kernel_rfl) ?_
     refine sI ?_
     refine AQ.nx rfl ?_
     refine sI ?_
     refine AQ.kill 3 ?_
     refine sI ?_
     refine AQ.append (hnb:=rfl) (rows:=dv a) (es:=2) (by kernel_rfl) rfl rfl rfl (by rfl) Tryz.JR Tryz.JL (by show Option.map _ (ax Tryz.prog 119)=_;rw[Tryz.Ke];rfl) Tryz.Fz (by first|rfl|(simp only[bp,List.length_cons,List.length_nil];done)|(simp only[bp,List.length_cons,List.length_nil];omega)) (by simp only[bp,List.length_cons,List.length_nil];omega) (by simp only[bp,List.length_cons,List.length_nil];omega) ?_
     refine sI ?_
     refine AQ.nx rfl ?_
     refine sI ?_
     refine AQ.go (by kernel_rfl) ?_
     refine sI ?_
     refine AQ.nx rfl ?_
     refine sI ?_
     refine AQ.done ?_
     refine gO ?_
     refine AE.round (a++[y],k,g) ⟨by simp only[List.length_append,List.length_singleton];omega,by simp only;omega,by simp only;omega,?_⟩ (by simp only;omega) (sU) ?_
     ·simp only
      rw[z4]
      cases wk s g k with
      |none=>rfl
      |some q=>simp[vQ]
     ·simp only[IU,List.length_append,List.length_singleton,bp]
   ·have h2:¬di s j [32,124,32]=true:=by simpa using h2
    rw[if_neg h2]at z4
    rw[if_neg h2]
    refine gO ?_
    refine AP.cond rfl rfl (fun h3=>?_) (fun h3=>?_)
    ·rw[if_pos (by simp at h3;omega)]at z4
     rw[z4]at hE hR
     simp only[vQ]at hE hR
     refine gO ?_
     refine AE.fX 0 [.im (.sl 3 [])] rfl (bP.nil (bP.refl _)) ?_
     refine sI ?_
     refine AE.xO [(1,1),(0,0)] (t:=11) (Hc:=r8 (.im (.sl 3 [])) 2) (.inl rfl) rfl rfl rfl rfl rfl (by exact⟨rfl,rfl,trivial⟩) rfl (Jq _ _) ?_
     rintro H1 rfl
     refine⟨rfl,?_⟩
     refine sH ?_
     exact LV.a6 [3,2,1,0] rfl ⟨⟨rfl,Nat.le_of_ble_eq_true (by kernel_rfl)⟩,⟨rfl,Nat.le_of_ble_eq_true (by kernel_rfl)⟩,trivial⟩ rfl ⟨rfl,by rw[hE,hR];rfl⟩
    ·rw[if_neg (by simp at h3;omega)]at z4
     rw[z4]at hE hR
     simp only[vQ,List.append_nil]at hE hR z4
     have wV:=cG a z4
     refine gO ?_
     refine AQ.freeze 3 (el:=119) (es:=3) (rows:=dv a) rfl (by simp only[go_sem,Nat.reduceAdd,Nat.reduceLeDiff,Nat.reduceSub,Int.reduceToNat,reduceCtorEq,bp];first|done|trivial|omega|(simp;done)|(simp;omega)) (by simp only[go_sem,Nat.reduceAdd,Nat.reduceLeDiff,Nat.reduceSub,Int.reduceToNat,reduceCtorEq,bp];first|done|trivial|omega|(simp;done)|(simp;omega)) ?_;simp only[go_sem,Nat.reduceAdd,Nat.reduceLeDiff,Nat.reduceSub,Int.reduceToNat,reduceCtorEq,bp]
     rw[List.take_of_length_le (by rw[bp];exact Nat.le_refl _)]
     refine AQ.fn (by kernel_rfl) rfl rfl rfl (y9 a wV) rfl ?_
     refine sI ?_
     refine gO ?_
     refine AP.cond rfl rfl (fun h4=>?_) (fun h4=>?_)
     ·have h4:ca 4 9 2 3 a≠0:=by simpa using h4
      rw[if_pos h4]at hR
      refine gO ?_
      refine AE.fX 0 [.im (.sl 3 [])] rfl (bP.nil (bP.refl _)) ?_
      refine sI ?_
      refine AE.xO [(1,1),(0,0)] (t:=11) (Hc:=r8 (.im (.sl 3 [])) (ca 4 9 2 3 a)) (.inl rfl) rfl rfl rfl rfl rfl (by exact⟨rfl,rfl,trivial⟩) rfl (Jq _ _) ?_
      rintro H1 rfl
      refine⟨rfl,?_⟩
      refine sH ?_
      exact LV.a6 [2,1,0] rfl ⟨⟨rfl,Nat.le_of_ble_eq_true (by kernel_rfl)⟩,⟨rfl,Nat.le_of_ble_eq_true (by kernel_rfl)⟩,trivial⟩ rfl ⟨rfl,by rw[hE,hR];rfl⟩
     ·have h4:¬ca 4 9 2 3 a≠0:=by simpa using h4
      have h5:ca 4 9 2 3 a=0:=by simpa using h4
      rw[if_neg h4]at hR
      refine gO ?_
      refine AE.xO [(1,1),(0,0)] (t:=11) (Hc:=r8 (.im (.sl 3 (dv a))) 0) (.inl rfl) rfl rfl rfl rfl rfl (by exact⟨rfl,rfl,trivial⟩) rfl (Jq _ _) ?_
      rintro H1 rfl
      refine⟨rfl,?_⟩
      refine sH ?_
      exact LV.a6 [2,1,0] rfl ⟨⟨rfl,Nat.le_of_ble_eq_true (by kernel_rfl)⟩,⟨rfl,Nat.le_of_ble_eq_true (by kernel_rfl)⟩,trivial⟩ rfl ⟨rfl,by rw[hE,hR,h5];rfl⟩
theorem JO {l:List UInt8} {n i:Nat} {s:List UInt8} (h:l=s.drop i) (hs:s.length<=1000000):(l.take n).length<=1000000000:=by
 rw[List.length_take,h,List.length_drop];omega
theorem yk (s:List UInt8) (hs:s.length<=1000000):∀f,(∀i t j,pT s f i=some (t,j)->aE t)/\(∀i l j,pR s f i=some (l,j)->b_ l/\l.length+i<=j)
 |0=>⟨fun i t j h=>(by rw[pT]at h;cases h),fun i l j h=>(by rw[pR]at h;cases h)⟩
 |f+1=>by
  obtain⟨OJ,OK⟩:=yk s hs f
  refine⟨fun i t j h=>?_,fun i l j h=>?_⟩
  ·rw[pT]at h
   split at h
   ·rw[pV]at h
    split at h
    ·cases h;rw[aE,b_];simp
    ·cases h
   ·split at h
    ·cases h
    ·split at h
     ·cases hq:pT s f (i+cY true (s.drop i)+1)with
      |none=>rw[hq]at h;cases h
      |some x=>
       obtain⟨t1,j1⟩:=x
       rw[hq]at h
       simp only at h
       cases hr:pR s f j1 with
       |none=>rw[hr]at h;cases h
       |some y=>
        obtain⟨l1,k1⟩:=y
        rw[hr]at h
        cases h
        have U:=OJ _ _ _ hq
        have h2:=OK _ _ _ hr
        have h3:=Jo hr
        rw[aE,b_]
        exact⟨JO rfl hs,by simp only[List.length_cons];omega,U,h2.1⟩
     ·cases h
      rw[aE,b_]
      exact⟨JO rfl hs,by simp,trivial⟩
  ·rw[pR]at h
   split at h
   ·cases hq:pT s f (i+2)with
    |none=>rw[hq]at h;cases h
    |some x=>
     obtain⟨t1,j1⟩:=x
     rw[hq]at h
     simp only at h
     cases hr:pR s f j1 with
     |none=>rw[hr]at h;cases h
     |some y=>
      obtain⟨l1,k1⟩:=y
      rw[hr]at h
      cases h
      have U:=OJ _ _ _ hq
      have h2:=OK _ _ _ hr
      have h3:=tI hq
      rw[b_]
      exact⟨⟨U,h2.1⟩,by simp only[List.length_cons];omega⟩
   ·split at h
    ·cases h;rw[b_];simp
    ·cases h
theorem aao {s:List UInt8} (hs:s.length<=1000000) {f i j:Nat} {l:List Tm} (h:pA s f i=some (l,j)):b_ l/\l.length<=1000000000:=by
 rw[pA]at h
 split at h
 ·cases hq:pT s f (i+1)with
  |none=>rw[hq]at h;cases h
  |some x=>
   obtain⟨t1,j1⟩:=x
   rw[hq]at h
   simp only at h
   cases hr:pR s f j1 with
   |none=>rw[hr]at h;cases h
   |some y=>
    obtain⟨l1,k1⟩:=y
    rw[hr]at h
    cases h
    have U:=(yk s hs f).1 _ _ _ hq
    have h2:=(yk s hs f).2 _ _ _ hr
    have h3:=Jo hr
    rw[b_]
    exact⟨⟨U,h2.1⟩,by simp only[List.length_cons];omega⟩
 ·cases h;rw[b_];simp
theorem aaq {s:List UInt8} (hs:s.length<=1000000) {i j:Nat} {x:Lt} (h:pL s i=some (x,j)):py x:=by
 rw[pL]at h
 split at h
 ·split at h
  ·cases h
  ·cases hq:pA s (s.length+1) (i+1+cY true (s.drop (i+1)))with
   |none=>rw[hq]at h;cases h
   |some y=>
    obtain⟨l1,k1⟩:=y
    rw[hq]at h
    cases h
    have:=aao hs hq
    exact⟨JO rfl hs,this.2,this.1⟩
 ·cases hq:pT s (s.length+1) i with
  |none=>rw[hq]at h;cases h
  |some y=>
   obtain⟨t1,k1⟩:=y
   rw[hq]at h
   simp only at h
   have U:=(yk s hs _).1 _ _ _ hq
   split at h
   ·cases hr:pT s (s.length+1) (k1+3)with
    |none=>rw[hr]at h;cases h
    |some z=>
     obtain⟨t2,k2⟩:=z
     rw[hr]at h
     cases h
     have h2:=(yk s hs _).1 _ _ _ hr
     exact⟨by simp,by simp,by rw[b_,b_,b_];exact⟨U,h2,trivial⟩⟩
   ·split at h
    ·cases hr:pT s (s.length+1) (k1+4)with
     |none=>rw[hr]at h;cases h
     |some z=>
      obtain⟨t2,k2⟩:=z
      rw[hr]at h
      cases h
      have h2:=(yk s hs _).1 _ _ _ hr
      exact⟨by simp,by simp,by rw[b_,b_,b_];exact⟨U,h2,trivial⟩⟩
    ·split at h
     ·cases h
     ·cases h
      have:=dN.1 U
      exact⟨this.1,this.2.1,this.2.2⟩
theorem Qu {s:List UInt8} (hs:s.length<=1000000):∀(f i:Nat) (c:List Lt),pS s f i=some c->c.length<=f/\∀l∈c,py l
 |0,i,c,h=>by rw[pS]at h;cases h
 |f+1,i,c,h=>by
  rw[pS]at h
  cases hq:pL s i with
  |none=>rw[hq]at h;cases h
  |some y=>
   obtain⟨x,j⟩:=y
   rw[hq]at h
   simp only at h
   have U:=aaq hs hq
   split at h
   ·cases hr:pS s f (j+3)with
    |none=>rw[hr]at h;cases h
    |some r=>
     rw[hr]at h
     cases h
     obtain⟨h2,h3⟩:=Qu hs f _ _ hr
     refine⟨by simp only[List.length_cons];omega,fun l hl=>?_⟩
     rcases List.mem_cons.1 hl with rfl|hl
     ·exact U
     ·exact h3 l hl
   ·split at h
    ·cases h
    ·cases h
     refine⟨by simp,fun l hl=>?_⟩
     rw[List.mem_singleton]at hl
     subst hl;exact U
theorem Qs {s:List UInt8} (hs:s.length<=1000000) {c:List Lt} (h:pC s=some c):je c:=by
 rw[pC]at h
 split at h
 ·cases h;exact⟨by simp,fun l hl=>by cases hl⟩
 ·obtain⟨U,h2⟩:=Qu hs _ _ _ h
  exact⟨by omega,h2⟩
theorem aat {s:List UInt8} (hs:s.length<=1000000):je (tJ s):=by
 have h0:je ([]:List Lt):=⟨by simp,fun l hl=>by cases hl⟩
 rw[tJ]
 split
 ·exact h0
 ·cases hq:pC s with
  |none=>exact h0
  |some c=>
   simp only
   split
   ·exact h0
   ·exact Qs hs hq
theorem aav (s:List UInt8) (hs:s.length<=1000000):aS Tryz.prog 19 [Sv s] (.aI [cq (tJ s),Iv (yl s)]):=
 (aaw s hs fun c h=>Qs hs h).toA fun _ _ h=>h
def yc (c:List Lt):List Lt:=if ca 4 9 2 3 c≠0 then[]else Ee c
theorem Z3 (N:Nat) (Ar:∀l:List Lt,l.length<=N->ai Tryz.prog 90 [.os 0 4 0 l.length,.fn 91 [] []] (gH l) (fun r H'=>r= .aI []/\H'=gH (dI [] l))) (c:List Lt) (hN:c.length<=N) (hs:je c):aS Tryz.prog 22 [cq c] (.aI [cq (yc c),Iv (ca 4 9 2 3 c)]):=by
 by_cases fh:ca 4 9 2 3 c=0
 ·rw[yc,if_neg (by simpa using fh),fh]
  exact Z4 N Ar c hN hs fh
 ·have hR:yc c=[]:=by rw[yc,if_pos fh]
  refine ai.aan ?_
  refine ai.walk [0,2,3,4,5,6,7,8,10,11,15,17,18,19,20,29,44,45,46,47] [7,10,11] Tryz.func22 rfl Tryz.ntmps22 (by kernel_rfl) (by rfl) rfl fun W own I0 ao lay=>?_
  refine gO ?_
  refine AQ.fn (by kernel_rfl) rfl rfl rfl (y9 c hs) rfl ?_
  refine sI ?_
  refine gO ?_
  refine AP.cond rfl rfl (fun h=>?_) (fun h=>?_)
  ·refine gO ?_
   exact AE.aG rfl ⟨rfl,rfl,trivial⟩ rfl ⟨rfl,.inr ⟨hR,rfl⟩⟩
  ·exact absurd (by simpa using h) fh
def wE:List UInt8:=[80,40,63,53,41,32,124,32,126,81,40,63,51,41,32,124,32,80,40,63,53,41]
def sL:List Lt:=[⟨false,[80],[.mk [] 5 []]⟩,⟨true,[81],[.mk [] 3 []]⟩,⟨false,[80],[.mk [] 5 []]⟩]
def oQ:List Lt:=[⟨false,[80],[.mk [] 0 []]⟩,⟨true,[81],[.mk [] 1 []]⟩]
def L8:List UInt8:=[80,40,63,48,41,32,124,32,126,81,40,63,49,41]
theorem Ma:pC wE=some sL:=by kernel_rfl
theorem CB:ca 4 9 2 3 sL=0:=by kernel_rfl
theorem U6:Ee sL=oQ:=by kernel_rfl
theorem L_:ca 4 9 2 3 oQ=0:=by kernel_rfl
theorem Lw {n:Nat} (h:n<10):Lib.itoa n=[UInt8.ofNat (48+n)]:=by
 rw[Lib.itoa,if_neg (by omega),Int.toNat_natCast,Lib.decDigits,dif_pos h]
theorem Mb:qH false oQ=L8:=by
 have h0:Lib.itoa 0=[48]:=Lw (n:=0) (by decide)
 have U:Lib.itoa 1=[49]:=Lw (n:=1) (by decide)
 simp only[oQ,qH,jX,kT,gl,fb,nw,h0,U]
 rfl
theorem U7:oN (.mk [102] 0 [.mk [] 0 []]) (.mk [] 0 [])=(1,0):=by kernel_rfl
theorem KK:aS Tryz.prog 12 [] (Bv true):=by
 have hS:wE.length<=40000:=by decide
 have hp:=aav wE (by decide)
 have N0:tJ wE=sL:=by rw[tJ,if_neg (by omega),Ma];simp only[CB];rfl
 have XG:yl wE=0:=by rw[yl,if_neg (by omega),Ma];exact CB
 rw[N0,XG]at hp
 have cG:je sL:=by have:=aat (s:=wE) (by decide);rw[N0]at this;exact this
 have hn:=Z3 20 abo sL (by decide) cG
 have Xm:yc sL=oQ:=by rw[yc,CB,if_neg (by decide),U6]
 rw[Xm,CB]at hn
 have CZ:je oQ:=⟨by decide,fun l hl=>by
  simp only[oQ,List.mem_cons,List.not_mem_nil,or_false]at hl
  rcases hl with rfl|rfl<;>exact⟨by decide,by decide,by simp[b_,aE]⟩⟩
 have ht:=abG oQ CZ
 have X8:Bz oQ=L8:=by rw[Bz,L_,if_neg (by decide),Mb,if_neg (by decide)]
 have X7:By oQ=0:=by rw[By,L_,if_neg (by decide),Mb,if_neg (by decide)]
 rw[X8,X7]at ht
 have qi:=Kh (.mk [102] 0 [.mk [] 0 []]) (.mk [] 0 []) (by simp[aE,b_]) (by simp[aE,b_])
 rw[U7]at qi
 have mU:aS Tryz.prog 37 [.agg [Sv [102],Iv 0,.im (.sl 3 [[Si [],Ii 0,.sl 3 []]])],.agg [Sv [],Iv 0,.im (.sl 3 [])]] (.aI [Iv 1,Iv 0]):=qi
 have ho:=mU.qT (xs:=[.agg [Sv [102],Iv 0,.im (.sl 3 [[Si [],Ii 0,.v (.slice none 0 0)]])],.agg [Sv [],Iv 0,ew]]) (by repeat' (first|with_reducible exact c6.refl _|with_reducible exact fK.refl _|exact fK.nil _|with_reducible exact bP.refl _|with_reducible exact mD.refl _|with_reducible exact mE.refl _|refine bP.k6 ?_ ?_|refine c6.agg ?_|refine c6.im ?_|refine fK.sl ?_|refine mE.cons ?_ ?_|refine mD.cons ?_ ?_))
 have bM:aS Tryz.prog 19 [Sv [80,40,63,53,41,32,124,32,126,81,40,63,51,41,32,124,32,80,40,63,53,41]] (.aI [cq sL,Iv 0]):=hp
 have s9:aS Tryz.prog 17 [cq oQ] (.aI [Sv [80,40,63,48,41,32,124,32,126,81,40,63,49,41],Iv 0]):=ht
 refine ai.walk [0,1,2,3,4,5,6,7,8] [] Tryz.func12 rfl Tryz.ntmps12 (by kernel_rfl) (by rfl) rfl fun W own I0 ao lay=>?_
 refine gO ?_
 refine AQ.fn (by kernel_rfl) rfl rfl rfl (bM) rfl ?_
 refine sI ?_
 refine gO ?_
 refine AQ.fn (by kernel_rfl) rfl rfl rfl (hn) rfl ?_
 refine sI ?_
 refine gO ?_
 refine AQ.fn (by kernel_rfl) rfl rfl rfl (s9) rfl ?_
 refine sI ?_
 refine gO ?_
 refine AQ.fn (by kernel_rfl) rfl rfl rfl (ho) rfl ?_
 refine sI ?_
 refine gO ?_
 exact AE.aG rfl ⟨rfl,trivial⟩ rfl ⟨rfl,rfl⟩
def IW (l:Lt):Prop:=l.pd.length<=9223372036854775807/\l.xs.length<=9223372036854775807/\oB l.xs
def zb (c:List Lt):Prop:=c.length<=9223372036854775807/\∀l∈c,IW l
theorem Ll {c:List Lt} {k:Nat} {l:Lt} (h:zb c) (hk:c[k]?=some l):IW l:=h.2 l (List.mem_of_getElem? hk)
theorem Rw (t:Tm) (m:Int) (hs:lT t) (hm:0<=m/\m<=1000000000):aS Tryz.prog 70 [aP t,Iv m] (Iv (ja t m)):=by
 have dD:=R5.1 hs
 refine ai.walk [0,1,2,4,5,7,9,10,11,12,17] [7] Tryz.func70 rfl Tryz.ntmps70 (by kernel_rfl) (by rfl) rfl fun W own I0 ao lay=>?_
 refine gE @aj ?_
 refine AP.loop rfl (α:=Nat) (fun k=>[(1,Iv m),(5,Iv (bq (t.xs.take k) m 1)),(9,.im (.sl 3 (aA t.xs))),(10,Iv t.xs.length),(11,Iv k)]) (fun _=>[]) (fun k=>k<=t.xs.length) (fun k=>t.xs.length-k) 0 (by omega) (by rw[List.take_zero,bq];exact(sU)) rfl fun k hk=>?_
 have hx:=dD.2.1
 have hb:=Bw (t.xs.take k) m 1 hm.1 (by omega) (by omega)
 rcases Nat.eq_or_lt_of_le hk with aC|ag
 ·subst aC
  rw[List.take_length]at hb⊢
  refine gO ?_
  refine cF ?_
  refine gO ?_
  exact AE.aG rfl ⟨rfl,trivial⟩ rfl ⟨rfl,by rw[JM];rfl⟩
 ·obtain⟨u,hu,aH⟩:=dh t.xs k ag
  have hw:=wr (x:=(k:Int)+1) (by omega)
  have bl:=EU hu m 1
  refine gO ?_
  refine cT ?_
  refine gE @aH ?_
  refine⟨by rw[aj];omega,?_⟩
  refine gO ?_
  refine AP.cond rfl rfl (fun U=>?_) (fun U=>?_)
  ·have U:m<bq (t.xs.take k) m 1:=by simpa using U
   refine gO ?_
   refine AE.a6 [0] rfl ⟨rfl,trivial⟩ rfl ⟨rfl,by rw[JM,JN k m 1 U];rfl⟩
  ·have U:¬m<bq (t.xs.take k) m 1:=by simpa using U
   rw[if_neg U]at bl
   generalize hn:bq (t.xs.take k) m 1=n at*
   have ha:=tU u (m-n) (by omega)
   have bT:=wr (x:=m-n) (by omega)
   have gi:=wr (x:=n+ja u (m-n)) (by omega)
   refine gE @bT ?_
   refine AQ.fn (by kernel_rfl) rfl rfl rfl (Rw u (m-n) (BD dD.2.2 hu) (by omega)) rfl ?_
   refine sI ?_
   refine gE (an @hw @gi) ?_
   refine AE.gQ [0] rfl ?_
   refine sI ?_
   exact AE.round (k+1) (by omega) (by omega) (by rw[bl];exact(sU)) rfl
termination_by SizeOf.sizeOf t
decreasing_by exact jW hu
theorem Z1 (c:List Lt) (m:Int) (hs:zb c) (hm:0<=m/\m<=1000000000):aS Tryz.prog 14 [cq c,Iv m] (Iv (rU c m)):=by
 have cG:=hs.1
 refine ai.walk [0,1,4,5,7,9,12,13,14,15,19,20,21,22,27] [7,9] Tryz.func14 rfl Tryz.ntmps14 (by kernel_rfl) (by rfl) rfl fun W own I0 ao lay=>?_
 refine gE @bp ?_
 refine AP.loop rfl (α:=Nat) (fun k=>[(1,Iv m),(5,Iv (bq ((c.take k).flatMap (·.xs)) m c.length)),(12,cq c),(13,Iv c.length),(14,Iv k)]) (fun _=>[]) (fun k=>k<=c.length) (fun k=>c.length-k) 0 (by omega) (by rw[List.take_zero,List.flatMap_nil,bq];exact(sU)) rfl fun k hk=>?_
 rcases Nat.eq_or_lt_of_le hk with aC|ag
 ·subst aC
  rw[List.take_length]
  refine gO ?_
  refine cF ?_
  refine gO ?_
  exact AE.aG rfl ⟨rfl,trivial⟩ rfl ⟨rfl,rfl⟩
 ·obtain⟨u,hu,aH⟩:=oq c k ag
  have hw:=wr (x:=(k:Int)+1) (by omega)
  have cS:=Ll hs hu
  have xp:=cS.2.1
  have fQ:=Bu ((c.take k).flatMap (·.xs)) m c.length hm.1 (by omega)
  have rz:=Mi hu
  have fD:=fun j=>Va (j:=j) hu m c.length
  obtain⟨n0,gU⟩:∃n0,bq ((c.take k).flatMap (·.xs)) m c.length=n0:=⟨_,rfl⟩
  rw[gU]at fQ fD⊢
  refine gO ?_
  refine cT ?_
  refine gE @aH ?_
  refine⟨by rw[bp];omega,?_⟩
  refine gE @aj ?_
  refine AP.loop rfl (α:=Nat) (fun j=>[(1,Iv m),(5,Iv (bq (u.xs.take j) m n0)),(12,cq c),(13,Iv c.length),(14,Iv k),(19,.im (.sl 3 (aA u.xs))),(20,Iv u.xs.length),(21,Iv j)]) (fun _=>[(0,.var 61 [Bv u.ng,Sv u.pd,.im (.sl 3 (aA u.xs))])]) (fun j=>j<=u.xs.length) (fun j=>u.xs.length-j) 0 (by omega) (by rw[List.take_zero,bq];exact(sU)) rfl fun j hj=>?_
  have hb:=Bu (u.xs.take j) m n0 hm.1 (by omega)
  rcases Nat.eq_or_lt_of_le hj with iS|mR
  ·subst iS
   rw[List.take_length]at hb⊢
   refine gO ?_
   refine cF ?_
   refine gE @hw ?_
   refine AE.gQ [0] rfl ?_
   refine sI ?_
   refine AE.round (k+1) (by omega) (by omega) (by rw[rz,v7,gU];exact(sU)) rfl
  ·obtain⟨v,hv,dV⟩:=dh u.xs j mR
   have gi:=wr (x:=(j:Int)+1) (by omega)
   have bl:=EU hv m n0
   refine gO ?_
   refine cT ?_
   refine gE @dV ?_
   refine⟨by rw[aj];omega,?_⟩
   refine gO ?_
   refine AP.cond rfl rfl (fun U=>?_) (fun U=>?_)
   ·have U:m<bq (u.xs.take j) m n0:=by simpa using U
    refine gO ?_
    refine AE.a6 [1,0] rfl ⟨rfl,trivial⟩ rfl ⟨rfl,by rw[rU,fD j U];rfl⟩
   ·have U:¬m<bq (u.xs.take j) m n0:=by simpa using U
    rw[if_neg U]at bl
    clear fD
    generalize hn:bq (u.xs.take j) m n0=n at*
    have ha:=tU v (m-n) (by omega)
    have HT:=wr (x:=m-n) (by omega)
    have HU:=wr (x:=n+ja v (m-n)) (by omega)
    refine gE @HT ?_
    refine AQ.fn (by kernel_rfl) rfl rfl rfl (Rw v (m-n) (BD cS.2.2 hv) (by omega)) rfl ?_
    refine sI ?_
    refine gE (an @gi @HU) ?_
    refine AE.gQ [1] rfl ?_
    refine sI ?_
    exact AE.round (j+1) (by omega) (by omega) (by rw[bl];exact(sU)) rfl
theorem YJ (l:List Tm) (hl:l.length<=9223372036854775807) (h:∀(k:Nat) (t:Tm),l[k]?=some t->ai Tryz.prog 67 [aP t,.ob 0 0] gD (fun r H'=>H'=gD/\r=Bv (jR t))):
  ai Tryz.prog 146 [.im (.sl 3 (aA l)),.fn 67 [] [.ob 0 0]] gD (fun r H'=>H'=gD/\r=Iv (fk jR l 0)):=by
 refine ai.walk [0,1,4,5,7,8,9,16] [] Tryz.func146 rfl Tryz.ntmps146 (by kernel_rfl) (by rfl) rfl fun W own I0 ao lay=>?_
 refine gE @aj ?_
 refine AP.loop rfl (α:=Nat) (fun k=>[(0,.im (.sl 3 (aA l))),(1,.fn 67 [] [.ob 0 0]),(7,Iv l.length),(8,Iv k)]) (fun _=>gD) (fun k=>k<=l.length/\fk jR l 0=fk jR (l.drop k) k) (fun k=>l.length-k) 0 ⟨by omega,rfl⟩ (sU) rfl fun k ⟨hk,hm⟩=>?_
 rcases Nat.eq_or_lt_of_le hk with aC|ag
 ·refine gO ?_
  refine cF ?_
  refine gO ?_
  exact AE.ret rfl ⟨rfl,trivial⟩ ⟨rfl,by rw[hm,aC,List.drop_length,fk];rfl⟩
 ·obtain⟨u,hu,aH⟩:=dh l k ag
  have hw:=wr (x:=(k:Int)+1) (by omega)
  have du:=DQ jR hu
  refine gO ?_
  refine cT ?_
  refine gE @aH ?_
  refine⟨by rw[aj];omega,?_⟩
  refine gO ?_
  refine AQ.y7 (by kernel_rfl) rfl rfl rfl (h k u hu) ?_
  refine sI ?_
  refine gO ?_
  refine AP.cond rfl rfl (fun U=>?_) (fun U=>?_)
  ·refine gO ?_
   exact AE.ret rfl ⟨rfl,trivial⟩ ⟨rfl,by rw[hm,du,if_pos (by simpa using U)];rfl⟩
  ·refine gE @hw ?_
   exact AE.round (k+1) ⟨by omega,by rw[hm,du,if_neg (by simpa using U)]⟩ (by omega) (sU) rfl
theorem KC (l:List Tm) (hl:l.length<=9223372036854775807) (h:∀(k:Nat) (t:Tm),l[k]?=some t->ai Tryz.prog 67 [aP t,.ob 0 0] gD (fun r H'=>H'=gD/\r=Bv (jR t))):
  ai Tryz.prog 68 [.im (.sl 3 (aA l)),.fn 67 [] [.ob 0 0]] gD (fun r H'=>H'=gD/\r=Bv (l.any jR)):=by
 refine ai.walk [0,1,4] [] Tryz.func68 rfl Tryz.ntmps68 (by kernel_rfl) (by rfl) rfl fun W own I0 ao lay=>?_
 refine gO ?_
 refine AQ.y7 (by kernel_rfl) rfl rfl rfl (YJ l hl h) ?_
 refine sI ?_
 refine gO ?_
 exact AE.ret rfl ⟨rfl,trivial⟩ ⟨rfl,by rw[<-DP jR l 0];rfl⟩
theorem Ps (t:Tm) (hs:lT t):ai Tryz.prog 67 [aP t,.ob 0 0] gD (fun r H'=>H'=gD/\r=Bv (jR t)):=by
 have dD:=R5.1 hs
 have ha:=KC t.xs dD.2.1 fun k u hu=>Ps u (BD dD.2.2 hu)
 refine ai.walk [0,1,2,3] [] Tryz.func67 rfl Tryz.ntmps67 (by kernel_rfl) (by rfl) rfl fun W own I0 ao lay=>?_
 refine gO ?_
 refine AQ.K8 (by kernel_rfl) rfl rfl rfl (fun h=>by first|(simp[gs,AV.g];done)|(simp[gs,AV.g,cg];done)|(simp[gs,AV.g,cg,bw]at h⊢;done)|(simp[gs,AV.g,cg,bw]at h⊢;exact h)|(simp[gs,AV.g,cg,bw]at h⊢;simp[h];done)|(simp[bw]at h;done)|(simp[gs,AV.g,bw]at h⊢;simp[h];done)|(simp[gs,AV.g,bw]at h⊢;exact h.1)|(simp[gs,AV.g];rfl)|(simp[gs,AV.g,bw]at h⊢;rfl)|(simp[gs,AV.g,bw]at h⊢;simp[h];rfl)|(simp[gs,AV.g,bw]at h⊢;simp_all)) (fun _=>ha) ?_
 refine sI ?_
 refine gO ?_
 exact AE.ret rfl ⟨rfl,trivial⟩ ⟨rfl,by rw[Zf,show decide (100<t.nm.length)=decide ((100:Int)<t.nm.length) from by rw[decide_eq_decide];omega];rfl⟩
termination_by SizeOf.sizeOf t
decreasing_by exact jW hu
theorem Zs (l:Lt) (hs:IW l):ai Tryz.prog 69 [ot l,.ob 0 0] gD (fun r H'=>H'=gD/\r=Bv (kQ l)):=by
 have ha:=KC l.xs hs.2.1 fun k u hu=>Ps u (BD hs.2.2 hu)
 refine ai.walk [0,1,2,3] [] Tryz.func69 rfl Tryz.ntmps69 (by kernel_rfl) (by rfl) rfl fun W own I0 ao lay=>?_
 refine gO ?_
 refine AQ.K8 (by kernel_rfl) rfl rfl rfl (fun h=>by first|(simp[gs,AV.g];done)|(simp[gs,AV.g,cg];done)|(simp[gs,AV.g,cg,bw]at h⊢;done)|(simp[gs,AV.g,cg,bw]at h⊢;exact h)|(simp[gs,AV.g,cg,bw]at h⊢;simp[h];done)|(simp[bw]at h;done)|(simp[gs,AV.g,bw]at h⊢;simp[h];done)|(simp[gs,AV.g,bw]at h⊢;exact h.1)|(simp[gs,AV.g];rfl)|(simp[gs,AV.g,bw]at h⊢;rfl)|(simp[gs,AV.g,bw]at h⊢;simp[h];rfl)|(simp[gs,AV.g,bw]at h⊢;simp_all)) (fun _=>ha) ?_
 refine sI ?_
 refine gO ?_
 exact AE.ret rfl ⟨rfl,trivial⟩ ⟨rfl,by rw[kQ,show decide (100<l.pd.length)=decide ((100:Int)<l.pd.length) from by rw[decide_eq_decide];omega];rfl⟩
theorem YH (l:List Lt) (hl:l.length<=9223372036854775807) (h:∀(k:Nat) (t:Lt),l[k]?=some t->ai Tryz.prog 69 [ot t,.ob 0 0] gD (fun r H'=>H'=gD/\r=Bv (kQ t))):
  ai Tryz.prog 118 [.im (.sl 3 (dv l)),.fn 69 [] [.ob 0 0]] gD (fun r H'=>H'=gD/\r=Iv (fk kQ l 0)):=by
 refine ai.walk [0,1,4,5,7,8,9,16] [] Tryz.func118 rfl Tryz.ntmps118 (by kernel_rfl) (by rfl) rfl fun W own I0 ao lay=>?_
 refine gE @bp ?_
 refine AP.loop rfl (α:=Nat) (fun k=>[(0,.im (.sl 3 (dv l))),(1,.fn 69 [] [.ob 0 0]),(7,Iv l.length),(8,Iv k)]) (fun _=>gD) (fun k=>k<=l.length/\fk kQ l 0=fk kQ (l.drop k) k) (fun k=>l.length-k) 0 ⟨by omega,rfl⟩ (sU) rfl fun k ⟨hk,hm⟩=>?_
 rcases Nat.eq_or_lt_of_le hk with aC|ag
 ·refine gO ?_
  refine cF ?_
  refine gO ?_
  exact AE.ret rfl ⟨rfl,trivial⟩ ⟨rfl,by rw[hm,aC,List.drop_length,fk];rfl⟩
 ·obtain⟨u,hu,aH⟩:=oq l k ag
  have hw:=wr (x:=(k:Int)+1) (by omega)
  have du:=DQ kQ hu
  refine gO ?_
  refine cT ?_
  refine gE @aH ?_
  refine⟨by rw[bp];omega,?_⟩
  refine gO ?_
  refine AQ.y7 (by kernel_rfl) rfl rfl rfl (h k u hu) ?_
  refine sI ?_
  refine gO ?_
  refine AP.cond rfl rfl (fun U=>?_) (fun U=>?_)
  ·refine gO ?_
   exact AE.ret rfl ⟨rfl,trivial⟩ ⟨rfl,by rw[hm,du,if_pos (by simpa using U)];rfl⟩
  ·refine gE @hw ?_
   exact AE.round (k+1) ⟨by omega,by rw[hm,du,if_neg (by simpa using U)]⟩ (by omega) (sU) rfl
theorem TN (l:List Lt) (hl:l.length<=9223372036854775807) (h:∀(k:Nat) (t:Lt),l[k]?=some t->ai Tryz.prog 69 [ot t,.ob 0 0] gD (fun r H'=>H'=gD/\r=Bv (kQ t))):
  ai Tryz.prog 46 [.im (.sl 3 (dv l)),.fn 69 [] [.ob 0 0]] gD (fun r H'=>H'=gD/\r=Bv (l.any kQ)):=by
 refine ai.walk [0,1,4] [] Tryz.func46 rfl Tryz.ntmps46 (by kernel_rfl) (by rfl) rfl fun W own I0 ao lay=>?_
 refine gO ?_
 refine AQ.y7 (by kernel_rfl) rfl rfl rfl (YH l hl h) ?_
 refine sI ?_
 refine gO ?_
 exact AE.ret rfl ⟨rfl,trivial⟩ ⟨rfl,by rw[<-DP kQ l 0];rfl⟩
theorem ZV (c:List Lt) (hs:zb c):aS Tryz.prog 11 [cq c] (Bv (!c.any kQ)):=by
 have ha:=TN c hs.1 fun k u hu=>Zs u (Ll hs hu)
 refine ai.walk [0,2,3] [3] Tryz.func11 rfl Tryz.ntmps11 (by kernel_rfl) (by rfl) rfl fun W own I0 ao lay=>?_
 refine gO ?_
 refine AQ.y7 (by kernel_rfl) rfl rfl rfl (ha) ?_
 refine sI ?_
 refine gO ?_
 exact AE.a6 [0] rfl ⟨rfl,trivial⟩ rfl ⟨rfl,rfl⟩
theorem Rz (c:List Lt) (m:Int) (hs:zb c) (hm:0<=m/\m<=1000000000):aS Tryz.prog 29 [cq c,Iv m] (Bv (decide (rU c m<=m)&&!c.any kQ)):=by
 refine ai.walk [0,1,4] [] Tryz.func29 rfl Tryz.ntmps29 (by kernel_rfl) (by rfl) rfl fun W own I0 ao lay=>?_
 refine gO ?_
 refine AQ.fn (by kernel_rfl) rfl rfl rfl (Z1 c m hs hm) rfl ?_
 refine sI ?_
 refine gO ?_
 refine AQ.q_ (by kernel_rfl) rfl rfl (fun h=>by first|(simp[gs,AV.g];done)|(simp[gs,AV.g,cg];done)|(simp[gs,AV.g,cg,bw]at h⊢;done)|(simp[gs,AV.g,cg,bw]at h⊢;exact h)|(simp[gs,AV.g,cg,bw]at h⊢;simp[h];done)|(simp[bw]at h;done)|(simp[gs,AV.g,bw]at h⊢;simp[h];done)|(simp[gs,AV.g,bw]at h⊢;exact h.1)|(simp[gs,AV.g];rfl)|(simp[gs,AV.g,bw]at h⊢;rfl)|(simp[gs,AV.g,bw]at h⊢;simp[h];rfl)|(simp[gs,AV.g,bw]at h⊢;simp_all)) rfl (fun _=>ZV c hs) rfl ?_
 refine sI ?_
 refine gO ?_
 exact AE.aG rfl ⟨rfl,trivial⟩ rfl ⟨rfl,rfl⟩
def pK (c:List Lt) (m:Int):Bool:=decide (rU c m<=m)&&!c.any kQ
mutual
theorem Ze:∀t:Tm,jR t=false->wT t<=1000000->aE t
 | .mk n i xs,h,hw=>by
  rw[jR,Bool.or_eq_false_iff,decide_eq_false_iff_not]at h
  rw[wT]at hw
  have:=J6 xs
  rw[aE]
  exact⟨by omega,by omega,IC xs h.2 (by omega)⟩
theorem IC:∀l:List Tm,xU l=false->aD l<=1000000->b_ l
 |[],_,_=>by rw[b_];trivial
 |t::l,h,hw=>by
  rw[xU,Bool.or_eq_false_iff]at h
  rw[aD]at hw
  rw[b_]
  exact⟨Ze t h.1 (by omega),IC l h.2 (by omega)⟩
end
theorem abk {c:List Lt} {m:Int} (hm:0<=m/\m<=1000000) (h:pK c m=true):je c/\(cO c:Int)<=m:=by
 rw[pK,Bool.and_eq_true,decide_eq_true_iff,Bool.not_eq_true']at h
 obtain⟨_,h2⟩:=PX c m hm.1
 have hn:(cO c:Int)<=m:=Int.not_lt.1 fun hc=>by have:=h2 hc;omega
 have hf:=I9 c
 refine⟨⟨by omega,fun l hl=>?_⟩,hn⟩
 have h3:kQ l=false:=by
  have:=h.2
  rw[List.any_eq_false]at this
  simpa using this l hl
 rw[kQ,Bool.or_eq_false_iff,decide_eq_false_iff_not]at h3
 have h4:=I_ c l hl
 rw[mu]at h4
 have h5:=J6 l.xs
 exact⟨by omega,by omega,IC l.xs (by rw[IE];exact h3.2) (by omega)⟩
end Go.Proofs.YtpfohmboflcneaaGreatDoor
end
section
namespace Go.Proofs.YtpfohmboflcneaaGreatDoor
open Go Go.AL Go.RowKit
set_option maxRecDepth 100000
theorem abW {P:Program} {n:Nat} {t e:TypeId} {xs:List IV} (ht:P.underlying t=some (.slice e)) (h:Typed P n t xs):∃rows m,n=m+1/\xs=[.sl (P.cellsOf e) rows]/\rows.length<=maxLen/\∀r∈rows,Typed P m e r:=by
 cases n with
 |zero=>exact h.elim
 |succ n=>
  simp only[Typed,ht]at h
  obtain⟨rows,U,h2,h3⟩:=h
  exact⟨rows,n,rfl,U,h2,h3⟩
theorem abY {P:Program} {n:Nat} {t:TypeId} {fs:Array Field} {xs:List IV} (ht:P.underlying t=some (.struct fs)) (h:Typed P n t xs):
  ∃m,n=m+1/\xs.length=P.cellsOf t/\∀(i:Nat) (f:Field),fs.toList[i]?=some f->Typed P m f.type ((xs.drop f.offset).take (P.cellsOf f.type)):=by
 cases n with
 |zero=>exact h.elim
 |succ n=>
  simp only[Typed,ht]at h
  exact⟨n,rfl,h⟩
theorem abA {n:Nat} {xs:List IV} (h:Typed Tryz.prog n 9 xs):∃l:List UInt8,xs=[Si l]/\l.length<=9223372036854775807:=by
 obtain⟨s,rfl,hs⟩:=abX Tryz.underlying9 h
 refine⟨s.data.toList,congrArg (fun x=>[IV.v (Value.string x)]) (Tb s),?_⟩
 have e:s.size=s.data.size:=rfl
 have e2:s.data.toList.length=s.data.size:=Array.length_toList
 unfold maxLen at hs
 omega
theorem R9:∀{l:List Tm},(∀t∈l,lT t)->oB l
 |[],_=>by rw[oB];trivial
 |t::l,h=>by rw[oB];exact⟨h t (List.mem_cons_self ..),R9 fun u hu=>h u (List.mem_cons_of_mem _ hu)⟩
theorem R6:∀(n:Nat) {xs:List IV},Typed Tryz.prog n 57 xs->∃t:Tm,xs=yC t/\lT t:=by
 intro n
 induction n using Nat.strongRecOn with
 |_ n ih=>
 intro xs h
 have hc:Tryz.prog.cellsOf 57=3:=by kernel_rfl
 have WC:Tryz.prog.cellsOf 9=1:=by kernel_rfl
 have WA:Tryz.prog.cellsOf 3=1:=by kernel_rfl
 have WB:Tryz.prog.cellsOf 55=1:=by kernel_rfl
 obtain⟨m,rfl,hlen,hf⟩:=abY Tryz.underlying57 h
 rw[hc]at hlen
 match xs,hlen with
 |[a,b,c],_=>
  have f0:=hf 0 _ rfl
  have f1:=hf 1 _ rfl
  have f2:=hf 2 _ rfl
  simp only[WC,WA,WB,List.drop_zero,List.take_succ_cons,List.take_zero,List.drop_succ_cons]at f0 f1 f2
  obtain⟨nm,e0,l0⟩:=abA f0
  obtain⟨ix,e1,_⟩:=abV Tryz.underlying3 f1
  obtain⟨rows,m',rfl,e2,hl,aH⟩:=abW Tryz.underlying55 f2
  obtain⟨l,rfl,hp⟩:=Q5 (p:=lT) (f:=yC) rows fun r hr=>ih m' (by omega) (aH r hr)
  cases e0;cases e1;cases e2
  rw[List.length_map]at hl
  unfold maxLen at hl
  exact⟨.mk nm ix l,by rw[yC,yD,hc],by rw[lT];exact⟨l0,by omega,R9 hp⟩⟩
theorem Vt:Tryz.prog.globalNamed "strconv.ErrSyntax" =some 1:=by kernel_rfl
theorem Vr:Tryz.prog.globalNamed "strconv.ErrRange" =some 2:=by kernel_rfl
theorem Vp:Tryz.prog.globalNamed "internal/strconv.uint64pow10" =some 3:=by kernel_rfl
theorem Vu:(Tryz.prog.globals[1]?).map (·.type)=some 236:=by kernel_rfl
theorem Vs:(Tryz.prog.globals[2]?).map (·.type)=some 236:=by kernel_rfl
theorem Vq:(Tryz.prog.globals[3]?).map (·.type)=some 350:=by kernel_rfl
theorem Q0 (u:TypeId) (h:Tryz.prog.typeName? 3 u=some "*errors.errorString"):u=346:=
 typeName_ptr_named (nm:= "errors.errorString") (by rw[show "*" ++ "errors.errorString" = "*errors.errorString" by decide];kernel_rfl) (by kernel_rfl) (by decide) u (by rw[show "*" ++ "errors.errorString" = "*errors.errorString" by decide];exact h)
theorem J1 {P:Program} {W:World} {n:String} {g:Nat} {cs:Array Value} (hg:P.globalNamed n=some g) (h:W.var? P n=some cs):g<W.heap.size/\∃T fz,W.heap[g]?=some (.cells cs T fz):=by
 unfold World.var? at h
 rw[hg,Option.bind_some]at h
 split at h
 ·rename_i cs' T fz hh
  cases h
  refine⟨?_,T,fz,hh⟩
  rcases Nat.lt_or_ge g W.heap.size with h'|h'
  ·exact h'
  ·rw[Array.getElem?_eq_none h']at hh;cases hh
 ·cases h
theorem ace {W:World} (cX:W.ShapedOpen Tryz.prog) (h:laidMet Tryz.prog [("math/bits.deBruijn32tab",Rows.laid_math_bits_deBruijn32tab),("math/bits.deBruijn64tab",Rows.laid_math_bits_deBruijn64tab),("internal/strconv.uint64pow10",Rows.laid_internal_strconv_uint64pow10),("strconv.ErrRange",Rows.laid_strconv_ErrRange),("strconv.ErrSyntax",Rows.laid_strconv_ErrSyntax)] W):
  VK Tryz.prog W (fun g=>g<W.heap.size):=by
 have h3:=h.tail.tail
 have h4:=h3.tail
 have h5:=h4.tail
 intro x hx g hg
 simp only[vA,List.mem_cons,List.not_mem_nil,or_false]at hx
 rcases hx with rfl|rfl|rfl|rfl
 ·obtain⟨a,s,hv,_⟩:=laid_sentinel h5 Vt Vu Tryz.underlying236 Q0 Tryz.underlying346 Tryz.underlying348 rfl rfl Tryz.underlying9 (by kernel_rfl) (by kernel_rfl)
  obtain⟨U,T,fz,h2⟩:=J1 hg hv
  exact⟨U,_,h2,_,_,T,fz,rfl⟩
 ·obtain⟨a,s,hv,_⟩:=laid_sentinel h4 Vr Vs Tryz.underlying236 Q0 Tryz.underlying346 Tryz.underlying348 rfl rfl Tryz.underlying9 (by kernel_rfl) (by kernel_rfl)
  obtain⟨U,T,fz,h2⟩:=J1 hg hv
  exact⟨U,_,h2,_,_,T,fz,rfl⟩
 ·have ht:Lib.TabIs Tryz.prog W "internal/strconv.uint64pow10" .u64 Lib.pow10Tab:=Lib.tabIs_of_head (rest:=_) Vp Vq Tryz.underlying350 Tryz.underlying314 (by kernel_rfl) (by kernel_rfl) h3
  obtain⟨U,T,fz,h2⟩:=J1 hg ht
  exact⟨U,_,h2,T,fz,rfl⟩
 ·have e:g=0:=by rw[show Tryz.prog.globalNamed "internal/bytealg.MaxLen" =some 0 by kernel_rfl]at hg;exact(Option.some.inj hg).symm
  subst e
  obtain⟨m,hm⟩:=cell_of_shapedOpen_int (k:= .i64) (g:=0) (t:=3) (zero:=#[.int .i64 0]) cX (of_decide_eq_true (by kernel_rfl)) (by kernel_rfl) rfl (by kernel_rfl) (by kernel_rfl) Tryz.underlying3
  cases hh:W.heap[0]? with
  |none=>simp[World.cell?,hh]at hm
  |some o=>cases o with
   |cells cs T fz=>exact⟨(Array.getElem?_eq_some_iff.1 hh).1,_,rfl,m,cs,T,fz,rfl,by simpa[World.cell?,hh]using hm⟩
   |_=>simp[World.cell?,hh]at hm
def abB:ByteArray:={data:=#[105,110,118,97,108,105,100,32,115,121,110,116,97,120]}
def aaW:ByteArray:={data:=#[118,97,108,117,101,32,111,117,116,32,111,102,32,114,97,110,103,101]}
noncomputable def low:Nat:=(World.holding Tryz.prog default ⟨#[],#[],[]⟩).heap.size
def IF (d:DataW Unit):Array Value:=match d with
 | .agg l=>(l.map fun x=>match x with
  | .lit (.int k z)=>Value.int k z
  |_=> .nilIface).toArray
 |_=>#[]
def putCells (cs:Array Value):Obj->Obj
 | .cells _ t frozen=> .cells cs t frozen
 |o=>o
noncomputable def IB (os:Os):World:=
 let w0:=World.holding Tryz.prog os ⟨#[.cells #[.string abB] 348,.cells #[.string aaW] 348],#[],[]⟩
 {w0 with heap:=((((w0.heap.modify 1 (putCells #[.iface 346 (.pointer (some ⟨low,0,none⟩))])).modify 2 (putCells #[.iface 346 (.pointer (some ⟨low+1,0,none⟩))])).modify 3 (putCells (IF Rows.laid_internal_strconv_uint64pow10))).modify 4 (putCells (IF Rows.laid_math_bits_deBruijn32tab))).modify 5 (putCells (IF Rows.laid_math_bits_deBruijn64tab))}
end Go.Proofs.YtpfohmboflcneaaGreatDoor
end
section
namespace Go.Proofs.YtpfohmboflcneaaGreatDoor
open Go Go.AL Go.RowKit
set_option maxRecDepth 10000
set_option maxHeartbeats 4000000



theorem sgV (t:Tm):cq (b6 t)= .im (.sl 3 [[Bi false,Si [80],.sl 3 [[Si t.nm,Ii t.ix,.sl 3 (aA t.xs)]]]]):=by
 rw[cq,dv,b6,List.map_cons,List.map_nil,qw]
 simp only[aA,jx]
theorem Rp {t:Tm} (hs:lT t):zb (b6 t):=⟨by simp[b6],fun l hl=>by
 rw[b6,List.mem_singleton]at hl
 subst hl
 exact⟨by simp,by simp,by rw[oB,oB];exact⟨hs,trivial⟩⟩⟩
theorem aau (s t:Tm) (hs:lT s) (ht:lT t):aS Tryz.prog 35 [aP s,aP t] (Bv (pK (b6 s) 51&&pK (b6 t) 51)):=by
 have U:=Rz (b6 s) 51 (Rp hs) (by omega)
 have h2:=Rz (b6 t) 51 (Rp ht) (by omega)
 rw[sgV]at U h2
 have e1:(decide (rU (b6 s) 51<=51)&&!(b6 s).any kQ)=pK (b6 s) 51:=rfl
 rw[e1]at U
 cases hb:pK (b6 s) 51 with
 |true=>
  rw[hb]at U
  refine ai.walk [0,1,2,3,4] [] Tryz.func35 rfl Tryz.ntmps35 (by kernel_rfl) (by rfl) rfl fun W own I0 ao lay=>?_
  refine gO ?_
  refine AQ.fn (by kernel_rfl) rfl rfl rfl (U) rfl ?_
  refine sI ?_
  refine gO ?_
  refine AQ.Qp ?_
  refine AQ.nQ (by simp only[go_sem]) ?_
  refine sI ?_
  refine AQ.go (by kernel_rfl) ?_
  refine sI ?_
  refine AQ.Qp ?_
  refine AQ.nQ (by simp only[go_sem]) ?_
  refine sI ?_
  refine AQ.go (by kernel_rfl) ?_
  refine sI ?_
  refine AQ.nQ (by simp only[go_sem]) ?_
  refine sI ?_
  refine AQ.fn (by kernel_rfl) rfl rfl rfl (h2) rfl ?_
  refine sI ?_
  refine gO ?_
  exact AE.aG rfl ⟨rfl,trivial⟩ rfl ⟨rfl,rfl⟩
 |false=>
  rw[hb]at U
  refine ai.walk [0,1,2,3,4] [] Tryz.func35 rfl Tryz.ntmps35 (by kernel_rfl) (by rfl) rfl fun W own I0 ao lay=>?_
  refine gO ?_
  refine AQ.fn (by kernel_rfl) rfl rfl rfl (U) rfl ?_
  refine sI ?_
  refine gO ?_
  exact AE.aG rfl ⟨rfl,trivial⟩ rfl ⟨rfl,rfl⟩
def cj (l:List Int):List (List IV):=l.map fun v=>[Ii v]
theorem cI (l:List Int):(cj l).length=l.length:=by simp[cj]
theorem Ic (l:List Int) (j:Nat) (h:j<l.length):(cj l).getD j []=[Ii (l.getD j 0)]:=by
 simp[cj,List.getD_eq_getElem?_getD,h]
theorem vx (l m:List Int):cj l++cj m=cj (l++m):=by simp[cj]
theorem vy (s:Int):[[Ii s]]=cj [s]:=rfl
theorem YE (l:List Int) (n:Nat) (h:l.length<=n):(cj l).take n=cj l:=List.take_of_length_le (by rw[cI];exact h)
def mc (s:Int) (l:List Int):Bool:=l.any fun x=>x==s
mutual
def lW (l:List Int):Tm->List Int
 | .mk n i xs=>if n=[]then(if mc i l then l else l++[i])else hY l xs
def hY (l:List Int):List Tm->List Int
 |[]=>l
 |t::r=>hY (lW l t) r
end
theorem Sx (l:List Int) (t:Tm):lW l t=if t.nm=[]then(if mc t.ix l then l else l++[t.ix])else hY l t.xs:=by cases t;rw[lW];rfl
mutual
theorem Sy:∀(t:Tm) (l:List Int),l.length<=(lW l t).length/\(lW l t).length<=l.length+wT t
 | .mk n i xs,l=>by
  have:=JZ xs l
  rw[lW,wT]
  split
  ·split<;>simp
  ·omega
theorem JZ:∀(r:List Tm) (l:List Int),l.length<=(hY l r).length/\(hY l r).length<=l.length+aD r
 |[],l=>by rw[hY,aD];omega
 |t::r,l=>by
  have U:=Sy t l
  have h2:=JZ r (lW l t)
  rw[hY,aD];omega
end
theorem Sz (t:Tm):∀(r:List Tm) (l:List Int),hY l (r++[t])=lW (hY l r) t
 |[],l=>by rw[List.nil_append,hY,hY,hY]
 |a::r,l=>by rw[List.cons_append,hY,hY,Sz t r]
theorem SC (x:Tm) (l:List Int) (hx:aE x) (hl:l.length+wT x<=1000000):aS Tryz.prog 40 [aP x,.im (.sl 1 (cj l))] (.im (.sl 1 (cj (lW l x)))):=by
 have kG:=dN.1 hx
 have hv:=Sx l x
 refine ai.walk [0,1,2,4,5,6,9,13,22,35] [] Tryz.func40 rfl Tryz.ntmps40 (by kernel_rfl) (by rfl) rfl fun W own I0 ao lay=>?_
 refine gO ?_
 refine AP.cond rfl rfl (fun hn=>?_) (fun hn=>?_)
 ·have hn:x.nm=[]:=by simpa[ua]using hn
  rw[if_pos hn]at hv
  have hm:∀v,v=mc x.ix l->mc x.ix l=mc x.ix (l.drop 0):=fun _ _=>rfl
  refine gO ?_
  refine AP.loop rfl (α:=Nat) (fun k=>[(1,.im (.sl 1 (cj l))),(2,.im (g_ x)),(5,Iv k)]) (fun _=>[]) (fun k=>k<=l.length/\mc x.ix l=mc x.ix (l.drop k)) (fun k=>l.length-k) 0 ⟨by omega,rfl⟩ (sU) rfl fun k ⟨hk,hm⟩=>?_
  rcases Nat.eq_or_lt_of_le hk with aC|ag
  ·rw[aC,List.drop_length]at hm
   have hm:mc x.ix l=false:=hm
   rw[hm,if_neg (by simp)]at hv
   rw[hv]
   refine gE @cI ?_
   refine cF ?_
   refine gO ?_
   refine AP.bQ 8 (Tree.node [] [1,3,4] [0,5] [Tree.node [1,3,4] [] [2,5] [Tree.node [3,4] [] [5] [Tree.node [] [] [6] [Tree.node [] [7] [] []]],Tree.node [1] [] [2] [Tree.node [] [] [6] [Tree.node [] [7] [] []]]],Tree.node [1] [] [0] [Tree.node [1] [] [2] [Tree.node [] [] [6] [Tree.node [] [7] [] []]]]]) (by kernel_rfl) rfl (by kernel_rfl) (by kernel_rfl) ?_
   refine bO ?_
   refine sI ?_
   repeat' (first|with_reducible exact True.intro|with_reducible refine And.intro (by omega) ?_|with_reducible refine And.intro ?_ ?_|(refine AQ.nx rfl ?_;refine sE (an @cI (an @vx (an @vy (an @List.nil_append.{0} @List.length_append.{0})))) ?_)|(refine AQ.append (hnb:=rfl) (rows:=[]) (es:=0) (by kernel_rfl) rfl rfl rfl (by rfl) Tryz.BB Tryz.Bt (by show Option.map _ (ax Tryz.prog 3)=_;rw[Tryz.BN];rfl) Tryz.y4 (by first|rfl|(simp only[cI,List.length_cons,List.length_nil];done)|(simp only[cI,List.length_cons,List.length_nil];omega)) (by simp only[cI,List.length_cons,List.length_nil];omega) (by simp only[cI,List.length_cons,List.length_nil];omega) ?_;refine sE (an @List.nil_append.{0} @cI) ?_)|(refine AQ.append (hnb:=rfl) (rows:=cj l) (es:=0) (by kernel_rfl) rfl rfl rfl (by rfl) Tryz.BB Tryz.Bt (by show Option.map _ (ax Tryz.prog 3)=_;rw[Tryz.BN];rfl) Tryz.y4 (by first|rfl|(simp only[cI,List.length_cons,List.length_nil];done)|(simp only[cI,List.length_cons,List.length_nil];omega)) (by simp only[cI,List.length_cons,List.length_nil];omega) (by simp only[cI,List.length_cons,List.length_nil];omega) ?_;refine sE (an @vx (an @vy (an @cI @List.length_append.{0}))) ?_)|refine AQ.done ?_|(refine AQ.go (by kernel_rfl) ?_;refine sE (an @cI (an @vx (an @vy (an @List.nil_append.{0} @List.length_append.{0})))) ?_;repeat(with_reducible refine And.intro (by omega) ?_);refine AQ.nx rfl ?_;refine sE (an @cI (an @vx (an @vy (an @List.nil_append.{0} @List.length_append.{0})))) ?_))
   all_goals refine gO ?_
   all_goals refine AE.freeze 0 (el:=3) (es:=1) (rows:=cj (l++[x.ix])) rfl (by simp only[go_sem,Nat.reduceAdd,Nat.reduceLeDiff,Nat.reduceSub,Int.reduceToNat,reduceCtorEq,cI,List.length_append];first|done|trivial|omega|(simp;done)|(simp;omega)) (by simp only[go_sem,Nat.reduceAdd,Nat.reduceLeDiff,Nat.reduceSub,Int.reduceToNat,reduceCtorEq,cI,List.length_append];first|done|trivial|omega|(simp;done)|(simp;omega)) ?_;simp only[go_sem,Nat.reduceAdd,Nat.reduceLeDiff,Nat.reduceSub,Int.reduceToNat,reduceCtorEq,cI,List.length_append]
   all_goals exact AE.aG rfl ⟨rfl,trivial⟩ rfl ⟨rfl,by rw[YE _ _ (by simp)];rfl⟩
  ·have hd:l.drop k=l.getD k 0::l.drop (k+1):=by
    rw[List.drop_eq_getElem_cons ag,List.getD_eq_getElem?_getD,List.getElem?_eq_getElem ag];rfl
   have hg:=Ic l k ag
   have hm:mc x.ix l=(l.getD k 0==x.ix||mc x.ix (l.drop (k+1))):=by rw[hm,hd];rfl
   clear hd
   have hw:=wr (x:=(k:Int)+1) (by omega)
   refine gE @cI ?_
   refine cT ?_
   refine gE @hg ?_
   refine⟨by rw[cI];omega,?_⟩
   refine gO ?_
   refine AP.cond rfl rfl (fun h5=>?_) (fun h5=>?_)
   ·rw[h5,Bool.true_or]at hm
    rw[hm,if_pos rfl]at hv
    refine gO ?_
    exact AE.aG rfl ⟨rfl,trivial⟩ rfl ⟨rfl,by rw[hv];rfl⟩
   ·rw[h5,Bool.false_or]at hm
    refine gE @hw ?_
    exact AE.round (k+1) ⟨by omega,hm⟩ (by omega) (sU) rfl
 ·have hn:¬x.nm=[]:=by simpa[ua]using hn
  rw[if_neg hn]at hv
  have te:=nB x
  refine gO ?_
  refine AP.loop rfl (α:=Nat) (fun k=>[(1,.im (.sl 1 (cj (hY l (x.xs.take k))))),(2,.im (g_ x)),(6,Iv k)]) (fun _=>[]) (fun k=>k<=x.xs.length) (fun k=>x.xs.length-k) 0 (by omega) (sU) rfl fun k hk=>?_
  rcases Nat.eq_or_lt_of_le hk with aC|ag
  ·subst aC
   rw[List.take_length]
   refine gE @aj ?_
   refine cF ?_
   refine gO ?_
   exact AE.aG rfl ⟨rfl,trivial⟩ rfl ⟨rfl,by rw[hv];rfl⟩
  ·obtain⟨u,hu,aH⟩:=dh x.xs k ag
   have hw:=wr (x:=(k:Int)+1) (by omega)
   have bl:hY l (x.xs.take (k+1))=lW (hY l (x.xs.take k)) u:=by rw[dE hu,Sz]
   have hq:aD (x.xs.take k)+wT u<=aD x.xs:=by
    have e:x.xs.take (k+1)=x.xs.take k++[u]:=dE hu
    have:=E8 x.xs (k+1)
    rw[e,yK,aD,aD]at this
    omega
   have aT:=(JZ (x.xs.take k) l).2
   have ih:=SC u (hY l (x.xs.take k)) (dc kG.2.2 hu) (by omega)
   refine gE @aj ?_
   refine cT ?_
   refine gE @aH ?_
   refine⟨by rw[aj];omega,?_⟩
   refine AQ.fn (by kernel_rfl) rfl rfl rfl (ih) rfl ?_
   refine sI ?_
   rw[<-bl]
   refine gE @hw ?_
   exact AE.round (k+1) (by omega) (by omega) (sU) rfl
termination_by wT x
decreasing_by
 have:=qJ x.xs u (List.mem_of_getElem? hu)
 omega
theorem Wu {v:Int} {l:List Int}:mc v l=true↔v∈l:=by
 rw[mc,List.any_eq_true]
 constructor
 ·rintro⟨x,h,e⟩;exact(by simpa using e:x=v)▸h
 ·exact fun h=>⟨v,h,by simp⟩
mutual
theorem ab8:∀(t:Tm) (l:List Int),bS t=true->∀v,v∈lW l t↔v∈l\/v∈bJ t
 | .mk n i xs,l,h,v=>by
  rw[bS]at h
  rw[lW,bJ]
  by_cases hn:n=[]
  ·rw[if_pos hn]at h⊢
   rw[if_pos hn]
   simp only[Bool.and_eq_true,List.isEmpty_iff]at h
   rw[h.1,aW,List.append_nil]
   by_cases hi:mc i l=true
   ·rw[if_pos hi]
    have:=Wu.1 hi
    constructor
    ·exact .inl
    ·rintro(k|k)
     ·exact k
     ·rw[List.mem_singleton.1 k];exact this
   ·rw[if_neg hi,List.mem_append]
  ·rw[if_neg hn]at h⊢
   rw[if_neg hn,List.nil_append]
   simp only[Bool.and_eq_true]at h
   exact J0 xs l h.2 v
theorem J0:∀(r:List Tm) (l:List Int),dM r=true->∀v,v∈hY l r↔v∈l\/v∈aW r
 |[],l,_,v=>by rw[hY,aW];simp
 |t::r,l,h,v=>by
  rw[dM,Bool.and_eq_true]at h
  rw[hY,aW,J0 r _ h.2,ab8 t l h.1,List.mem_append,or_assoc]
end
def okW (t:Tm):Prop:=dM t.xs=true/\(t.nm=[]->t.xs=[])
theorem SA {t:Tm} (h:okW t) (v:Int):v∈lW [] t↔v∈bJ t:=by
 rw[Sx,BH]
 by_cases hn:t.nm=[]
 ·rw[if_pos hn,if_pos hn,h.2 hn,aW,List.append_nil]
  have:mc t.ix []=false:=rfl
  rw[this];simp
 ·rw[if_neg hn,if_neg hn,J0 t.xs [] h.1];simp
theorem UR {s t:Tm} (h:okW t):qZ s t=(lW [] t).all fun v=>decide ((bJ t).count v<=(bJ s).count v):=by
 rw[qZ,Bool.eq_iff_iff,List.all_eq_true,List.all_eq_true]
 constructor
 ·exact fun k v hv=>k v ((SA h v).1 hv)
 ·exact fun k v hv=>k v ((SA h v).2 hv)
theorem aci {l:List Tm} {k:Nat} {u:Tm} (h:l[k]?=some u):aW (l.take (k+1))=aW (l.take k)++bJ u:=by
 have zJ:∀a:List Tm,aW (a++[u])=aW a++bJ u:=fun a=>by
  induction a with
  |nil=>simp[aW]
  |cons x a ih=>rw[List.cons_append,aW,aW,ih,List.append_assoc]
 rw[dE h,zJ]
theorem SM:∀t:Tm,(bJ t).length<=wT t
 | .mk n i xs=>by
  have:=SN xs
  rw[bJ,wT,List.length_append]
  split<;>simp<;>omega
where
 SN:∀l:List Tm,(aW l).length<=aD l
 |[]=>by rw[aW,aD];simp
 |t::l=>by have:=SM t;have:=SN l;rw[aW,aD,List.length_append];omega
theorem FM (t:Tm) (v:Int) (hs:aE t) (hw:wT t<=1000000):aS Tryz.prog 212 [aP t,Iv v] (Iv ((bJ t).count v:Nat)):=by
 have dD:=dN.1 hs
 have Ou:=nB t
 have fw:=SM t
 have jo:(bJ t).count v=(if t.nm=[]/\t.ix=v then 1 else 0)+(aW t.xs).count v:=by
  rw[BH,List.count_append]
  by_cases h:t.nm=[]
  ·rw[if_pos h,List.count_singleton]
   by_cases k:t.ix=v
   ·simp[h,k]
   ·simp[h,k]
  ·rw[if_neg h];simp[h]
 obtain⟨d,hd⟩:∃d,(if t.nm=[]/\t.ix=v then 1 else 0:Nat)=d:=⟨_,rfl⟩
 have me:d<=1:=by rw[<-hd];split<;>omega
 rw[hd]at jo
 refine ai.walk [0,1,2,4,5,6,15,20] [] Tryz.func212 rfl Tryz.ntmps212 (by kernel_rfl) (by rfl) rfl fun W own I0 ao lay=>?_
 refine gO ?_
 refine AP.cut (α:=Unit) (fun _=>[(1,Iv v),(2,.im (g_ t)),(5,Iv d)]) (fun _=>[]) (fun _=>True) ?_ fun _ _=>?_
 ·refine AP.cond rfl rfl (fun h=>?_) (fun h=>?_)
  ·have h:t.nm=[]/\t.ix=v:=by simpa using h
   rw[if_pos h]at hd
   subst hd
   refine gO ?_
   exact AE.meet () trivial (sU) rfl
  ·have h:¬(t.nm=[]/\t.ix=v):=by
    intro hc
    simp[hc.1,hc.2]at h
   rw[if_neg h]at hd
   subst hd
   refine gO ?_
   exact AE.meet () trivial (sU) rfl
 refine gE @aj ?_
 refine AP.loop rfl (α:=Nat) (fun k=>[(1,Iv v),(2,.im (g_ t)),(5,Iv (d+(aW (t.xs.take k)).count v:Nat)),(6,Iv k)]) (fun _=>[]) (fun k=>k<=t.xs.length) (fun k=>t.xs.length-k) 0 (by omega) (by rw[List.take_zero,aW];exact(sU)) rfl fun k hk=>?_
 have hx:=dD.2.1
 rcases Nat.eq_or_lt_of_le hk with aC|ag
 ·subst aC
  rw[List.take_length]
  refine gE @aj ?_
  refine cF ?_
  refine gO ?_
  exact AE.aG rfl ⟨rfl,trivial⟩ rfl ⟨rfl,by rw[jo];rfl⟩
 ·obtain⟨u,hu,aH⟩:=dh t.xs k ag
  have bT:=wr (x:=(k:Int)+1) (by omega)
  have bl:=aci hu
  have hwu:=qJ t.xs u (List.mem_of_getElem? hu)
  have ih:=FM u v (dc dD.2.2 hu) (by omega)
  have As:(aW (t.xs.take (k+1))).count v<=(aW t.xs).count v:=by
   have:aW t.xs=aW (t.xs.take (k+1))++aW (t.xs.drop (k+1)):=by
    conv=>lhs;rw[<-List.take_append_drop (k+1) t.xs]
    induction t.xs.take (k+1)with
    |nil=>rw[List.nil_append,aW];rfl
    |cons x a ih=>rw[List.cons_append,aW,aW,ih,List.append_assoc]
   rw[this,List.count_append];omega
  have cG:(bJ t).count v<=(bJ t).length:=List.count_le_length
  rw[bl,List.count_append]at As
  have gi:=wr (x:=((d+(aW (t.xs.take k)).count v:Nat):Int)+((bJ u).count v:Nat)) (by omega)
  have e2:((d+(aW (t.xs.take k)).count v:Nat):Int)+((bJ u).count v:Nat)=((d+(aW (t.xs.take (k+1))).count v:Nat):Int):=by rw[bl,List.count_append];omega
  refine gE @aj ?_
  refine cT ?_
  refine gE (an @aH @aj) ?_
  refine AQ.fn (by kernel_rfl) rfl rfl rfl (ih) rfl ?_
  refine sI ?_
  refine gE (an @bT @gi) ?_
  exact AE.round (k+1) (by omega) (by omega) (by rw[<-e2];exact(sU)) rfl
termination_by SizeOf.sizeOf t
decreasing_by exact jW hu
theorem VG (a b:List UInt8):(!(Op.bytesLess a b||a==b))=decide (b<a):=by
 rw[xQ]
 rcases x4 a b with h|h|h
 ·rw[decide_eq_true h,decide_eq_false (fun k=>List.lt_asymm h k)];rfl
 ·subst h
  rw[decide_eq_false (List.lt_irrefl _)];simp
 ·rw[decide_eq_false (fun k=>List.lt_asymm h k),decide_eq_true h,beq_eq_false_iff_ne.2 (fun e=>by rw[e]at h;exact List.lt_irrefl _ h)];rfl
theorem yi {t:Tm} (h:bS t=true):dM t.xs=true:=by
 cases t with
 |mk n i xs=>
  rw[bS]at h
  by_cases hn:n=[]
  ·rw[if_pos hn]at h
   simp only[Bool.and_eq_true,List.isEmpty_iff]at h
   show dM xs=true
   rw[h.1,dM]
  ·rw[if_neg hn]at h
   simp only[Bool.and_eq_true]at h
   exact h.2
theorem rY:∀{l:List Tm} {k:Nat} {u:Tm},dM l=true->l[k]?=some u->bS u=true
 |[],k,u,_,h=>by simp at h
 |t::l,0,u,h,k=>by
  rw[dM,Bool.and_eq_true]at h
  simp at k
  exact k▸h.1
 |t::l,j+1,u,h,k=>by
  rw[dM,Bool.and_eq_true]at h
  simp at k
  exact rY h.2 k
theorem Jn {t:Tm} (h:bS t=true):okW t:=by
 refine⟨yi h,fun hn=>?_⟩
 cases t with
 |mk n i xs=>
  have hn:n=[]:=hn
  rw[bS,if_pos hn]at h
  simp only[Bool.and_eq_true,List.isEmpty_iff]at h
  exact h.1
theorem GZ (s t:Tm) (hs:aE s) (ht:aE t) (ho:okW t) (pe:wT s<=5000) (rN:wT t<=5000):aS Tryz.prog 169 [aP s,aP t] (Bv (nP s t)):=by
 have dD:=dN.1 hs
 have s_:=dN.1 ht
 have hg:=MK s t
 have Az:=SC t [] ht (by simp;omega)
 have Ol:=Az.qT (xs:=[aP t,ew]) (by repeat' (first|with_reducible exact c6.refl _|with_reducible exact fK.refl _|exact fK.nil _|with_reducible exact bP.refl _|with_reducible exact mD.refl _|with_reducible exact mE.refl _|refine bP.k6 ?_ ?_|refine c6.agg ?_|refine c6.im ?_|refine fK.sl ?_|refine mE.cons ?_ ?_|refine mD.cons ?_ ?_))
 have fZ:=UR (s:=s) ho
 have fw:=(Sy t []).2
 obtain⟨l,hl⟩:∃l,lW [] t=l:=⟨_,rfl⟩
 rw[hl]at Ol fZ fw
 have qe:l.length<=5000:=by simp at fw;omega
 have U:=Ed s 5000 hs (by omega)
 have h2:=Ed t 5000 ht (by omega)
 rw[(tU s 5000 (by omega)).1 (by omega)]at U
 rw[(tU t 5000 (by omega)).1 (by omega)]at h2
 refine ai.walk [0,1,2,3,4,5,6,7,8,9,15,30,37,48,55,67,77,91] [] Tryz.func169 rfl Tryz.ntmps169 (by kernel_rfl) (by rfl) rfl fun W own I0 ao lay=>?_
 refine gO ?_
 refine AQ.fn (by kernel_rfl) rfl rfl rfl (Ol) rfl ?_
 refine sI ?_
 refine gO ?_
 refine AP.loop rfl (α:=Nat) (fun k=>[(2,.im (g_ s)),(3,.im (g_ t)),(5,.im (.sl 1 (cj l))),(6,Iv k)]) (fun _=>[]) (fun k=>k<=l.length/\qZ s t=(l.drop k).all fun v=>decide ((bJ t).count v<=(bJ s).count v)) (fun k=>l.length-k) 0 ⟨by omega,fZ⟩ (sU) rfl fun k ⟨hk,hm⟩=>?_
 rcases Nat.eq_or_lt_of_le hk with aC|ag
 ·rw[aC,List.drop_length]at hm
  have hm:qZ s t=true:=hm
  rw[hm,if_neg (by simp)]at hg
  refine gE @cI ?_
  refine cF ?_
  refine gO ?_
  refine AP.bQ 6 (Tree.node [] [0,2] [1] [Tree.node [2] [] [3] [Tree.node [] [4,5] [] []]]) (by kernel_rfl) rfl (by kernel_rfl) (by kernel_rfl) ?_
  refine bO ?_
  refine sI ?_
  refine AQ.fn (by kernel_rfl) rfl rfl rfl (U) rfl ?_
  refine sI ?_
  refine AQ.nx rfl ?_
  refine sI ?_
  refine AQ.fn (by kernel_rfl) rfl rfl rfl (h2) rfl ?_
  refine sI ?_
  refine AQ.nx rfl ?_
  refine sI ?_
  refine AQ.done ?_
  refine gO ?_
  refine AP.cond rfl rfl (fun h3=>?_) (fun h3=>?_)
  ·refine gO ?_
   refine AE.aG rfl ⟨rfl,trivial⟩ rfl ⟨rfl,?_⟩
   rw[hg,if_pos (by simp at h3;omega),show decide (wT t<wT s)=decide ((wT t:Int)<wT s) by rw[decide_eq_decide];omega]
   simp[eG];rfl
  rw[if_neg (by simp at h3;omega)]at hg
  refine gO ?_
  refine AP.cond rfl rfl (fun h4=>?_) (fun h4=>?_)
  ·refine gO ?_
   exact AE.aG rfl ⟨rfl,trivial⟩ rfl ⟨rfl,by rw[hg,if_pos (by simpa using h4)];rfl⟩
  rw[if_neg (by simpa using h4)]at hg
  refine gE @aj ?_
  refine AP.cond rfl rfl (fun h5=>?_) (fun h5=>?_)
  ·refine gE @aj ?_
   refine AE.aG rfl ⟨rfl,trivial⟩ rfl ⟨rfl,?_⟩
   rw[hg,if_pos (by simp at h5;omega),show decide (t.xs.length<s.xs.length)=decide ((t.xs.length:Int)<s.xs.length) by rw[decide_eq_decide];omega]
   simp[eG];rfl
  have pj:s.xs.length=t.xs.length:=by simp at h5;omega
  rw[if_neg (by omega)]at hg
  refine gE @aj ?_
  refine AP.cond rfl rfl (fun h6=>?_) (fun h6=>?_)
  ·refine gO ?_
   refine AE.aG rfl ⟨rfl,trivial⟩ rfl ⟨rfl,?_⟩
   rw[hg,if_pos (by simpa using h6)]
   rw[VG];rfl
  rw[if_neg (by simpa using h6)]at hg
  refine gO ?_
  refine AP.loop rfl (α:=Nat) (fun k=>[(2,.im (g_ s)),(3,.im (g_ t)),(9,Iv k)]) (fun _=>[]) (fun k=>k<=s.xs.length/\nP s t=oR (s.xs.drop k) (t.xs.drop k)) (fun k=>s.xs.length-k) 0 ⟨by omega,hg⟩ (sU) rfl fun k ⟨hk,hm⟩=>?_
  rcases Nat.eq_or_lt_of_le hk with aC|ag
  ·rw[aC,List.drop_length,pj,List.drop_length,oR]at hm
   refine gE @aj ?_
   refine cF ?_
   refine gO ?_
   exact AE.aG rfl ⟨rfl,trivial⟩ rfl ⟨rfl,by rw[hm];rfl⟩
   all_goals simp
  ·obtain⟨u,hu,aH⟩:=dh s.xs k ag
   obtain⟨w,bT,dV⟩:=dh t.xs k (by omega)
   rw[drop_cons hu,drop_cons bT,oR]at hm
   have hw:=wr (x:=(k:Int)+1) (by omega)
   have cS:=dc dD.2.2 hu
   have lF:=dc s_.2.2 bT
   have Yf:wT u<wT s:=BJ (List.mem_of_getElem? hu)
   have Ou:wT w<wT t:=BJ (List.mem_of_getElem? bT)
   refine gE @aj ?_
   refine cT ?_
   refine gO ?_
   refine AP.bQ 12 (Tree.node [] [0,1,2,3,4,5,6,7,8,9] [10] [Tree.node [] [11] [] []]) (by kernel_rfl) rfl (by kernel_rfl) (by kernel_rfl) ?_
   refine bO ?_
   refine sE (an @aH (an @dV @aj)) ?_
   refine⟨by omega,by omega,?_⟩
   refine AQ.fn (by kernel_rfl) rfl rfl rfl (Bl u w cS) rfl ?_
   refine sI ?_
   refine AQ.nx rfl ?_
   refine sI ?_
   refine AQ.done ?_
   refine gO ?_
   refine AP.cond rfl rfl (fun h7=>?_) (fun h7=>?_)
   ·have h7:dR u w=false:=by simpa using h7
    rw[h7,if_neg (by simp)]at hm
    have XD:okW w:=Jn (rY ho.1 bT)
    have ih:=GZ u w cS lF XD (by omega) (by omega)
    refine gO ?_
    refine AP.bQ 12 (Tree.node [] [0,1,2,3,4,5,6,7,8,9] [10] [Tree.node [] [11] [] []]) (by kernel_rfl) rfl (by kernel_rfl) (by kernel_rfl) ?_
    refine bO ?_
    refine sE (an @aH (an @dV @aj)) ?_
    refine⟨by omega,by omega,?_⟩
    refine AQ.fn (by kernel_rfl) rfl rfl rfl (ih) rfl ?_
    refine sI ?_
    refine AQ.nx rfl ?_
    refine sI ?_
    refine AQ.done ?_
    refine gO ?_
    exact AE.aG rfl ⟨rfl,trivial⟩ rfl ⟨rfl,by rw[hm];rfl⟩
   ·have h7:dR u w=true:=by simpa using h7
    rw[if_pos h7]at hm
    refine gE @hw ?_
    exact AE.round (k+1) ⟨by omega,hm⟩ (by omega) (sU) rfl
 ·have hv:l[k]?=some (l.getD k 0):=by rw[List.getD_eq_getElem?_getD,List.getElem?_eq_getElem ag];rfl
  obtain⟨v,xr⟩:∃v,l.getD k 0=v:=⟨_,rfl⟩
  rw[xr]at hv
  have aH:=Ic l k ag
  rw[xr]at aH
  have hw:=wr (x:=(k:Int)+1) (by omega)
  rw[drop_cons hv,List.all_cons]at hm
  have wU:=FM t v ht (by omega)
  have sX:=FM s v hs (by omega)
  refine gE @cI ?_
  refine cT ?_
  refine gO ?_
  refine AP.bQ 13 (Tree.node [] [0,1,2,3,4,6,7,8,9,10] [5] [Tree.node [6,7,8,9,10] [] [11] [Tree.node [] [12] [] []]]) (by kernel_rfl) rfl (by kernel_rfl) (by kernel_rfl) ?_
  refine bO ?_
  refine sE (an @aH @cI) ?_
  refine⟨by omega,by omega,?_⟩
  refine AQ.fn (by kernel_rfl) rfl rfl rfl (wU) rfl ?_
  refine sI ?_
  refine AQ.nx rfl ?_
  refine sI ?_
  refine⟨⟨⟨by omega,by rw[cI];omega⟩,by rw[aH]⟩,?_⟩
  refine AQ.fn (by kernel_rfl) rfl rfl rfl (sX) rfl ?_
  refine sI ?_
  refine AQ.nx rfl ?_
  refine sI ?_
  refine AQ.done ?_
  refine gO ?_
  refine AP.cond rfl rfl (fun h5=>?_) (fun h5=>?_)
  ·have h5:¬(bJ t).count v<=(bJ s).count v:=by simp at h5;omega
   rw[decide_eq_false h5,Bool.false_and]at hm
   refine gO ?_
   exact AE.aG rfl ⟨rfl,trivial⟩ rfl ⟨rfl,by rw[hg,if_pos hm];rfl⟩
  ·have h5:(bJ t).count v<=(bJ s).count v:=by simp at h5;omega
   rw[decide_eq_true h5,Bool.true_and]at hm
   refine gE @hw ?_
   exact AE.round (k+1) ⟨by omega,hm⟩ (by omega) (sU) rfl
termination_by SizeOf.sizeOf t
decreasing_by exact jW bT
theorem UM (s t:Tm) (hs:aE s) (ht:aE t) (rI:okW s) (XC:okW t) (pe:wT s<=5000) (rN:wT t<=5000):aS Tryz.prog 102 [aP s,aP t] (Iv (nK s t)):=by
 have U:=Bl s t hs
 have h2:=GZ s t hs ht XC pe rN
 have h3:=GZ t s ht hs rI rN pe
 refine ai.walk [0,1,2,3,4,7,10,13] [] Tryz.func102 rfl Tryz.ntmps102 (by kernel_rfl) (by rfl) rfl fun W own I0 ao lay=>?_
 refine gO ?_
 refine AQ.fn (by kernel_rfl) rfl rfl rfl (U) rfl ?_
 refine sI ?_
 refine gO ?_
 refine AP.cond rfl rfl (fun k1=>?_) (fun k1=>?_)
 ·refine gO ?_
  exact AE.aG rfl ⟨rfl,trivial⟩ rfl ⟨rfl,by rw[nK,if_pos k1];rfl⟩
 refine gO ?_
 refine AQ.fn (by kernel_rfl) rfl rfl rfl (h2) rfl ?_
 refine sI ?_
 refine gO ?_
 refine AP.cond rfl rfl (fun k2=>?_) (fun k2=>?_)
 ·refine gO ?_
  exact AE.aG rfl ⟨rfl,trivial⟩ rfl ⟨rfl,by rw[nK,k1,if_neg (by simp),if_pos k2];rfl⟩
 refine gO ?_
 refine AQ.fn (by kernel_rfl) rfl rfl rfl (h3) rfl ?_
 refine sI ?_
 refine gO ?_
 refine AP.cond rfl rfl (fun k3=>?_) (fun k3=>?_)
 ·refine gO ?_
  exact AE.aG rfl ⟨rfl,trivial⟩ rfl ⟨rfl,by rw[nK,k1,k2,if_neg (by simp),if_neg (by simp),if_pos k3];rfl⟩
 ·refine gO ?_
  exact AE.aG rfl ⟨rfl,trivial⟩ rfl ⟨rfl,by rw[nK,k1,k2,k3,if_neg (by simp),if_neg (by simp),if_neg (by simp)];rfl⟩








theorem SP:∀a b:List Tm,aD (a++b)=aD a+aD b
 |[],b=>by rw[List.nil_append,aD];omega
 |t::a,b=>by rw[List.cons_append,aD,aD,SP a b];omega
theorem Ut (s t:Tm):ir [s,t]=0↔ca 4 9 2 3 (b6 s)=0/\ca 4 9 2 3 (b6 t)=0:=by
 rw[ir,ir,ir]
 by_cases h:ca 4 9 2 3 (b6 s)=0
 ·by_cases k:ca 4 9 2 3 (b6 t)=0
  ·simp[h,k]
  ·simp[h,k]
 ·simp[h]
theorem Ux {s t:Tm} (h:ca 4 9 2 3 (b6 s)=0) (k:ca 4 9 2 3 (b6 t)=0):oN s t=(nK s t,0):=by
 rw[oN,if_neg (by simpa using(Ut s t).2 ⟨h,k⟩)]
theorem Ry {t:Tm} (h:pK (b6 t) 51=true):aE t/\wT t<=51:=by
 obtain⟨U,h2⟩:=abk (by omega) h
 have h3:=U.2 ⟨false,[80],[t]⟩ (by rw[b6];exact List.mem_singleton.2 rfl)
 have h4:=h3.2.2
 rw[b_]at h4
 refine⟨h4.1,?_⟩
 simp only[b6,cO,mu,List.map_cons,List.map_nil,List.sum_cons,List.sum_nil,aD]at h2
 omega

def ou (m m':Bd):List Int:=(m'.drop m.length).map (·.1)
theorem Jf (m:Bd):ou m m=[]:=by rw[ou,List.drop_length];rfl
theorem Eh (m r:Bd):ou m (m++r)=r.map (·.1):=by rw[ou,List.drop_left]
theorem aab {a b c:Bd} (h:jz a b) (k:jz b c):ou a c=ou a b++ou b c:=by
 obtain⟨⟨r,rfl⟩,_⟩:=h
 obtain⟨⟨q,rfl⟩,_⟩:=k
 rw[Eh,Eh,List.append_assoc,Eh,List.map_append]
theorem ZR (p t:Tm) (m:Bd):cn p t m=if p.nm=[]then(match eV m p.ix with
   |some x=>(m,dR x t)
   |none=>(m++[(p.ix,t)],true))
  else if p.nm≠t.nm\/p.xs.length≠t.xs.length then(m,false)else er p.xs t.xs m:=by cases p;rw[cn];rfl
mutual
theorem x_:∀(p t:Tm) (m:Bd),(cn p t m).1.length<=m.length+wT p
 | .mk n i xs,t,m=>by
  rw[cn,wT]
  by_cases hn:n=[]
  ·rw[if_pos hn]
   cases eV m i with
   |some x=>simp only;omega
   |none=>simp
  ·rw[if_neg hn]
   split
   ·simp only;omega
   ·have:=PO xs t.xs m;omega
theorem PO:∀(l k:List Tm) (m:Bd),(er l k m).1.length<=m.length+aD l
 |[],_,m=>by rw[er]<;>simp
 |_::_,[],m=>by rw[er]<;>simp
 |a::l,b::k,m=>by
  have U:=x_ a b m
  rw[er,aD]
  split
  ·have:=PO l k (cn a b m).1;omega
  ·omega
end
theorem I7 (k:List Tm) (m:Bd):er [] k m=(m,true):=by rw[er]<;>simp
theorem ZS (l k:List Tm) (j:Nat) (a b:Tm) (ha:l[j]?=some a) (hb:k[j]?=some b) (m:Bd):er (l.drop j) (k.drop j) m=if(cn a b m).2 then er (l.drop (j+1)) (k.drop (j+1)) (cn a b m).1 else cn a b m:=by
 obtain⟨U,e1⟩:=List.getElem?_eq_some_iff.1 ha
 obtain⟨h2,e2⟩:=List.getElem?_eq_some_iff.1 hb
 rw[List.drop_eq_getElem_cons U,List.drop_eq_getElem_cons h2,e1,e2,er]
mutual
theorem A6:∀(p t:Tm) (m:Bd),aE t->(∀b∈m,aE b.2)->∀b∈(cn p t m).1,aE b.2
 | .mk n i xs,t,m,ht,hm=>by
  rw[cn]
  by_cases hn:n=[]
  ·rw[if_pos hn]
   cases eV m i with
   |some x=>exact hm
   |none=>
    intro b hb
    rcases List.mem_append.1 hb with hb|hb
    ·exact hm b hb
    ·rw[List.mem_singleton]at hb;subst hb;exact ht
  ·rw[if_neg hn]
   split
   ·exact hm
   ·exact PM xs t.xs m (dN.1 ht).2.2 hm
theorem PM:∀(l k:List Tm) (m:Bd),b_ k->(∀b∈m,aE b.2)->∀b∈(er l k m).1,aE b.2
 |[],_,m,_,hm=>by rw[er]<;>first|exact hm|simp
 |_::_,[],m,_,hm=>by rw[er]<;>first|exact hm|simp
 |a::l,b::k,m,hk,hm=>by
  rw[b_]at hk
  have U:=A6 a b m hk.1 hm
  rw[er]
  split
  ·exact PM l k (cn a b m).1 hk.2 U
  ·exact U
end
def tC (i:Nat) (m:Bd) (lg:List Int):aa:=[(i,.vec 3 1 (cj lg)),(1,.var 46 [.os i 1 0 lg.length]),(0,.var (.map (kI m)) (vT m))]
theorem PC (p t:Tm) (m:Bd) (lg:List Int) (hp:aE p) (ht:aE t) (bX:fp m) (aT:lg.length+wT p<=1000000) (w9:∀b∈m,aE b.2):
  ai Tryz.prog 126 [aP p,aP t,.mp 0,.ob 1 0] (tC 2 m lg) (fun r H'=>r=Bv (cn p t m).2/\H'=tC 3 (cn p t m).1 (lg++ou m (cn p t m).1)):=by
 have ql:=dN.1 hp
 have hq:=ZR p t m
 have Yu:=nB p
 refine ai.walk [0,1,2,3,4,5,8,9,10,11,14,22,52,55,56,57,72] [9] Tryz.func126 rfl Tryz.ntmps126 (by kernel_rfl) (by rfl) rfl fun W own I0 ao lay=>?_
 simp only[go_sem,Nat.reduceAdd,Nat.reduceLeDiff,Nat.reduceSub,Int.reduceToNat,reduceCtorEq,tC]
 refine AP.rename 2 6 rfl rfl rfl ?_;refine sI ?_
 refine gO ?_
 refine AP.cond rfl rfl (fun hn=>?_) (fun hn=>?_)
 ·have hn:p.nm=[]:=by simpa[ua]using hn
  rw[if_pos hn,O_]at hq
  refine gO ?_
  cases hi:eL m p.ix with
  |some j=>
   obtain⟨x,U,h2⟩:=vz hi
   rw[h2]at hq
   refine AQ.vF j (by kernel_rfl) rfl rfl rfl BE u3 (jQ _) rfl (List.mem_of_getElem? (tn U)) (fun i hi=>tq bX U hi) (Su U) ?_
   refine sI ?_
   refine gO ?_
   have pg:=w9 _ (List.mem_of_getElem? U)
   refine AQ.fn (by kernel_rfl) rfl rfl rfl (zk x t pg) rfl ?_
   refine sI ?_
   refine gO ?_
   refine AE.rename 6 3 rfl rfl rfl ?_;refine sI ?_
   exact AE.a6 [7] rfl ⟨rfl,trivial⟩ (by simp only[go_sem,Nat.reduceAdd,Nat.reduceLeDiff,Nat.reduceSub,Int.reduceToNat,reduceCtorEq,cw,noMen,AV.mens,AV.men,lM,Bool.or_false];first|done|rfl) ⟨by rw[hq];rfl,by rw[hq,Jf,List.append_nil];rfl⟩
  |none=>
   rw[(rQ hi).1]at hq
   refine AQ.Zt (.agg [Sv [],Iv 0,ew]) (by kernel_rfl) rfl rfl rfl BE u3 (jQ _) rfl (qt hi) z71 acx ?_
   refine sI ?_
   refine gO ?_
   refine AQ.D_ (by kernel_rfl) rfl rfl rfl rfl BE u3 (jQ _) rfl (qt hi) ?_
   refine sI ?_
   refine gO ?_
   have e1:kI m++[.int .i64 p.ix]=kI (m++[(p.ix,t)]):=by simp only[kI,List.map_append];rfl
   have e2:vT m++[aP t]=vT (m++[(p.ix,t)]):=by simp only[vT,List.map_append];rfl
   rw[e1,e2]
   refine AP.bQ 10 (Tree.node [] [0,1,2,3,4,5] [6] [Tree.node [0,1,2,3] [] [7] [Tree.node [0] [8] [9] [Tree.node [] [] [] []]]]) (by kernel_rfl) rfl (by kernel_rfl) (by kernel_rfl) ?_
   refine bO ?_
   refine sI ?_
   refine AQ.go (by kernel_rfl) ?_
   refine sI ?_
   refine AQ.nx rfl ?_
   refine sI ?_
   refine AQ.kill 6 ?_
   refine sI ?_
   refine AQ.append (hnb:=rfl) (rows:=cj lg) (es:=0) (by kernel_rfl) rfl rfl rfl (by first|(simp only[go_sem,noMen,AV.mens,AV.men,Bool.or_false];done)|(simp only[go_sem,noMen,AV.mens,AV.men,Bool.or_false];rfl)) Tryz.BB Tryz.Bt (by show Option.map _ (ax Tryz.prog 3)=_;rw[Tryz.BN];rfl) Tryz.y4 (by first|rfl|(simp only[cI,List.length_cons,List.length_nil];done)|(simp only[cI,List.length_cons,List.length_nil];omega)) (by simp only[cI,List.length_cons,List.length_nil];omega) (by simp only[cI,List.length_cons,List.length_nil];omega) ?_
   refine sE (an @cI (an @vx @vy)) ?_
   refine AQ.nx rfl ?_
   refine sI ?_
   refine AQ.go (by kernel_rfl) ?_
   refine sI ?_
   refine AQ.nx rfl ?_
   refine sI ?_
   refine AQ.done ?_
   refine gO ?_
   refine AE.rename 6 3 rfl rfl rfl ?_;refine sI ?_
   exact AE.a6 [7] rfl ⟨rfl,trivial⟩ (by simp only[go_sem,Nat.reduceAdd,Nat.reduceLeDiff,Nat.reduceSub,Int.reduceToNat,reduceCtorEq,cw,noMen,AV.mens,AV.men,lM,Bool.or_false];first|done|rfl) ⟨by rw[hq];rfl,by rw[hq,Eh,List.length_append];rfl⟩
 ·have hn:¬p.nm=[]:=by simpa[ua]using hn
  rw[if_neg hn]at hq
  refine gE @aj ?_
  refine AP.cond rfl rfl (fun h2=>?_) (fun h2=>?_)
  ·have h2:p.nm≠t.nm\/p.xs.length≠t.xs.length:=by
    by_cases hA:p.nm=t.nm
    ·refine .inr fun hc=>?_
     simp[hA,hc]at h2
    ·exact .inl hA
   rw[if_pos h2]at hq
   refine gO ?_
   refine AE.rename 6 3 rfl rfl rfl ?_;refine sI ?_
   exact AE.a6 [] rfl ⟨rfl,trivial⟩ (by simp only[go_sem,Nat.reduceAdd,Nat.reduceLeDiff,Nat.reduceSub,Int.reduceToNat,reduceCtorEq,cw,noMen,AV.mens,AV.men,lM,Bool.or_false];first|done|rfl) ⟨by rw[hq];rfl,by rw[hq,Jf,List.append_nil];rfl⟩
  ·have h2:¬(p.nm≠t.nm\/p.xs.length≠t.xs.length):=fun hc=>by
    by_cases hA:p.nm=t.nm
    ·rcases hc with hc|hc
     ·exact hc hA
     ·simp[hA]at h2;omega
    ·simp[hA]at h2
   rw[if_neg h2]at hq
   have VJ:p.xs.length=t.xs.length:=Classical.byContradiction fun hc=>h2 (.inr hc)
   refine gE @aj ?_
   refine AP.loop rfl (α:=Nat×Bd) (fun q=>[(2,.mp 0),(3,.ob 1 0),(4,.im (g_ p)),(5,.im (g_ t)),(55,Iv p.xs.length),(56,Iv q.1)]) (fun q=>tC 6 q.2 (lg++ou m q.2)) (fun q=>q.1<=p.xs.length/\jz m q.2/\q.2.length<=m.length+aD (p.xs.take q.1)/\(∀b∈q.2,aE b.2)/\cn p t m=er (p.xs.drop q.1) (t.xs.drop q.1) q.2) (fun q=>p.xs.length-q.1) (0,m) ⟨by omega,jz.rfl' m,by simp,w9,hq⟩ (sU) (by rw[Jf,List.append_nil];rfl) fun⟨k,mk⟩ ⟨hk,hG,hlen,qc,hm⟩=>?_
   have hk:k<=p.xs.length:=hk
   have hm:cn p t m=er (p.xs.drop k) (t.xs.drop k) mk:=hm
   have hG:jz m mk:=hG
   have hlen:mk.length<=m.length+aD (p.xs.take k):=hlen
   have qc:∀b∈mk,aE b.2:=qc
   rcases Nat.eq_or_lt_of_le hk with aC|ag
   ·rw[aC,List.drop_length,I7]at hm
    simp only[go_sem,Nat.reduceAdd,Nat.reduceLeDiff,Nat.reduceSub,Int.reduceToNat,reduceCtorEq,tC]
    refine gO ?_
    refine cF ?_
    refine gO ?_
    refine AE.rename 6 3 rfl rfl rfl ?_;refine sI ?_
    exact AE.a6 [] rfl ⟨rfl,trivial⟩ (by simp only[go_sem,Nat.reduceAdd,Nat.reduceLeDiff,Nat.reduceSub,Int.reduceToNat,reduceCtorEq,cw,noMen,AV.mens,AV.men,lM,Bool.or_false];first|done|rfl) ⟨by rw[hm];rfl,by rw[hm];rfl⟩
   ·obtain⟨u,hu,aH⟩:=dh p.xs k ag
    obtain⟨v,hv,dV⟩:=dh t.xs k (by omega)
    have hw:=wr (x:=(k:Int)+1) (by omega)
    rw[ZS p.xs t.xs k u v hu hv]at hm
    have pe:aD (p.xs.take k)+wT u<=aD p.xs:=by
     have:=E8 p.xs (k+1)
     rw[dE hu,yK,aD,aD]at this
     omega
    have hnw:(ou m mk).length<=aD (p.xs.take k):=by rw[ou,List.length_map,List.length_drop];omega
    have ih:=PC u v mk (lg++ou m mk) (dc ql.2.2 hu) (dc (dN.1 ht).2.2 hv) (hG.2 bX) (by rw[List.length_append];omega) qc
    have CM:=Ea u v mk
    simp only[go_sem,Nat.reduceAdd,Nat.reduceLeDiff,Nat.reduceSub,Int.reduceToNat,reduceCtorEq,tC]
    refine gE @aj ?_
    refine cT ?_
    refine gE (an @aj (an @aH @dV)) ?_
    refine AP.bQ 14 (Tree.node [] [0,1,2,3,4,5,6,7,8,9,10,11] [12] [Tree.node [] [13] [] []]) (by kernel_rfl) rfl (by kernel_rfl) (by kernel_rfl) ?_
    refine bO ?_
    refine sE (an @aj (an @aH @dV)) ?_
    refine⟨by omega,by omega,?_⟩
    refine AQ.bW [(2,6),(1,1),(0,0)] (by kernel_rfl) rfl rfl rfl rfl rfl rfl (by refine⟨?_,?_,?_,trivial⟩<;>(simp only[dY,AV.cU,AV.rn,tN];rfl)) rfl ih fun r' H' ⟨e1,e2⟩=>?_
    subst e1;subst e2
    simp only[go_sem,Nat.reduceAdd,Nat.reduceLeDiff,Nat.reduceSub,Int.reduceToNat,reduceCtorEq,dC,fo,cu,fV,tC]
    rw[List.append_assoc,<-aab hG CM]
    refine AQ.rename 10 6 rfl rfl rfl ?_;refine sI ?_
    refine AQ.nx rfl ?_
    refine sI ?_
    refine AQ.done ?_
    have jH:=x_ u v mk
    have sS:∀b∈(cn u v mk).1,aE b.2:=A6 u v mk (dc (dN.1 ht).2.2 hv) qc
    have bf:aD (p.xs.take (k+1))=aD (p.xs.take k)+wT u:=by rw[dE hu,yK,aD,aD];rfl
    refine gO ?_
    refine AP.cond rfl rfl (fun h5=>?_) (fun h5=>?_)
    ·have h5:(cn u v mk).2=false:=by simpa using h5
     rw[if_neg (by rw[h5];simp)]at hm
     refine gO ?_
     refine AE.rename 6 3 rfl rfl rfl ?_;refine sI ?_
     exact AE.a6 [] rfl ⟨rfl,trivial⟩ (by simp only[go_sem,Nat.reduceAdd,Nat.reduceLeDiff,Nat.reduceSub,Int.reduceToNat,reduceCtorEq,cw,noMen,AV.mens,AV.men,lM,Bool.or_false];first|done|rfl) ⟨by rw[hm,h5];rfl,by rw[hm];rfl⟩
    ·have h5:(cn u v mk).2=true:=by simpa using h5
     rw[if_pos h5]at hm
     refine gE @hw ?_
     exact AE.round (k+1,(cn u v mk).1) ⟨(by omega:k+1<=p.xs.length),hG.trans CM,(by rw[bf];omega:(cn u v mk).1.length<=m.length+aD (p.xs.take (k+1))),sS,hm⟩ (by show p.xs.length-(k+1)<p.xs.length-k;omega) (sU) rfl
termination_by wT p
decreasing_by
 have:=qJ p.xs u (List.mem_of_getElem? hu)
 omega
def fiB (x y:Lt) (m:Bd):Bd×Bool:=if TL x y then er x.xs y.xs m else(m,false)
theorem Zr {r:Bd} {j:Nat} {b:Int×Tm} (h:r[j]?=some b):(cj (r.map (·.1))).getD j []=[Ii b.1]:=by
 rw[cj,List.getD_eq_getElem?_getD,List.getElem?_map,List.getElem?_map,h];rfl
def tB (m:Bd):aa:=[(0,.var (.map (kI m)) (vT m))]
mutual
def jS:Tm->Tm->Bd->Bd×Bool
 | .mk n i xs,t,m=>if n=[]then(match eV m i with
   |some x=>(m,dR x t)
   |none=>(m++[(i,t)],true))
  else if n≠t.nm\/xs.length≠t.xs.length then(m,false)else jt xs t.xs m
def jt:List Tm->List Tm->Bd->Bd×Bool
 |a::l,b::k,m=>if(jS a b m).2 then jt l k (jS a b m).1 else(m,false)
 |_,_,m=>(m,true)
end
mutual
theorem I4:∀(p t:Tm) (m:Bd),(jS p t m).2=(cn p t m).2/\((jS p t m).2=true->(jS p t m).1=(cn p t m).1)
 | .mk n i xs,t,m=>by
  rw[jS,cn]
  by_cases hn:n=[]
  ·rw[if_pos hn,if_pos hn];exact⟨rfl,fun _=>rfl⟩
  ·rw[if_neg hn,if_neg hn]
   split
   ·exact⟨rfl,fun _=>rfl⟩
   ·exact PH xs t.xs m
theorem PH:∀(l k:List Tm) (m:Bd),(jt l k m).2=(er l k m).2/\((jt l k m).2=true->(jt l k m).1=(er l k m).1)
 |[],k,m=>by
  rw[I7]
  have:jt [] k m=(m,true):=by rw[jt]<;>simp
  rw[this];exact⟨rfl,fun _=>rfl⟩
 |a::l,[],m=>by
  have U:jt (a::l) [] m=(m,true):=by rw[jt]<;>simp
  have h2:er (a::l) [] m=(m,true):=by rw[er]<;>simp
  rw[U,h2];exact⟨rfl,fun _=>rfl⟩
 |a::l,b::k,m=>by
  obtain⟨U,h2⟩:=I4 a b m
  rw[jt,er]
  by_cases h:(jS a b m).2=true
  ·rw[if_pos h,if_pos (U▸h),h2 h]
   exact PH l k _
  ·rw[if_neg h,if_neg (U▸h)]
   have h3:(cn a b m).2=false:=by rw[<-U];simpa using h
   exact⟨by rw[h3],fun hc=>absurd hc (by simp)⟩
end
theorem ZO (p t:Tm) (m:Bd):jS p t m=if p.nm=[]then(match eV m p.ix with
   |some x=>(m,dR x t)
   |none=>(m++[(p.ix,t)],true))
  else if p.nm≠t.nm\/p.xs.length≠t.xs.length then(m,false)else jt p.xs t.xs m:=by cases p;rw[jS];rfl
theorem ZQ (k:List Tm) (m:Bd):jt [] k m=(m,true):=by rw[jt]<;>simp
theorem ZP (l k:List Tm) (j:Nat) (a b:Tm) (ha:l[j]?=some a) (hb:k[j]?=some b) (m:Bd):jt (l.drop j) (k.drop j) m=if(jS a b m).2 then jt (l.drop (j+1)) (k.drop (j+1)) (jS a b m).1 else(m,false):=by
 obtain⟨U,e1⟩:=List.getElem?_eq_some_iff.1 ha
 obtain⟨h2,e2⟩:=List.getElem?_eq_some_iff.1 hb
 rw[List.drop_eq_getElem_cons U,List.drop_eq_getElem_cons h2,e1,e2,jt]
theorem dB (l m:Bd):b9 l++b9 m=b9 (l++m):=by simp[b9]
theorem il (v:Int) (t:Tm):[[Ii v,Si t.nm,Ii t.ix,.sl 3 (aA t.xs)]]=b9 [(v,t)]:=rfl
theorem pX (l:Bd) (n:Nat) (h:l.length<=n):(b9 l).take n=b9 l:=List.take_of_length_le (by rw[aw];exact h)
theorem PB (p t:Tm) (m:Bd) (hp:aE p) (ht:aE t) (hm:∀b∈m,aE b.2) (aT:m.length+wT p<=1000000):
  aS Tryz.prog 142 [aP p,aP t,cp m] (.aI [cp (jS p t m).1,Bv (jS p t m).2]):=by
 have ql:=dN.1 hp
 have hq:=ZO p t m
 have Yu:=nB p
 refine ai.walk [0,1,2,3,4,6,7,8,9,10,11,14,20,51,57,76] [] Tryz.func142 rfl Tryz.ntmps142 (by kernel_rfl) (by rfl) rfl fun W own I0 ao lay=>?_
 refine gO ?_
 refine AP.cond rfl rfl (fun hn=>?_) (fun hn=>?_)
 ·have hn:p.nm=[]:=by simpa[ua]using hn
  rw[if_pos hn]at hq
  obtain⟨f1,f2⟩:=Io m p.ix 0
  refine gO ?_
  refine AQ.fn (by kernel_rfl) rfl rfl rfl (find_spec m p.ix ⟨by omega,hm⟩) rfl ?_
  refine sI ?_
  refine gO ?_
  refine AP.cond rfl rfl (fun U=>?_) (fun U=>?_)
  ·cases hk:eV m p.ix with
   |none=>rw[f1 hk]at U;simp at U
   |some y=>
    obtain⟨k,e1,e2⟩:=f2 y hk
    rw[Nat.zero_add]at e1
    obtain⟨ag,_⟩:=List.getElem?_eq_some_iff.1 e2
    obtain⟨b,hb,aH⟩:=sx m k ag
    rw[e2]at hb
    simp only[Option.some.injEq]at hb
    subst hb
    rw[hk]at hq
    have Yy:aE y:=hm _ (List.mem_of_getElem? e2)
    rw[e1]
    refine gO ?_
    refine AP.bQ 10 (Tree.node [] [0,1,2,3,4,5,6] [7] [Tree.node [0] [8,9] [] []]) (by kernel_rfl) rfl (by kernel_rfl) (by kernel_rfl) ?_
    refine bO ?_
    refine sE (an @aH @aw) ?_
    refine⟨by omega,?_⟩
    refine AQ.fn (by kernel_rfl) rfl rfl rfl (Bl y t Yy) rfl ?_
    refine sI ?_
    refine AQ.nx rfl ?_
    refine sI ?_
    refine AQ.done ?_
    refine gO ?_
    exact AE.aG rfl ⟨rfl,rfl,trivial⟩ rfl ⟨rfl,by rw[hq];rfl⟩
  ·cases hk:eV m p.ix with
   |some y=>
    obtain⟨k,e1,e2⟩:=f2 y hk
    rw[e1]at U;simp at U
   |none=>
    rw[hk]at hq
    clear f1 f2
    refine gO ?_
    refine AP.bQ 11 (Tree.node [] [1,3,4,5,6] [0,7] [Tree.node [1,3,4,5,6] [] [2,7] [Tree.node [3,4,5,6] [] [7] [Tree.node [] [] [8] [Tree.node [] [9,10] [] []]],Tree.node [1] [] [2] [Tree.node [] [] [8] [Tree.node [] [9,10] [] []]]],Tree.node [1] [] [0] [Tree.node [1] [] [2] [Tree.node [] [] [8] [Tree.node [] [9,10] [] []]]]]) (by kernel_rfl) rfl (by kernel_rfl) (by kernel_rfl) ?_
    refine bO ?_
    refine sI ?_
    repeat' (first|with_reducible exact True.intro|with_reducible refine And.intro (by omega) ?_|with_reducible refine And.intro ?_ ?_|(refine AQ.nx rfl ?_;refine sE (an @aw (an @dB (an @il (an @List.nil_append.{0} @List.length_append.{0})))) ?_)|(refine AQ.append (hnb:=rfl) (rows:=[]) (es:=3) (by kernel_rfl) rfl rfl rfl (by rfl) Tryz.iE Tryz.iD (by show Option.map _ (ax Tryz.prog 59)=_;rw[Tryz.iH];rfl) Tryz.iq (by first|rfl|(simp only[aw,List.length_cons,List.length_nil];done)|(simp only[aw,List.length_cons,List.length_nil];omega)) (by simp only[aw,List.length_cons,List.length_nil];omega) (by simp only[aw,List.length_cons,List.length_nil];omega) ?_;refine sE (an @List.nil_append.{0} @aw) ?_)|(refine AQ.append (hnb:=rfl) (rows:=b9 m) (es:=3) (by kernel_rfl) rfl rfl rfl (by rfl) Tryz.iE Tryz.iD (by show Option.map _ (ax Tryz.prog 59)=_;rw[Tryz.iH];rfl) Tryz.iq (by first|rfl|(simp only[aw,List.length_cons,List.length_nil];done)|(simp only[aw,List.length_cons,List.length_nil];omega)) (by simp only[aw,List.length_cons,List.length_nil];omega) (by simp only[aw,List.length_cons,List.length_nil];omega) ?_;refine sE (an @dB (an @il (an @aw @List.length_append.{0}))) ?_)|refine AQ.done ?_|(refine AQ.go (by kernel_rfl) ?_;refine sE (an @aw (an @dB (an @il (an @List.nil_append.{0} @List.length_append.{0})))) ?_;repeat(with_reducible refine And.intro (by omega) ?_);refine AQ.nx rfl ?_;refine sE (an @aw (an @dB (an @il (an @List.nil_append.{0} @List.length_append.{0})))) ?_))
    all_goals refine gO ?_
    all_goals refine AE.freeze 0 (el:=59) (es:=4) (rows:=b9 (m++[(p.ix,t)])) rfl (by simp only[go_sem,Nat.reduceAdd,Nat.reduceLeDiff,Nat.reduceSub,Int.reduceToNat,reduceCtorEq,aw,List.length_append];first|done|trivial|omega|(simp;done)|(simp;omega)) (by simp only[go_sem,Nat.reduceAdd,Nat.reduceLeDiff,Nat.reduceSub,Int.reduceToNat,reduceCtorEq,aw,List.length_append];first|done|trivial|omega|(simp;done)|(simp;omega)) ?_;simp only[go_sem,Nat.reduceAdd,Nat.reduceLeDiff,Nat.reduceSub,Int.reduceToNat,reduceCtorEq,aw,List.length_append]
    all_goals exact AE.aG rfl ⟨rfl,rfl,trivial⟩ rfl ⟨rfl,by rw[hq,pX _ _ (by simp)];rfl⟩
 ·have hn:¬p.nm=[]:=by simpa[ua]using hn
  rw[if_neg hn]at hq
  refine gE @aj ?_
  refine AP.cond rfl rfl (fun h2=>?_) (fun h2=>?_)
  ·have h2:p.nm≠t.nm\/p.xs.length≠t.xs.length:=by
    by_cases hA:p.nm=t.nm
    ·refine .inr fun hc=>?_
     simp[hA,hc]at h2
    ·exact .inl hA
   rw[if_pos h2]at hq
   refine gO ?_
   exact AE.aG rfl ⟨rfl,rfl,trivial⟩ rfl ⟨rfl,by rw[hq];rfl⟩
  ·have h2:¬(p.nm≠t.nm\/p.xs.length≠t.xs.length):=fun hc=>by
    by_cases hA:p.nm=t.nm
    ·rcases hc with hc|hc
     ·exact hc hA
     ·simp[hA]at h2;omega
    ·simp[hA]at h2
   rw[if_neg h2]at hq
   have VJ:p.xs.length=t.xs.length:=Classical.byContradiction fun hc=>h2 (.inr hc)
   refine gE @aj ?_
   refine AP.loop rfl (α:=Nat×Bd) (fun q=>[(2,cp q.2),(3,.im (g_ p)),(4,.im (g_ t)),(9,Iv q.1)]) (fun _=>[]) (fun q=>q.1<=p.xs.length/\q.2.length<=m.length+aD (p.xs.take q.1)/\(∀b∈q.2,aE b.2)/\(jS p t m).2=(jt (p.xs.drop q.1) (t.xs.drop q.1) q.2).2/\jS p t m=jt (p.xs.drop q.1) (t.xs.drop q.1) q.2) (fun q=>p.xs.length-q.1) (0,m) ⟨by omega,by simp,hm,by rw[hq];rfl,hq⟩ (sU) rfl fun⟨k,mk⟩ ⟨hk,hlen,qc,_,hm⟩=>?_
   dsimp only at hk hlen qc hm⊢
   rcases Nat.eq_or_lt_of_le hk with aC|ag
   ·rw[aC,List.drop_length,ZQ]at hm
    refine gE @aj ?_
    refine cF ?_
    refine gO ?_
    exact AE.aG rfl ⟨rfl,rfl,trivial⟩ rfl ⟨rfl,by rw[hm];rfl⟩
   ·obtain⟨u,hu,aH⟩:=dh p.xs k ag
    obtain⟨v,hv,dV⟩:=dh t.xs k (by omega)
    have hw:=wr (x:=(k:Int)+1) (by have:=ql.2.1;omega)
    rw[ZP p.xs t.xs k u v hu hv]at hm
    have bf:aD (p.xs.take (k+1))=aD (p.xs.take k)+wT u:=by rw[dE hu,yK,aD,aD];rfl
    have pe:=E8 p.xs (k+1)
    have ih:=PB u v mk (dc ql.2.2 hu) (dc (dN.1 ht).2.2 hv) qc (by omega)
    refine gE @aj ?_
    refine cT ?_
    refine gE (an @aj (an @aH @dV)) ?_
    refine AP.bQ 17 (Tree.node [] [0,1,2,3,4,5,6,7,8,9,10] [11] [Tree.node [] [12,13,14,15,16] [] []]) (by kernel_rfl) rfl (by kernel_rfl) (by kernel_rfl) ?_
    refine bO ?_
    refine sE (an @aj (an @aH @dV)) ?_
    refine⟨by omega,by omega,?_⟩
    refine AQ.fn (by kernel_rfl) rfl rfl rfl (ih) rfl ?_
    refine sI ?_
    refine AQ.nx rfl ?_
    refine sI ?_
    refine AQ.done ?_
    have jH:=x_ u v mk
    have sS:=A6 u v mk (dc (dN.1 ht).2.2 hv) qc
    have Xi:=(I4 u v mk).2
    refine gO ?_
    refine AP.cond rfl rfl (fun h5=>?_) (fun h5=>?_)
    ·have h5:(jS u v mk).2=false:=by simpa using h5
     rw[if_neg (by rw[h5];simp)]at hm
     refine gO ?_
     exact AE.aG rfl ⟨rfl,rfl,trivial⟩ rfl ⟨rfl,by rw[hm];rfl⟩
    ·have h5:(jS u v mk).2=true:=by simpa using h5
     rw[if_pos h5]at hm
     rw[Xi h5]at hm⊢
     refine gE @hw ?_
     exact AE.round (k+1,(cn u v mk).1) ⟨(by omega:k+1<=p.xs.length),(by rw[bf];omega:(cn u v mk).1.length<=m.length+aD (p.xs.take (k+1))),sS,by rw[hm],hm⟩ (by show p.xs.length-(k+1)<p.xs.length-k;omega) (sU) rfl
termination_by wT p
decreasing_by
 have:=qJ p.xs u (List.mem_of_getElem? hu)
 omega

theorem DL:∀(o1 o2:Bd) (b:Int×Tm),(o1++o2).Pairwise (fun x y=>x.1<y.1)->(∀y∈o2,b.1<y.1)->(∀y,o1.getLast?=some y->y.1<=b.1)->lH b (o1++o2)=o1++b::o2
 |[],[],b,_,_,_=>rfl
 |[],y::o2,b,_,h,_=>by rw[List.nil_append,lH,if_pos (h y (by simp))];rfl
 |z::o1,o2,b,hp,h,hl=>by
  rw[List.cons_append,List.pairwise_cons]at hp
  have hz:z.1<=b.1:=by
   cases o1 with
   |nil=>exact hl z rfl
   |cons w o1=>
    have Hg:∃y,(w::o1).getLast?=some y/\y∈w::o1:=
     ⟨(w::o1).getLast (by simp),List.getLast?_eq_some_getLast (by simp),List.getLast_mem (by simp)⟩
    obtain⟨y,e,hy⟩:=Hg
    have U:y.1<=b.1:=hl y (by rw[List.getLast?_cons_cons];exact e)
    have:=hp.1 y (List.mem_append_left _ hy)
    omega
  rw[List.cons_append,lH,if_neg (by omega),DL o1 o2 b hp.2 h fun y hy=>?_]
  ·rfl
  ·cases o1 with
   |nil=>cases hy
   |cons w o1=>exact hl y (by rw[List.getLast?_cons_cons];exact hy)
theorem RH (b:Int×Tm):∀(l o:Bd),cV o (l++[b])=lH b (cV o l)
 |[],o=>by rw[List.nil_append,cV,cV,cV]
 |x::l,o=>by rw[List.cons_append,cV,cV,RH b l]
theorem RG (l o:Bd):(cV o l).length=o.length+l.length:=by rw[(yx l o).length_eq,List.length_append]
theorem nI (l:Bd) (n:Nat):(b9 l).take n=b9 (l.take n):=by simp[b9]
theorem nH (l:Bd) (n:Nat):(b9 l).drop n=b9 (l.drop n):=by simp[b9]
theorem mL (b:Int×Tm):[[Ii b.1,Si b.2.nm,Ii b.2.ix,.sl 3 (aA b.2.xs)]]=b9 [b]:=rfl
theorem RC (m:Bd) (bX:fp m) (aT:m.length<=1000000):aS Tryz.prog 176 [cp m] (cp (cV [] m)):=by
 refine ai.walk [0,2,3,4,5,10,30] [] Tryz.func176 rfl Tryz.ntmps176 (by kernel_rfl) (by rfl) rfl fun W own I0 ao lay=>?_
 refine gO ?_
 refine AP.freeze 0 (el:=59) (es:=4) (rows:=[]) rfl (by simp only[go_sem,Nat.reduceAdd,Nat.reduceLeDiff,Nat.reduceSub,Int.reduceToNat,reduceCtorEq,List.length_nil];first|done|trivial|omega|(simp;done)|(simp;omega)) (by simp only[go_sem,Nat.reduceAdd,Nat.reduceLeDiff,Nat.reduceSub,Int.reduceToNat,reduceCtorEq,List.length_nil];first|done|trivial|omega|(simp;done)|(simp;omega)) ?_;simp only[go_sem,Nat.reduceAdd,Nat.reduceLeDiff,Nat.reduceSub,Int.reduceToNat,reduceCtorEq,List.length_nil]
 refine AP.loop rfl (α:=Nat) (fun k=>[(0,cp m),(3,cp (cV [] (m.take k))),(4,Iv k)]) (fun _=>[]) (fun k=>k<=m.length) (fun k=>m.length-k) 0 (by omega) (sU) rfl fun k hk=>?_
 rcases Nat.eq_or_lt_of_le hk with aC|ag
 ·subst aC
  rw[List.take_length]
  refine gE @aw ?_
  refine cF ?_
  refine gO ?_
  exact AE.aG rfl ⟨rfl,trivial⟩ rfl ⟨rfl,rfl⟩
 ·obtain⟨b,hb,lB⟩:=sx m k ag
  have hw:=wr (x:=(k:Int)+1) (by omega)
  have bl:cV [] (m.take (k+1))=lH b (cV [] (m.take k)):=by rw[dE hb,RH]
  have hL:(cV [] (m.take k)).length=k:=by rw[RG,List.length_nil,nu (by omega)];omega
  have hS:(cV [] (m.take k)).Pairwise (fun x y=>x.1<y.1):=ES _ _ (by rw[List.nil_append];exact bX.sublist ((List.take_sublist k m).map _)) List.Pairwise.nil
  generalize cV [] (m.take k)=l at*
  refine gE @aw ?_
  refine cT ?_
  refine gE @aw ?_
  refine AP.loop rfl (α:=Nat) (fun p=>[(0,cp m),(3,cp l),(4,Iv k),(5,Iv p)]) (fun _=>[]) (fun p=>p<=k/\∀y∈l.drop p,b.1<y.1) (fun p=>p) l.length ⟨by omega,fun y hy=>by rw[List.drop_length]at hy;cases hy⟩ (sU) rfl fun p ⟨hp,xh⟩=>?_
  cases p with
  |zero=>
   have hd:decide ((0:Int)<((0:Nat):Int))=false:=rfl
   have bT:(IntKind.i64.wrap (((0:Nat):Int)-1)).toNat=0:=by decide
   have lz:(b9 l).getD 0 []=[]\/∃z:Int×Tm,(b9 l).getD 0 []=[Ii z.1,Si z.2.nm,Ii z.2.ix,.sl 3 (aA z.2.xs)]:=by
    cases l with
    |nil=>exact .inl rfl
    |cons z l=>exact .inr ⟨z,rfl⟩
   rcases lz with lz|⟨z,lz⟩
   ·refine gE (an @hd (an @bT (an @lz (an @lB @aw)))) ?_
    have z7:lH b l=l.take 0++b::l.drop 0:=by
     have:=DL (l.take 0) (l.drop 0) b (by rw[List.take_append_drop];exact hS) xh (fun y hy=>by simp at hy)
     rw[List.take_append_drop]at this;exact this
    have pa:cV [] (m.take (k+1))=b::l:=by rw[bl,z7];rfl
    have bH:(l.take 0).length=0:=nu (by omega)
    refine AP.bQ 15 (Tree.node [] [1,2,3,5,6,7,8,11,12,13] [0,9] [Tree.node [1,2,3,5,6,7,8,11,12,13] [] [4,9] [Tree.node [5,6,7,8,11,12,13] [] [9] [Tree.node [11,12,13] [] [10] [Tree.node [11,12,13] [] [14] [Tree.node [] [] [] []]]],Tree.node [1,2,3,11,12,13] [] [4] [Tree.node [11,12,13] [] [10] [Tree.node [11,12,13] [] [14] [Tree.node [] [] [] []]]]],Tree.node [1,2,3,11,12,13] [] [0] [Tree.node [1,2,3,11,12,13] [] [4] [Tree.node [11,12,13] [] [10] [Tree.node [11,12,13] [] [14] [Tree.node [] [] [] []]]]]]) (by kernel_rfl) rfl (by kernel_rfl) (by kernel_rfl) ?_
    refine bO ?_
    refine sE (an @lB (an @aw (an @nI (an @nH @Int.toNat_natCast)))) ?_
    repeat' (first|with_reducible exact True.intro|with_reducible refine And.intro (by omega) ?_|with_reducible refine And.intro ?_ ?_|(refine AQ.nx rfl ?_;simp only[go_sem,Nat.reduceAdd,Nat.reduceLeDiff,Nat.reduceSub,Int.reduceToNat,reduceCtorEq,lB,aw,nI,nH,Int.toNat_natCast,bH,dB,mL,List.nil_append,List.length_drop])|(refine AQ.append (hnb:=rfl) (rows:=[]) (es:=3) (by kernel_rfl) rfl rfl rfl (by rfl) Tryz.iE Tryz.iD (by show Option.map _ (ax Tryz.prog 59)=_;rw[Tryz.iH];rfl) Tryz.iq (by first|rfl|(simp only[aw,List.length_take,List.length_cons,List.length_nil];done)|(simp only[aw,List.length_take,List.length_cons,List.length_nil];omega)) (by simp only[aw,List.length_take,List.length_cons,List.length_nil];omega) (by simp only[aw,List.length_take,List.length_cons,List.length_nil];omega) ?_;refine sE (an @List.nil_append.{0} (an @aw @bH)) ?_)|(refine AQ.append (hnb:=rfl) (rows:=b9 (l.take 0)) (es:=3) (by kernel_rfl) rfl rfl rfl (by rfl) Tryz.iE Tryz.iD (by show Option.map _ (ax Tryz.prog 59)=_;rw[Tryz.iH];rfl) Tryz.iq (by first|rfl|(simp only[aw,bH,List.length_cons,List.length_nil];done)|(simp only[aw,bH,List.length_cons,List.length_nil];omega)) (by simp only[aw,bH,List.length_cons,List.length_nil];omega) (by simp only[aw,bH,List.length_cons,List.length_nil];omega) ?_;refine sE (an @dB (an @mL (an @aw (an @bH @List.length_append.{0})))) ?_)|(refine AQ.append (hnb:=rfl) (rows:=b9 (l.take 0++[b])) (es:=3) (by kernel_rfl) rfl rfl rfl (by rfl) Tryz.iE Tryz.iD (by show Option.map _ (ax Tryz.prog 59)=_;rw[Tryz.iH];rfl) Tryz.iq (by first|rfl|(simp only[aw,List.length_append,List.length_drop,bH,List.length_cons,List.length_nil];done)|(simp only[aw,List.length_append,List.length_drop,bH,List.length_cons,List.length_nil];omega)) (by simp only[aw,List.length_append,List.length_drop,bH,List.length_cons,List.length_nil];omega) (by simp only[aw,List.length_append,List.length_drop,bH,List.length_cons,List.length_nil];omega) ?_;simp only[go_sem,Nat.reduceAdd,Nat.reduceLeDiff,Nat.reduceSub,Int.reduceToNat,reduceCtorEq,dB,aw,bH,List.length_drop,List.length_append])|refine AQ.done ?_|(refine AQ.go (by kernel_rfl) ?_;simp only[go_sem,Nat.reduceAdd,Nat.reduceLeDiff,Nat.reduceSub,Int.reduceToNat,reduceCtorEq,lB,aw,nI,nH,Int.toNat_natCast,bH,dB,mL,List.nil_append,List.length_drop];repeat(with_reducible refine And.intro (by omega) ?_);refine AQ.nx rfl ?_;simp only[go_sem,Nat.reduceAdd,Nat.reduceLeDiff,Nat.reduceSub,Int.reduceToNat,reduceCtorEq,lB,aw,nI,nH,Int.toNat_natCast,bH,dB,mL,List.nil_append,List.length_drop]))
    all_goals refine gE @hw ?_
    all_goals refine AE.freeze 0 (el:=59) (es:=4) (rows:=b9 (l.take 0++[b]++l.drop 0)) rfl (by simp only[go_sem,Nat.reduceAdd,Nat.reduceLeDiff,Nat.reduceSub,Int.reduceToNat,reduceCtorEq,aw,List.length_append,bH,List.length_drop];first|done|trivial|omega|(simp;done)|(simp;omega)) (by simp only[go_sem,Nat.reduceAdd,Nat.reduceLeDiff,Nat.reduceSub,Int.reduceToNat,reduceCtorEq,aw,List.length_append,bH,List.length_drop];first|done|trivial|omega|(simp;done)|(simp;omega)) ?_;simp only[go_sem,Nat.reduceAdd,Nat.reduceLeDiff,Nat.reduceSub,Int.reduceToNat,reduceCtorEq,aw,List.length_append,bH,List.length_drop]
    all_goals rw[pX _ _ (by simp[bH];omega),<-pa]
    all_goals exact AE.round (k+1) (by omega) (by omega) (sU) rfl
   ·refine gE (an @hd (an @bT (an @lz (an @lB @aw)))) ?_
    have z7:lH b l=l.take 0++b::l.drop 0:=by
     have:=DL (l.take 0) (l.drop 0) b (by rw[List.take_append_drop];exact hS) xh (fun y hy=>by simp at hy)
     rw[List.take_append_drop]at this;exact this
    have pa:cV [] (m.take (k+1))=b::l:=by rw[bl,z7];rfl
    have bH:(l.take 0).length=0:=nu (by omega)
    refine AP.bQ 15 (Tree.node [] [1,2,3,5,6,7,8,11,12,13] [0,9] [Tree.node [1,2,3,5,6,7,8,11,12,13] [] [4,9] [Tree.node [5,6,7,8,11,12,13] [] [9] [Tree.node [11,12,13] [] [10] [Tree.node [11,12,13] [] [14] [Tree.node [] [] [] []]]],Tree.node [1,2,3,11,12,13] [] [4] [Tree.node [11,12,13] [] [10] [Tree.node [11,12,13] [] [14] [Tree.node [] [] [] []]]]],Tree.node [1,2,3,11,12,13] [] [0] [Tree.node [1,2,3,11,12,13] [] [4] [Tree.node [11,12,13] [] [10] [Tree.node [11,12,13] [] [14] [Tree.node [] [] [] []]]]]]) (by kernel_rfl) rfl (by kernel_rfl) (by kernel_rfl) ?_
    refine bO ?_
    refine sE (an @lB (an @aw (an @nI (an @nH @Int.toNat_natCast)))) ?_
    repeat' (first|with_reducible exact True.intro|with_reducible refine And.intro (by omega) ?_|with_reducible refine And.intro ?_ ?_|(refine AQ.nx rfl ?_;simp only[go_sem,Nat.reduceAdd,Nat.reduceLeDiff,Nat.reduceSub,Int.reduceToNat,reduceCtorEq,lB,aw,nI,nH,Int.toNat_natCast,bH,dB,mL,List.nil_append,List.length_drop])|(refine AQ.append (hnb:=rfl) (rows:=[]) (es:=3) (by kernel_rfl) rfl rfl rfl (by rfl) Tryz.iE Tryz.iD (by show Option.map _ (ax Tryz.prog 59)=_;rw[Tryz.iH];rfl) Tryz.iq (by first|rfl|(simp only[aw,List.length_take,List.length_cons,List.length_nil];done)|(simp only[aw,List.length_take,List.length_cons,List.length_nil];omega)) (by simp only[aw,List.length_take,List.length_cons,List.length_nil];omega) (by simp only[aw,List.length_take,List.length_cons,List.length_nil];omega) ?_;refine sE (an @List.nil_append.{0} (an @aw @bH)) ?_)|(refine AQ.append (hnb:=rfl) (rows:=b9 (l.take 0)) (es:=3) (by kernel_rfl) rfl rfl rfl (by rfl) Tryz.iE Tryz.iD (by show Option.map _ (ax Tryz.prog 59)=_;rw[Tryz.iH];rfl) Tryz.iq (by first|rfl|(simp only[aw,bH,List.length_cons,List.length_nil];done)|(simp only[aw,bH,List.length_cons,List.length_nil];omega)) (by simp only[aw,bH,List.length_cons,List.length_nil];omega) (by simp only[aw,bH,List.length_cons,List.length_nil];omega) ?_;refine sE (an @dB (an @mL (an @aw (an @bH @List.length_append.{0})))) ?_)|(refine AQ.append (hnb:=rfl) (rows:=b9 (l.take 0++[b])) (es:=3) (by kernel_rfl) rfl rfl rfl (by rfl) Tryz.iE Tryz.iD (by show Option.map _ (ax Tryz.prog 59)=_;rw[Tryz.iH];rfl) Tryz.iq (by first|rfl|(simp only[aw,List.length_append,List.length_drop,bH,List.length_cons,List.length_nil];done)|(simp only[aw,List.length_append,List.length_drop,bH,List.length_cons,List.length_nil];omega)) (by simp only[aw,List.length_append,List.length_drop,bH,List.length_cons,List.length_nil];omega) (by simp only[aw,List.length_append,List.length_drop,bH,List.length_cons,List.length_nil];omega) ?_;simp only[go_sem,Nat.reduceAdd,Nat.reduceLeDiff,Nat.reduceSub,Int.reduceToNat,reduceCtorEq,dB,aw,bH,List.length_drop,List.length_append])|refine AQ.done ?_|(refine AQ.go (by kernel_rfl) ?_;simp only[go_sem,Nat.reduceAdd,Nat.reduceLeDiff,Nat.reduceSub,Int.reduceToNat,reduceCtorEq,lB,aw,nI,nH,Int.toNat_natCast,bH,dB,mL,List.nil_append,List.length_drop];repeat(with_reducible refine And.intro (by omega) ?_);refine AQ.nx rfl ?_;simp only[go_sem,Nat.reduceAdd,Nat.reduceLeDiff,Nat.reduceSub,Int.reduceToNat,reduceCtorEq,lB,aw,nI,nH,Int.toNat_natCast,bH,dB,mL,List.nil_append,List.length_drop]))
    all_goals refine gE @hw ?_
    all_goals refine AE.freeze 0 (el:=59) (es:=4) (rows:=b9 (l.take 0++[b]++l.drop 0)) rfl (by simp only[go_sem,Nat.reduceAdd,Nat.reduceLeDiff,Nat.reduceSub,Int.reduceToNat,reduceCtorEq,aw,List.length_append,bH,List.length_drop];first|done|trivial|omega|(simp;done)|(simp;omega)) (by simp only[go_sem,Nat.reduceAdd,Nat.reduceLeDiff,Nat.reduceSub,Int.reduceToNat,reduceCtorEq,aw,List.length_append,bH,List.length_drop];first|done|trivial|omega|(simp;done)|(simp;omega)) ?_;simp only[go_sem,Nat.reduceAdd,Nat.reduceLeDiff,Nat.reduceSub,Int.reduceToNat,reduceCtorEq,aw,List.length_append,bH,List.length_drop]
    all_goals rw[pX _ _ (by simp[bH];omega),<-pa]
    all_goals exact AE.round (k+1) (by omega) (by omega) (sU) rfl
  |succ q=>
   have bT:IntKind.i64.wrap (((q+1:Nat):Int)-1)=(q:Int):=by rw[wr (by omega)];omega
   have hd:decide ((0:Int)<((q+1:Nat):Int))=true:=decide_eq_true (by omega)
   obtain⟨z,hz,X0⟩:=sx l q (by omega)
   refine gE (an @hd (an @bT (an @X0 (an @lB @aw)))) ?_
   refine AP.cond rfl rfl (fun h5=>?_) (fun h5=>?_)
   ·have h5:b.1<z.1:=by simpa using h5
    refine gE @bT ?_
    refine AE.round q ⟨by omega,fun y hy=>?_⟩ (by omega) (sU) rfl
    rw[drop_cons hz]at hy
    rcases List.mem_cons.1 hy with rfl|hy
    ·exact h5
    ·exact xh y hy
   ·have h5:¬b.1<z.1:=by simpa using h5
    have z7:lH b l=l.take (q+1)++b::l.drop (q+1):=by
     have:=DL (l.take (q+1)) (l.drop (q+1)) b (by rw[List.take_append_drop];exact hS) xh (fun y hy=>by rw[dE hz,List.getLast?_concat]at hy;cases hy;omega)
     rw[List.take_append_drop]at this;exact this
    have pa:cV [] (m.take (k+1))=l.take (q+1)++[b]++l.drop (q+1):=by rw[bl,z7,List.append_assoc];rfl
    have bH:(l.take (q+1)).length=(q+1):=nu (by omega)
    refine gO ?_
    refine AP.bQ 15 (Tree.node [] [1,2,3,5,6,7,8,11,12,13] [0,9] [Tree.node [1,2,3,5,6,7,8,11,12,13] [] [4,9] [Tree.node [5,6,7,8,11,12,13] [] [9] [Tree.node [11,12,13] [] [10] [Tree.node [11,12,13] [] [14] [Tree.node [] [] [] []]]],Tree.node [1,2,3,11,12,13] [] [4] [Tree.node [11,12,13] [] [10] [Tree.node [11,12,13] [] [14] [Tree.node [] [] [] []]]]],Tree.node [1,2,3,11,12,13] [] [0] [Tree.node [1,2,3,11,12,13] [] [4] [Tree.node [11,12,13] [] [10] [Tree.node [11,12,13] [] [14] [Tree.node [] [] [] []]]]]]) (by kernel_rfl) rfl (by kernel_rfl) (by kernel_rfl) ?_
    refine bO ?_
    refine sE (an @lB (an @aw (an @nI (an @nH @Int.toNat_natCast)))) ?_
    repeat' (first|with_reducible exact True.intro|with_reducible refine And.intro (by omega) ?_|with_reducible refine And.intro ?_ ?_|(refine AQ.nx rfl ?_;simp only[go_sem,Nat.reduceAdd,Nat.reduceLeDiff,Nat.reduceSub,Int.reduceToNat,reduceCtorEq,lB,aw,nI,nH,Int.toNat_natCast,bH,dB,mL,List.nil_append,List.length_drop])|(refine AQ.append (hnb:=rfl) (rows:=[]) (es:=3) (by kernel_rfl) rfl rfl rfl (by rfl) Tryz.iE Tryz.iD (by show Option.map _ (ax Tryz.prog 59)=_;rw[Tryz.iH];rfl) Tryz.iq (by first|rfl|(simp only[aw,List.length_take,List.length_cons,List.length_nil];done)|(simp only[aw,List.length_take,List.length_cons,List.length_nil];omega)) (by simp only[aw,List.length_take,List.length_cons,List.length_nil];omega) (by simp only[aw,List.length_take,List.length_cons,List.length_nil];omega) ?_;refine sE (an @List.nil_append.{0} (an @aw @bH)) ?_)|(refine AQ.append (hnb:=rfl) (rows:=b9 (l.take (q+1))) (es:=3) (by kernel_rfl) rfl rfl rfl (by rfl) Tryz.iE Tryz.iD (by show Option.map _ (ax Tryz.prog 59)=_;rw[Tryz.iH];rfl) Tryz.iq (by first|rfl|(simp only[aw,bH,List.length_cons,List.length_nil];done)|(simp only[aw,bH,List.length_cons,List.length_nil];omega)) (by simp only[aw,bH,List.length_cons,List.length_nil];omega) (by simp only[aw,bH,List.length_cons,List.length_nil];omega) ?_;refine sE (an @dB (an @mL (an @aw (an @bH @List.length_append.{0})))) ?_)|(refine AQ.append (hnb:=rfl) (rows:=b9 (l.take (q+1)++[b])) (es:=3) (by kernel_rfl) rfl rfl rfl (by rfl) Tryz.iE Tryz.iD (by show Option.map _ (ax Tryz.prog 59)=_;rw[Tryz.iH];rfl) Tryz.iq (by first|rfl|(simp only[aw,List.length_append,List.length_drop,bH,List.length_cons,List.length_nil];done)|(simp only[aw,List.length_append,List.length_drop,bH,List.length_cons,List.length_nil];omega)) (by simp only[aw,List.length_append,List.length_drop,bH,List.length_cons,List.length_nil];omega) (by simp only[aw,List.length_append,List.length_drop,bH,List.length_cons,List.length_nil];omega) ?_;simp only[go_sem,Nat.reduceAdd,Nat.reduceLeDiff,Nat.reduceSub,Int.reduceToNat,reduceCtorEq,dB,aw,bH,List.length_drop,List.length_append])|refine AQ.done ?_|(refine AQ.go (by kernel_rfl) ?_;simp only[go_sem,Nat.reduceAdd,Nat.reduceLeDiff,Nat.reduceSub,Int.reduceToNat,reduceCtorEq,lB,aw,nI,nH,Int.toNat_natCast,bH,dB,mL,List.nil_append,List.length_drop];repeat(with_reducible refine And.intro (by omega) ?_);refine AQ.nx rfl ?_;simp only[go_sem,Nat.reduceAdd,Nat.reduceLeDiff,Nat.reduceSub,Int.reduceToNat,reduceCtorEq,lB,aw,nI,nH,Int.toNat_natCast,bH,dB,mL,List.nil_append,List.length_drop]))
    all_goals refine gE @hw ?_
    all_goals refine AE.freeze 0 (el:=59) (es:=4) (rows:=b9 (l.take (q+1)++[b]++l.drop (q+1))) rfl (by simp only[go_sem,Nat.reduceAdd,Nat.reduceLeDiff,Nat.reduceSub,Int.reduceToNat,reduceCtorEq,aw,List.length_append,bH,List.length_drop];first|done|trivial|omega|(simp;done)|(simp;omega)) (by simp only[go_sem,Nat.reduceAdd,Nat.reduceLeDiff,Nat.reduceSub,Int.reduceToNat,reduceCtorEq,aw,List.length_append,bH,List.length_drop];first|done|trivial|omega|(simp;done)|(simp;omega)) ?_;simp only[go_sem,Nat.reduceAdd,Nat.reduceLeDiff,Nat.reduceSub,Int.reduceToNat,reduceCtorEq,aw,List.length_append,bH,List.length_drop]
    all_goals rw[pX _ _ (by simp[bH];omega),<-pa]
    all_goals exact AE.round (k+1) (by omega) (by omega) (sU) rfl

abbrev KQ (b:Int×Tm):AV:= .agg [Iv b.1,Sv b.2.nm,Iv b.2.ix,.im (.sl 3 (aA b.2.xs))]
def oO (a b:Int×Tm):Bool:=a.1==b.1&&dR a.2 b.2
theorem T7 (a b:Int×Tm) (ha:aE a.2) (hb:aE b.2):aS Tryz.prog 117 [KQ a,KQ b] (Bv (oO a b)):=by
 refine ai.walk [0,1,2,3,4] [] Tryz.func117 rfl Tryz.ntmps117 (by kernel_rfl) (by rfl) rfl fun W own I0 ao lay=>?_
 refine gO ?_
 refine AP.bQ 14 (Tree.node [] [0,1,2,3,4,5,6,7,9,10] [8] [Tree.node [9,10] [] [11] [Tree.node [] [12,13] [] []]]) (by kernel_rfl) rfl (by kernel_rfl) (by kernel_rfl) ?_
 refine bO ?_
 refine sI ?_
 refine AQ.q_ (by kernel_rfl) rfl rfl (fun h=>by first|(simp[gs,AV.g];done)|(simp[gs,AV.g,cg];done)|(simp[gs,AV.g,cg,bw]at h⊢;done)|(simp[gs,AV.g,cg,bw]at h⊢;exact h)|(simp[gs,AV.g,cg,bw]at h⊢;simp[h];done)|(simp[bw]at h;done)|(simp[gs,AV.g,bw]at h⊢;simp[h];done)|(simp[gs,AV.g,bw]at h⊢;exact h.1)|(simp[gs,AV.g];rfl)|(simp[gs,AV.g,bw]at h⊢;rfl)|(simp[gs,AV.g,bw]at h⊢;simp[h];rfl)|(simp[gs,AV.g,bw]at h⊢;simp_all)) rfl (fun _=>KP a.2 ha) rfl ?_
 refine sI ?_
 refine AQ.nx rfl ?_
 refine sI ?_
 refine AQ.q_ (by kernel_rfl) rfl rfl (fun h=>by first|(simp[gs,AV.g];done)|(simp[gs,AV.g,cg];done)|(simp[gs,AV.g,cg,bw]at h⊢;done)|(simp[gs,AV.g,cg,bw]at h⊢;exact h)|(simp[gs,AV.g,cg,bw]at h⊢;simp[h];done)|(simp[bw]at h;done)|(simp[gs,AV.g,bw]at h⊢;simp[h];done)|(simp[gs,AV.g,bw]at h⊢;exact h.1)|(simp[gs,AV.g];rfl)|(simp[gs,AV.g,bw]at h⊢;rfl)|(simp[gs,AV.g,bw]at h⊢;simp[h];rfl)|(simp[gs,AV.g,bw]at h⊢;simp_all)) rfl (fun _=>Bl a.2 b.2 ha) rfl ?_
 refine sI ?_
 refine AQ.nx rfl ?_
 refine sI ?_
 refine AQ.done ?_
 refine gO ?_
 exact AE.aG rfl ⟨rfl,trivial⟩ rfl ⟨rfl,rfl⟩
theorem U3 (l m:Bd) (hl:j8 l) (hm:j8 m):aS Tryz.prog 116 [cp l,cp m,.fn 117 [] []] (Bv (fe oO l m)):=by
 have fG:=hl.1
 refine ai.walk [0,1,2,6,7,8,9,14,15,16,17,18,30] [8,9] Tryz.func116 rfl Tryz.ntmps116 (by kernel_rfl) (by rfl) rfl fun W own I0 ao lay=>?_
 refine gE @aw ?_
 refine AP.cond rfl rfl (fun U=>?_) (fun U=>?_)
 ·refine gO ?_
  exact AE.aG rfl ⟨rfl,trivial⟩ rfl ⟨rfl,by rw[Cf oO l m (by simp at U;omega)];rfl⟩
 ·have U:l.length=m.length:=by simp at U;omega
  refine gE @aw ?_
  refine AP.loop rfl (α:=Nat) (fun k=>[(1,cp m),(2,.fn 117 [] []),(15,cp l),(16,Iv l.length),(17,Iv k)]) (fun _=>[]) (fun k=>k<=l.length/\fe oO l m=fe oO (l.drop k) (m.drop k)) (fun k=>l.length-k) 0 ⟨by omega,rfl⟩ (sU) rfl fun k ⟨hk,he⟩=>?_
  rcases Nat.eq_or_lt_of_le hk with aC|ag
  ·refine gO ?_
   refine cF ?_
   refine gO ?_
   exact AE.aG rfl ⟨rfl,trivial⟩ rfl ⟨rfl,by rw[he,aC,List.drop_length,U,List.drop_length,fe];rfl⟩
  ·obtain⟨t,ht,aH⟩:=sx l k ag
   obtain⟨u,hu,dV⟩:=sx m k (by omega)
   have du:=Fp oO l m k t u ht hu
   have hw:=wr (x:=(k:Int)+1) (by omega)
   have hb:=T7 t u (hl.2 t (List.mem_of_getElem? ht)) (hm.2 u (List.mem_of_getElem? hu))
   refine gO ?_
   refine cT ?_
   refine gE @aH ?_
   refine⟨by rw[aw];omega,?_⟩
   refine gE @dV ?_
   refine⟨by rw[aw];omega,?_⟩
   refine gO ?_
   refine AQ.y6 [] (by kernel_rfl) rfl rfl rfl rfl rfl rfl (fun k=>by exact trivial) (fun k=>rfl) (fun k=>rfl) (hb) ?_
   refine gO ?_
   refine AP.cond rfl rfl (fun h2=>?_) (fun h2=>?_)
   ·refine gO ?_
    refine AE.a6 [1,0] rfl ⟨rfl,trivial⟩ rfl ⟨rfl,?_⟩
    rw[he,du,show oO t u=false by simpa using h2];rfl
   ·refine gE @hw ?_
    refine AE.gQ [1,0] rfl ?_
    refine sI ?_
    exact AE.round (k+1) ⟨by omega,by rw[he,du,show oO t u=true by simpa using h2,Bool.true_and]⟩ (by omega) (sU) rfl
theorem KX (l m:Bd) (hl:j8 l) (hm:j8 m):aS Tryz.prog 44 [cp l,cp m] (Bv (fe oO l m)):=by
 refine ai.walk [0,1,4] [] Tryz.func44 rfl Tryz.ntmps44 (by kernel_rfl) (by rfl) rfl fun W own I0 ao lay=>?_
 refine gO ?_
 refine AQ.fn (by kernel_rfl) rfl rfl rfl (U3 l m hl hm) rfl ?_
 refine sI ?_
 refine gO ?_
 exact AE.aG rfl ⟨rfl,trivial⟩ rfl ⟨rfl,rfl⟩
theorem FZ:∀l:Bd,fe oO l l=true
 |[]=>rfl
 |b::l=>by rw[fe,oO,FZ l,U4];simp

def okB (b:Int×Tm):Prop:=0<=b.1/\b.1<1000/\bS b.2=true/\wT b.2<=3999/\cL b.2<=100
mutual
theorem PL:∀(p t:Tm) (m:Bd),bS p=true->bS t=true->wT t<=3999->cL t<=100->(∀b∈m,okB b)->∀b∈(cn p t m).1,okB b
 | .mk n i xs,t,m,hp,ht,hw,hd,hm=>by
  rw[cn]
  rw[bS]at hp
  by_cases hn:n=[]
  ·rw[if_pos hn]at hp⊢
   cases eV m i with
   |some x=>exact hm
   |none=>
    intro b hb
    rcases List.mem_append.1 hb with hb|hb
    ·exact hm b hb
    ·rw[List.mem_singleton]at hb
     subst hb
     simp only[Bool.and_eq_true,decide_eq_true_eq]at hp
     exact⟨hp.2.1,hp.2.2,ht,hw,hd⟩
  ·rw[if_neg hn]at hp⊢
   rw[Bool.and_eq_true]at hp
   split
   ·exact hm
   ·refine PQ xs t.xs m hp.2 ?_ ?_ ?_ hm
    ·rw[mA]at ht
     rename_i hc
     rw[if_neg (fun e=>hn (by
      have:n=t.nm:=Classical.byContradiction fun h=>hc (.inl h)
      rw[this,e])),Bool.and_eq_true]at ht
     exact ht.2
    ·have:=nB t;omega
    ·have:=LS t;omega
theorem PQ:∀(l k:List Tm) (m:Bd),dM l=true->dM k=true->aD k<=3999->dK k<=100->(∀b∈m,okB b)->∀b∈(er l k m).1,okB b
 |[],k,m,_,_,_,_,hm=>by rw[I7];exact hm
 |a::l,[],m,_,_,_,_,hm=>by
  have h2:er (a::l) [] m=(m,true):=by rw[er]<;>simp
  rw[h2];exact hm
 |a::l,b::k,m,hl,hk,hw,hd,hm=>by
  rw[dM,Bool.and_eq_true]at hl hk
  rw[aD]at hw
  rw[dK]at hd
  have U:=PL a b m hl.1 hk.1 (by omega) (by omega) hm
  rw[er]
  split
  ·exact PQ l k _ hl.2 hk.2 (by omega) (by omega) U
  ·exact U
end



def kP (m:Bd):aa:=[(1,.var 158 [.mp 0]),(0,.var (.map (kI m)) (vT m))]
theorem YW (m:Bd):ai Tryz.prog 174 [.mp 0] (tB m) (fun r H'=>r= .fn 213 [] [.ob 1 0]/\H'=kP m):=by
 refine ai.walk [0,1,2] [0,1] Tryz.func174 rfl Tryz.ntmps174 (by kernel_rfl) (by rfl) rfl fun W own I0 ao lay=>?_
 simp only[go_sem,Nat.reduceAdd,Nat.reduceLeDiff,Nat.reduceSub,Int.reduceToNat,reduceCtorEq,tB]
 refine gO ?_
 exact AE.a6 [] rfl ⟨rfl,trivial⟩ (by simp only[go_sem,Nat.reduceAdd,Nat.reduceLeDiff,Nat.reduceSub,Int.reduceToNat,reduceCtorEq,cw,noMen,AV.mens,AV.men,lM,Bool.or_false];first|done|rfl) ⟨rfl,rfl⟩
theorem Zm {m:Bd} (bX:fp m) {b:Int×Tm} (hb:b∈cV [] m):∃j:Nat,m[j]?=some b:=by
 have hp:(cV [] m).Perm m:=by have:=yx m [];rwa [List.nil_append]at this
 exact List.mem_iff_getElem?.1 (hp.mem_iff.1 hb)
theorem Zk (Ar:∀m:Bd,fp m->m.length<=4000->ai Tryz.prog 120 [.fn 213 [] [.ob 1 0]] (kP m) (fun r H'=>r= .im (.sl 1 (cj ((cV [] m).map (·.1))))/\H'=kP m))
  (m:Bd) (bX:fp m) (w9:∀b∈m,aE b.2/\bS b.2=true) (hl:m.length<=4000):ai Tryz.prog 114 [.mp 0] (tB m) (fun r H'=>r=cp (cV [] m)/\H'=tB m):=by
 have hk:=YW m
 have hs:=Ar m bX hl
 have gg:(cV [] m).length=m.length:=by rw[RG];simp
 refine ai.walk [0,2,3,5,8,9,10,11] [] Tryz.func114 rfl Tryz.ntmps114 (by kernel_rfl) (by rfl) rfl fun W own I0 ao lay=>?_
 simp only[go_sem,Nat.reduceAdd,Nat.reduceLeDiff,Nat.reduceSub,Int.reduceToNat,reduceCtorEq,tB]
 refine gO ?_
 refine AQ.bW [(0,0)] (by kernel_rfl) rfl rfl rfl rfl rfl rfl (by refine⟨?_,trivial⟩;simp only[dY,AV.cU,AV.rn,tN];rfl) rfl hk fun r' H' ⟨e1,e2⟩=>?_
 subst e1;subst e2
 simp only[go_sem,Nat.reduceAdd,Nat.reduceLeDiff,Nat.reduceSub,Int.reduceToNat,reduceCtorEq,dC,fo,cu,fV,kP]
 refine AQ.bW [(1,2),(0,0)] (by kernel_rfl) rfl rfl rfl rfl rfl rfl (by refine⟨?_,?_,trivial⟩<;>(simp only[dY,AV.cU,AV.rn,tN];rfl)) rfl hs fun r' H' ⟨e1,e2⟩=>?_
 subst e1;subst e2
 simp only[go_sem,Nat.reduceAdd,Nat.reduceLeDiff,Nat.reduceSub,Int.reduceToNat,reduceCtorEq,dC,fo,cu,fV,kP]
 refine gO ?_
 refine sE (an @cI @List.length_map.{0,0}) ?_
 refine AP.own 3 98 4 rfl ?_
 refine sI ?_
 have NK:=gg
 generalize hS:cV [] m=l at*
 refine AP.loop rfl (α:=Nat) (fun k=>[(0,.mp 0),(3,.os 3 4 0 k),(8,.im (.sl 1 (cj (l.map (·.1))))),(9,Iv l.length),(10,Iv k)]) (fun k=>[(3,.vec 98 4 (b9 (l.take k))),(2,.var 158 [.mp 0]),(0,.var (.map (kI m)) (vT m))]) (fun k=>k<=l.length) (fun k=>l.length-k) 0 (by omega) (sU) rfl fun k hk=>?_
 rcases Nat.eq_or_lt_of_le hk with aC|ag
 ·subst aC
  rw[List.take_length]
  refine gO ?_
  refine cF ?_
  refine gO ?_
  refine AE.freeze 3 (el:=98) (es:=4) (rows:=b9 l) rfl (by simp only[go_sem,Nat.reduceAdd,Nat.reduceLeDiff,Nat.reduceSub,Int.reduceToNat,reduceCtorEq,aw];first|done|trivial|omega|(simp;done)|(simp;omega)) (by simp only[go_sem,Nat.reduceAdd,Nat.reduceLeDiff,Nat.reduceSub,Int.reduceToNat,reduceCtorEq,aw];first|done|trivial|omega|(simp;done)|(simp;omega)) ?_;simp only[go_sem,Nat.reduceAdd,Nat.reduceLeDiff,Nat.reduceSub,Int.reduceToNat,reduceCtorEq,aw]
  rw[pX _ _ (by omega)]
  exact AE.a6 [2] rfl ⟨rfl,trivial⟩ (by simp only[go_sem,Nat.reduceAdd,Nat.reduceLeDiff,Nat.reduceSub,Int.reduceToNat,reduceCtorEq,cw,noMen,AV.mens,AV.men,lM,Bool.or_false];first|done|rfl) ⟨rfl,rfl⟩
 ·have hb:l[k]?=some l[k]:=List.getElem?_eq_getElem ag
  generalize l[k]=b at hb
  have hw:=wr (x:=(k:Int)+1) (by omega)
  have XX:=Zr hb
  have bf:=nu (l:=l) (k:=k) (by omega)
  have bl:=dE hb
  obtain⟨j,hj⟩:=Zm bX (b:=b) (by rw[hS];exact List.mem_of_getElem? hb)
  have oV:=w9 b (List.mem_of_getElem? hj)
  have zN:=UO b.2 oV.1
  rw[K_ bt b.2 oV.2 fun v _=>rfl]at zN
  refine gO ?_
  refine cT ?_
  refine gE (an @XX (an @cI @List.length_map.{0,0})) ?_
  refine AQ.vF j (by kernel_rfl) rfl rfl rfl BE u3 (jQ _) rfl (List.mem_of_getElem? (show(kI m)[j]?=some (.int .i64 b.1) from tn hj)) (fun i hi=>tq bX (show m[j]?=some (b.1,b.2) from hj) hi) (show(vT m)[j]?=some (aP b.2) from Su hj) ?_
  refine sI ?_
  refine AQ.fn (by kernel_rfl) rfl rfl rfl (zN) rfl ?_
  refine sI ?_
  refine gO ?_
  refine AQ.append (hnb:=rfl) (rows:=b9 (l.take k)) (es:=3) (by kernel_rfl) rfl rfl rfl (by first|(simp only[go_sem,noMen,AV.mens,AV.men,Bool.or_false];done)|(simp only[go_sem,noMen,AV.mens,AV.men,Bool.or_false];rfl)) Tryz.R3 Tryz.R0 (by show Option.map _ (ax Tryz.prog 98)=_;rw[Tryz.S7];rfl) Tryz.K2 (by first|rfl|(simp only[aw,bf,List.length_cons,List.length_nil];done)|(simp only[aw,bf,List.length_cons,List.length_nil];omega)) (by simp only[aw,bf,List.length_cons,List.length_nil];omega) (by simp only[aw,bf,List.length_cons,List.length_nil];omega) ?_
  simp only[go_sem,Nat.reduceAdd,Nat.reduceLeDiff,Nat.reduceSub,Int.reduceToNat,reduceCtorEq,aw,bf,dB,mL,<-bl]
  refine gE @hw ?_
  exact AE.round (k+1) (by omega) (by omega) (sU) rfl
end Go.Proofs.YtpfohmboflcneaaGreatDoor
end
section
namespace Go.Proofs
open Go.Shelf
def Tryz.Y6:Go.Shelf.Ren:=⟨fun|189=>181|125=>216|257=>215|128=>239|129=>240|294=>230|295=>231|296=>232|297=>233|298=>234|299=>235|216=>236|300=>237|301=>238|328=>251|329=>252|330=>253|331=>254|332=>255|215=>229|343=>263|n=>n,fun|28=>46|3=>3|46=>295|0=>0|51=>312|53=>314|4=>4|183=>305|182=>304|131=>75|5=>5|9=>9|218=>326|222=>330|228=>342|229=>343|n=>n,fun|n=>n⟩
theorem Tryz.O3:Go.Proofs.Lays.n189 Tryz.prog Tryz.Y6:={
 mixed:=by kernel_rfl
 f125:=Tryz.func216.trans (congrArg some (by kernel_rfl))
 f128:=Tryz.func239.trans (congrArg some (by kernel_rfl))
 f129:=Tryz.func240.trans (congrArg some (by kernel_rfl))
 f189:=Tryz.func181.trans (congrArg some (by kernel_rfl))
 f215:=Tryz.func229.trans (congrArg some (by kernel_rfl))
 f216:=Tryz.func236.trans (congrArg some (by kernel_rfl))
 f257:=Tryz.func215.trans (congrArg some (by kernel_rfl))
 f294:=Tryz.func230.trans (congrArg some (by kernel_rfl))
 f295:=Tryz.func231.trans (congrArg some (by kernel_rfl))
 f296:=Tryz.func232.trans (congrArg some (by kernel_rfl))
 f297:=Tryz.func233.trans (congrArg some (by kernel_rfl))
 f298:=Tryz.func234.trans (congrArg some (by kernel_rfl))
 f299:=Tryz.func235.trans (congrArg some (by kernel_rfl))
 f300:=Tryz.func237.trans (congrArg some (by kernel_rfl))
 f301:=Tryz.func238.trans (congrArg some (by kernel_rfl))
 f328:=Tryz.func251.trans (congrArg some (by kernel_rfl))
 f329:=Tryz.func252.trans (congrArg some (by kernel_rfl))
 f330:=Tryz.func253.trans (congrArg some (by kernel_rfl))
 f331:=Tryz.func254.trans (congrArg some (by kernel_rfl))
 f332:=Tryz.func255.trans (congrArg some (by kernel_rfl))
 f343:=Tryz.func263.trans (congrArg some (by kernel_rfl))
 t0:=Tryz.underlying0
 a0:=Tryz.isAgg0
 z0:=Tryz.sizeOf0
 v0:=Tryz.zeroValue0
 t3:=Tryz.underlying3
 a3:=Tryz.isAgg3
 z3:=Tryz.sizeOf3
 v3:=Tryz.zeroValue3
 t4:=Tryz.underlying4
 a4:=Tryz.isAgg4
 z4:=Tryz.sizeOf4
 v4:=Tryz.zeroValue4
 t5:=Tryz.underlying5
 a5:=Tryz.isAgg5
 z5:=Tryz.sizeOf5
 v5:=Tryz.zeroValue5
 t9:=Tryz.underlying9
 a9:=Tryz.isAgg9
 z9:=Tryz.sizeOf9
 v9:=Tryz.zeroValue9
 t28:=Tryz.underlying46
 a28:=Tryz.isAgg46
 z28:=Tryz.sizeOf46
 v28:=Tryz.zeroValue46
 t46:=Tryz.underlying295
 a46:=Tryz.isAgg295
 z46:=Tryz.sizeOf295
 v46:=Tryz.zeroValue295
 t51:=Tryz.underlying312
 a51:=Tryz.isAgg312
 z51:=Tryz.sizeOf312
 v51:=Tryz.zeroValue312
 t53:=Tryz.underlying314
 a53:=Tryz.isAgg314
 z53:=Tryz.sizeOf314
 v53:=Tryz.zeroValue314
 t131:=Tryz.underlying75
 a131:=Tryz.isAgg75
 z131:=Tryz.sizeOf75
 v131:=Tryz.zeroValue75
 t182:=Tryz.underlying304
 a182:=Tryz.isAgg304
 z182:=Tryz.sizeOf304
 v182:=Tryz.zeroValue304
 t183:=Tryz.underlying305
 a183:=Tryz.isAgg305
 z183:=Tryz.sizeOf305
 v183:=Tryz.zeroValue305
 t218:=Tryz.underlying326
 a218:=Tryz.isAgg326
 z218:=Tryz.sizeOf326
 v218:=Tryz.zeroValue326
 t222:=Tryz.underlying330
 a222:=Tryz.isAgg330
 z222:=Tryz.sizeOf330
 v222:=Tryz.zeroValue330
 t228:=Tryz.underlying342
 a228:=Tryz.isAgg342
 z228:=Tryz.sizeOf342
 v228:=Tryz.zeroValue342
 t229:=Tryz.underlying343
 a229:=Tryz.isAgg343
 z229:=Tryz.sizeOf343
 v229:=Tryz.zeroValue343}
open Go.Sort Go.RowKit in
theorem Tryz.slices_Sort_int (eI off cap:Nat) (zs:List Int) (w:World) (hH:Holds (Value.int .i64) w eI off zs.toArray) (Wy:eI<w.heap.size) (aT:zs.length<4611686018427387904):
  Calls Tryz.prog 181 #[.slice (some ⟨eI,off,none⟩) zs.length cap] w fun e w'=>
   e= .returned (.tuple #[])/\∃n os,w'=grow (putRow (Value.int .i64) (Sort.ahead w n) eI off (zs.mergeSort fun x y=>decide (x<=y)).toArray) os:=Any.slices_Sort_int Tryz.O3 eI off cap zs w hH Wy aT
#check @Go.Proofs.Any.slices_Sort_int
end Go.Proofs
end
section
namespace Go.Proofs
open Go.Shelf
open Go.RowKit Go.Sort in
theorem Tryz.slices_Sort_int_none (p:Option Addr) (cap:Nat) (w:World):
  Calls Tryz.prog 181 #[.slice p 0 cap] w fun e w'=>e= .returned (.tuple #[])/\w'=w:=Any.slices_Sort_int_none Tryz.O3 p cap w
end Go.Proofs
namespace Go.Proofs.YtpfohmboflcneaaGreatDoor
open Go Go.AL Go.RowKit Go.Shelf Go.Sort
set_option maxRecDepth 10000
set_option maxHeartbeats 4000000
abbrev db (l:List Int):List Int:=l.mergeSort fun x y=>decide (x<=y)
theorem ET (l:List Int):(db l).length=l.length:=List.length_mergeSort l
theorem encI:BP (fun z:Int=>Value.int .i64 z) (fun z:Int=>Ii z):=⟨fun h=>h.1,⟨rfl,rfl⟩⟩
theorem aa2 {w:World} {φ:al} {I:Nat->Prop} {el:TypeId} {l:List Int} (hR:Real w φ I [(0,.vec el 1 (cj l))]) {g:Nat} (hg:φ 0=some (some g)):Sort.Holds (Value.int .i64) w g 0 l.toArray/\g<w.heap.size:=by
 have aU:=hR.own 0 _ (some g) rfl hg
 simp only[Ob.at]at aU
 rcases aU with⟨U,_⟩|⟨g',ae,rest,e,hh,hd,_⟩
 ·cases U
 cases e
 have ej:=Gf encI l ae hd
 rw[ej]at hh
 refine⟨fun j hj=>?_,(hR.off 0 g hg).2⟩
 have hj:j<l.length:=by simpa using hj
 rw[Nat.zero_add]
 constructor
 ·rw[World.cell?,hh]
  show((l.map fun z=>Value.int .i64 z)++rest).toArray[j]?=_
  rw[List.getElem?_toArray,List.getElem?_append_left (by simpa using hj),List.getElem?_map,List.getElem?_eq_getElem hj]
  simp[hj]
 ·simp[World.frozen?,hh]
theorem RB (l:List Int) (hl:l.length<4611686018427387904):ai Tryz.prog 181 [.os 0 1 0 l.length] [(0,.vec 3 1 (cj l))] (fun r H'=>r= .aI []/\H'=[(0,.vec 3 1 (cj (db l)))]):=by
 refine⟨by rfl,fun w φ I vs hd hR hV=>?_⟩
 simp only[AV.ab,AV.den]at hd
 obtain⟨u,us,rfl,h,rfl⟩:=hd
 rcases h with⟨az,_,hn,rfl⟩|⟨g,c,az,rfl,_⟩
 ·have o9:=List.eq_nil_of_length_eq_zero hn
  subst o9
  refine(Tryz.slices_Sort_int_none none 0 w).mono fun e w' ⟨he,hw⟩=>?_
  subst hw
  exact⟨.aI [],_,φ,I,_,⟨rfl,rfl⟩,he,⟨[],rfl,rfl⟩,by rw[show db []=[] by simp[db]];exact tL hR _⟩
 ·obtain⟨hH,ag⟩:=aa2 hR az
  rw[Nat.zero_mul]
  refine(Tryz.slices_Sort_int g 0 c l w hH ag hl).mono fun e w' ⟨he,n,os,hw⟩=>?_
  subst hw
  exact⟨.aI [],_,φ,I,_,⟨rfl,rfl⟩,he,⟨[],rfl,rfl⟩,St.aaI encI hR az (ET l) n os⟩
theorem YV {m:Bd} (bX:fp m) {ks:List Int} (hp:ks.Perm (m.map (·.1))):db ks=(cV [] m).map (·.1):=by
 have hq:(cV [] m).Perm m:=by have:=yx m [];rwa [List.nil_append]at this
 have hs:=ES m [] (by rw[List.nil_append];exact bX) List.Pairwise.nil
 have U:(db ks).Perm (m.map (·.1)):=(List.mergeSort_perm ks _).trans hp
 have h2:(db ks).Pairwise (fun x y=>decide (x<=y)=true):=List.pairwise_mergeSort (fun a b c h k=>by simp at h k⊢;omega) (fun a b=>by simp;omega) ks
 have h3:(db ks).Nodup:=U.symm.nodup bX
 refine ER _ _ ?_ (List.pairwise_map.2 hs) fun v=>?_
 ·refine(List.Pairwise.and h2 h3).imp fun{a b} h=>?_
  have h4:a<=b:=by simpa using h.1
  have:=h.2
  omega
 ·rw[U.mem_iff,(hq.map (·.1)).mem_iff]
end Go.Proofs.YtpfohmboflcneaaGreatDoor
end
