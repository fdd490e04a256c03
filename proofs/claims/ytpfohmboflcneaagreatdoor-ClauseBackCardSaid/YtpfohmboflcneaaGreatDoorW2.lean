import Derived.Test.YtpfohmboflcneaaGreatDoorW1
import Derived.Lib.Strings
import Derived.Lib.Walk
import Derived.Lib.BufferWrite
import Derived.Lib.UnsafeStr
import Derived.Lib.Hide
import Derived.Laws.MakeOwn
import Derived.Lib.Builder
import Derived.Shelf.LaysM
import Derived.Shelf.Strconv.Itoa3
import Derived.Shelf.LaysC
import Derived.Shelf.Strconv.AtoiAll
import Derived.Shelf.Strconv.ErrVarAll
import Derived.Shelf.Strings.Prefix
import Derived.Lib.AtoiErrMem
import Derived.Test.YtpfohmboflcneaaGreatDoorCards
import Derived.Test.YtpfohmboflcneaaGreatDoorTie
import Derived.Stop.LaidErr
import Derived.Lib.LaidTab
import Derived.Shelf.Vars
import Derived.Shelf.Sort.Plain
import Derived.Shelf.Slices.In.SortNone
import Derived.Lib.IndexMore
import Derived.Shelf.Strings.Search3
set_option linter.unusedSimpArgs false
set_option linter.unusedVariables false
set_option linter.unnecessarySimpa false
section
namespace Go.Proofs.YtpfohmboflcneaaGreatDoor
open Go Go.AL Go.RowKit
set_option maxRecDepth 10000
set_option linter.unusedSimpArgs false
set_option maxHeartbeats 4000000 in
set_option maxRecDepth 100000 in
theorem L5 (l:List UInt8) (h0:l≠[]) (b g cap:Nat) (p sv:Value) (rest:List Value) (w:World) (own:Nat->Prop) (bg:own g)
  (gB:w.heap[b]?=some (.cells #[p,.slice (some ⟨g,0,none⟩) l.length cap,sv] 234 (0,0))) (hg:w.heap[g]?=some (.cells (Lib.byteCells l++rest).toArray 5 (0,0)))
  (pU:l.length<=cap) (FW:cap<=maxLen):
  Calls Tryz.prog 154 #[.pointer (some ⟨b,0,none⟩)] w fun e w'=>e= .returned (.string ⟨l.toArray⟩)/\Ext own w w':=by
 have i5:(Tryz.prog.info? 5).map (fun i=>(i.zero,i.size,i.bytes))=some (some (Value.int IntKind.u8 0),1,1):=by kernel_rfl
 obtain⟨i0,hi,Vv,iK,uq⟩:=info_parts i5
 have N2:Tryz.prog.cellsOf 5=1:=by simp[Program.cellsOf,hi,iK]
 have iF:l.length≠0:=by simpa using h0
 have c1:w.drew.cell? ⟨b,1,none⟩=some (.slice (some ⟨g,0,none⟩) l.length cap):=by
  have:w.drew.heap[b]?=some (.cells #[p,.slice (some ⟨g,0,none⟩) l.length cap,sv] 234 (0,0)):=gB
  rw[Lib.cell_of_heap this];rfl
 have nZ:(Builtin.unsafeSliceData_ #[230] 278 #[.slice (some ⟨g,0,none⟩) l.length cap]).run Tryz.prog w.drew= .ok (.pointer (some ⟨g,0,none⟩)) w.drew:=
  Lib.run_unsafeSliceData_row _ _ _ _ _ _ (by omega)
 have Ah:(Builtin.unsafeString_ #[278,3] 9 #[.pointer (some ⟨g,0,none⟩),.int .i64 l.length]).run Tryz.prog w.drew= .ok (.string ⟨l.toArray⟩) (w.drew.freeze ⟨g,0,none⟩ l.length):=by
  have cg:w.drew.heap[g]?=some (.cells (Lib.byteCells l++rest).toArray 5 (0,0)):=hg
  refine Lib.run_unsafeString_row w.drew 278 3 9 5 Tryz.underlying278 N2 g (Lib.byteCells l++rest).toArray.size (by simp[World.shape?,cg]) l h0 (by simp[Lib.byteCells_length]) (by unfold maxLen at FW;omega) ?_
  intro j x hx
  have ag:j<l.length:=by
   rcases Nat.lt_or_ge j l.length with h|h
   ·exact h
   ·rw[List.getElem?_eq_none h]at hx;cases hx
  have e1:(⟨g,0,none⟩:Addr).add j=⟨g,j,none⟩:=by unfold Addr.add;by_cases hj:j=0<;>simp[hj]
  rw[e1,Lib.cell_of_heap cg,List.getElem?_toArray,List.getElem?_append_left (by rw[Lib.byteCells_length];exact ag)]
  simp[Lib.byteCells,hx]
 go_enter Tryz.func154,Tryz.ntmps154
 go_wp2
 go_region
 all_goals(go_wp2;go_ret;exact⟨rfl,(zM w).trans (MT w.drew ⟨g,0,none⟩ l.length bg) (fun _ h=> .inl h)⟩)
set_option maxHeartbeats 4000000 in
set_option maxRecDepth 100000 in
theorem L2 (b:Nat) (p sv:Value) (w:World) (own:Nat->Prop) (gB:w.heap[b]?=some (.cells #[p,.slice none 0 0,sv] 234 (0,0))):
  Calls Tryz.prog 154 #[.pointer (some ⟨b,0,none⟩)] w fun e w'=>e= .returned (.string ⟨#[]⟩)/\Ext own w w':=by
 have Ah:∀(W:World) (q:Option Addr),(Builtin.unsafeString_ #[278,3] 9 #[.pointer q,.int .i64 0]).run Tryz.prog W= .ok (.string .empty) W:=fun W q=>Lib.run_unsafeString_none W _ _ _ q
 have c1:w.drew.cell? ⟨b,1,none⟩=some (.slice none 0 0):=by
  have:w.drew.heap[b]?=some (.cells #[p,.slice none 0 0,sv] 234 (0,0)):=gB
  rw[Lib.cell_of_heap this];rfl
 have nZ:(Builtin.unsafeSliceData_ #[230] 278 #[.slice none 0 0]).run Tryz.prog w.drew= .ok (.pointer none) w.drew:=rfl
 go_enter Tryz.func154,Tryz.ntmps154
 go_wp2
 go_region
 all_goals(go_wp2;go_ret;exact⟨rfl,zM w⟩)
set_option maxHeartbeats 4000000 in
set_option maxRecDepth 100000 in
theorem L3 (b g:Nat) (p sv:Value) (cur:Array Value) (w:World) (own:Nat->Prop) (gB:w.heap[b]?=some (.cells #[p,.slice (some ⟨g,0,none⟩) 0 0,sv] 234 (0,0))) (hg:w.heap[g]?=some (.cells cur 5 (0,0))):
  Calls Tryz.prog 154 #[.pointer (some ⟨b,0,none⟩)] w fun e w'=>e= .returned (.string ⟨#[]⟩)/\Ext own w w':=by
 have Ah:∀(W:World) (q:Option Addr),(Builtin.unsafeString_ #[278,3] 9 #[.pointer q,.int .i64 0]).run Tryz.prog W= .ok (.string .empty) W:=fun W q=>Lib.run_unsafeString_none W _ _ _ q
 have ag:b<w.heap.size:=by
  rcases Nat.lt_or_ge b w.heap.size with h'|h'
  ·exact h'
  ·simp[Array.getElem?_eq_none h']at gB
 have c1:w.drew.cell? ⟨b,1,none⟩=some (.slice (some ⟨g,0,none⟩) 0 0):=by
  have:w.drew.heap[b]?=some (.cells #[p,.slice (some ⟨g,0,none⟩) 0 0,sv] 234 (0,0)):=gB
  rw[Lib.cell_of_heap this];rfl
 have nZ:(Builtin.unsafeSliceData_ #[230] 278 #[.slice (some ⟨g,0,none⟩) 0 0]).run Tryz.prog w.drew= .ok (.pointer (some ⟨w.drew.heap.size,0,none⟩)) (w.drew.alloc (.view ⟨g,0,none⟩ 5)):=
  Lib.run_unsafeSliceData_zero w.drew _ _ 5 Tryz.underlying278 ⟨g,0,none⟩ 0 (5,cur.size) (by have cg:w.drew.heap[g]?=some (.cells cur 5 (0,0)):=hg;simp[World.shape?,cg])
 have c2:(w.drew.alloc (.view ⟨g,0,none⟩ 5)).cell? ⟨b,1,none⟩=some (.slice (some ⟨g,0,none⟩) 0 0):=by
  have:(w.drew.alloc (.view ⟨g,0,none⟩ 5)).heap[b]?=_:=(Lib.alloc_old w.drew _ b ag).trans gB
  rw[Lib.cell_of_heap this];rfl
 have c3:(w.alloc (.view ⟨g,0,none⟩ 5)).drew.cell? ⟨b,1,none⟩=some (.slice (some ⟨g,0,none⟩) 0 0):=c2
 have c0:w.cell? ⟨b,1,none⟩=some (.slice (some ⟨g,0,none⟩) 0 0):=c1
 go_enter Tryz.func154,Tryz.ntmps154
 go_wp2
 go_region
 all_goals(go_wp2;go_ret;exact⟨rfl,s7 (w:=w) _⟩)
set_option maxHeartbeats 4000000 in
set_option maxRecDepth 100000 in
theorem L4 (b g cap:Nat) (p sv:Value) (w:World) (own:Nat->Prop) (tl:cap≠0) (gB:w.heap[b]?=some (.cells #[p,.slice (some ⟨g,0,none⟩) 0 cap,sv] 234 (0,0))):
  Calls Tryz.prog 154 #[.pointer (some ⟨b,0,none⟩)] w fun e w'=>e= .returned (.string ⟨#[]⟩)/\Ext own w w':=by
 have Ah:∀(W:World) (q:Option Addr),(Builtin.unsafeString_ #[278,3] 9 #[.pointer q,.int .i64 0]).run Tryz.prog W= .ok (.string .empty) W:=fun W q=>Lib.run_unsafeString_none W _ _ _ q
 have c1:w.drew.cell? ⟨b,1,none⟩=some (.slice (some ⟨g,0,none⟩) 0 cap):=by
  have:w.drew.heap[b]?=some (.cells #[p,.slice (some ⟨g,0,none⟩) 0 cap,sv] 234 (0,0)):=gB
  rw[Lib.cell_of_heap this];rfl
 have nZ:(Builtin.unsafeSliceData_ #[230] 278 #[.slice (some ⟨g,0,none⟩) 0 cap]).run Tryz.prog w.drew= .ok (.pointer (some ⟨g,0,none⟩)) w.drew:=
  Lib.run_unsafeSliceData_row _ _ _ _ _ _ tl
 clear tl
 go_enter Tryz.func154,Tryz.ntmps154
 go_wp2
 go_region
 all_goals(go_wp2;go_ret;exact⟨rfl,zM w⟩)
theorem D8 {w:World} {I:Nat->Prop}:∀(l:List UInt8) (ae:List (List Value)),IV.aC w I (cU l) ae->ae.flatten=Lib.byteCells l
 |[],ae,h=>by simp only[cU,List.map_nil,IV.aC]at h;subst h;rfl
 |x::l,ae,h=>by
  simp only[cU,List.map_cons,IV.aC,IV.ab,IV.den]at h
  obtain⟨u,aj,rfl,⟨v,vs,rfl,⟨rfl,_⟩,rfl⟩,h2⟩:=h
  have:=D8 l aj h2
  simp[Lib.byteCells,this]
theorem L6 (l:List UInt8) (p:AV) (sh:Bool):al Tryz.prog 154 [.ob 0 0] [(0,.var 234 [p,.os 1 1 0 l.length,Bv sh]),(1,.vec 5 1 (cU l))] (fun r H'=>H'=[]/\r=Sv l):=by
 refine al.drop (r:=Sv l) (by rfl) rfl ⟨rfl,rfl⟩ fun w φ I vs hd hR _=>?_
 simp only[AV.ab,AV.den]at hd
 obtain⟨u,us,rfl,⟨b,hb,rfl⟩,rfl⟩:=hd
 have h0:=hR.own 0 _ _ rfl hb
 simp only[Ob.at,Sh.has,AV.ab,AV.den]at h0
 obtain⟨b',us,Al,gB,⟨u,oY,rfl,_,v,yW,rfl,hv,sv,S6,rfl,_,rfl⟩,_⟩:=h0
 cases Al
 have key:Calls Tryz.prog 154 #[.pointer (some ⟨b,0,none⟩)] w fun e' w'=>e'= .returned (.string ⟨l.toArray⟩)/\Ext (cB φ) w w':=by
  rcases hv with⟨_,_,hl,rfl⟩|⟨g,c,hg,rfl,h2,h3,h4⟩
  ·have:l=[]:=List.eq_nil_of_length_eq_zero hl
   subst this
   exact L2 b u sv w _ gB
  ·have U:=hR.own 1 _ _ rfl hg
   simp only[Ob.at]at U
   rcases U with⟨U,_⟩|⟨g',ae,rest,e7,AF,hr,_⟩
   ·cases U
   cases e7
   have c_:=D8 l ae hr
   rw[c_]at AF
   simp only[Nat.zero_mul]at gB
   by_cases hl:l=[]
   ·subst hl
    by_cases hc:c=0
    ·subst hc
     exact L3 b g u sv _ w _ gB AF
    ·exact L4 b g c u sv w _ hc gB
   ·exact L5 l hl b g c u sv rest w _ ⟨1,hg⟩ gB AF h2 h3
 refine key.mono fun e w' ⟨he,hx⟩=>⟨_,he,?_,hx⟩
 rw[jd]
 rfl
theorem D5:∃j,Tryz.prog.info? 232=some j/\j.size≠0:=by
 have h:(Tryz.prog.info? 232).map (·.size)=some 2:=by kernel_rfl
 obtain⟨j,hj,hs⟩:=Option.map_eq_some_iff.1 h
 exact⟨j,hj,by rw[hs];decide⟩
theorem L7:liesAt Tryz.prog Tryz.prog.depth 234 (3/Tryz.prog.cellsOf 234) 0 232 1=true:=by kernel_rfl
theorem JA {w:World} {φ:ak} {I:Nat->Prop} {H:aa} {b g:Nat} {p q:AV} {sh:Bool} (hR:Real w φ I H) (hl:lk H b=some (.var 234 [p,q,Bv sh])) (hb:φ b=some (some g)):w.shape? g=some (234,3):=by
 have h0:=hR.own b _ _ hl hb
 simp only[Ob.at,Sh.has,AV.ab]at h0
 obtain⟨b',us,Al,gB,⟨u,oY,rfl,_,v,yW,rfl,hv,sv,S6,rfl,_,rfl⟩,_⟩:=h0
 cases Al
 simp[World.shape?,gB]
theorem CB {C:Cx} {φ:ak} {I:Nat->Prop} {E:Env} {H:aa} {a:Act} {w:World} (hs:a_ C φ I E H a w) {t:Nat} (ht:lk E t=some (.ob 0 0)):∃g,φ 0=some (some g)/\a.eval (.tmp t)= .pointer (some ⟨g,0,none⟩):=by
 obtain⟨u,hu,hd⟩:=hs.env _ _ ht
 simp only[AV.den]at hd
 obtain⟨g,hg,rfl⟩:=hd
 exact⟨g,hg,by simp only[Act.eval,Array.getD_eq_getD_getElem?,hu,Option.getD_some]⟩
set_option maxRecDepth 10000
set_option maxHeartbeats 1000000
theorem Ev (q:AV) (sh:Bool) (rows:List (List IV)):al Tryz.prog 196 [.ob 0 0] [(0,.var 234 [.im (.v (.pointer none)),q,Bv sh]),(1,.vec 5 1 rows)] (fun r H'=>H'=[(0,.var 234 [.ob 0 0,q,Bv sh]),(1,.vec 5 1 rows)]/\r= .aK []):=by
 obtain⟨j,hj,tD⟩:=D5
 refine al.walk [0,6,19] [] Tryz.func196 rfl Tryz.ntmps196 (by kernel_rfl) (by rfl) rfl fun W own I0 aw lay=>?_
 refine gO ?_
 refine AQ.val (.ob 0 0) (by kernel_rfl) rfl (fun φ I a w hs=>?_) ?_
 ·obtain⟨g,hg,kj⟩:=CB (t:=8) hs rfl
  have da:=JA hs.st.real rfl hg
  refine⟨_,?_,by simp only[AV.den];exact⟨g,hg,rfl⟩⟩
  simp only[execOp,kj,Sem.run_bind]
  rw[Lib.run_to_unsafe w ⟨g,0,none⟩ Tryz.underlying229 Tryz.underlying300 hj tD da (Nat.zero_lt_succ _)]
  rfl
 refine gO ?_
 refine AQ.val (.ob 0 0) (by kernel_rfl) rfl (fun φ I a w hs=>?_) ?_
 ·obtain⟨g,hg,kj⟩:=CB (t:=9) hs rfl
  refine⟨_,?_,by simp only[AV.den];exact⟨g,hg,rfl⟩⟩
  simp only[execOp,Sem.run_bind,resolve,invoke,Sem.run_pure,Result.andThen_ok,List.map_toArray,List.map_cons,List.map_nil,kj]
  have hf:a.eval (Operand.func 224)= .func (.func 224) #[] #[]:=rfl
  simp only[hf,Deferred.ofValue,Sem.run_pure,Result.andThen_ok,Array.append_empty,Array.empty_append]
  rw[run_callFunc_extern Tryz.func224 (by kernel_rfl) (by kernel_rfl) (by kernel_rfl) (e:=Extern.AbiNoEscape.same) (by kernel_rfl)]
  rw[Lib.run_noEscape]
  rfl
 refine gO ?_
 refine AQ.val (.ob 0 0) (by kernel_rfl) rfl (fun φ I a w hs=>?_) ?_
 ·obtain⟨g,hg,kj⟩:=CB (t:=10) hs rfl
  have da:=JA hs.st.real rfl hg
  refine⟨_,?_,by simp only[AV.den];exact⟨g,hg,rfl⟩⟩
  simp only[execOp,kj,Sem.run_bind]
  rw[Lib.run_from_unsafe w ⟨g,0,none⟩ Tryz.underlying300 Tryz.underlying229 hj da L7]
  rfl
 refine gO ?_
 exact AE.gZ rfl trivial ⟨rfl,rfl⟩
theorem Ew (q:AV) (sh:Bool) (rows:List (List IV)):al Tryz.prog 196 [.ob 0 0] [(0,.var 234 [.ob 0 0,q,Bv sh]),(1,.vec 5 1 rows)] (fun r H'=>H'=[(0,.var 234 [.ob 0 0,q,Bv sh]),(1,.vec 5 1 rows)]/\r= .aK []):=by
 obtain⟨j,hj,tD⟩:=D5
 refine al.walk [0,6,19] [] Tryz.func196 rfl Tryz.ntmps196 (by kernel_rfl) (by rfl) rfl fun W own I0 aw lay=>?_
 refine gO ?_
 exact AE.gZ rfl trivial ⟨rfl,rfl⟩
theorem Tv (p:AV) (hp:p= .im (.v (.pointer none))\/p= .ob 0 0) (sh:Bool) (l m:List UInt8) (n:Nat) (hn:n=l.length) (hb:l.length+m.length<=1000000000):
  al Tryz.prog 152 [.ob 0 0,Sv m] [(0,.var 234 [p,.os 1 1 0 n,Bv sh]),(1,.vec 5 1 (cU l))]
   (fun r H'=>H'=[(0,.var 234 [.ob 0 0,.os 2 1 0 (n+m.length),Bv sh]),(2,.vec 5 1 (cU (l++m)))]/\r= .aK [Iv m.length,.im (.v .nilIface)]):=by
 subst hn
 have gC:al Tryz.prog 196 [.ob 0 0] [(0,.var 234 [p,.os 1 1 0 l.length,Bv sh]),(1,.vec 5 1 (cU l))] (fun r H'=>H'=[(0,.var 234 [.ob 0 0,.os 1 1 0 l.length,Bv sh]),(1,.vec 5 1 (cU l))]/\r= .aK []):=by
  rcases hp with rfl|rfl
  ·exact Ev _ _ _
  ·exact Ew _ _ _
 have A9:iU (a8 [(0,0),(1,1)] 2) [(0,.var 234 [p,.os 1 1 0 l.length,Bv sh]),(1,.vec 5 1 (cU l))] [(0,.var 234 [p,.os 1 1 0 l.length,Bv sh]),(1,.vec 5 1 (cU l))]:=by
  rcases hp with rfl|rfl
  ·exact⟨rfl,rfl,trivial⟩
  ·exact⟨rfl,rfl,trivial⟩
 refine al.walk [0,1,4,5] [] Tryz.func152 rfl Tryz.ntmps152 (by kernel_rfl) (by rfl) rfl fun W own I0 aw lay=>?_
 refine gO ?_
 refine AQ.bE [(0,0),(1,1)] (by kernel_rfl) rfl rfl rfl rfl rfl rfl A9 rfl gC ?_
 rintro r H1 ⟨rfl,rfl⟩
 refine⟨rfl,?_⟩
 refine gO ?_
 refine AQ.rename 1 2 rfl rfl rfl ?_
 refine sI ?_
 refine AQ.kill 2 ?_
 refine sI ?_
 refine AQ.LA (hnb:=rfl) (l:=m) (by kernel_rfl) rfl rfl rfl rfl (by kernel_rfl) (by kernel_rfl) (by kernel_rfl) (by kernel_rfl) (by kernel_rfl) (lE l).symm (by rw[lE];omega) ?_
 refine gO ?_
 exact AE.ret rfl ⟨rfl,rfl,trivial⟩ ⟨by rw[lE,show cU (l++m)=cU l++cU m by simp[cU]],rfl⟩
end Go.Proofs.YtpfohmboflcneaaGreatDoor
end
section
namespace Go.Proofs
open Go.Shelf
def Tryz.P6:Go.Shelf.Ren:=⟨fun|171=>202|243=>227|246=>249|283=>259|284=>260|285=>261|286=>262|129=>240|317=>266|318=>267|319=>268|320=>269|337=>270|338=>271|n=>n,fun|3=>3|9=>9|2=>2|4=>4|171=>338|0=>0|53=>314|37=>230|5=>5|173=>340|212=>350|51=>312|20=>20|213=>351|46=>295|232=>352|233=>353|n=>n,fun|17=>3|18=>4|19=>5|n=>n⟩
theorem Tryz.P5:Go.Proofs.LaysM.n171 Tryz.prog Tryz.P6:={
 mixed:=by kernel_rfl
 f129:=Tryz.func240.trans (congrArg some (by kernel_rfl))
 f171:=Tryz.func202.trans (congrArg some (by kernel_rfl))
 f243:=Tryz.func227.trans (congrArg some (by kernel_rfl))
 f246:=Tryz.func249.trans (congrArg some (by kernel_rfl))
 f283:=Tryz.func259.trans (congrArg some (by kernel_rfl))
 f284:=Tryz.func260.trans (congrArg some (by kernel_rfl))
 f285:=Tryz.func261.trans (congrArg some (by kernel_rfl))
 f286:=Tryz.func262.trans (congrArg some (by kernel_rfl))
 f317:=Tryz.func266.trans (congrArg some (by kernel_rfl))
 f318:=Tryz.func267.trans (congrArg some (by kernel_rfl))
 f319:=Tryz.func268.trans (congrArg some (by kernel_rfl))
 f320:=Tryz.func269.trans (congrArg some (by kernel_rfl))
 f337:=Tryz.func270.trans (congrArg some (by kernel_rfl))
 f338:=Tryz.func271.trans (congrArg some (by kernel_rfl))
 t0:=Tryz.underlying0
 a0:=Tryz.isAgg0
 z0:=Tryz.sizeOf0
 v0:=Tryz.zeroValue0
 t2:=Tryz.underlying2
 a2:=Tryz.isAgg2
 z2:=Tryz.sizeOf2
 v2:=Tryz.zeroValue2
 t3:=Tryz.underlying3
 a3:=Tryz.isAgg3
 z3:=Tryz.sizeOf3
 v3:=Tryz.zeroValue3
 t4:=Tryz.underlying4
 a4:=Tryz.isAgg4
 z4:=Tryz.sizeOf4
 v4:=Tryz.zeroValue4
 t5:=Tryz.underlying5
 a5:=Tryz.isAgg5
 z5:=Tryz.sizeOf5
 v5:=Tryz.zeroValue5
 t9:=Tryz.underlying9
 a9:=Tryz.isAgg9
 z9:=Tryz.sizeOf9
 v9:=Tryz.zeroValue9
 t20:=Tryz.underlying20
 a20:=Tryz.isAgg20
 z20:=Tryz.sizeOf20
 v20:=Tryz.zeroValue20
 t37:=Tryz.underlying230
 a37:=Tryz.isAgg230
 z37:=Tryz.sizeOf230
 v37:=Tryz.zeroValue230
 t46:=Tryz.underlying295
 a46:=Tryz.isAgg295
 z46:=Tryz.sizeOf295
 v46:=Tryz.zeroValue295
 t51:=Tryz.underlying312
 a51:=Tryz.isAgg312
 z51:=Tryz.sizeOf312
 v51:=Tryz.zeroValue312
 t53:=Tryz.underlying314
 a53:=Tryz.isAgg314
 z53:=Tryz.sizeOf314
 v53:=Tryz.zeroValue314
 t171:=Tryz.underlying338
 a171:=Tryz.isAgg338
 z171:=Tryz.sizeOf338
 v171:=Tryz.zeroValue338
 t173:=Tryz.underlying340
 a173:=Tryz.isAgg340
 z173:=Tryz.sizeOf340
 v173:=Tryz.zeroValue340
 t212:=Tryz.underlying350
 a212:=Tryz.isAgg350
 z212:=Tryz.sizeOf350
 v212:=Tryz.zeroValue350
 t213:=Tryz.underlying351
 a213:=Tryz.isAgg351
 z213:=Tryz.sizeOf351
 t232:=Tryz.underlying352
 a232:=Tryz.isAgg352
 z232:=Tryz.sizeOf352
 v232:=Tryz.zeroValue352
 t233:=Tryz.underlying353
 a233:=Tryz.isAgg353
 z233:=Tryz.sizeOf353
 v233:=Tryz.zeroValue353
 g17:=by kernel_rfl
 g18:=by kernel_rfl
 g19:=by kernel_rfl
 i0:=by kernel_rfl
 i2:=by kernel_rfl
 i3:=by kernel_rfl
 i4:=by kernel_rfl
 i5:=by kernel_rfl
 i9:=by kernel_rfl
 i20:=by kernel_rfl
 i37:=by kernel_rfl
 i46:=by kernel_rfl
 i51:=by kernel_rfl
 i53:=by kernel_rfl
 i171:=by kernel_rfl
 i173:=by kernel_rfl
 i212:=by kernel_rfl
 i232:=by kernel_rfl
 i233:=by kernel_rfl
 m17:=by kernel_rfl
 m18:=by kernel_rfl
 m19:=by kernel_rfl}
open Go.RowKit Go.Sort Go.Lib in
theorem Tryz.strconv_Itoa (n:Int) (h0:-9223372036854775808<=n) (U:n<=9223372036854775807) (w:World) (O_:Lib.TabIs Tryz.prog w "internal/strconv.uint64pow10" .u64 Lib.pow10Tab):
  Calls Tryz.prog 202 #[.int .i64 n] w fun e w'=>e= .returned (.string ⟨(Lib.itoa n).toArray⟩)/\∃k os,w'=grow (w.drewN k) os:=Any.strconv_Itoa Tryz.P5 n h0 U w O_
def Tryz.P4:Go.Shelf.Ren:=⟨fun|172=>201|244=>225|245=>226|247=>244|279=>245|280=>246|281=>247|282=>248|287=>256|316=>257|171=>202|205=>258|321=>264|322=>265|243=>227|246=>249|283=>259|284=>260|285=>261|286=>262|129=>240|317=>266|318=>267|319=>268|320=>269|337=>270|338=>271|n=>n,fun|9=>9|3=>3|75=>236|76=>237|4=>4|5=>5|167=>319|37=>230|0=>0|85=>320|2=>2|168=>322|53=>314|175=>332|46=>295|210=>336|127=>278|145=>348|143=>346|21=>21|171=>338|173=>340|212=>350|51=>312|20=>20|213=>351|232=>352|233=>353|80=>240|n=>n,fun|15=>1|16=>2|17=>3|18=>4|19=>5|n=>n⟩
theorem Tryz.xY:Go.Proofs.LaysC.n172 Tryz.prog Tryz.P4:={
 mixed:=by kernel_rfl
 f129:=Tryz.func240.trans (congrArg some (by kernel_rfl))
 f171:=Tryz.func202.trans (congrArg some (by kernel_rfl))
 f172:=Tryz.func201.trans (congrArg some (by kernel_rfl))
 f205:=Tryz.func258.trans (congrArg some (by kernel_rfl))
 f243:=Tryz.func227.trans (congrArg some (by kernel_rfl))
 f244:=Tryz.func225.trans (congrArg some (by kernel_rfl))
 f245:=Tryz.func226.trans (congrArg some (by kernel_rfl))
 f246:=Tryz.func249.trans (congrArg some (by kernel_rfl))
 f247:=Tryz.func244.trans (congrArg some (by kernel_rfl))
 f279:=Tryz.func245.trans (congrArg some (by kernel_rfl))
 f280:=Tryz.func246.trans (congrArg some (by kernel_rfl))
 f281:=Tryz.func247.trans (congrArg some (by kernel_rfl))
 f282:=Tryz.func248.trans (congrArg some (by kernel_rfl))
 f283:=Tryz.func259.trans (congrArg some (by kernel_rfl))
 f284:=Tryz.func260.trans (congrArg some (by kernel_rfl))
 f285:=Tryz.func261.trans (congrArg some (by kernel_rfl))
 f286:=Tryz.func262.trans (congrArg some (by kernel_rfl))
 f287:=Tryz.func256.trans (congrArg some (by kernel_rfl))
 f316:=Tryz.func257.trans (congrArg some (by kernel_rfl))
 f317:=Tryz.func266.trans (congrArg some (by kernel_rfl))
 f318:=Tryz.func267.trans (congrArg some (by kernel_rfl))
 f319:=Tryz.func268.trans (congrArg some (by kernel_rfl))
 f320:=Tryz.func269.trans (congrArg some (by kernel_rfl))
 f321:=Tryz.func264.trans (congrArg some (by kernel_rfl))
 f322:=Tryz.func265.trans (congrArg some (by kernel_rfl))
 f337:=Tryz.func270.trans (congrArg some (by kernel_rfl))
 f338:=Tryz.func271.trans (congrArg some (by kernel_rfl))
 t0:=Tryz.underlying0
 a0:=Tryz.isAgg0
 z0:=Tryz.sizeOf0
 v0:=Tryz.zeroValue0
 t2:=Tryz.underlying2
 a2:=Tryz.isAgg2
 z2:=Tryz.sizeOf2
 v2:=Tryz.zeroValue2
 t3:=Tryz.underlying3
 a3:=Tryz.isAgg3
 z3:=Tryz.sizeOf3
 v3:=Tryz.zeroValue3
 t4:=Tryz.underlying4
 a4:=Tryz.isAgg4
 z4:=Tryz.sizeOf4
 v4:=Tryz.zeroValue4
 t5:=Tryz.underlying5
 a5:=Tryz.isAgg5
 z5:=Tryz.sizeOf5
 v5:=Tryz.zeroValue5
 t9:=Tryz.underlying9
 a9:=Tryz.isAgg9
 z9:=Tryz.sizeOf9
 v9:=Tryz.zeroValue9
 t20:=Tryz.underlying20
 a20:=Tryz.isAgg20
 z20:=Tryz.sizeOf20
 v20:=Tryz.zeroValue20
 t21:=Tryz.underlying21
 a21:=Tryz.isAgg21
 z21:=Tryz.sizeOf21
 v21:=Tryz.zeroValue21
 t37:=Tryz.underlying230
 a37:=Tryz.isAgg230
 z37:=Tryz.sizeOf230
 v37:=Tryz.zeroValue230
 t46:=Tryz.underlying295
 a46:=Tryz.isAgg295
 z46:=Tryz.sizeOf295
 v46:=Tryz.zeroValue295
 t51:=Tryz.underlying312
 a51:=Tryz.isAgg312
 z51:=Tryz.sizeOf312
 v51:=Tryz.zeroValue312
 t53:=Tryz.underlying314
 a53:=Tryz.isAgg314
 z53:=Tryz.sizeOf314
 v53:=Tryz.zeroValue314
 t75:=Tryz.underlying236
 a75:=Tryz.isAgg236
 z75:=Tryz.sizeOf236
 v75:=Tryz.zeroValue236
 t76:=Tryz.underlying237
 a76:=Tryz.isAgg237
 z76:=Tryz.sizeOf237
 v76:=Tryz.zeroValue237
 t85:=Tryz.underlying320
 a85:=Tryz.isAgg320
 z85:=Tryz.sizeOf320
 v85:=Tryz.zeroValue320
 t127:=Tryz.underlying278
 a127:=Tryz.isAgg278
 z127:=Tryz.sizeOf278
 v127:=Tryz.zeroValue278
 t143:=Tryz.underlying346
 a143:=Tryz.isAgg346
 z143:=Tryz.sizeOf346
 v143:=Tryz.zeroValue346
 t145:=Tryz.underlying348
 a145:=Tryz.isAgg348
 z145:=Tryz.sizeOf348
 v145:=Tryz.zeroValue348
 t167:=Tryz.underlying319
 a167:=Tryz.isAgg319
 z167:=Tryz.sizeOf319
 v167:=Tryz.zeroValue319
 t168:=Tryz.underlying322
 a168:=Tryz.isAgg322
 z168:=Tryz.sizeOf322
 v168:=Tryz.zeroValue322
 t171:=Tryz.underlying338
 a171:=Tryz.isAgg338
 z171:=Tryz.sizeOf338
 v171:=Tryz.zeroValue338
 t173:=Tryz.underlying340
 a173:=Tryz.isAgg340
 z173:=Tryz.sizeOf340
 v173:=Tryz.zeroValue340
 t175:=Tryz.underlying332
 a175:=Tryz.isAgg332
 z175:=Tryz.sizeOf332
 v175:=Tryz.zeroValue332
 t210:=Tryz.underlying336
 a210:=Tryz.isAgg336
 z210:=Tryz.sizeOf336
 v210:=Tryz.zeroValue336
 t212:=Tryz.underlying350
 a212:=Tryz.isAgg350
 z212:=Tryz.sizeOf350
 v212:=Tryz.zeroValue350
 t213:=Tryz.underlying351
 a213:=Tryz.isAgg351
 z213:=Tryz.sizeOf351
 t232:=Tryz.underlying352
 a232:=Tryz.isAgg352
 z232:=Tryz.sizeOf352
 v232:=Tryz.zeroValue352
 t233:=Tryz.underlying353
 a233:=Tryz.isAgg353
 z233:=Tryz.sizeOf353
 v233:=Tryz.zeroValue353
 g15:=by kernel_rfl
 g16:=by kernel_rfl
 g17:=by kernel_rfl
 g18:=by kernel_rfl
 g19:=by kernel_rfl
 t80:=Tryz.underlying240
 a80:=Tryz.isAgg240
 z80:=Tryz.sizeOf240
 v80:=Tryz.zeroValue240
 i0:=by kernel_rfl
 i2:=by kernel_rfl
 i3:=by kernel_rfl
 i4:=by kernel_rfl
 i5:=by kernel_rfl
 i9:=by kernel_rfl
 i20:=by kernel_rfl
 i21:=by kernel_rfl
 i37:=by kernel_rfl
 i46:=by kernel_rfl
 i51:=by kernel_rfl
 i53:=by kernel_rfl
 i75:=by kernel_rfl
 i76:=by kernel_rfl
 i80:=by kernel_rfl
 i85:=by kernel_rfl
 i127:=by kernel_rfl
 i143:=by kernel_rfl
 i145:=by kernel_rfl
 i167:=by kernel_rfl
 i168:=by kernel_rfl
 i171:=by kernel_rfl
 i173:=by kernel_rfl
 i175:=by kernel_rfl
 i210:=by kernel_rfl
 i212:=by kernel_rfl
 i232:=by kernel_rfl
 i233:=by kernel_rfl
 m15:=by kernel_rfl
 m16:=by kernel_rfl
 m17:=by kernel_rfl
 m18:=by kernel_rfl
 m19:=by kernel_rfl
 c0:=by kernel_rfl
 c2:=by kernel_rfl
 c3:=by kernel_rfl
 c4:=by kernel_rfl
 c5:=by kernel_rfl
 c9:=by kernel_rfl
 c20:=by kernel_rfl
 c21:=by kernel_rfl
 c37:=by kernel_rfl
 c46:=by kernel_rfl
 c51:=by kernel_rfl
 c53:=by kernel_rfl
 c75:=by kernel_rfl
 c76:=by kernel_rfl
 c80:=by kernel_rfl
 c85:=by kernel_rfl
 c127:=by kernel_rfl
 c143:=by kernel_rfl
 c145:=by kernel_rfl
 c167:=by kernel_rfl
 c168:=by kernel_rfl
 c171:=by kernel_rfl
 c173:=by kernel_rfl
 c175:=by kernel_rfl
 c210:=by kernel_rfl
 c212:=by kernel_rfl
 c213:=by kernel_rfl
 c232:=by kernel_rfl
 c233:=by kernel_rfl}
open Go.RowKit in
theorem Tryz.strconv_Atoi_ok (s:ByteArray) (OD:s.size<=9223372036854775806) (v:Int) (h:Lib.atoiAll s.data.toList= .ok v) (w:World):
  Calls Tryz.prog 201 #[.string s] w fun e w'=>e= .returned (.tuple #[.int .i64 v,.nilIface])/\(w'=w\/∃t,w'=Lib.bytesWorld w 5 t):=Any.strconv_Atoi_ok Tryz.xY s OD v h w
open Go.RowKit in
theorem Tryz.strconv_Atoi_syntax_var (s:ByteArray) (AK:s.size<=281474976710656) (h:Lib.atoiAll s.data.toList= .«syntax») (tp:TypeId) (p:Value) (w:World) (rC:w.var? Tryz.prog "strconv.ErrSyntax" =some #[.iface tp p]):
  Calls Tryz.prog 201 #[.string s] w fun e w'=>∃N,e= .returned (.tuple #[.int .i64 0,.iface 322 (.pointer (some ⟨N,0,none⟩))])/\w.heap.size<=N/\w'.heap[N]?=some (.cells #[.string ⟨#[65,116,111,105]⟩,.string s,.iface tp p] 336 (0,0))/\Below w.heap.size w w':=Any.strconv_Atoi_syntax_var Tryz.xY s AK h tp p w rC
open Go.RowKit in
theorem Tryz.strconv_Atoi_range_var (s:ByteArray) (AK:s.size<=281474976710656) (h:Lib.atoiAll s.data.toList= .range) (tp:TypeId) (p:Value) (w:World) (rC:w.var? Tryz.prog "strconv.ErrRange" =some #[.iface tp p]):
  Calls Tryz.prog 201 #[.string s] w fun e w'=>∃N,e= .returned (.tuple #[.int .i64 (Lib.atoiSat s.data.toList),.iface 322 (.pointer (some ⟨N,0,none⟩))])/\w.heap.size<=N/\w'.heap[N]?=some (.cells #[.string ⟨#[65,116,111,105]⟩,.string s,.iface tp p] 336 (0,0))/\Below w.heap.size w w':=Any.strconv_Atoi_range_var Tryz.xY s AK h tp p w rC
def Tryz.P3:Go.Shelf.Ren:=⟨fun|99=>160|206=>203|n=>n,fun|9=>9|4=>4|3=>3|n=>n,fun|n=>n⟩
theorem Tryz.P2:Go.Proofs.Lays.n99 Tryz.prog Tryz.P3:={
 mixed:=by kernel_rfl
 f99:=Tryz.func160.trans (congrArg some (by kernel_rfl))
 f206:=Tryz.func203.trans (congrArg some (by kernel_rfl))
 t3:=Tryz.underlying3
 a3:=Tryz.isAgg3
 z3:=Tryz.sizeOf3
 v3:=Tryz.zeroValue3
 t4:=Tryz.underlying4
 a4:=Tryz.isAgg4
 z4:=Tryz.sizeOf4
 v4:=Tryz.zeroValue4
 t9:=Tryz.underlying9
 a9:=Tryz.isAgg9
 z9:=Tryz.sizeOf9
 v9:=Tryz.zeroValue9}
open Go.RowKit Go.Lib in
theorem Tryz.strings_HasPrefix (s p:ByteArray) (w:World):
  Calls Tryz.prog 160 #[.string s,.string p] w fun e w'=>e= .returned (.bool (Lib.hasPrefix s.data.toList p.data.toList))/\w'=w:=Any.strings_HasPrefix Tryz.P2 s p w
end Go.Proofs
end
section
namespace Go.Proofs.YtpfohmboflcneaaGreatDoor
open Go Go.AL Go.RowKit
set_option maxRecDepth 10000
set_option maxHeartbeats 4000000
def fA (l:List UInt8):Int×Bool:=match Lib.atoiAll l with
 | .ok v=>(v,true)
 | .range=>(Lib.atoiSat l,false)
 |_=>(0,false)
def kb (b:Bool):AV:=bif b then .im (.v .nilIface)else .wr (.iface 322) .top
theorem yY {P:Program} {w:World} {I:Nat->Prop} {n:String} {Q:Obj->Prop} (hV:VK P w I) (hm:(n,Q)∈oB) (hs:(P.globalNamed n).isSome=true):∃g o,P.globalNamed n=some g/\w.heap[g]?=some o/\Q o:=by
 obtain⟨g,hg⟩:=Option.isSome_iff_exists.1 hs
 obtain⟨_,o,U,h2⟩:=hV _ hm g hg
 exact⟨g,o,hg,U,h2⟩
theorem DW (l:List UInt8) (hl:l.length<=1000000000):aR Tryz.prog 201 [Sv l] (.aK [Iv (fA l).1,kb (fA l).2]):=by
 refine aR.yl (by rfl) (by cases(fA l).2<;>rfl) fun w φ I vs hd hI hV=>?_
 simp only[AV.ab]at hd
 obtain⟨u,us,rfl,hu,rfl⟩:=hd
 rw[jd]at hu
 subst hu
 have hb:(BA l).data.toList=l:=o3 l
 have aO:(BA l).size=l.length:=rfl
 cases h:Lib.atoiAll l with
 |ok v=>
  have e:fA l=(v,true):=by simp[fA,h]
  rw[e]
  refine(Tryz.strconv_Atoi_ok (BA l) (by omega) v (by rw[hb];exact h) w).mono fun e w' ⟨he,hw⟩=>⟨_,he,?_,?_⟩
  ·simp only[AV.den,AV.ab,IV.den,kb,cond_true]
   exact⟨_,⟨_,_,rfl,⟨rfl,rfl⟩,_,_,rfl,⟨rfl,rfl⟩,rfl⟩,rfl⟩
  ·rcases hw with rfl|⟨t,rfl⟩
   ·exact Below.refl _ _
   ·exact Lib.bytesWorld_below _ _ _
 |range=>
  have e:fA l=(Lib.atoiSat l,false):=by simp[fA,h]
  rw[e]
  obtain⟨g,o,hg,ho,tp,p,T,fz,rfl⟩:=yY (n:= "strconv.ErrRange") hV (by simp only[oB,List.mem_cons];exact .inr (.inl rfl)) (by rfl)
  refine(Tryz.strconv_Atoi_range_var (BA l) (by omega) (by rw[hb];exact h) tp p w (by simp only[World.var?,hg,Option.bind_some,ho])).mono fun e w' ⟨N,he,_,_,hw⟩=>⟨_,he,?_,hw⟩
  rw[hb]
  simp only[AV.den,AV.ab,IV.den,kb,cond_false,WK.rel]
  exact⟨_,⟨_,_,rfl,⟨rfl,rfl⟩,_,_,rfl,⟨_,rfl,trivial⟩,rfl⟩,rfl⟩
 |_=>
  have e:fA l=(0,false):=by simp[fA,h]
  rw[e]
  obtain⟨g,o,hg,ho,tp,p,T,fz,rfl⟩:=yY (n:= "strconv.ErrSyntax") hV (by simp only[oB,List.mem_cons];exact .inl rfl) (by rfl)
  refine(Any.strconv_Atoi_syntax_var Tryz.xY (BA l) (by omega) (by rw[hb];exact h) tp p w (by simp only[World.var?,hg,Option.bind_some,ho])).mono fun e w' ⟨N,he,_,_,hw⟩=>⟨_,he,?_,hw⟩
  simp only[AV.den,AV.ab,IV.den,kb,cond_false,WK.rel]
  exact⟨_,⟨_,_,rfl,⟨rfl,rfl⟩,_,_,rfl,⟨_,rfl,trivial⟩,rfl⟩,rfl⟩
theorem DV (l:List UInt8):-9223372036854775808<=(fA l).1/\(fA l).1<=9223372036854775807:=by
 unfold fA
 split
 ·rename_i v h;exact Lib.atoiAll_bounds h
 ·exact Lib.atoiSat_bounds l
 ·simp
theorem BM (n:Int) (h:-9223372036854775808<=n/\n<=9223372036854775807):aR Tryz.prog 202 [Iv n] (Sv (Lib.itoa n)):=by
 refine aR.yl (by rfl) rfl fun w φ I vs hd hI hV=>?_
 simp only[AV.ab]at hd
 obtain⟨u,us,rfl,hu,rfl⟩:=hd
 rw[eX]at hu
 subst hu
 obtain⟨g,o,hg,ho,T,fz,rfl⟩:=yY (n:= "internal/strconv.uint64pow10") hV (by simp only[oB,List.mem_cons];exact .inr (.inr (.inl rfl))) (by rfl)
 refine(Tryz.strconv_Itoa n h.1 h.2 w (by simp only[Lib.TabIs,World.var?,hg,Option.bind_some,ho];rfl)).mono fun e w' ⟨he,k,os,hw⟩=>⟨_,he,by rw[jd];rfl,?_⟩
 subst hw
 refine⟨rfl,rfl,rfl,?_,fun j hj=>?_⟩
 ·show w.heap.size<=(w.heap++os).size;rw[Array.size_append];exact Nat.le_add_right _ _
 ·show(w.heap++os)[j]?=_
  rw[Array.getElem?_append_left hj]
theorem NU (l m:List UInt8):aR Tryz.prog 160 [Sv l,Sv m] (Bv (Lib.hasPrefix l m)):=by
 refine aR.yl (by rfl) rfl fun w φ I vs hd hI hV=>?_
 simp only[AV.ab]at hd
 obtain⟨u,us,rfl,hu,u2,yW,rfl,od,rfl⟩:=hd
 rw[jd]at hu od
 subst hu;subst od
 refine(Tryz.strings_HasPrefix (BA l) (BA m) w).mono fun e w' ⟨he,hw⟩=>⟨_,he,?_,?_⟩
 ·have U:(BA l).data.toList=l:=o3 l
  have h2:(BA m).data.toList=m:=o3 m
  rw[U,h2]
  simp only[AV.den,IV.den]
  exact⟨trivial,rfl⟩
 ·subst hw;exact Below.refl _ _
theorem Tu (p:AV) (hp:p= .im (.v (.pointer none))\/p= .ob 0 0) (sh:Bool) (l:List UInt8) (m:UInt8) (n:Nat) (hn:n=l.length) (hb:l.length+1<=1000000000):
  al Tryz.prog 198 [.ob 0 0,Uv m] [(0,.var 234 [p,.os 1 1 0 n,Bv sh]),(1,.vec 5 1 (cU l))]
   (fun r H'=>H'=[(0,.var 234 [.ob 0 0,.os 2 1 0 (n+1),Bv sh]),(2,.vec 5 1 (cU (l++[m])))]/\r= .im (.v .nilIface)):=by
 subst hn
 have gC:al Tryz.prog 196 [.ob 0 0] [(0,.var 234 [p,.os 1 1 0 l.length,Bv sh]),(1,.vec 5 1 (cU l))] (fun r H'=>H'=[(0,.var 234 [.ob 0 0,.os 1 1 0 l.length,Bv sh]),(1,.vec 5 1 (cU l))]/\r= .aK []):=by
  rcases hp with rfl|rfl
  ·exact Ev _ _ _
  ·exact Ew _ _ _
 have A9:iU (a8 [(0,0),(1,1)] 2) [(0,.var 234 [p,.os 1 1 0 l.length,Bv sh]),(1,.vec 5 1 (cU l))] [(0,.var 234 [p,.os 1 1 0 l.length,Bv sh]),(1,.vec 5 1 (cU l))]:=by
  rcases hp with rfl|rfl
  ·exact⟨rfl,rfl,trivial⟩
  ·exact⟨rfl,rfl,trivial⟩
 refine al.walk [0,1,4] [] Tryz.func198 rfl Tryz.ntmps198 (by kernel_rfl) (by rfl) rfl fun W own I0 aw lay=>?_
 refine gO ?_
 refine AQ.bE [(0,0),(1,1)] (by kernel_rfl) rfl rfl rfl rfl rfl rfl A9 rfl gC ?_
 rintro r H1 ⟨rfl,rfl⟩
 refine⟨rfl,?_⟩
 refine gO ?_
 refine AQ.rename 1 2 rfl rfl rfl ?_
 refine sI ?_
 refine AQ.kill 2 ?_
 refine sI ?_
 refine AQ.append (hnb:=rfl) (rows:=cU l) (es:=0) (by kernel_rfl) rfl rfl rfl (by rfl) Tryz.SJ Tryz.SB (by show Option.map _ (az Tryz.prog 5)=_;rw[Tryz.TE];rfl) Tryz.L9 (by first|rfl|(simp only[lE,List.length_cons,List.length_nil];done)|(simp only[lE,List.length_cons,List.length_nil];omega)) (by simp only[lE,List.length_cons,List.length_nil];omega) (by simp only[lE,List.length_cons,List.length_nil];omega) ?_
 refine sI ?_
 refine gO ?_
 exact AE.ret rfl ⟨rfl,trivial⟩ ⟨by rw[lE,show cU (l++[m])=cU l++[[.v (.int .u8 m.toNat)]] by simp[cU]],rfl⟩
abbrev dJ (sh:Bool) (p:AV) (i:Nat) (l:List UInt8):aa:=[(0,.var 234 [p,.os i 1 0 l.length,Bv sh]),(i,.vec 5 1 (cU l))]
def nf (p:AV):Prop:=p= .im (.v (.pointer none))\/p= .ob 0 0
theorem qx {p:AV} (hp:nf p) (sh:Bool) (l m:List UInt8) (hb:l.length+m.length<=1000000000):
  al Tryz.prog 152 [.ob 0 0,Sv m] (dJ sh p 1 l) (fun r H'=>H'=dJ sh (.ob 0 0) 2 (l++m)/\r= .aK [Iv m.length,.im (.v .nilIface)]):=by
 have:=Tv p hp sh l m l.length rfl hb
 rw[show l.length+m.length=(l++m).length by simp]at this
 exact this
theorem y5 {p:AV} (hp:nf p) (sh:Bool) (l:List UInt8) (m:UInt8) (hb:l.length+1<=1000000000):
  al Tryz.prog 198 [.ob 0 0,Uv m] (dJ sh p 1 l) (fun r H'=>H'=dJ sh (.ob 0 0) 2 (l++[m])/\r= .im (.v .nilIface)):=by
 have:=Tu p hp sh l m l.length rfl hb
 rw[show l.length+1=(l++[m]).length by simp]at this
 exact this
theorem IM {p:AV} (hp:nf p) (sh:Bool) (l:List UInt8) (n:Nat):iU (a8 [(0,0),(1,4)] n) (dJ sh p 4 l) (dJ sh p 1 l):=by
 rcases hp with rfl|rfl
 ·exact⟨rfl,rfl,trivial⟩
 ·exact⟨rfl,rfl,trivial⟩
theorem Sr {C:Cx} {K:List PK} {q:List Nat} {t:Tm} {p:AV} (hp:nf p) {sh:Bool} {l:List UInt8} (hnb:C.B.nb=2) (h:AP C q K [(0,.ob 0 0),(1,bD t)] (dJ sh p 4 l)):AP C q K [(0,.ob 0 0),(1,bD t)] (dJ sh p 1 l):=by
 have hb:Nat.ble C.B.nb 4=true:=by rw[hnb];rfl
 rcases hp with rfl|rfl
 ·exact AP.rename 1 4 rfl rfl hb h
 ·exact AP.rename 1 4 rfl rfl hb h
theorem Sq {C:Cx} {K:List PK} {q:List Nat} {t:Lt} {p:AV} (hp:nf p) {sh:Bool} {l:List UInt8} (hnb:C.B.nb=2) (h:AP C q K [(0,.ob 0 0),(1,ju t)] (dJ sh p 4 l)):AP C q K [(0,.ob 0 0),(1,ju t)] (dJ sh p 1 l):=by
 have hb:Nat.ble C.B.nb 4=true:=by rw[hnb];rfl
 rcases hp with rfl|rfl
 ·exact AP.rename 1 4 rfl rfl hb h
 ·exact AP.rename 1 4 rfl rfl hb h
theorem SY (sh:Bool) (t:Tm):bq sh t=if t.nm=[]then 63::(if sh then[]else Lib.itoa t.ix)else t.nm++cq sh t.xs:=by cases t;rw[bq];rfl
theorem Rw (sh:Bool) (t:Tm) (hs:aY t) (ho:ck t=true) (p:AV) (hp:nf p) (l:List UInt8) (hb:l.length+(bq sh t).length<=1000000000)
  (hl:t.nm≠[]->∀l:List UInt8,l.length+(cq sh t.xs).length<=1000000000->al Tryz.prog 199 [.ob 0 0,.im (.sl 3 (ay t.xs))] (dJ sh (.ob 0 0) 1 l) (fun r H'=>H'=dJ sh (.ob 0 0) 2 (l++cq sh t.xs)/\r= .aK [])):
  al Tryz.prog 197 [.ob 0 0,bD t] (dJ sh p 1 l) (fun r H'=>H'=dJ sh (.ob 0 0) 2 (l++bq sh t)/\r= .aK []):=by
 have hT:=SY sh t
 have ah:=uM t
 rw[ho]at ah
 have p6:=IM hp sh l
 refine al.walk [0,1,3,6,15] [] Tryz.func197 rfl Tryz.ntmps197 (by kernel_rfl) (by rfl) rfl fun W own I0 aw lay=>?_
 refine Sr hp rfl ?_
 refine gO ?_
 refine AP.cond rfl rfl (fun h=>?_) (fun h=>?_)
 ·have h:t.nm=[]:=by simpa using h
  rw[if_pos h]at hT ah
  rw[hT]at hb
  have mS:=y5 hp sh l 63 (by simp at hb;omega)
  refine gO ?_
  refine AQ.bE [(0,0),(1,4)] (by kernel_rfl) rfl rfl rfl rfl rfl rfl (p6 _) rfl (mS) ?_
  rintro r H1 ⟨rfl,rfl⟩;refine⟨rfl,?_⟩;refine sH ?_;refine AQ.rename 7 4 rfl rfl rfl ?_;refine sI ?_;refine AQ.order [0,4] rfl ?_;refine sI ?_
  cases sh with
  |true=>
   refine gO ?_
   refine AE.rename 4 2 rfl rfl rfl ?_;refine sI ?_
   exact AE.ret rfl trivial ⟨by rw[hT];rfl,rfl⟩
  |false=>
   have ah:=ah.symm
   rw[Bool.and_eq_true,Bool.and_eq_true,decide_eq_true_iff,decide_eq_true_iff]at ah
   have hit:=BM t.ix (by omega)
   have hT:bq false t=63::Lib.itoa t.ix:=hT
   have Po:=qx (.inr rfl) false (l++[63]) (Lib.itoa t.ix) (by simp at hb⊢;omega)
   refine gO ?_
   refine AP.dh 7 (Tree.node [] [0,1,2,3,4] [5] [Tree.node [0,1,2] [] [6] [Tree.node [] [] [] []]]) (by kernel_rfl) rfl (by kernel_rfl) (by kernel_rfl) ?_
   refine de ?_
   refine sI ?_
   refine AQ.fn (by kernel_rfl) rfl rfl rfl (hit) rfl ?_
   refine sI ?_
   refine AQ.nx rfl ?_
   refine sI ?_
   refine AQ.bE [(0,0),(1,4)] (by kernel_rfl) rfl rfl rfl rfl rfl rfl (by exact⟨rfl,rfl,trivial⟩) rfl (Po) ?_
   rintro r H1 ⟨rfl,rfl⟩;refine⟨rfl,?_⟩;refine sH ?_;refine AQ.rename 7 4 rfl rfl rfl ?_;refine sI ?_;refine AQ.order [0,4] rfl ?_;refine sI ?_
   refine AQ.nx rfl ?_
   refine sI ?_
   refine AQ.done ?_
   refine gO ?_
   refine AE.rename 4 2 rfl rfl rfl ?_;refine sI ?_
   exact AE.ret rfl trivial ⟨by rw[hT,show l++63::Lib.itoa t.ix=l++[63]++Lib.itoa t.ix by simp];rfl,rfl⟩
 ·have h:¬t.nm=[]:=by simpa using h
  rw[if_neg h]at hT
  rw[hT,List.length_append]at hb
  have uh:=qx hp sh l t.nm (by omega)
  have eT:=hl h (l++t.nm) (by rw[List.length_append];omega)
  refine gO ?_
  refine AP.dh 6 (Tree.node [] [0,1,2,3,4] [5] [Tree.node [] [] [] []]) (by kernel_rfl) rfl (by kernel_rfl) (by kernel_rfl) ?_
  refine de ?_
  refine sI ?_
  refine AQ.bE [(0,0),(1,4)] (by kernel_rfl) rfl rfl rfl rfl rfl rfl (p6 _) rfl (uh) ?_
  rintro r H1 ⟨rfl,rfl⟩;refine⟨rfl,?_⟩;refine sH ?_;refine AQ.rename 7 4 rfl rfl rfl ?_;refine sI ?_;refine AQ.order [0,4] rfl ?_;refine sI ?_
  refine AQ.nx rfl ?_
  refine sI ?_
  refine AQ.done ?_
  refine gO ?_
  refine AQ.bE [(0,0),(1,4)] (by kernel_rfl) rfl rfl rfl rfl rfl rfl (by exact⟨rfl,rfl,trivial⟩) rfl (eT) ?_
  rintro r H1 ⟨rfl,rfl⟩;refine⟨rfl,?_⟩;refine sH ?_;refine AQ.rename 7 4 rfl rfl rfl ?_;refine sI ?_;refine AQ.order [0,4] rfl ?_;refine sI ?_
  refine gO ?_
  refine AE.rename 4 2 rfl rfl rfl ?_;refine sI ?_
  exact AE.gZ rfl trivial ⟨by rw[hT,<-List.append_assoc];rfl,rfl⟩
def nB (sh:Bool) (l:List Tm):List UInt8:=l.flatMap fun t=>44::32::bq sh t
def fM (sh:Bool):List Tm->List UInt8
 |[]=>[]
 |t::l=>40::(bq sh t++nB sh l)
theorem Kj (sh:Bool):∀l,du sh l=nB sh l++[41]
 |[]=>by rw[du];rfl
 |t::l=>by rw[du,Kj sh l,nB,nB,List.flatMap_cons];simp
theorem Ke (sh:Bool) {l:List Tm} (h:l≠[]):cq sh l=fM sh l++[41]:=by
 cases l with
 |nil=>exact absurd rfl h
 |cons t l=>rw[cq,Kj,fM];simp
theorem SV (sh:Bool) {l:List Tm} {k:Nat} {u:Tm} (h:l[k]?=some u):fM sh (l.take (k+1))=fM sh (l.take k)++((if k=0 then[40]else[44,32])++bq sh u):=by
 rw[dV h]
 cases l with
 |nil=>simp at h
 |cons t l=>
  cases k with
  |zero=>simp[fM,nB]
  |succ k=>rw[List.take_succ_cons,List.cons_append,fM,fM];simp[nB]
theorem SU (sh:Bool) (l:List Tm) (k:Nat):∃r,fM sh l=fM sh (l.take k)++r:=by
 cases l with
 |nil=>exact⟨[],by rw[List.take_nil];rfl⟩
 |cons t l=>
  cases k with
  |zero=>exact⟨_,rfl⟩
  |succ k=>exact⟨nB sh (l.drop k),by
    rw[List.take_succ_cons,fM,fM]
    conv=>lhs;rw[<-List.take_append_drop k l,nB,List.flatMap_append]
    simp[nB]⟩
theorem SS (sh:Bool) (l:List Tm) (k:Nat):(fM sh (l.take k)).length<=(fM sh l).length:=by
 obtain⟨r,h⟩:=SU sh l k
 rw[h,List.length_append];omega
theorem IS (sh:Bool) (xs:List Tm) (mT:xs.length<=1000000000) (l:List UInt8) (hb:l.length+(cq sh xs).length<=1000000000)
  (ih:∀(k:Nat) (t:Tm) (l:List UInt8),xs[k]?=some t->l.length+(bq sh t).length<=1000000000->al Tryz.prog 197 [.ob 0 0,bD t] (dJ sh (.ob 0 0) 1 l) (fun r H'=>H'=dJ sh (.ob 0 0) 2 (l++bq sh t)/\r= .aK [])):
  al Tryz.prog 199 [.ob 0 0,.im (.sl 3 (ay xs))] (dJ sh (.ob 0 0) 1 l) (fun r H'=>H'=dJ sh (.ob 0 0) 2 (l++cq sh xs)/\r= .aK []):=by
 refine al.walk [0,1,4,5,8,9,10,11,12,17] [5] Tryz.func199 rfl Tryz.ntmps199 (by kernel_rfl) (by rfl) rfl fun W own I0 aw lay=>?_
 refine AP.rename 1 4 rfl rfl rfl ?_
 refine sI ?_
 refine gE @ao ?_
 refine AP.cond rfl rfl (fun h=>?_) (fun h=>?_)
 ·have h:xs=[]:=by cases xs with|nil=>rfl|cons a b=>simp at h;omega
  subst h
  refine gO ?_
  refine AE.rename 4 2 rfl rfl rfl ?_;refine sI ?_
  exact AE.ret rfl trivial ⟨by rw[cq,List.append_nil];rfl,rfl⟩
 have h:xs≠[]:=fun e=>by subst e;simp at h
 rw[Ke sh h,List.length_append,List.length_singleton]at hb
 refine gE @ao ?_
 refine AP.loop rfl (α:=Nat) (fun k=>[(0,.ob 0 0),(9,.im (.sl 3 (ay xs))),(10,Iv xs.length),(11,Iv k)]) (fun k=>dJ sh (.ob 0 0) 4 (l++fM sh (xs.take k))) (fun k=>k<=xs.length) (fun k=>xs.length-k) 0 (by omega) (sU) (by rw[List.take_zero,fM,List.append_nil];rfl) fun k hk=>?_
 rcases Nat.eq_or_lt_of_le hk with aN|ag
 ·subst aN
  rw[List.take_length]
  have mS:=y5 (.inr rfl) sh (l++fM sh xs) 41 (by rw[List.length_append];omega)
  refine gO ?_
  refine cF ?_
  refine gO ?_
  refine AQ.bE [(0,0),(1,4)] (by kernel_rfl) rfl rfl rfl rfl rfl rfl (by exact⟨rfl,rfl,trivial⟩) rfl (mS) ?_
  rintro r H1 ⟨rfl,rfl⟩;refine⟨rfl,?_⟩;refine sH ?_;refine AQ.rename 7 4 rfl rfl rfl ?_;refine sI ?_;refine AQ.order [0,4] rfl ?_;refine sI ?_
  refine gO ?_
  refine AE.rename 4 2 rfl rfl rfl ?_;refine sI ?_
  exact AE.gZ rfl trivial ⟨by rw[Ke sh h,<-List.append_assoc];rfl,rfl⟩
 ·obtain⟨u,hu,aX⟩:=dL xs k ag
  have hw:=wr (x:=(k:Int)+1) (by omega)
  have bx:=SV sh hu
  have hle:=SS sh xs (k+1)
  rw[bx,List.length_append,List.length_append]at hle
  refine gO ?_
  refine cT ?_
  refine gE @aX ?_
  refine⟨by rw[ao];omega,?_⟩
  refine gO ?_
  refine AP.fix 5 rfl rfl ?_
  refine sI ?_
  by_cases kq:k=0
  ·subst kq
   rw[if_pos rfl]at bx hle
   have mS:=y5 (.inr rfl) sh (l++fM sh (xs.take 0)) 40 (by simp at hle⊢;omega)
   have hit:=ih 0 u (l++fM sh (xs.take 0)++[40]) hu (by simp at hle⊢;omega)
   refine cT ?_
   refine gO ?_
   refine AQ.bE [(0,0),(1,4)] (by kernel_rfl) rfl rfl rfl rfl rfl rfl (by exact⟨rfl,rfl,trivial⟩) rfl (mS) ?_
   rintro r H1 ⟨rfl,rfl⟩;refine⟨rfl,?_⟩;refine sH ?_;refine AQ.rename 7 4 rfl rfl rfl ?_;refine sI ?_;refine AQ.order [0,4] rfl ?_;refine sI ?_
   refine gO ?_
   refine AQ.bE [(0,0),(1,4)] (by kernel_rfl) rfl rfl rfl rfl rfl rfl (by exact⟨rfl,rfl,trivial⟩) rfl (hit) ?_
   rintro r H1 ⟨rfl,rfl⟩;refine⟨rfl,?_⟩;refine sH ?_;refine AQ.rename 7 4 rfl rfl rfl ?_;refine sI ?_;refine AQ.order [0,4] rfl ?_;refine sI ?_
   refine gO ?_
   refine AE.round 1 (by omega) (by omega) (sU) ?_
   rw[bx];simp only[List.append_assoc];rfl
  ·rw[if_neg kq]at bx hle
   have mS:=qx (.inr rfl) sh (l++fM sh (xs.take k)) [44,32] (by simp at hle⊢;omega)
   have hit:=ih k u (l++fM sh (xs.take k)++[44,32]) hu (by simp at hle⊢;omega)
   refine cF ?_
   refine gO ?_
   refine AQ.bE [(0,0),(1,4)] (by kernel_rfl) rfl rfl rfl rfl rfl rfl (by exact⟨rfl,rfl,trivial⟩) rfl (mS) ?_
   rintro r H1 ⟨rfl,rfl⟩;refine⟨rfl,?_⟩;refine sH ?_;refine AQ.rename 7 4 rfl rfl rfl ?_;refine sI ?_;refine AQ.order [0,4] rfl ?_;refine sI ?_
   refine gO ?_
   refine AQ.bE [(0,0),(1,4)] (by kernel_rfl) rfl rfl rfl rfl rfl rfl (by exact⟨rfl,rfl,trivial⟩) rfl (hit) ?_
   rintro r H1 ⟨rfl,rfl⟩;refine⟨rfl,?_⟩;refine sH ?_;refine AQ.rename 7 4 rfl rfl rfl ?_;refine sI ?_;refine AQ.order [0,4] rfl ?_;refine sI ?_
   refine gE @hw ?_
   refine AE.round (k+1) (by omega) (by omega) (sU) ?_
   rw[bx];simp only[List.append_assoc];rfl
theorem Iw {t:Tm} (h:ck t=true) (hn:t.nm≠[]):bJ t.xs=true:=by
 rw[uM,if_neg hn,Bool.and_eq_true]at h;exact h.2
theorem yp (sh:Bool) (t:Tm) (hs:aY t) (ho:ck t=true) (p:AV) (hp:nf p) (l:List UInt8) (hb:l.length+(bq sh t).length<=1000000000):
  al Tryz.prog 197 [.ob 0 0,bD t] (dJ sh p 1 l) (fun r H'=>H'=dJ sh (.ob 0 0) 2 (l++bq sh t)/\r= .aK []):=
 Rw sh t hs ho p hp l hb fun hn l hb=>IS sh t.xs (ga.1 hs).2.1 l hb fun k u l hu hb=>
  yp sh u (eh (ga.1 hs).2.2 hu) (uN (Iw ho hn) u (List.mem_of_getElem? hu)) _ (.inr rfl) l hb
termination_by SizeOf.sizeOf t
decreasing_by exact kM hu
theorem IQ (sh:Bool) (xs:List Tm) (mT:xs.length<=1000000000) (hs:b_ xs) (ho:bJ xs=true) (l:List UInt8) (hb:l.length+(cq sh xs).length<=1000000000):
  al Tryz.prog 199 [.ob 0 0,.im (.sl 3 (ay xs))] (dJ sh (.ob 0 0) 1 l) (fun r H'=>H'=dJ sh (.ob 0 0) 2 (l++cq sh xs)/\r= .aK []):=
 IS sh xs mT l hb fun k u l hu hb=>yp sh u (eh hs hu) (uN ho u (List.mem_of_getElem? hu)) _ (.inr rfl) l hb
theorem IT (sh:Bool) (x:Lt) (hs:kC x) (ho:bO x=true) (p:AV) (hp:nf p) (l:List UInt8) (hb:l.length+(cR sh x).length<=1000000000):
  al Tryz.prog 153 [.ob 0 0,ju x] (dJ sh p 1 l) (fun r H'=>H'=dJ sh (.ob 0 0) 2 (l++cR sh x)/\r= .aK []):=by
 have ah:=CC ho
 have hT:cR sh x=_:=cR.eq_def sh x
 have p6:=IM hp sh l
 rw[hT]at hb
 refine al.walk [0,1,3,6,14,30] [] Tryz.func153 rfl Tryz.ntmps153 (by kernel_rfl) (by rfl) rfl fun W own I0 aw lay=>?_
 refine Sq hp rfl ?_
 refine gO ?_
 refine AP.cond rfl rfl (fun h=>?_) (fun h=>?_)
 ·have h:x.pd=[61]:=by simpa using h
  rw[bO,if_pos h,Bool.and_eq_true,decide_eq_true_iff]at ho
  rw[if_pos h]at hb hT
  obtain⟨a,b,n3⟩:∃a b,x.xs=[a,b]:=by
   have:=ho.1
   match x.xs,this with
   |[a,b],_=>exact⟨a,b,rfl⟩
  have xl:=hs.2.2
  rw[n3]at ah xl hb hT
  simp only[List.getD_cons_zero,List.getD_cons_succ]at hb hT
  rw[bJ,bJ,Bool.and_eq_true,Bool.and_eq_true]at ah
  rw[b_,b_]at xl
  have aX:ay x.xs=[oW a,oW b]:=by rw[n3];simp only[ay,oT]
  have e0:[oW a,oW b].getD 0 []=[Si a.nm,Ii a.ix,.sl 3 (ay a.xs)]:=rfl
  have e1:[oW a,oW b].getD 1 []=[Si b.nm,Ii b.ix,.sl 3 (ay b.xs)]:=rfl
  have ha:=yp sh a xl.1 ah.1 p hp l (by simp only[List.length_append]at hb;omega)
  have hw:=qx (.inr rfl) sh (l++bq sh a) (ka x.ng) (by simp only[List.length_append]at hb⊢;omega)
  have ai:=yp sh b xl.2.1 ah.2.1 (.ob 0 0) (.inr rfl) (l++bq sh a++ka x.ng) (by simp only[List.length_append]at hb⊢;omega)
  rw[aX]
  refine gE (an @e0 (an @List.length_cons.{0} @List.length_nil.{0})) ?_
  refine AQ.bE [(0,0),(1,4)] (by kernel_rfl) rfl rfl rfl rfl rfl rfl (p6 _) rfl (ha) ?_
  rintro r H1 ⟨rfl,rfl⟩;refine⟨rfl,?_⟩;refine sH ?_;refine AQ.rename 7 4 rfl rfl rfl ?_;refine sI ?_;refine AQ.order [0,4] rfl ?_;refine sI ?_
  refine gO ?_
  cases rq:x.ng with
  |true=>
   rw[rq]at hw ai hT
   refine gO ?_
   refine AQ.bE [(0,0),(1,4)] (by kernel_rfl) rfl rfl rfl rfl rfl rfl (by exact⟨rfl,rfl,trivial⟩) rfl (hw) ?_
   rintro r H1 ⟨rfl,rfl⟩;refine⟨rfl,?_⟩;refine sH ?_;refine AQ.rename 7 4 rfl rfl rfl ?_;refine sI ?_;refine AQ.order [0,4] rfl ?_;refine sI ?_
   refine gE (an @e1 (an @List.length_cons.{0} @List.length_nil.{0})) ?_
   refine AQ.bE [(0,0),(1,4)] (by kernel_rfl) rfl rfl rfl rfl rfl rfl (by exact⟨rfl,rfl,trivial⟩) rfl (ai) ?_
   rintro r H1 ⟨rfl,rfl⟩;refine⟨rfl,?_⟩;refine sH ?_;refine AQ.rename 7 4 rfl rfl rfl ?_;refine sI ?_;refine AQ.order [0,4] rfl ?_;refine sI ?_
   refine gO ?_
   refine AE.rename 4 2 rfl rfl rfl ?_;refine sI ?_
   exact AE.ret rfl trivial ⟨by rw[hT];simp only[List.append_assoc];rfl,rfl⟩
  |false=>
   rw[rq]at hw ai hT
   refine gO ?_
   refine AQ.bE [(0,0),(1,4)] (by kernel_rfl) rfl rfl rfl rfl rfl rfl (by exact⟨rfl,rfl,trivial⟩) rfl (hw) ?_
   rintro r H1 ⟨rfl,rfl⟩;refine⟨rfl,?_⟩;refine sH ?_;refine AQ.rename 7 4 rfl rfl rfl ?_;refine sI ?_;refine AQ.order [0,4] rfl ?_;refine sI ?_
   refine gE (an @e1 (an @List.length_cons.{0} @List.length_nil.{0})) ?_
   refine AQ.bE [(0,0),(1,4)] (by kernel_rfl) rfl rfl rfl rfl rfl rfl (by exact⟨rfl,rfl,trivial⟩) rfl (ai) ?_
   rintro r H1 ⟨rfl,rfl⟩;refine⟨rfl,?_⟩;refine sH ?_;refine AQ.rename 7 4 rfl rfl rfl ?_;refine sI ?_;refine AQ.order [0,4] rfl ?_;refine sI ?_
   refine gO ?_
   refine AE.rename 4 2 rfl rfl rfl ?_;refine sI ?_
   exact AE.ret rfl trivial ⟨by rw[hT];simp only[List.append_assoc];rfl,rfl⟩
 ·have h:¬x.pd=[61]:=by simpa using h
  rw[if_neg h]at hb hT
  cases rq:x.ng with
  |true=>
   rw[rq,if_pos rfl]at hb hT
   have mS:=y5 hp sh l 126 (by simp only[List.length_append,List.length_singleton]at hb;omega)
   have uh:=qx (.inr rfl) sh (l++[126]) x.pd (by simp only[List.length_append,List.length_singleton]at hb⊢;omega)
   have eT:=IQ sh x.xs hs.2.1 hs.2.2 ah (l++[126]++x.pd) (by simp only[List.length_append,List.length_singleton]at hb⊢;omega)
   refine gO ?_
   refine AQ.bE [(0,0),(1,4)] (by kernel_rfl) rfl rfl rfl rfl rfl rfl (p6 _) rfl (mS) ?_
   rintro r H1 ⟨rfl,rfl⟩;refine⟨rfl,?_⟩;refine sH ?_;refine AQ.rename 7 4 rfl rfl rfl ?_;refine sI ?_;refine AQ.order [0,4] rfl ?_;refine sI ?_
   refine gO ?_
   refine AP.dh 6 (Tree.node [] [0,1,2,3,4] [5] [Tree.node [] [] [] []]) (by kernel_rfl) rfl (by kernel_rfl) (by kernel_rfl) ?_
   refine de ?_
   refine sI ?_
   refine AQ.bE [(0,0),(1,4)] (by kernel_rfl) rfl rfl rfl rfl rfl rfl (by exact⟨rfl,rfl,trivial⟩) rfl (uh) ?_
   rintro r H1 ⟨rfl,rfl⟩;refine⟨rfl,?_⟩;refine sH ?_;refine AQ.rename 7 4 rfl rfl rfl ?_;refine sI ?_;refine AQ.order [0,4] rfl ?_;refine sI ?_
   refine AQ.nx rfl ?_
   refine sI ?_
   refine AQ.done ?_
   refine gO ?_
   refine AQ.bE [(0,0),(1,4)] (by kernel_rfl) rfl rfl rfl rfl rfl rfl (by exact⟨rfl,rfl,trivial⟩) rfl (eT) ?_
   rintro r H1 ⟨rfl,rfl⟩;refine⟨rfl,?_⟩;refine sH ?_;refine AQ.rename 7 4 rfl rfl rfl ?_;refine sI ?_;refine AQ.order [0,4] rfl ?_;refine sI ?_
   refine gO ?_
   refine AE.rename 4 2 rfl rfl rfl ?_;refine sI ?_
   exact AE.gZ rfl trivial ⟨by rw[hT];simp only[List.append_assoc];rfl,rfl⟩
  |false=>
   rw[rq,if_neg (by decide),List.nil_append]at hb hT
   have uh:=qx hp sh l x.pd (by simp only[List.length_append]at hb⊢;omega)
   have eT:=IQ sh x.xs hs.2.1 hs.2.2 ah (l++x.pd) (by simp only[List.length_append]at hb⊢;omega)
   refine gO ?_
   refine AP.dh 6 (Tree.node [] [0,1,2,3,4] [5] [Tree.node [] [] [] []]) (by kernel_rfl) rfl (by kernel_rfl) (by kernel_rfl) ?_
   refine de ?_
   refine sI ?_
   refine AQ.bE [(0,0),(1,4)] (by kernel_rfl) rfl rfl rfl rfl rfl rfl (p6 _) rfl (uh) ?_
   rintro r H1 ⟨rfl,rfl⟩;refine⟨rfl,?_⟩;refine sH ?_;refine AQ.rename 7 4 rfl rfl rfl ?_;refine sI ?_;refine AQ.order [0,4] rfl ?_;refine sI ?_
   refine AQ.nx rfl ?_
   refine sI ?_
   refine AQ.done ?_
   refine gO ?_
   refine AQ.bE [(0,0),(1,4)] (by kernel_rfl) rfl rfl rfl rfl rfl rfl (by exact⟨rfl,rfl,trivial⟩) rfl (eT) ?_
   rintro r H1 ⟨rfl,rfl⟩;refine⟨rfl,?_⟩;refine sH ?_;refine AQ.rename 7 4 rfl rfl rfl ?_;refine sI ?_;refine AQ.order [0,4] rfl ?_;refine sI ?_
   refine gO ?_
   refine AE.rename 4 2 rfl rfl rfl ?_;refine sI ?_
   exact AE.gZ rfl trivial ⟨by rw[hT];simp only[List.append_assoc];rfl,rfl⟩
theorem Ia {n:List UInt8} (h:dq n=true):n.length<=60:=by
 rw[dq,Bool.and_eq_true,Bool.and_eq_true,decide_eq_true_iff,decide_eq_true_iff]at h;exact h.1.2
theorem PH {n:Int} (h:0<=n/\n<1000):(Lib.itoa n).length<=3:=by
 rw[Lib.itoa,if_neg (by omega)]
 exact(wj n.toNat).2.2.2.1 3 (by omega) (by omega)
mutual
theorem yU (sh:Bool):∀t:Tm,ck t=true->(bq sh t).length+2<=70*wT t
 | .mk n i xs,h=>by
  rw[ck]at h
  rw[bq,wT]
  by_cases hn:n=[]
  ·rw[if_pos hn,Bool.and_eq_true,Bool.and_eq_true,decide_eq_true_iff,decide_eq_true_iff]at h
   rw[if_pos hn]
   have:=PH h.2
   cases sh<;>simp<;>omega
  ·rw[if_neg hn,Bool.and_eq_true,Bool.and_eq_true]at h
   rw[if_neg hn,List.length_append]
   have U:=Ia h.1.1
   have h2:=Kf sh xs h.2
   omega
theorem Kf (sh:Bool):∀l:List Tm,bJ l=true->(cq sh l).length<=2+70*aF l
 |[],_=>by rw[cq];simp
 |t::l,h=>by
  rw[bJ,Bool.and_eq_true]at h
  have U:=yU sh t h.1
  have h2:=Kl sh l h.2
  rw[cq,aF,List.length_cons,List.length_append];omega
theorem Kl (sh:Bool):∀l:List Tm,bJ l=true->(du sh l).length<=1+70*aF l
 |[],_=>by rw[du];simp
 |t::l,h=>by
  rw[bJ,Bool.and_eq_true]at h
  have U:=yU sh t h.1
  have h2:=Kl sh l h.2
  rw[du,aF,List.length_cons,List.length_cons,List.length_append];omega
end
theorem Kh (sh:Bool) {x:Lt} (h:bO x=true):(cR sh x).length<=70*kE x:=by
 have ah:=CC h
 rw[bO]at h
 rw[cR,kE]
 by_cases hp:x.pd=[61]
 ·rw[if_pos hp,Bool.and_eq_true,decide_eq_true_iff]at h
  rw[if_pos hp]
  obtain⟨a,b,n3⟩:∃a b,x.xs=[a,b]:=by
   have:=h.1
   match x.xs,this with
   |[a,b],_=>exact⟨a,b,rfl⟩
  rw[n3]at ah⊢
  rw[bJ,bJ,Bool.and_eq_true,Bool.and_eq_true]at ah
  have U:=yU sh a ah.1
  have h2:=yU sh b ah.2.1
  simp only[List.getD_cons_zero,List.getD_cons_succ,List.length_append,aF]
  have:(ka x.ng).length<=4:=by cases x.ng<;>simp[ka]
  omega
 ·rw[if_neg hp,Bool.and_eq_true]at h
  rw[if_neg hp]
  have U:=Ia h.1
  have h2:=Kf sh x.xs ah
  simp only[List.length_append]
  cases x.ng<;>simp<;>omega
def iZ (sh:Bool):List Lt->List UInt8
 |[]=>[]
 |l::r=>cR sh l++dM sh r
theorem Kp (sh:Bool):∀c:List Lt,(∀l∈c,bO l=true)->(dM sh c).length<=3*c.length+70*bT c
 |[],_=>by rw[dM];simp
 |l::c,h=>by
  have U:=Kh sh (h l (List.mem_cons_self ..))
  have h2:=Kp sh c fun x hx=>h x (List.mem_cons_of_mem _ hx)
  have e:bT (l::c)=kE l+bT c:=by rw[iq,kE]
  rw[dM,e]
  simp only[List.length_cons,List.length_append];omega
theorem SW (sh:Bool) {c:List Lt} (h:∀l∈c,bO l=true):(iZ sh c).length<=3*c.length+70*bT c:=by
 cases c with
 |nil=>simp[iZ]
 |cons l c=>
  have U:=Kh sh (h l (List.mem_cons_self ..))
  have h2:=Kp sh c fun x hx=>h x (List.mem_cons_of_mem _ hx)
  have e:bT (l::c)=kE l+bT c:=by rw[iq,kE]
  rw[iZ,e]
  simp only[List.length_cons,List.length_append];omega
theorem Km (sh:Bool):∀a b:List Lt,dM sh (a++b)=dM sh a++dM sh b
 |[],b=>by rw[dM];rfl
 |l::a,b=>by rw[List.cons_append,dM,dM,Km sh a b];simp
theorem SX (sh:Bool) {c:List Lt} {k:Nat} {u:Lt} (h:c[k]?=some u):iZ sh (c.take (k+1))=iZ sh (c.take k)++((if k=0 then[]else[32,124,32])++cR sh u):=by
 rw[dV h]
 cases c with
 |nil=>simp at h
 |cons l c=>
  cases k with
  |zero=>simp[iZ,dM]
  |succ k=>rw[List.take_succ_cons,List.cons_append,iZ,iZ,Km];simp[dM]
theorem QH (c:List Lt) (k:Nat):bT (c.take k)<=bT c:=Co (List.take_sublist k c)
def kF (k:Nat):AV:=if k=0 then .im (.v (.pointer none))else .ob 0 0
theorem Iu (k:Nat):nf (kF k):=by
 rw[kF]
 split
 ·exact .inl rfl
 ·exact .inr rfl
theorem Rt (k:Nat) (sh:Bool) (l:List UInt8) (n:Nat):iU (a8 [(0,0),(1,1)] n) (dJ sh (kF k) 1 l) (dJ sh (kF k) 1 l):=by
 rcases Iu k with h|h<;>rw[h]<;>exact⟨rfl,rfl,trivial⟩
theorem KR (c:List Lt) (sh:Bool) (hs:dD c) (q0:c.length<=4000) (cn:bT c<=8000) (ah:∀l∈c,bO l=true):aR Tryz.prog 79 [aV c,Bv sh] (Sv (fu sh c)):=by
 refine al.walk [0,1,4,5,6,7,10,14,15,16,17,22] [5,7,13] Tryz.func79 rfl Tryz.ntmps79 (by kernel_rfl) (by rfl) rfl fun W own I0 aw lay=>?_
 refine gE @aJ ?_
 refine AP.cond rfl rfl (fun h=>?_) (fun h=>?_)
 ·have h:c=[]:=by cases c with|nil=>rfl|cons a b=>simp at h;omega
  subst h
  refine gO ?_
  exact AE.a7 rfl ⟨rfl,trivial⟩ rfl ⟨rfl,rfl⟩
 have h:c≠[]:=fun e=>by subst e;simp at h
 have hE:fu sh c=iZ sh c:=by
  cases c with
  |nil=>exact absurd rfl h
  |cons l r=>rfl
 refine gE @aJ ?_
 refine AP.iu 0 1 5 1 rfl rfl ?_
 refine sI ?_
 refine AP.order [0,1] rfl ?_
 refine sI ?_
 refine AP.loop rfl (α:=Nat) (fun k=>[(5,.ob 0 0),(14,aV c),(15,Iv c.length),(16,Iv k)]) (fun k=>dJ sh (kF k) 1 (iZ sh (c.take k))) (fun k=>k<=c.length) (fun k=>c.length-k) 0 (by omega) (sU) rfl fun k hk=>?_
 have p6:=Rt k sh (iZ sh (c.take k))
 have Vm:=Iu k
 rcases Nat.eq_or_lt_of_le hk with aN|ag
 ·subst aN
  have eG:kF c.length= .ob 0 0:=by rw[kF,if_neg (by cases c with|nil=>exact absurd rfl h|cons a b=>simp)]
  rw[List.take_length,eG,<-hE]
  refine gO ?_
  refine cF ?_
  refine gO ?_
  refine AQ.bE [(0,0),(1,1)] (by kernel_rfl) rfl rfl rfl rfl rfl rfl (by exact⟨rfl,rfl,trivial⟩) rfl (L6 (fu sh c) (.ob 0 0) sh) ?_
  rintro r H1 ⟨rfl,rfl⟩;refine⟨rfl,?_⟩;refine sH ?_
  refine gO ?_
  exact AE.a7 rfl ⟨rfl,trivial⟩ rfl ⟨rfl,rfl⟩
 ·obtain⟨u,hu,aX⟩:=jt c k ag
  have hw:=wr (x:=(k:Int)+1) (by omega)
  have cG:=nL hs hu
  have xp:=ah u (List.mem_of_getElem? hu)
  have bx:=SX sh hu
  have hle:=SW sh (c:=c.take (k+1)) fun l hl=>ah l (List.mem_of_mem_take hl)
  have gm:=QH c (k+1)
  have eM:(c.take (k+1)).length<=c.length:=by rw[List.length_take];omega
  rw[bx,List.length_append,List.length_append]at hle
  have Gs:kF (k+1)= .ob 0 0:=by rw[kF,if_neg (by omega)]
  by_cases kq:k=0
  ·subst kq
   rw[if_pos rfl,List.nil_append]at bx
   have eT:=IT sh u cG xp _ (.inl rfl) (iZ sh (c.take 0)) (by simp only[List.take_zero,iZ,List.length_nil]at hle⊢;omega)
   rw[show kF 0= .im (.v (.pointer none)) from rfl]
   refine gO ?_
   refine cT ?_
   refine gE @aX ?_
   refine⟨by rw[aJ];omega,?_⟩
   refine gO ?_
   refine AQ.fix 2 rfl rfl ?_
   refine sI ?_
   refine AQ.bE [(0,0),(1,1)] (by kernel_rfl) rfl rfl rfl rfl rfl rfl (by exact⟨rfl,rfl,trivial⟩) rfl (eT) ?_
   rintro r H1 ⟨rfl,rfl⟩;refine⟨rfl,?_⟩;refine sH ?_;refine AQ.rename 4 1 rfl rfl rfl ?_;refine sI ?_;refine AQ.order [0,1] rfl ?_;refine sI ?_
   refine gO ?_
   refine AE.round 1 (by omega) (by omega) (sU) ?_
   rw[bx,Gs];rfl
  ·rw[if_neg kq]at bx hle
   rw[show kF k= .ob 0 0 by rw[kF,if_neg kq]]
   have Pq:=qx (.inr rfl) sh (iZ sh (c.take k)) [32,124,32] (by simp at hle⊢;omega)
   have eT:=IT sh u cG xp _ (.inr rfl) (iZ sh (c.take k)++[32,124,32]) (by simp at hle⊢;omega)
   refine gO ?_
   refine cT ?_
   refine gE @aX ?_
   refine⟨by rw[aJ];omega,?_⟩
   refine gO ?_
   refine AP.fix 2 rfl rfl ?_
   refine sI ?_
   refine cT ?_
   refine gO ?_
   refine AQ.bE [(0,0),(1,1)] (by kernel_rfl) rfl rfl rfl rfl rfl rfl (by exact⟨rfl,rfl,trivial⟩) rfl (Pq) ?_
   rintro r H1 ⟨rfl,rfl⟩;refine⟨rfl,?_⟩;refine sH ?_;refine AQ.rename 4 1 rfl rfl rfl ?_;refine sI ?_;refine AQ.order [0,1] rfl ?_;refine sI ?_
   refine gO ?_
   refine AQ.bE [(0,0),(1,1)] (by kernel_rfl) rfl rfl rfl rfl rfl rfl (by exact⟨rfl,rfl,trivial⟩) rfl (eT) ?_
   rintro r H1 ⟨rfl,rfl⟩;refine⟨rfl,?_⟩;refine sH ?_;refine AQ.rename 4 1 rfl rfl rfl ?_;refine sI ?_;refine AQ.order [0,1] rfl ?_;refine sI ?_
   refine gE @hw ?_
   refine AE.round (k+1) (by omega) (by omega) (sU) ?_
   rw[bx,Gs];simp only[List.append_assoc];rfl
def kL (c:List Lt):List UInt8:=if bR 4 9 2 3 c≠0 then[]else if 40000<(fu false c).length then[]else fu false c
def j3 (c:List Lt):Int:=if bR 4 9 2 3 c≠0 then bR 4 9 2 3 c else if 40000<(fu false c).length then 15 else 0
theorem C_ (c:List Lt) (hs:dD c):aR Tryz.prog 17 [aV c] (.aK [Sv (kL c),Iv (j3 c)]):=by
 have hS:kL c=_:=kL.eq_def c
 have hE:j3 c=_:=j3.eq_def c
 refine al.walk [0,2,3,4,5,9,15] [] Tryz.func17 rfl Tryz.ntmps17 (by kernel_rfl) (by rfl) rfl fun W own I0 aw lay=>?_
 refine gO ?_
 refine AQ.fn (by kernel_rfl) rfl rfl rfl (pf c hs) rfl ?_
 refine sI ?_
 refine gO ?_
 refine AP.cond rfl rfl (fun h=>?_) (fun h=>?_)
 ·rw[if_pos (by simpa using h)]at hS hE
  refine gO ?_
  exact AE.a7 rfl ⟨rfl,rfl,trivial⟩ rfl ⟨rfl,by rw[hS,hE];rfl⟩
 have h:bR 4 9 2 3 c=0:=by simpa using h
 rw[if_neg (by simpa using h)]at hS hE
 obtain⟨U,h2,h3,h4⟩:=nK h
 refine gO ?_
 refine AQ.fn (by kernel_rfl) rfl rfl rfl (KR c false hs (by omega) (by omega) h4) rfl ?_
 refine sI ?_
 refine gO ?_
 refine AP.cond rfl rfl (fun h5=>?_) (fun h5=>?_)
 ·rw[if_pos (by simp at h5;omega)]at hS hE
  refine gO ?_
  exact AE.a7 rfl ⟨rfl,rfl,trivial⟩ rfl ⟨rfl,by rw[hS,hE];rfl⟩
 ·rw[if_neg (by simp at h5;omega)]at hS hE
  refine gO ?_
  exact AE.a7 rfl ⟨rfl,rfl,trivial⟩ rfl ⟨rfl,by rw[hS,hE];rfl⟩
abbrev JH (l:Lt):List IV:=[Bi l.ng,Si l.pd,.sl 3 (ay l.xs),Si (cV l)]
abbrev JI (l:Lt):AV:= .agg [Bv l.ng,Sv l.pd,.im (.sl 3 (ay l.xs)),Sv (cV l)]
def fq (c:List Lt):List (List IV):=c.map JH
theorem np (l:List Lt):(fq l).length=l.length:=by rw[fq,List.length_map]
theorem yI {l:List Lt} {k:Nat} {x:Lt} (h:l[k]?=some x):(fq l).getD k []=[Bi x.ng,Si x.pd,.sl 3 (ay x.xs),Si (cV x)]:=by
 rw[List.getD_eq_getElem?_getD,fq,List.getElem?_map,h];rfl
theorem JG (l:List Lt) (k:Nat) (x:Lt):(fq l).set k (JH x)=fq (l.set k x):=by simp only[fq,List.map_set]
theorem Mp (a b:Lt):aR Tryz.prog 91 [JI a,JI b] (Iv (j9 (cV a) (cV b))):=by
 refine al.walk [0,1,2,3,4] [] Tryz.func91 rfl Tryz.ntmps91 (by kernel_rfl) (by rfl) rfl fun W own I0 aw lay=>?_
 refine gO ?_
 refine AQ.fn (by kernel_rfl) rfl rfl rfl (Es (cV a) (cV b)) rfl ?_
 refine sI ?_
 refine gO ?_
 exact AE.a7 rfl ⟨rfl,trivial⟩ rfl ⟨rfl,rfl⟩
abbrev fc (l:List Lt):aa:=[(0,.vec 145 4 (fq l))]
theorem G7 (pre mid post:List Lt) (hn:(pre++mid++post).length<=1000000):
  al Tryz.prog 205 [.os 0 4 0 (pre++mid++post).length,Iv pre.length,Iv (pre.length+mid.length),.fn 91 [] []] (fc (pre++mid++post)) (fun r H'=>r= .aK []/\H'=fc (pre++cC [] mid++post)):=by
 obtain⟨n,mK⟩:∃n,(pre++mid++post).length=n:=⟨_,rfl⟩
 have hlen:pre.length+mid.length+post.length=n:=by rw[<-mK];simp only[List.length_append]
 rw[mK]at hn⊢
 have Bw:=wr (x:=(pre.length:Int)+1) (by omega)
 refine al.walk [0,1,2,3,8,9,14,34] [] Tryz.func205 rfl Tryz.ntmps205 (by kernel_rfl) (by rfl) rfl fun W own I0 aw lay=>?_
 refine gE @Bw ?_
 refine AP.loop rfl (α:=Nat) (fun k=>[(0,.os 0 4 0 n),(1,Iv pre.length),(2,Iv (pre.length+mid.length)),(3,.fn 91 [] []),(8,Iv (pre.length+k))]) (fun k=>fc (pre++cC [] (mid.take k)++(mid.drop k++post))) (fun k=>1<=k/\k<=mid.length+1) (fun k=>mid.length+1-k) 1 (by omega) (sU) (by
  cases mid with
  |nil=>simp[cC]
  |cons x r=>simp[cC,ij]) fun k ⟨lN,hk⟩=>?_
 by_cases ag:k<mid.length
 ·have hw:=wr (x:=(pre.length:Int)+k+1) (by omega)
  obtain⟨x,hx⟩:∃x,mid[k]?=some x:=⟨_,List.getElem?_eq_getElem ag⟩
  have hP:(cC [] (mid.take k)).length=k:=by rw[(nt _ _).length_eq];simp;omega
  have wL:(cC [] (mid.take k)).Pairwise il:=C4 _ _ List.Pairwise.nil
  have bx:cC [] (mid.take (k+1))=ij x (cC [] (mid.take k)):=by rw[dV hx,JO]
  have fF:=drop_cons hx
  refine gO ?_
  refine cT ?_
  refine gO ?_
  refine AP.loop rfl (α:=List Lt×List Lt) (fun s=>[(0,.os 0 4 0 n),(1,Iv pre.length),(2,Iv (pre.length+mid.length)),(3,.fn 91 [] []),(8,Iv (pre.length+k)),(9,Iv (pre.length+s.1.length))]) (fun s=>fc (pre++s.1++x::(s.2++(mid.drop (k+1)++post)))) (fun s=>s.1++s.2=cC [] (mid.take k)/\∀y∈s.2,cV x<cV y) (fun s=>s.1.length) (cC [] (mid.take k),[]) ⟨List.append_nil _,fun y hy=>by cases hy⟩ (by rw[hP];exact(sU)) (by rw[fF];rfl) fun⟨o1,o2⟩ ⟨ho,jk⟩=>?_
  simp only at ho jk⊢
  rcases List.eq_nil_or_concat o1 with rfl|⟨W,y,rfl⟩
  ·have e9:(pre.length:Int)+(([]:List Lt).length:Nat)=(pre.length:Int):=by simp
   have hd:decide ((pre.length:Int)<(pre.length:Int))=false:=decide_eq_false (by omega)
   rw[e9]
   refine gO ?_
   refine AP.dh 17 (Tree.node [] [0,1,2,3,4,5,6,7,8,9,10,11,12,13] [14] [Tree.node [] [15,16] [] []]) (by kernel_rfl) rfl (by kernel_rfl) (by kernel_rfl) ?_
   refine de ?_
   refine sE @hd ?_
   refine⟨fun h=>h.elim,fun h=>h.elim,fun h=>h.elim,fun h=>h.elim,?_⟩
   refine AQ.skip (by kernel_rfl) rfl ?_
   refine sI ?_
   refine AQ.nx rfl ?_
   refine sI ?_
   refine AQ.done ?_
   refine gE @hw ?_
   rw[List.nil_append]at ho
   refine AE.round (k+1) ⟨by omega,by omega⟩ (by omega) (sU) ?_
   have bH:ij x (cC [] (mid.take k))=x::o2:=by
    rw[<-ho]
    exact BG [] o2 x (by rw[List.nil_append,ho];exact wL) jk (fun y hy=>by cases hy)
   rw[bx,bH];simp
  ·rw[List.concat_eq_append]at ho⊢
   obtain⟨q,hq⟩:∃q,pre.length+W.length=q:=⟨_,rfl⟩
   have e9:(pre.length:Int)+((W++[y]).length:Nat)=((q+1:Nat):Int):=by simp;omega
   obtain⟨T,hT⟩:∃T,o2++(mid.drop (k+1)++post)=T:=⟨_,rfl⟩
   obtain⟨Z,hZ⟩:∃Z,pre++W=Z:=⟨_,rfl⟩
   have tj:Z.length=q:=by rw[<-hZ,List.length_append];exact hq
   have eR:pre++(W++[y])++x::(o2++(mid.drop (k+1)++post))=Z++y::x::T:=by rw[hT,<-hZ];simp
   have k3:(fq (Z++y::x::T)).getD q []=[Bi y.ng,Si y.pd,.sl 3 (ay y.xs),Si (cV y)]:=yI (by rw[List.getElem?_append_right (by omega),tj,Nat.sub_self];rfl)
   have tx:(fq (Z++y::x::T)).getD (q+1) []=[Bi x.ng,Si x.pd,.sl 3 (ay x.xs),Si (cV x)]:=yI (by rw[List.getElem?_append_right (by omega),tj,Nat.add_sub_cancel_left];rfl)
   have eU:W.length+1+o2.length=k:=by
    have:=congrArg List.length ho
    rw[hP]at this;simp only[List.length_append,List.length_singleton]at this;exact this
   have xg:q+1<n:=by omega
   have tg:(fq (Z++y::x::T)).length=n:=by
    rw[np,<-hT];simp only[List.length_append,List.length_cons,List.length_drop];omega
   have hd:decide ((pre.length:Int)<((q+1:Nat):Int))=true:=decide_eq_true (by omega)
   have cQ:IntKind.i64.wrap (((q+1:Nat):Int)-1)=(q:Int):=by rw[wr (by omega)];omega
   rw[e9,eR]
   refine gE (an @hd @cQ) ?_
   refine AP.dh 17 (Tree.node [] [0,1,2,3,4,5,6,7,8,9,10,11,12,13] [14] [Tree.node [] [15,16] [] []]) (by kernel_rfl) rfl (by kernel_rfl) (by kernel_rfl) ?_
   refine de ?_
   refine sE (an @hd (an @cQ (an @k3 (an @tx (an @Int.toNat_natCast @tg))))) ?_
   refine⟨⟨by omega,by omega⟩,xg,⟨by omega,by omega⟩,by omega,?_⟩
   refine AQ.opt 22 rfl ?_
   refine AQ.nW (by simp only[go_sem]) ?_
   refine AQ.wa [] (by kernel_rfl) rfl rfl rfl rfl rfl rfl (fun k=>by exact trivial) (fun k=>rfl) (fun k=>rfl) (Mp x y) ?_
   refine sI ?_
   refine AQ.nx rfl ?_
   refine sI ?_
   refine AQ.done ?_
   refine gO ?_
   refine AP.cond rfl rfl (fun h5=>?_) (fun h5=>?_)
   ·have h5:cV x<cV y:=by
     have:j9 (cV x) (cV y)<0:=by simpa using h5
     rw[j9]at this
     by_cases h6:cV x<cV y
     ·exact h6
     ·rw[if_neg h6]at this;split at this<;>omega
    refine gE @cQ ?_
    refine AP.dh 18 (Tree.node [] [0,1,2,3,4,5,6,7,8,9,10,11,12,13,14] [15] [Tree.node [2,3,4] [16] [17] [Tree.node [] [] [] []]]) (by kernel_rfl) rfl (by kernel_rfl) (by kernel_rfl) ?_
    refine de ?_
    refine sE (an @cQ (an @k3 (an @tx (an @Int.toNat_natCast @tg)))) ?_
    refine⟨⟨by omega,by omega⟩,by omega,⟨by omega,by omega⟩,xg,⟨by omega,by omega⟩,?_⟩
    refine AQ.go (by kernel_rfl) ?_
    refine sE @tg ?_
    have gL:(fq (Z++y::x::T)).set (q+1) (Bi y.ng::Si y.pd::IV.sl 3 (ay y.xs)::Si (cV y)::List.drop 4 ((fq (Z++y::x::T)).getD (q+1) []))=fq (Z++y::y::T):=by
     rw[tx]
     refine(JG _ _ y).trans ?_
     rw[List.set_append_right _ _ (by omega),<-tj,Nat.add_sub_cancel_left];rfl
    have ig:(fq (Z++y::y::T)).set q (Bi x.ng::Si x.pd::IV.sl 3 (ay x.xs)::Si (cV x)::List.drop 4 ((fq (Z++y::y::T)).getD q []))=fq (Z++x::y::T):=by
     have Om:(fq (Z++y::y::T)).getD q []=[Bi y.ng,Si y.pd,.sl 3 (ay y.xs),Si (cV y)]:=yI (by rw[List.getElem?_append_right (by omega),tj,Nat.sub_self];rfl)
     rw[Om]
     refine(JG _ _ x).trans ?_
     rw[List.set_append_right _ _ (by omega),<-tj,Nat.sub_self];rfl
    have FO:(fq (Z++y::y::T)).length=n:=by rw[np]at tg⊢;rw[<-tg];simp
    rw[gL]
    refine⟨xg,?_⟩
    refine AQ.nx rfl ?_
    refine sE (an @cQ (an @Int.toNat_natCast @FO)) ?_
    refine⟨⟨by omega,by omega⟩,?_⟩
    refine AQ.go (by kernel_rfl) ?_
    refine sE @FO ?_
    rw[ig]
    refine⟨by omega,?_⟩
    refine AQ.nx rfl ?_
    refine sI ?_
    refine AQ.done ?_
    refine gE @cQ ?_
    refine AE.round (W,y::o2) ⟨by rw[<-ho];simp,fun z hz=>?_⟩ (by simp) (by rw[<-hq];exact(sU)) (by rw[<-hZ,<-hT];simp)
    rcases List.mem_cons.1 hz with rfl|hz
    ·exact h5
    ·exact jk z hz
   ·have h5:¬cV x<cV y:=fun h6=>by
     rw[j9,if_pos h6]at h5;simp at h5
    refine gE @hw ?_
    refine AE.round (k+1) ⟨by omega,by omega⟩ (by omega) (sU) ?_
    have bH:ij x (cC [] (mid.take k))=W++[y]++x::o2:=by
     have:=BG (W++[y]) o2 x (by rw[ho];exact wL) jk (fun z hz=>by rw[List.getLast?_concat]at hz;cases hz;exact h5)
     rw[ho]at this;exact this
    rw[bx,bH,<-hZ,<-hT];simp
 ·have aN:mid.take k=mid:=List.take_of_length_le (by omega)
  have Ox:mid.drop k=[]:=List.drop_eq_nil_of_le (by omega)
  rw[aN,Ox,List.nil_append]
  refine gO ?_
  refine cF ?_
  refine gO ?_
  exact AE.gZ rfl trivial ⟨rfl,rfl⟩
theorem Ss (l:List Lt) (h:l.length<=20):al Tryz.prog 164 [.os 0 4 0 l.length,Iv l.length,.fn 91 [] []] (fc l) (fun r H'=>r= .aK []/\H'=fc (cC [] l)):=by
 have h0:=G7 [] l [] (by simp;omega)
 simp only[List.nil_append,List.append_nil,List.length_nil]at h0
 rw[show((0:Nat):Int)+(l.length:Int)=l.length by omega]at h0
 have U:=G7 (cC [] l) [] [] (by simp[(nt _ _).length_eq];omega)
 simp only[List.append_nil,List.length_nil]at U
 have lV:(cC [] l).length=l.length:=by rw[(nt _ _).length_eq];rfl
 rw[lV,show((l.length:Nat):Int)+((0:Nat):Int)=l.length by omega,show cC [] []=[] from rfl,List.append_nil]at U
 refine al.walk [0,1,2,6,7,8,9,13,30,35,54] [] Tryz.func164 rfl Tryz.ntmps164 (by kernel_rfl) (by rfl) rfl fun W own I0 aw lay=>?_
 refine gO ?_
 refine AP.loop rfl (α:=Bool) (fun b=>[(0,.os 0 4 0 l.length),(1,Iv l.length),(2,.fn 91 [] []),(6,Iv 20),(7,Iv (if b then 20 else 0)),(8,Iv (if b then 40 else 20))]) (fun b=>fc (if b then cC [] l else l)) (fun b=>b=true->l.length=20) (fun b=>if b then 0 else 1) false (by simp) (by exact(sU)) rfl fun b hb=>?_
 cases b with
 |false=>
  simp only[Bool.false_eq_true,if_false]
  by_cases te:l.length=20
  ·rw[te]at h0
   have FH:al Tryz.prog 205 [.os 0 4 0 20,Iv 0,Iv 20,.fn 91 [] []] (fc l) (fun r H'=>r= .aK []/\H'=fc (cC [] l)):=h0
   rw[te]
   refine gO ?_
   refine AQ.bE [(0,0)] (by kernel_rfl) rfl rfl rfl rfl rfl rfl (by exact⟨rfl,trivial⟩) rfl (FH) ?_;rintro r H1 ⟨rfl,rfl⟩;refine⟨rfl,?_⟩;refine sH ?_
   have Pm:IntKind.i64.wrap (20+20)=40:=by rw[wr (by omega)];rfl
   refine gE @Pm ?_
   exact AE.round true (by simp) (by simp) (sU) rfl
  ·refine gO ?_
   refine cF ?_
   refine gO ?_
   refine AQ.bE [(0,0)] (by kernel_rfl) rfl rfl rfl rfl rfl rfl (by exact⟨rfl,trivial⟩) rfl (h0) ?_;rintro r H1 ⟨rfl,rfl⟩;refine⟨rfl,?_⟩;refine sH ?_
   refine gO ?_
   refine AP.loop rfl (α:=Unit) (fun _=>[(1,Iv l.length),(6,Iv 20)]) (fun _=>fc (cC [] l)) (fun _=>True) (fun _=>0) () trivial (sU) rfl fun _ _=>?_
   refine gO ?_
   refine cF ?_
   refine gO ?_
   exact AE.gZ rfl trivial ⟨rfl,rfl⟩
 |true=>
  simp only[if_true]
  have te:=hb rfl
  rw[te]at U
  have wI:al Tryz.prog 205 [.os 0 4 0 20,Iv 20,Iv 20,.fn 91 [] []] (fc (cC [] l)) (fun r H'=>r= .aK []/\H'=fc (cC [] l)):=U
  rw[te]
  refine gO ?_
  refine AQ.bE [(0,0)] (by kernel_rfl) rfl rfl rfl rfl rfl rfl (by exact⟨rfl,trivial⟩) rfl (wI) ?_;rintro r H1 ⟨rfl,rfl⟩;refine⟨rfl,?_⟩;refine sH ?_
  refine gO ?_
  refine AP.loop rfl (α:=Unit) (fun _=>[(1,Iv 20),(6,Iv 20)]) (fun _=>fc (cC [] l)) (fun _=>True) (fun _=>0) () trivial (sU) rfl fun _ _=>?_
  refine gO ?_
  exact AE.gZ rfl trivial ⟨rfl,rfl⟩
theorem C3 (l:List Lt) (h:l.length<=20):al Tryz.prog 90 [.os 0 4 0 l.length,.fn 91 [] []] (fc l) (fun r H'=>r= .aK []/\H'=fc (cC [] l)):=by
 refine al.walk [0,1] [] Tryz.func90 rfl Tryz.ntmps90 (by kernel_rfl) (by rfl) rfl fun W own I0 aw lay=>?_
 refine gO ?_
 refine AQ.bE [(0,0)] (by kernel_rfl) rfl rfl rfl rfl rfl rfl (by exact⟨rfl,trivial⟩) rfl (Ss l h) ?_;rintro r H1 ⟨rfl,rfl⟩;refine⟨rfl,?_⟩;refine sH ?_
 refine gO ?_
 exact AE.gZ rfl trivial ⟨rfl,rfl⟩
def eO (k:Nat):List Int->List (Int×Int)
 |[]=>[]
 |v::o=>(v,(k:Int))::eO (k+1) o
theorem Qt (o:List Int) (k:Nat):(eO k o).length=o.length:=by
 induction o generalizing k with
 |nil=>rfl
 |cons v o ih=>rw[eO,List.length_cons,List.length_cons,ih]
theorem Qs (o:List Int) (k:Nat):(eO k o).map (·.1)=o:=by
 induction o generalizing k with
 |nil=>rfl
 |cons v o ih=>rw[eO,List.map_cons,ih]
theorem Qu (o:List Int) (v:Int) (k:Nat):eO k (o++[v])=eO k o++[(v,((k+o.length:Nat):Int))]:=by
 induction o generalizing k with
 |nil=>simp[eO]
 |cons w o ih=>
  rw[List.cons_append,eO,eO,ih,List.cons_append]
  simp only[List.length_cons]
  rw[show k+1+o.length=k+(o.length+1) by omega]
theorem HM (o:List Int) (v:Int) (k:Nat):(v∈o->bA (eO k o) v=some ((k+o.idxOf v:Nat):Int))/\(v∉o->dR (eO k o) v=none):=by
 induction o generalizing k with
 |nil=>exact⟨fun h=>(by cases h),fun _=>rfl⟩
 |cons w o ih=>
  rw[eO,bA,dR,List.idxOf_cons]
  by_cases h:w=v
  ·subst h
   rw[if_pos rfl,if_pos rfl]
   exact⟨fun _=>by simp,fun h=>absurd (List.mem_cons_self ..) h⟩
  ·rw[if_neg h,if_neg h,show(w==v)=false by simpa using h]
   obtain⟨U,h2⟩:=ih (k+1)
   refine⟨fun hv=>?_,fun hv=>?_⟩
   ·rcases List.mem_cons.1 hv with e|hv
    ·exact absurd e.symm h
    ·rw[U hv,cond_false];congr 1;omega
   ·rw[h2 (fun h3=>hv (List.mem_cons_of_mem _ h3))];rfl
def dI (F:List Int) (v:Int):Tm:=bn (F.idxOf v:Nat)
abbrev m_ (o:List Int):aa:=[(1,.var 149 [.mp 0]),(0,.var (.map (kI (eO 0 o))) (vN (eO 0 o)))]
theorem GV {o r:List Int} {v:Int} (h:v∈o):(o++r).idxOf v=o.idxOf v:=by rw[List.idxOf_append,if_pos h]
theorem Q5 (o F r:List Int) (v:Int) (hF:F=bK o [v]++r) (cn:o.Nodup) (hlen:o.length<=1000000):al Tryz.prog 94 [Iv v,.ob 1 0] (m_ o) (fun r H'=>r=bD (dI F v)/\H'=m_ (bK o [v])):=by
 have hm:eg (eO 0 o):=by rw[eg,Qs];exact cn
 have rv:bK o [v]=if v∈o then o else o++[v]:=rfl
 refine al.walk [0,1,3,4,5,13] [3] Tryz.func94 rfl Tryz.ntmps94 (by kernel_rfl) (by rfl) rfl fun W own I0 aw lay=>?_
 refine gO ?_
 by_cases hv:v∈o
 ·rw[if_pos hv]at rv
  have hl:=(HM o v 0).1 hv
  rw[Nat.zero_add]at hl
  obtain⟨j,hj,hg⟩:=Hp hl
  have he:dI F v=bn (o.idxOf v:Nat):=by rw[dI,hF,rv,GV hv]
  refine AQ.uF j (by kernel_rfl) rfl rfl rfl lz u3 (iO _) rfl (List.mem_of_getElem? (show(kI (eO 0 o))[j]?=some (.int .i64 v) from ov hg)) (fun i hi=>ow hm hg hi) (yX hg) ?_
  refine sI ?_
  refine gO ?_
  refine AQ.fn (by kernel_rfl) rfl rfl rfl (Di (o.idxOf v:Nat)) rfl ?_
  refine sI ?_
  refine gO ?_
  exact AE.bk [2] rfl ⟨⟨rfl,Nat.le_of_ble_eq_true (by kernel_rfl)⟩,trivial⟩ (by simp only[go_sem,Nat.reduceAdd,Nat.reduceLeDiff,Nat.reduceSub,Int.reduceToNat,reduceCtorEq,bW,noMen,AV.mens,AV.men,fJ,Bool.or_false];first|done|rfl) ⟨by rw[he];rfl,by rw[rv];rfl⟩
 ·rw[if_neg hv]at rv
  have hl:=(HM o v 0).2 hv
  have he:dI F v=bn (o.length:Nat):=by
   rw[dI,hF,rv,GV (by simp),List.idxOf_append,if_neg hv];simp
  refine AQ.B9 (by kernel_rfl) rfl rfl rfl lz u3 (iO _) rfl (qd hl) rfl rfl ?_
  refine sI ?_
  refine gO ?_
  refine AQ.QB (by kernel_rfl) rfl rfl lz ?_
  have Ge:(kI (eO 0 o)).length=o.length:=by rw[xP,Qt]
  rw[Ge]
  refine sI ?_
  refine gO ?_
  refine AQ.Cc (by kernel_rfl) rfl rfl rfl rfl lz u3 (iO _) rfl (qd hl) ?_
  refine sI ?_
  refine gO ?_
  have e0:eO 0 (o++[v])=eO 0 o++[(v,((o.length:Nat):Int))]:=by rw[Qu,Nat.zero_add]
  have e1:vN (eO 0 o)++[Iv (o.length:Nat)]=vN (eO 0 (o++[v])):=by rw[e0];simp only[vN,List.map_append];rfl
  have e2:kI (eO 0 o)++[.int .i64 v]=kI (eO 0 (o++[v])):=by rw[e0];simp only[kI,List.map_append];rfl
  rw[e1,e2]
  refine AQ.fn (by kernel_rfl) rfl rfl rfl (Di (o.length:Nat)) rfl ?_
  refine sI ?_
  refine gO ?_
  exact AE.bk [2] rfl ⟨⟨rfl,Nat.le_of_ble_eq_true (by kernel_rfl)⟩,trivial⟩ (by simp only[go_sem,Nat.reduceAdd,Nat.reduceLeDiff,Nat.reduceSub,Int.reduceToNat,reduceCtorEq,bW,noMen,AV.mens,AV.men,fJ,Bool.or_false];first|done|rfl) ⟨by rw[he];rfl,by rw[rv];rfl⟩
theorem nc (o:List Int):∀(l m:List Int),bK o (l++m)=bK (bK o l) m
 |[],m=>rfl
 |v::l,m=>by rw[List.cons_append,bK,bK,nc _ l m]
theorem KF {l:List Tm} {k:Nat} {u:Tm} (h:l[k]?=some u):ba (l.take (k+1))=ba (l.take k)++cM u:=by
 rw[dV h]
 have:∀a:List Tm,ba (a++[u])=ba a++cM u:=fun a=>by
  induction a with
  |nil=>rw[List.nil_append,ba,ba,ba];simp
  |cons b a ih=>rw[List.cons_append,ba,ba,ih,List.append_assoc]
 exact this _
theorem KD {l:List Tm} {k:Nat} {u:Tm} (h:l[k]?=some u):ba l=ba (l.take k)++(cM u++ba (l.drop (k+1))):=by
 have Ak:∀a b:List Tm,ba (a++b)=ba a++ba b:=fun a b=>by
  induction a with
  |nil=>rw[List.nil_append,ba];rfl
  |cons c a ih=>rw[List.cons_append,ba,ba,ih,List.append_assoc]
 conv=>lhs;rw[<-List.take_append_drop k l,drop_cons h]
 rw[Ak,ba]
theorem Cz:∀(l o:List Int),(bK o l).length<=o.length+l.length
 |[],o=>by rw[bK];simp
 |v::l,o=>by
  rw[bK]
  have:=Cz l (if v∈o then o else o++[v])
  by_cases h:v∈o
  ·rw[if_pos h]at this⊢;simp only[List.length_cons];omega
  ·rw[if_neg h]at this⊢;simp only[List.length_cons,List.length_append,List.length_nil]at this⊢;omega
theorem Iq {o F r a b c:List Int} (h:F=bK o (a++(b++c))++r):∃r',F=bK (bK o a) b++r':=by
 rw[nc,nc]at h
 obtain⟨q,hq⟩:=Ip c (bK (bK o a) b)
 exact⟨q++r,by rw[h,hq,List.append_assoc]⟩
theorem Em (F:List Int) (x:Tm) (o r:List Int) (hF:F=bK o (cM x)++r) (cn:o.Nodup) (hlen:o.length+(cM x).length<=1000000) (hs:aY x) (ah:ck x=true):al Tryz.prog 140 [bD x,.fn 94 [] [.ob 1 0]] (m_ o) (fun r H'=>r=bD (aB (dI F) x)/\H'=m_ (bK o (cM x))):=by
 have d_:=ga.1 hs
 have hc:=pe (dI F) x
 have db:=Tf x
 have xd:=uM x
 rw[ah]at xd
 refine al.walk [0,1,2,4,5,7,10,19,20,21,22] [4,5,7] Tryz.func140 rfl Tryz.ntmps140 (by kernel_rfl) (by rfl) rfl fun W own I0 aw lay=>?_
 refine gO ?_
 refine AP.cond rfl rfl (fun h=>?_) (fun h=>?_)
 ·have h:x.nm=[]:=by simpa using h
  rw[if_pos h]at hc xd db
  have ui:x.xs=[]:=by
   have:=xd.symm
   rw[Bool.and_eq_true,List.isEmpty_iff]at this;exact this.1
  rw[ui,ba,List.append_nil]at db
  rw[db]at hF hlen⊢
  have OL:=Q5 o F r x.ix hF cn (by omega)
  refine gO ?_
  refine AQ.bE [(1,1),(0,0)] (by kernel_rfl) rfl rfl rfl rfl rfl rfl (by refine⟨?_,?_,trivial⟩<;>(simp only[c7,AV.cy,AV.rn,uX];rfl)) rfl OL fun r' H' ⟨e1,e2⟩=>?_
  subst e1;subst e2
  refine sH ?_
  refine gO ?_
  exact AE.bk [2] rfl ⟨⟨rfl,Nat.le_of_ble_eq_true (by kernel_rfl)⟩,trivial⟩ (by simp only[go_sem,Nat.reduceAdd,Nat.reduceLeDiff,Nat.reduceSub,Int.reduceToNat,reduceCtorEq,bW,noMen,AV.mens,AV.men,fJ,Bool.or_false];first|done|rfl) ⟨by rw[hc];rfl,rfl⟩
 have h:¬x.nm=[]:=by simpa using h
 rw[if_neg h,List.nil_append]at db
 rw[if_neg h]at hc
 rw[db]at hF hlen⊢
 have OP:=Iw ah h
 refine gE @ao ?_
 rw[mo]at hc
 refine AP.iu 3 2 71 3 rfl rfl ?_
 refine sI ?_
 refine AP.loop rfl (α:=Nat) (fun k=>[(1,.fn 94 [] [.ob 1 0]),(4,.ob 2 0),(5,.ob 3 0),(19,.im (.sl 3 (ay x.xs))),(20,Iv x.xs.length),(21,Iv k)]) (fun k=>(4,.vec 71 3 (ay ((x.xs.take k).map (aB (dI F)))))::(3,.var 71 [Sv x.nm,Iv 0,.os 4 3 0 k])::(2,.var 71 [Sv [],Iv 0,gp])::m_ (bK o (ba (x.xs.take k)))) (fun k=>k<=x.xs.length) (fun k=>x.xs.length-k) 0 (by omega) (sU) (by rw[List.take_zero,ba];rfl) fun k hk=>?_
 rcases Nat.eq_or_lt_of_le hk with aN|ag
 ·subst aN
  rw[List.take_length]
  refine gE @ao ?_
  refine cF ?_
  refine gO ?_
  refine AE.freeze 4 (el:=71) (es:=3) (rows:=ay (x.xs.map (aB (dI F)))) rfl (by simp only[go_sem,Nat.reduceAdd,Nat.reduceLeDiff,Nat.reduceSub,Int.reduceToNat,reduceCtorEq,ao,List.length_map];first|done|trivial|omega|(simp;done)|(simp;omega)) (by simp only[go_sem,Nat.reduceAdd,Nat.reduceLeDiff,Nat.reduceSub,Int.reduceToNat,reduceCtorEq,ao,List.length_map];first|done|trivial|omega|(simp;done)|(simp;omega)) ?_;simp only[go_sem,Nat.reduceAdd,Nat.reduceLeDiff,Nat.reduceSub,Int.reduceToNat,reduceCtorEq,ao,List.length_map]
  rw[List.take_of_length_le (by rw[ao,List.length_map];omega)]
  exact AE.bk [3,2] rfl ⟨⟨rfl,Nat.le_of_ble_eq_true (by kernel_rfl)⟩,trivial⟩ (by simp only[go_sem,Nat.reduceAdd,Nat.reduceLeDiff,Nat.reduceSub,Int.reduceToNat,reduceCtorEq,bW,noMen,AV.mens,AV.men,fJ,Bool.or_false];first|done|rfl) ⟨by rw[hc];rfl,rfl⟩
 ·obtain⟨u,hu,aX⟩:=dL x.xs k ag
  have hw:=wr (x:=(k:Int)+1) (by omega)
  have bc:=kK (l:=x.xs) (k:=k) (by omega)
  have Bt:=KF hu
  have Bq:=KD hu
  obtain⟨r',mD⟩:=Iq (Bq▸hF)
  have n8:(ba x.xs).length=(ba (x.xs.take k)).length+((cM u).length+(ba (x.xs.drop (k+1))).length):=by rw[Bq,List.length_append,List.length_append]
  have fm:=Cz (ba (x.xs.take k)) o
  have ih:=Em F u (bK o (ba (x.xs.take k))) r' mD (uK _ _ cn) (by omega) (eh d_.2.2 hu) (uN OP u (List.mem_of_getElem? hu))
  rw[<-nc,<-Bt]at ih
  have bx:=x9 (aB (dI F)) hu
  obtain⟨w,uf⟩:∃w,aB (dI F) u=w:=⟨_,rfl⟩
  rw[uf]at ih bx
  clear Bq mD n8 fm hF hc db xd
  refine gE @ao ?_
  refine cT ?_
  refine gE @aX ?_
  refine⟨by rw[ao];omega,?_⟩
  refine gO ?_
  refine AP.dh 9 (Tree.node [] [0,1,2,3] [4] [Tree.node [0,1] [] [5] [Tree.node [0,1] [] [6] [Tree.node [] [7] [8] [Tree.node [] [] [] []]]]]) (by kernel_rfl) rfl (by kernel_rfl) (by kernel_rfl) ?_
  refine de ?_
  refine sI ?_
  refine AQ.bE [(1,1),(0,0)] (by kernel_rfl) rfl rfl rfl rfl rfl rfl (by refine⟨?_,?_,trivial⟩<;>(simp only[c7,AV.cy,AV.rn,uX];rfl)) rfl ih fun r' H' ⟨e1,e2⟩=>?_
  subst e1;subst e2
  refine sH ?_
  refine AQ.nx rfl ?_
  refine sI ?_
  refine AQ.go (by kernel_rfl) ?_
  refine sI ?_
  refine AQ.nx rfl ?_
  refine sI ?_
  refine AQ.kill 4 ?_
  refine sI ?_
  refine AQ.append (hnb:=rfl) (rows:=ay ((x.xs.take k).map (aB (dI F)))) (es:=2) (by kernel_rfl) rfl rfl rfl (by first|(simp only[go_sem,noMen,AV.mens,AV.men,Bool.or_false];done)|(simp only[go_sem,noMen,AV.mens,AV.men,Bool.or_false];rfl)) Tryz.sg Tryz.se (by show Option.map _ (az Tryz.prog 71)=_;rw[Tryz.sr];rfl) Tryz.qG (by first|rfl|(simp only[ao,List.length_map,bc,List.length_cons,List.length_nil];done)|(simp only[ao,List.length_map,bc,List.length_cons,List.length_nil];omega)) (by simp only[ao,List.length_map,bc,List.length_cons,List.length_nil];omega) (by simp only[ao,List.length_map,bc,List.length_cons,List.length_nil];omega) ?_
  refine sI ?_
  refine AQ.nx rfl ?_
  refine sI ?_
  refine AQ.go (by kernel_rfl) ?_
  refine sI ?_
  refine AQ.nx rfl ?_
  refine sI ?_
  refine AQ.done ?_
  refine gE @hw ?_
  refine AE.eu [5] (by simp only[go_sem,Nat.reduceAdd,Nat.reduceLeDiff,Nat.reduceSub,Int.reduceToNat,reduceCtorEq,bW,noMen,AV.mens,AV.men,fJ,Bool.or_false];first|done|rfl) ?_
  refine sI ?_
  refine AE.round (k+1) (by omega) (by omega) (sU) ?_
  rw[bx,oV,ao,List.length_map,bc];rfl
termination_by SizeOf.sizeOf x
decreasing_by exact kM hu
theorem KA:∀a b:List Lt,bP (a++b)=bP a++bP b:=fun a b=>by rw[bP,List.flatMap_append];rfl
theorem Te {c:List Lt} {k:Nat} {u:Lt} (h:c[k]?=some u):bP (c.take (k+1))=bP (c.take k)++ba u.xs:=by
 rw[dV h,KA];simp[bP]
theorem Tb {c:List Lt} {k j:Nat} {u:Lt} {v:Tm} (h:c[k]?=some u) (hv:u.xs[j]?=some v):∃q,bP c=(bP (c.take k)++ba (u.xs.take j))++(cM v++q):=by
 have U:bP c=bP (c.take k)++(ba u.xs++bP (c.drop (k+1))):=by
  conv=>lhs;rw[<-List.take_append_drop k c,drop_cons h]
  rw[KA,y2]
 rw[U,KD hv]
 exact⟨ba (u.xs.drop (j+1))++bP (c.drop (k+1)),by simp only[List.append_assoc]⟩
theorem Mf (F:List Int) (c:List Lt) (hF:F=bK [] (bP c)) (hlen:(bP c).length<=1000000) (hs:dD c) (ah:∀l∈c,bO l=true):al Tryz.prog 93 [aV c,.fn 94 [] [.ob 1 0]] (m_ []) (fun r H'=>r=aV (nG (dI F) c)/\H'=m_ F):=by
 have ca:=hs.1
 refine al.walk [0,1,4,5,7,8,10,11,12,13,14,23,24,25,26] [7,8,10] Tryz.func93 rfl Tryz.ntmps93 (by kernel_rfl) (by rfl) rfl fun W own I0 aw lay=>?_
 refine gE @aJ ?_
 refine AP.own 5 119 3 rfl ?_
 refine sI ?_
 refine AP.loop rfl (α:=Nat) (fun k=>[(1,.fn 94 [] [.ob 1 0]),(5,.os 2 3 0 k),(11,aV c),(12,Iv c.length),(13,Iv k)]) (fun k=>(2,.vec 119 3 (bX ((c.take k).map (fS (dI F)))))::m_ (bK [] (bP (c.take k)))) (fun k=>k<=c.length) (fun k=>c.length-k) 0 (by omega) (sU) rfl fun k hk=>?_
 rcases Nat.eq_or_lt_of_le hk with aN|ag
 ·subst aN
  rw[List.take_length]
  refine gE @aJ ?_
  refine cF ?_
  refine gO ?_
  refine AE.freeze 2 (el:=119) (es:=3) (rows:=bX (c.map (fS (dI F)))) rfl (by simp only[go_sem,Nat.reduceAdd,Nat.reduceLeDiff,Nat.reduceSub,Int.reduceToNat,reduceCtorEq,aJ,List.length_map];first|done|trivial|omega|(simp;done)|(simp;omega)) (by simp only[go_sem,Nat.reduceAdd,Nat.reduceLeDiff,Nat.reduceSub,Int.reduceToNat,reduceCtorEq,aJ,List.length_map];first|done|trivial|omega|(simp;done)|(simp;omega)) ?_;simp only[go_sem,Nat.reduceAdd,Nat.reduceLeDiff,Nat.reduceSub,Int.reduceToNat,reduceCtorEq,aJ,List.length_map]
  rw[List.take_of_length_le (by rw[aJ,List.length_map];omega)]
  exact AE.bk [] rfl ⟨rfl,trivial⟩ rfl ⟨rfl,by rw[hF];rfl⟩
 ·obtain⟨u,hu,aX⟩:=jt c k ag
  have hw:=wr (x:=(k:Int)+1) (by omega)
  have bc:=kK (l:=c) (k:=k) (by omega)
  have cG:=nL hs hu
  have ua:=cG.2.1
  have bx:=x9 (fS (dI F)) hu
  refine gE @aJ ?_
  refine cT ?_
  refine gE @aX ?_
  refine⟨by rw[aJ];omega,?_⟩
  refine gE @ao ?_
  refine AP.iu 4 2 71 3 rfl rfl ?_
  refine sI ?_
  have FZ:fS (dI F) u=⟨u.ng,u.pd,u.xs.map (aB (dI F))⟩:=by rw[fS,mo]
  refine AP.loop rfl (α:=Nat) (fun j=>[(1,.fn 94 [] [.ob 1 0]),(5,.os 2 3 0 k),(8,.ob 4 0),(11,aV c),(12,Iv c.length),(13,Iv k),(23,.im (.sl 3 (ay u.xs))),(24,Iv u.xs.length),(25,Iv j)]) (fun j=>(5,.vec 71 3 (ay ((u.xs.take j).map (aB (dI F)))))::(4,.var 119 [Bv u.ng,Sv u.pd,.os 5 3 0 j])::(3,.var 119 [Bv u.ng,Sv u.pd,.im (.sl 3 (ay u.xs))])::(2,.vec 119 3 (bX ((c.take k).map (fS (dI F)))))::m_ (bK (bK [] (bP (c.take k))) (ba (u.xs.take j)))) (fun j=>j<=u.xs.length) (fun j=>u.xs.length-j) 0 (by omega) (sU) (by rw[List.take_zero (l:=u.xs),ba];rfl) fun j hj=>?_
  rcases Nat.eq_or_lt_of_le hj with fk|k5
  ·subst fk
   rw[List.take_length]
   refine gE @ao ?_
   refine cF ?_
   refine sI ?_
   refine AP.freeze 5 (el:=71) (es:=3) (rows:=ay (u.xs.map (aB (dI F)))) rfl (by simp only[go_sem,Nat.reduceAdd,Nat.reduceLeDiff,Nat.reduceSub,Int.reduceToNat,reduceCtorEq,ao,List.length_map];first|done|trivial|omega|(simp;done)|(simp;omega)) (by simp only[go_sem,Nat.reduceAdd,Nat.reduceLeDiff,Nat.reduceSub,Int.reduceToNat,reduceCtorEq,ao,List.length_map];first|done|trivial|omega|(simp;done)|(simp;omega)) ?_;simp only[go_sem,Nat.reduceAdd,Nat.reduceLeDiff,Nat.reduceSub,Int.reduceToNat,reduceCtorEq,ao,List.length_map]
   rw[show List.take u.xs.length (ay (u.xs.map (aB (dI F))))=ay (u.xs.map (aB (dI F))) from List.take_of_length_le (by rw[ao,List.length_map];omega)]
   refine gO ?_
   refine AQ.append (hnb:=rfl) (rows:=bX ((c.take k).map (fS (dI F)))) (es:=2) (by kernel_rfl) rfl rfl rfl (by first|(simp only[go_sem,noMen,AV.mens,AV.men,Bool.or_false];done)|(simp only[go_sem,noMen,AV.mens,AV.men,Bool.or_false];rfl)) Tryz.yP Tryz.yM (by show Option.map _ (az Tryz.prog 119)=_;rw[Tryz.y7];rfl) Tryz.v_ (by first|rfl|(simp only[aJ,List.length_map,bc,List.length_cons,List.length_nil];done)|(simp only[aJ,List.length_map,bc,List.length_cons,List.length_nil];omega)) (by simp only[aJ,List.length_map,bc,List.length_cons,List.length_nil];omega) (by simp only[aJ,List.length_map,bc,List.length_cons,List.length_nil];omega) ?_
   refine sI ?_
   refine gE @hw ?_
   refine AE.eu [4,3] (by simp only[go_sem,Nat.reduceAdd,Nat.reduceLeDiff,Nat.reduceSub,Int.reduceToNat,reduceCtorEq,bW,noMen,AV.mens,AV.men,fJ,Bool.or_false];first|done|rfl) ?_
   refine sE (an @aJ (an @List.length_map.{0,0} @bc)) ?_
   refine AE.round (k+1) (by omega) (by omega) (sU) ?_
   rw[bx,uG,FZ,Te hu,nc];rfl
  ·obtain⟨v,hv,dH⟩:=dL u.xs j k5
   have jS:=wr (x:=(j:Int)+1) (by have:=cG.2.1;omega)
   have gN:=kK (l:=u.xs) (k:=j) (by omega)
   obtain⟨q,hq⟩:=Tb hu hv
   have Bt:=KF hv
   have FM:F=bK (bK (bK [] (bP (c.take k))) (ba (u.xs.take j))) (cM v++q)++[]:=by rw[hF,hq,nc _ (_++_),nc _ (bP _),List.append_nil]
   obtain⟨r',mD⟩:=Iq (a:=[]) FM
   have n8:=congrArg List.length hq
   simp only[List.length_append]at n8
   have fm:=Cz (bP (c.take k)++ba (u.xs.take j)) []
   rw[nc,List.length_append,List.length_nil]at fm
   have ih:=Em F v (bK (bK [] (bP (c.take k))) (ba (u.xs.take j))) r' mD (uK _ _ (uK _ _ List.nodup_nil)) (by omega) (eh cG.2.2 hv) (uN (CC (ah u (List.mem_of_getElem? hu))) v (List.mem_of_getElem? hv))
   rw[<-nc (bK [] (bP (c.take k))),<-Bt]at ih
   clear FM mD n8 fm hq
   have mP:=x9 (aB (dI F)) hv
   obtain⟨w,uf⟩:∃w,aB (dI F) v=w:=⟨_,rfl⟩
   rw[uf]at ih mP
   refine gE @ao ?_
   refine cT ?_
   refine gE @dH ?_
   refine⟨by rw[ao];omega,?_⟩
   refine gO ?_
   refine AP.dh 9 (Tree.node [] [0,1,2,3] [4] [Tree.node [0,1] [] [5] [Tree.node [0,1] [] [6] [Tree.node [] [7] [8] [Tree.node [] [] [] []]]]]) (by kernel_rfl) rfl (by kernel_rfl) (by kernel_rfl) ?_
   refine de ?_
   refine sI ?_
   refine AQ.bE [(1,1),(0,0)] (by kernel_rfl) rfl rfl rfl rfl rfl rfl (by refine⟨?_,?_,trivial⟩<;>(simp only[c7,AV.cy,AV.rn,uX];rfl)) rfl ih fun r' H' ⟨e1,e2⟩=>?_
   subst e1;subst e2
   refine sH ?_
   refine AQ.nx rfl ?_
   refine sI ?_
   refine AQ.go (by kernel_rfl) ?_
   refine sI ?_
   refine AQ.nx rfl ?_
   refine sI ?_
   refine AQ.kill 5 ?_
   refine sI ?_
   refine AQ.append (hnb:=rfl) (rows:=ay ((u.xs.take j).map (aB (dI F)))) (es:=2) (by kernel_rfl) rfl rfl rfl (by first|(simp only[go_sem,noMen,AV.mens,AV.men,Bool.or_false];done)|(simp only[go_sem,noMen,AV.mens,AV.men,Bool.or_false];rfl)) Tryz.sg Tryz.se (by show Option.map _ (az Tryz.prog 71)=_;rw[Tryz.sr];rfl) Tryz.qG (by first|rfl|(simp only[ao,List.length_map,gN,List.length_cons,List.length_nil];done)|(simp only[ao,List.length_map,gN,List.length_cons,List.length_nil];omega)) (by simp only[ao,List.length_map,gN,List.length_cons,List.length_nil];omega) (by simp only[ao,List.length_map,gN,List.length_cons,List.length_nil];omega) ?_
   refine sI ?_
   refine AQ.nx rfl ?_
   refine sI ?_
   refine AQ.go (by kernel_rfl) ?_
   refine sI ?_
   refine AQ.nx rfl ?_
   refine sI ?_
   refine AQ.done ?_
   refine gE @jS ?_
   refine AE.eu [6] (by simp only[go_sem,Nat.reduceAdd,Nat.reduceLeDiff,Nat.reduceSub,Int.reduceToNat,reduceCtorEq,bW,noMen,AV.mens,AV.men,fJ,Bool.or_false];first|done|rfl) ?_
   refine sI ?_
   refine AE.round (j+1) (by omega) (by omega) (sU) ?_
   rw[mP,oV,ao,List.length_map,gN];rfl
theorem QT (x y:Lt) (hs:kC x):aR Tryz.prog 88 [ju y,.im (rP x)] (Bv (dm x y)):=by
 refine al.walk [0,1,2,3] [] Tryz.func88 rfl Tryz.ntmps88 (by kernel_rfl) (by rfl) rfl fun W own I0 aw lay=>?_
 refine gO ?_
 refine AQ.fn (by kernel_rfl) rfl rfl rfl (R3 x y hs) rfl ?_
 refine sI ?_
 refine gO ?_
 exact AE.a7 rfl ⟨rfl,trivial⟩ rfl ⟨rfl,rfl⟩
theorem PM (l:List Lt) (x:Lt) (hl:l.length<=1000000000) (hs:kC x):
  aR Tryz.prog 162 [aV l,.fn 88 [] [.im (rP x)]] (Iv (fX (dm x) l 0)):=by
 refine al.walk [0,1,4,5,7,8,9,16] [] Tryz.func162 rfl Tryz.ntmps162 (by kernel_rfl) (by rfl) rfl fun W own I0 aw lay=>?_
 refine gE @aJ ?_
 refine AP.loop rfl (α:=Nat) (fun k=>[(0,aV l),(1,.fn 88 [] [.im (rP x)]),(7,Iv l.length),(8,Iv k)]) (fun _=>[]) (fun k=>k<=l.length/\fX (dm x) l 0=fX (dm x) (l.drop k) k) (fun k=>l.length-k) 0 ⟨by omega,rfl⟩ (sU) rfl fun k ⟨hk,hm⟩=>?_
 rcases Nat.eq_or_lt_of_le hk with aN|ag
 ·refine gO ?_
  refine cF ?_
  refine gO ?_
  exact AE.a7 rfl ⟨rfl,trivial⟩ rfl ⟨rfl,by rw[hm,aN,List.drop_length,fX];rfl⟩
 ·obtain⟨u,hu,aX⟩:=jt l k ag
  have hw:=wr (x:=(k:Int)+1) (by omega)
  have fF:=BN (dm x) hu
  refine gO ?_
  refine cT ?_
  refine gE @aX ?_
  refine⟨by rw[aJ];omega,?_⟩
  refine gO ?_
  refine AQ.wa [] (by kernel_rfl) rfl rfl rfl rfl rfl rfl (fun k=>by exact trivial) (fun k=>rfl) (fun k=>rfl) (QT x u hs) ?_
  refine sI ?_
  refine gO ?_
  refine AP.cond rfl rfl (fun U=>?_) (fun U=>?_)
  ·refine gO ?_
   exact AE.a7 rfl ⟨rfl,trivial⟩ rfl ⟨rfl,by rw[hm,fF,if_pos (by simpa using U)];rfl⟩
  ·refine gE @hw ?_
   exact AE.round (k+1) ⟨by omega,by rw[hm,fF,if_neg (by simpa using U)]⟩ (by omega) (sU) rfl
theorem Lz (l:List Lt) (x:Lt) (hl:l.length<=1000000000) (hs:kC x):aR Tryz.prog 87 [aV l,.fn 88 [] [.im (rP x)]] (Bv (l.any (dm x))):=by
 refine al.walk [0,1,4] [] Tryz.func87 rfl Tryz.ntmps87 (by kernel_rfl) (by rfl) rfl fun W own I0 aw lay=>?_
 refine gO ?_
 refine AQ.fn (by kernel_rfl) rfl rfl rfl (PM l x hl hs) rfl ?_
 refine sI ?_
 refine gO ?_
 exact AE.a7 rfl ⟨rfl,trivial⟩ rfl ⟨rfl,by rw[<-xO (dm x) l 0];rfl⟩
mutual
theorem Tg:∀t:Tm,(cM t).length<=wT t
 | .mk n i xs=>by
  rw[cM,wT,List.length_append]
  have:=Dm xs
  split<;>simp<;>omega
theorem Dm:∀l:List Tm,(ba l).length<=aF l
 |[]=>by rw[ba,aF];simp
 |t::l=>by rw[ba,aF,List.length_append];have:=Tg t;have:=Dm l;omega
end
theorem KB:∀c:List Lt,(bP c).length<=bT c
 |[]=>by simp[bP]
 |l::c=>by rw[y2,List.length_append,iq];have:=Dm l.xs;have:=KB c;omega
theorem QU (N:Nat) (tY:∀l:List Lt,l.length<=N->al Tryz.prog 90 [.os 0 4 0 l.length,.fn 91 [] []] (fc l) (fun r H'=>r= .aK []/\H'=fc (cC [] l))) (c:List Lt) (hN:c.length<=N) (hs:dD c) (dZ:bR 4 9 2 3 c=0):
  aR Tryz.prog 22 [aV c] (.aK [aV (cp c),Iv 0]):=by
 obtain⟨U,h2,h3,h4⟩:=nK dZ
 refine al.walk [0,2,3,4,5,6,7,8,10,11,15,17,18,19,20,29,44,45,46,47] [7,10,11] Tryz.func22 rfl Tryz.ntmps22 (by kernel_rfl) (by rfl) rfl fun W own I0 aw lay=>?_
 refine gO ?_
 refine AQ.fn (by kernel_rfl) rfl rfl rfl (pf c hs) rfl ?_
 refine sE @dZ ?_
 refine gE (an @dZ @aJ) ?_
 refine AP.own 5 145 4 rfl ?_
 refine sI ?_
 refine AP.loop rfl (α:=Nat) (fun k=>[(0,aV c),(5,.os 0 4 0 (cJ [] (c.take k)).length),(17,aV c),(18,Iv c.length),(19,Iv k)]) (fun k=>fc (cJ [] (c.take k))) (fun k=>k<=c.length) (fun k=>c.length-k) 0 (by omega) (sU) rfl fun k hk=>?_
 rcases Nat.eq_or_lt_of_le hk with aN|ag
 ·subst aN
  rw[List.take_length]
  have wQ:(cJ [] c).length<=c.length:=(nN c []).length_le
  have rz:=tY (cJ [] c) (by omega)
  have eU:(cA c).length=(cJ [] c).length:=by rw[cA,(nt _ _).length_eq];rfl
  have Gq:∀l∈cA c,kC l:=fun l hl=>hs.2 l (rZ.1 hl)
  have OQ:∀l∈cA c,bO l=true:=fun l hl=>h4 l (rZ.1 hl)
  have FV:dD (cA c):=⟨by omega,Gq⟩
  have Gn:cA c=cC [] (cJ [] c):=rfl
  rw[<-Gn]at rz
  have fo:(bP (cA c)).length<=1000000:=by
   have h5:=KB (cA c)
   have h6:bT (cA c)=bT (cJ [] c):=by rw[Gn];exact H4 (nt _ _)
   have h7:=Co (nN c [])
   omega
  have Aq:=Mf (bK [] (bP (cA c))) (cA c) rfl fo FV OQ
  have OK:nG (dI (bK [] (bP (cA c)))) (cA c)=cp c:=rfl
  rw[OK]at Aq
  rw[<-eU]at rz
  obtain⟨o,ho⟩:∃o,cA c=o:=⟨_,rfl⟩
  rw[ho]at rz eU Gq FV Aq
  rw[<-eU]
  refine gO ?_
  refine cF ?_
  refine gO ?_
  refine AQ.bE [(0,0)] (by kernel_rfl) rfl rfl rfl rfl rfl rfl (by exact⟨rfl,trivial⟩) rfl rz ?_
  rintro r H1 ⟨rfl,rfl⟩
  refine⟨rfl,?_⟩
  refine sH ?_
  refine gE @np ?_
  refine AP.own 8 119 3 rfl ?_
  refine sI ?_
  refine AP.loop rfl (α:=Nat) (fun k=>[(8,.os 1 3 0 k),(44,.os 0 4 0 o.length),(45,Iv o.length),(46,Iv k)]) (fun k=>(1,.vec 119 3 (bX (o.take k)))::fc o) (fun k=>k<=o.length) (fun k=>o.length-k) 0 (by omega) (sU) rfl fun k hk=>?_
  rcases Nat.eq_or_lt_of_le hk with aN|ag
  ·subst aN
   rw[List.take_length]
   refine gO ?_
   refine cF ?_
   refine gO ?_
   refine AQ.freeze 1 (el:=119) (es:=3) (rows:=bX o) rfl (by simp only[go_sem,Nat.reduceAdd,Nat.reduceLeDiff,Nat.reduceSub,Int.reduceToNat,reduceCtorEq,aJ];first|done|trivial|omega|(simp;done)|(simp;omega)) (by simp only[go_sem,Nat.reduceAdd,Nat.reduceLeDiff,Nat.reduceSub,Int.reduceToNat,reduceCtorEq,aJ];first|done|trivial|omega|(simp;done)|(simp;omega)) ?_;simp only[go_sem,Nat.reduceAdd,Nat.reduceLeDiff,Nat.reduceSub,Int.reduceToNat,reduceCtorEq,aJ]
   rw[List.take_of_length_le (by rw[aJ];omega)]
   refine AQ.Cb (by kernel_rfl) ?_
   refine sI ?_
   refine gO ?_
   refine AQ.bE [(1,2),(0,1)] (by kernel_rfl) rfl rfl rfl rfl rfl rfl (by exact⟨rfl,rfl,trivial⟩) rfl Aq ?_
   rintro r H1 ⟨rfl,rfl⟩
   refine⟨rfl,?_⟩
   refine sH ?_
   refine gO ?_
   exact AE.bk [2,1,0] rfl ⟨rfl,rfl,trivial⟩ (by simp only[go_sem,Nat.reduceAdd,Nat.reduceLeDiff,Nat.reduceSub,Int.reduceToNat,reduceCtorEq,bW,noMen,AV.mens,AV.men,fJ,Bool.or_false];first|done|rfl) ⟨rfl,rfl⟩
  ·obtain⟨u,hu,_⟩:=jt o k ag
   have aX:=yI hu
   have hw:=wr (x:=(k:Int)+1) (by omega)
   have bx:=dV hu
   have bc:=kK (l:=o) (k:=k) (by omega)
   refine gO ?_
   refine cT ?_
   refine gE @aX ?_
   refine⟨by rw[np];omega,?_⟩
   refine gO ?_
   refine AQ.append (hnb:=rfl) (rows:=bX (o.take k)) (es:=2) (by kernel_rfl) rfl rfl rfl (by rfl) Tryz.yP Tryz.yM (by show Option.map _ (az Tryz.prog 119)=_;rw[Tryz.y7];rfl) Tryz.v_ (by first|rfl|(simp only[aJ,bc,List.length_cons,List.length_nil];done)|(simp only[aJ,bc,List.length_cons,List.length_nil];omega)) (by simp only[aJ,bc,List.length_cons,List.length_nil];omega) (by simp only[aJ,bc,List.length_cons,List.length_nil];omega) ?_
   refine sI ?_
   refine gE @hw ?_
   refine AE.eu [2] rfl ?_
   refine sI ?_
   refine AE.round (k+1) (by omega) (by omega) (by simp only[aJ,bc];exact(sU)) ?_
   rw[bx,uG]
 ·obtain⟨u,hu,aX⟩:=jt c k ag
  have hw:=wr (x:=(k:Int)+1) (by omega)
  have cG:=nL hs hu
  have xp:=h4 u (List.mem_of_getElem? hu)
  have ez:=EA (c.take k) [] u
  rw[<-dV hu,List.nil_append]at ez
  refine gE @aJ ?_
  refine cT ?_
  refine gE @aX ?_
  refine⟨by rw[aJ];omega,?_⟩
  refine gO ?_
  refine⟨⟨by omega,by rw[aJ];omega⟩,?_⟩
  have bc:List.take k (bX c)=bX (c.take k):=by rw[bX,bX,List.map_take]
  have Bm:List.drop k (List.take (k+1) (bX c))=bX [u]:=by
   rw[bX,<-List.map_take,<-List.map_drop,dV hu,List.drop_append_of_le_length (by rw[List.length_take];omega),List.drop_take_self];rfl
  have ug:((k:Int)+1).toNat=k+1:=by omega
  have rE:=KR [u] true ⟨by simp,fun l hl=>by rw[List.mem_singleton]at hl;subst hl;exact cG⟩ (by simp) (by
   have h6:=Cm c u (List.mem_of_getElem? hu)
   simp only[bT,List.map_cons,List.map_nil,List.sum_cons,List.sum_nil];omega) (fun l hl=>by rw[List.mem_singleton]at hl;subst hl;exact xp)
  have pO:fu true [u]=cV u:=by rw[fu,dM,List.append_nil,cV]
  rw[pO]at rE
  have mG:(cJ [] (c.take k)).length<=k:=by
   have:=(nN (c.take k) []).length_le
   rw[List.length_take]at this;omega
  rw[bc]
  refine AQ.fix 1 rfl rfl ?_
  refine sI ?_
  refine AQ.fn (by kernel_rfl) rfl rfl rfl (Lz (c.take k) u (by rw[List.length_take];omega) cG) rfl ?_
  refine sI ?_
  refine gO ?_
  refine AP.cond rfl rfl (fun h5=>?_) (fun h5=>?_)
  ·have h5:(c.take k).any (dm u)=false:=by simpa using h5
   rw[h5,if_neg (by decide)]at ez
   refine gO ?_
   refine AP.dh 11 (Tree.node [] [0,1,2,3,4,5,6] [7] [Tree.node [0,1] [8] [9] [Tree.node [0] [] [10] [Tree.node [] [] [] []]]]) (by kernel_rfl) rfl (by kernel_rfl) (by kernel_rfl) ?_
   refine de ?_
   refine sE (an @hw (an @ug (an @Bm @aJ))) ?_
   refine⟨⟨by omega,by omega,by omega⟩,?_⟩
   refine AQ.fn (by kernel_rfl) rfl rfl rfl (rE) rfl ?_
   refine sI ?_
   refine AQ.nx rfl ?_
   refine sI ?_
   refine AQ.go (by kernel_rfl) ?_
   refine sI ?_
   refine AQ.nx rfl ?_
   refine sI ?_
   refine AQ.append (hnb:=rfl) (rows:=fq (cJ [] (c.take k))) (es:=3) (by kernel_rfl) rfl rfl rfl (by rfl) Tryz.SH Tryz.SA (by show Option.map _ (az Tryz.prog 145)=_;rw[Tryz.TD];rfl) Tryz.L8 (by first|rfl|(simp only[np,List.length_cons,List.length_nil];done)|(simp only[np,List.length_cons,List.length_nil];omega)) (by simp only[np,List.length_cons,List.length_nil];omega) (by simp only[np,List.length_cons,List.length_nil];omega) ?_
   refine sI ?_
   refine AQ.nx rfl ?_
   refine sI ?_
   refine AQ.done ?_
   refine gE @hw ?_
   have hlen:(cJ [] (c.take (k+1))).length=(cJ [] (c.take k)).length+1:=by rw[ez,List.length_append];rfl
   refine AE.round (k+1) (by omega) (by omega) (by rw[hlen];simp only[np];exact(sU)) ?_
   rw[ez];simp only[fc,fq,List.map_append];rfl
  ·have h5:(c.take k).any (dm u)=true:=by simpa using h5
   rw[if_pos h5,List.append_nil]at ez
   refine gE @hw ?_
   exact AE.round (k+1) (by omega) (by omega) (by rw[ez];exact(sU)) (by rw[ez])
abbrev fL (s:List UInt8) (i:Nat):aa:=[(0,.var 135 [Sv s,Iv i])]
abbrev uI:AV:= .wr (.iface 131) (.agg [])
abbrev yx:aa:=[(0,.var 135 [.top,.top])]
theorem oC (a b:AV):ct [a,b] [.top,.top]:=fun w φ I us h=>by
 simp only[AV.ab,AV.den]at h⊢
 obtain⟨u1,oY,rfl,_,u2,yW,rfl,_,rfl⟩:=h
 exact⟨_,_,rfl,trivial,_,_,rfl,trivial,rfl⟩
theorem nI {s:List UInt8} {i:Nat} {w:List UInt8} (h:bQ s i w=true) (hi:i<=s.length):i+w.length<=s.length:=by
 rcases DU h with h|h
 ·exact h
 ·subst h;simpa using hi
theorem nQ (s w:List UInt8) (i:Nat) (hi:i<=s.length) (hs:s.length<=1000000) (hw:w.length<=1000):al Tryz.prog 83 [.ob 0 0,Sv w] (fL s i) (fun r H'=>r=Bv (bQ s i w)/\H'=fL s (if bQ s i w then i+w.length else i)):=by
 have hp:=NU (s.drop i) w
 have he:Lib.hasPrefix (s.drop i) w=bQ s i w:=rfl
 have bc:List.take (s.length-i) (List.drop i s)=List.drop i s:=List.take_of_length_le (by rw[List.length_drop];exact Nat.le_refl _)
 rw[he,<-bc]at hp
 clear he
 refine al.walk [0,1,4,16] [] Tryz.func83 rfl Tryz.ntmps83 (by kernel_rfl) (by rfl) rfl fun W own I0 aw lay=>?_
 refine gO ?_
 refine AP.dh 12 (Tree.node [] [0,1,2,3,4,5,6,7,8,9] [10] [Tree.node [] [11] [] []]) (by kernel_rfl) rfl (by kernel_rfl) (by kernel_rfl) ?_
 refine de ?_
 refine sI ?_
 refine⟨by omega,?_⟩
 refine AQ.fn (by kernel_rfl) rfl rfl rfl (hp) rfl ?_
 refine sI ?_
 refine AQ.nx rfl ?_
 refine sI ?_
 refine AQ.done ?_
 refine gO ?_
 refine AP.cond rfl rfl (fun h=>?_) (fun h=>?_)
 ·have h:bQ s i w=false:=by simpa using h
  refine gO ?_
  exact AE.ret rfl ⟨rfl,trivial⟩ ⟨by rw[h];rfl,by rw[h];rfl⟩
 ·have h:bQ s i w=true:=by simpa using h
  have hle:=nI h hi
  have cQ:=wr (x:=(i:Int)+w.length) (by omega)
  refine gE @cQ ?_
  exact AE.ret rfl ⟨rfl,trivial⟩ ⟨by rw[h];rfl,by rw[h,if_pos rfl];rfl⟩
theorem FD {l:List UInt8} {k:Nat} (h:k<l.length):l.drop k=l.getD k 0::l.drop (k+1):=by
 rw[List.drop_eq_getElem_cons h,List.getD_eq_getElem?_getD,List.getElem?_eq_getElem h];rfl
theorem QQ {s:List UInt8} {k:Nat} (b:Bool) (h:k<s.length):b7 b (s.drop k)=if fp (s.getD k 0) b then 1+b7 false (s.drop (k+1))else 0:=by
 rw[FD h,b7]
theorem HY (s:List UInt8) (i:Nat) (hi:i<=s.length) (hs:s.length<=1000000):cO Tryz.prog 157 [.ob 0 0] (fL s i) (fun r H'=>b7 true (s.drop i)≠0/\r=Sv ((s.drop i).take (b7 true (s.drop i)))/\H'=fL s (i+b7 true (s.drop i))) (fun r H'=>b7 true (s.drop i)=0/\r=uI/\H'=yx):=by
 refine cO.walk [0,2,3,35,48] [] Tryz.func157 rfl Tryz.ntmps157 (by kernel_rfl) (by rfl) rfl fun W own I0 aw lay=>?_
 refine gO ?_
 refine AP.loop rfl (α:=Nat) (fun k=>[(0,.ob 0 0),(3,Iv i)]) (fun k=>fL s (i+k)) (fun k=>i+k<=s.length/\b7 true (s.drop i)=k+b7 (decide (k=0)) (s.drop (i+k))) (fun k=>s.length-(i+k)) 0 ⟨by omega,by simp⟩ (sU) rfl fun k ⟨hk,hm⟩=>?_
 by_cases ag:i+k<s.length
 ·have hw:=wr (x:=((i+k:Nat):Int)+1) (by omega)
  have hd:decide (((i+k:Nat):Int)<(s.length:Int))=true:=decide_eq_true (by omega)
  have he:decide (((i+k:Nat):Int)=(i:Int))=decide (k=0):=by rw[decide_eq_decide];omega
  rw[QQ _ ag]at hm
  refine gE @hd ?_
  refine AP.dh 28 (Tree.node [] [0,1,2,3,4,5,6,7,8,9,10,11,12,13,14,15,16,17,18,19,20,21,22,23,24,25] [26] [Tree.node [] [27] [] []]) (by kernel_rfl) rfl (by kernel_rfl) (by kernel_rfl) ?_
  refine de ?_
  refine sE @hd ?_
  refine⟨⟨by omega,by omega⟩,?_⟩
  refine AQ.nW (by simp only[go_sem]) ?_
  refine AQ.fn (by kernel_rfl) rfl rfl rfl (G1 (s.getD (i+k) 0) (((i+k:Nat):Int)==(i:Int))) rfl ?_
  refine sI ?_
  refine AQ.nx rfl ?_
  refine sI ?_
  refine AQ.done ?_
  have NZ:(((i+k:Nat):Int)==(i:Int))=decide (k=0):=by
   rw[Bool.eq_iff_iff,beq_iff_eq,decide_eq_true_iff];omega
  rw[NZ]
  refine gO ?_
  refine AP.cond rfl rfl (fun h5=>?_) (fun h5=>?_)
  ·have h5:fp (s.getD (i+k) 0) (decide (k=0))=true:=by simpa using h5
   rw[if_pos h5]at hm
   refine gE @hw ?_
   refine AE.round (k+1) ⟨by omega,?_⟩ (by omega) (sU) rfl
   rw[hm,show decide (k+1=0)=false from decide_eq_false (by omega)];simp only[Nat.add_assoc];
  ·have h5:fp (s.getD (i+k) 0) (decide (k=0))=false:=by simpa using h5
   rw[if_neg (by rw[h5];decide)]at hm
   refine gO ?_
   have gH:b7 true (s.drop i)=k:=hm
   by_cases kq:k=0
   ·subst kq
    refine cT ?_
    refine gO ?_
    refine xI ?_;refine sI ?_
    refine gO ?_
    refine AQ.eQ 0 _ rfl (oC _ _) ?_
    refine sI ?_
    refine AQ.panic rfl ?_
    exact cI.out [] rfl rfl ⟨gH,rfl,rfl⟩
   ·refine cF ?_
    refine gO ?_
    exact AE.ret rfl ⟨rfl,trivial⟩ ⟨by omega,by rw[gH,Nat.add_sub_cancel_left];rfl,by rw[gH]⟩
 ·have hd:decide (((i+k:Nat):Int)<(s.length:Int))=false:=decide_eq_false (by omega)
  refine gE @hd ?_
  refine AP.dh 28 (Tree.node [] [0,1,2,3,4,5,6,7,8,9,10,11,12,13,14,15,16,17,18,19,20,21,22,23,24,25] [26] [Tree.node [] [27] [] []]) (by kernel_rfl) rfl (by kernel_rfl) (by kernel_rfl) ?_
  refine de ?_
  refine sE @hd ?_
  refine⟨fun h=>h.elim,fun h=>h.elim,?_⟩
  refine AQ.skip (by kernel_rfl) rfl ?_
  refine sI ?_
  refine AQ.nx rfl ?_
  refine sI ?_
  refine AQ.done ?_
  have hm:b7 true (s.drop i)=k:=by rw[hm,List.drop_eq_nil_of_le (by omega),b7];rfl
  refine gO ?_
  have gH:b7 true (s.drop i)=k:=hm
  by_cases kq:k=0
  ·subst kq
   refine cT ?_
   refine gO ?_
   refine xI ?_;refine sI ?_
   refine gO ?_
   refine AQ.eQ 0 _ rfl (oC _ _) ?_
   refine sI ?_
   refine AQ.panic rfl ?_
   exact cI.out [] rfl rfl ⟨gH,rfl,rfl⟩
  ·refine cF ?_
   refine gO ?_
   exact AE.ret rfl ⟨rfl,trivial⟩ ⟨by omega,by rw[gH,Nat.add_sub_cancel_left];rfl,by rw[gH]⟩
theorem cO.told {P:Program} {f:FuncId} {xs:List AV} {H:aa} {R R' X:AV->aa->Prop} (h:cO P f xs H R X) (hr:∀r H',R r H'->∃r',R' r' H'/\dW r r'):cO P f xs H R' X:=
 ⟨h.fC,fun w φ I vs hd hR hV=>(h.run w φ I vs hd hR hV).mono fun _ _ h=>by
  rcases h with⟨r,H',φ',I',v,U,h2,h3,h4⟩|h
  ·obtain⟨r',mN,dF⟩:=hr _ _ U
   exact .inl ⟨r',H',φ',I',v,mN,h2,dF _ _ _ _ h3,h4⟩
  ·exact .inr h⟩
def RT (s:List UInt8) (f i:Nat) (r:AV) (H':aa):Prop:=∃t j,pT s f i=some (t,j)/\r=bD t/\H'=fL s j
def XT (s:List UInt8) (f i:Nat) (r:AV) (H':aa):Prop:=pT s f i=none/\r=uI/\H'=yx
def RA (s:List UInt8) (f i:Nat) (r:AV) (H':aa):Prop:=∃l j,pA s f i=some (l,j)/\r= .im (.sl 3 (ay l))/\H'=fL s j
def XA (s:List UInt8) (f i:Nat) (r:AV) (H':aa):Prop:=pA s f i=none/\r=uI/\H'=yx
theorem Rq (s:List UInt8) (f i:Nat):pR s (f+1) i=if bQ s i [44,32]then
   match pT s f (i+2)with
   |none=>none
   |some (t,j)=>match pR s f j with
    |none=>none
    |some (l,k)=>some (t::l,k)
  else if bQ s i [41]then some ([],i+1)else none:=by rw[pR];rfl
def yo (a:List Tm):Option (List Tm×Nat)->Option (List Tm×Nat)
 |none=>none
 |some (l,k)=>some (a++l,k)
theorem I6 (s:List UInt8) (hs:s.length<=1000000) (f i:Nat) (hi:i<=s.length) (hf:s.length<f+i)
  (ih:∀f' i',f'<=f->i'<=s.length->s.length<f'+i'->cO Tryz.prog 159 [.ob 0 0] (fL s i') (RT s f' i') (XT s f' i')):
  cO Tryz.prog 158 [.ob 0 0] (fL s i) (RA s f i) (XA s f i):=by
 refine cO.told (R:=fun r H'=>∃l j,pA s f i=some (l,j)/\(r= .im (.sl 3 (ay l))\/l=[]/\r=gp)/\H'=fL s j) ?_ (fun r H' ⟨l,j,U,h2,h3⟩=>⟨_,⟨l,j,U,rfl,h3⟩,by
  rcases h2 with rfl|⟨rfl,rfl⟩
  ·exact dW.refl _
  ·exact fun w φ I u h=>H9 3 w φ I u h⟩)
 have hA:pA s f i=_:=pA.eq_def s f i
 have he:=nQ s [40] i hi hs (by simp)
 refine cO.walk [0,2,3,6,11,19] [3,9] Tryz.func158 rfl Tryz.ntmps158 (by kernel_rfl) (by rfl) rfl fun W own I0 aw lay=>?_
 refine gO ?_
 refine AQ.bE [(0,0)] (by kernel_rfl) rfl rfl rfl rfl rfl rfl (by exact⟨rfl,trivial⟩) rfl (he) ?_;rintro r H1 ⟨rfl,rfl⟩;refine⟨rfl,?_⟩;refine sH ?_
 refine gO ?_
 refine AP.cond rfl rfl (fun h=>?_) (fun h=>?_)
 ·have h:bQ s i [40]=false:=by simpa using h
  rw[h,if_neg (by decide)]at hA
  rw[h,if_neg (by decide)]
  refine gO ?_
  exact AE.ret rfl ⟨rfl,trivial⟩ ⟨[],i,hA,.inr ⟨rfl,rfl⟩,rfl⟩
 have h:bQ s i [40]=true:=by simpa using h
 have hle:=nI h hi
 simp only[List.length_cons,List.length_nil]at hle
 rw[if_pos h]at hA
 rw[if_pos h]
 have it:=ih f (i+1) (Nat.le_refl _) (by omega) (by omega)
 refine gO ?_
 refine AQ.kV [(0,0)] (by kernel_rfl) rfl rfl rfl rfl rfl rfl (by exact⟨rfl,trivial⟩) rfl (it) ?_ ?_
 ·rintro r H' ⟨hp,rfl,rfl⟩
  rw[hp]at hA
  refine⟨rfl,?_⟩;refine sH ?_
  exact cI.out [] rfl rfl ⟨hA,rfl,rfl⟩
 ·rintro r H' ⟨t,j,hp,rfl,rfl⟩
  have mM:=oL hp
  rw[hp]at hA
  simp only at hA
  refine⟨rfl,?_⟩;refine sH ?_
  refine AQ.go (by kernel_rfl) ?_
  refine sI ?_
  refine gO ?_
  have FJ:pA s f i=yo [t] (pR s f j):=by rw[hA];cases pR s f j<;>rfl
  refine AP.loop rfl (α:=List Tm×Nat×Nat) (fun z=>[(0,.ob 0 0),(3,.os 1 3 0 z.1.length)]) (fun z=>(1,.vec 71 3 (ay z.1))::fL s z.2.1) (fun z=>z.1.length<=z.2.1/\z.2.1<=s.length/\s.length<z.2.2+z.2.1/\z.2.2<=f/\pA s f i=yo z.1 (pR s z.2.2 z.2.1)) (fun z=>s.length-z.2.1) ([t],j,f) ⟨by simp only[List.length_singleton];omega,mM.2.2,by simp only;omega,Nat.le_refl _,FJ⟩ (sU) (by simp only[ay,oT];rfl) fun⟨a,j,g⟩ ⟨z1,z2,z3,z4,z5⟩=>?_
  simp only at z1 z2 z3 z4 z5⊢
  clear hA FJ mM hp it he hle
  obtain⟨g,rfl⟩:∃q,g=q+1:=⟨g-1,by omega⟩
  rw[Rq]at z5
  have he:=nQ s [44,32] j z2 hs (by simp)
  refine gO ?_
  refine AQ.bE [(0,0)] (by kernel_rfl) rfl rfl rfl rfl rfl rfl (by exact⟨rfl,trivial⟩) rfl (he) ?_;rintro r H1 ⟨rfl,rfl⟩;refine⟨rfl,?_⟩;refine sH ?_
  refine gO ?_
  refine AP.cond rfl rfl (fun h2=>?_) (fun h2=>?_)
  ·have h2:bQ s j [44,32]=true:=by simpa using h2
   have hle:=nI h2 z2
   simp only[List.length_cons,List.length_nil]at hle
   have it:=ih g (j+2) (by omega) (by omega) (by omega)
   rw[if_pos h2]at z5
   rw[if_pos h2]
   refine gO ?_
   refine AQ.kV [(0,0)] (by kernel_rfl) rfl rfl rfl rfl rfl rfl (by exact⟨rfl,trivial⟩) rfl (it) ?_ ?_
   ·rintro r H' ⟨hp,rfl,rfl⟩
    rw[hp]at z5
    refine⟨rfl,?_⟩;refine sH ?_
    exact cI.out [1] rfl rfl ⟨z5,rfl,rfl⟩
   ·rintro r H' ⟨u,k,hp,rfl,rfl⟩
    have mM:=oL hp
    rw[hp]at z5
    refine⟨rfl,?_⟩;refine sH ?_
    refine AQ.go (by kernel_rfl) ?_
    refine sI ?_
    refine gO ?_
    refine AQ.append (hnb:=rfl) (rows:=ay a) (es:=2) (by kernel_rfl) rfl rfl rfl (by rfl) Tryz.sg Tryz.se (by show Option.map _ (az Tryz.prog 71)=_;rw[Tryz.sr];rfl) Tryz.qG (by first|rfl|(simp only[ao,List.length_cons,List.length_nil];done)|(simp only[ao,List.length_cons,List.length_nil];omega)) (by simp only[ao,List.length_cons,List.length_nil];omega) (by simp only[ao,List.length_cons,List.length_nil];omega) ?_
    refine sE @ao ?_
    refine gO ?_
    refine AE.round (a++[u],k,g) ⟨by simp only[List.length_append,List.length_singleton];omega,mM.2.2,by simp only;omega,by simp only;omega,?_⟩ (by simp only;omega) (by simp only[List.length_append,List.length_singleton];exact(sU)) (by simp only[oV];rfl)
    simp only at z5⊢
    rw[z5]
    cases hq:pR s g k with
    |none=>rfl
    |some x=>simp[yo]
  ·have h2:¬bQ s j [44,32]=true:=by simpa using h2
   rw[if_neg h2]at z5
   rw[if_neg h2]
   have Oc:=nQ s [41] j z2 hs (by simp)
   refine gO ?_
   refine AQ.bE [(0,0)] (by kernel_rfl) rfl rfl rfl rfl rfl rfl (by exact⟨rfl,trivial⟩) rfl (Oc) ?_;rintro r H1 ⟨rfl,rfl⟩;refine⟨rfl,?_⟩;refine sH ?_
   refine gO ?_
   refine AP.cond rfl rfl (fun h3=>?_) (fun h3=>?_)
   ·have h3:¬bQ s j [41]=true:=by simpa using h3
    rw[if_neg h3]at z5
    rw[if_neg h3]
    refine gO ?_;refine xI ?_;refine sI ?_;refine gO ?_;refine AQ.eQ 0 _ rfl (oC _ _) ?_;refine sI ?_;refine AQ.panic rfl ?_
    exact cI.out [1] rfl rfl ⟨z5,rfl,rfl⟩
   ·have h3:bQ s j [41]=true:=by simpa using h3
    rw[if_pos h3]at z5
    rw[if_pos h3]
    refine gO ?_
    refine AE.freeze 1 (el:=71) (es:=3) (rows:=ay a) rfl (by simp only[go_sem,Nat.reduceAdd,Nat.reduceLeDiff,Nat.reduceSub,Int.reduceToNat,reduceCtorEq,ao];first|done|trivial|omega|(simp;done)|(simp;omega)) (by simp only[go_sem,Nat.reduceAdd,Nat.reduceLeDiff,Nat.reduceSub,Int.reduceToNat,reduceCtorEq,ao];first|done|trivial|omega|(simp;done)|(simp;omega)) ?_;simp only[go_sem,Nat.reduceAdd,Nat.reduceLeDiff,Nat.reduceSub,Int.reduceToNat,reduceCtorEq,ao]
    rw[List.take_of_length_le (by rw[ao];exact Nat.le_refl _)]
    exact AE.ret rfl ⟨rfl,trivial⟩ ⟨a,j+1,by rw[z5];simp[yo],.inl rfl,rfl⟩
theorem IU:∀(l:List UInt8) (acc k:Nat),acc<10^k->l.length+k<=18->(∀c∈l,eb c=true)->Lib.parseUint10 acc l= .ok (l.foldl (fun n c=>10*n+(c.toNat-48)) acc)
 |[],acc,k,_,_,_=>rfl
 |c::r,acc,k,ha,hl,hd=>by
  have hc:=hd c (List.mem_cons_self ..)
  rw[eb,Bool.and_eq_true,decide_eq_true_iff,decide_eq_true_iff]at hc
  have hk:10^k<=10^17:=Nat.pow_le_pow_right (by decide) (by simp only[List.length_cons]at hl;omega)
  have hn:acc*10+(c.toNat-48)<10^(k+1):=by rw[Nat.pow_succ];omega
  have Va:(10:Nat)^17=100000000000000000:=by decide
  rw[Lib.parseUint10,if_pos hc,if_neg (by omega),if_neg (by omega),IU r _ (k+1) hn (by simp only[List.length_cons]at hl;omega) (fun x hx=>hd x (List.mem_cons_of_mem _ hx)),List.foldl_cons,Nat.mul_comm acc 10]
theorem LG {d:List UInt8} (hd:∀c∈d,eb c=true) (h0:d≠[]) (hl:d.length<=18):fA d=((en d:Int),true):=by
 have hp:=IU d 0 0 (by decide) (by omega) hd
 have ag:en d<10^18:=by
  have:∀(l:List UInt8) (acc k:Nat),acc<10^k->(∀c∈l,eb c=true)->l.foldl (fun n c=>10*n+(c.toNat-48)) acc<10^(k+l.length):=by
   intro l
   induction l with
   |nil=>intro acc k h _;exact h
   |cons c r ih=>
    intro acc k h hd
    have hc:=hd c (List.mem_cons_self ..)
    rw[eb,Bool.and_eq_true,decide_eq_true_iff,decide_eq_true_iff]at hc
    have:=ih (10*acc+(c.toNat-48)) (k+1) (by rw[Nat.pow_succ];omega) fun x hx=>hd x (List.mem_cons_of_mem _ hx)
    rw[List.foldl_cons,List.length_cons,show k+(r.length+1)=k+1+r.length by omega]
    exact this
  have U:=this d 0 0 (by decide) hd
  rw[Nat.zero_add]at U
  exact Nat.lt_of_lt_of_le U (Nat.pow_le_pow_right (by decide) hl)
 have Vb:(10:Nat)^18=1000000000000000000:=by decide
 cases d with
 |nil=>exact absurd rfl h0
 |cons c r=>
  have hc:=hd c (List.mem_cons_self ..)
  rw[eb,Bool.and_eq_true,decide_eq_true_iff,decide_eq_true_iff]at hc
  have Nw:¬(c.toNat=43\/c.toNat=45):=by omega
  have FI:¬c.toNat=45:=by omega
  have hA:Lib.atoiAll (c::r)= .ok ((en (c::r):Nat):Int):=by
   rw[Lib.atoiAll]
   simp only[if_neg Nw,Lib.parseMag,if_neg (List.cons_ne_nil c r)]
   rw[hp]
   simp only
   rw[if_neg,if_neg,if_neg FI]
   ·rfl
   ·exact fun h=>FI h.1
   ·rintro⟨_,h⟩
    have:en (c::r)<1000000000000000000:=by omega
    unfold en at this
    omega
  rw[fA,hA]
def rU (d:List UInt8):Bool:=(fA d).2&&!decide (9<d.length)&&(Lib.itoa (fA d).1==d)
theorem Ik {d:List UInt8} (hd:∀c∈d,eb c=true):rU d=ir d/\(ir d=true->(fA d).1=(en d:Int)):=by
 rcases Decidable.em (d=[])with rfl|h0
 ·have:fA []=(0,false):=rfl
  refine⟨by rw[rU,this];rfl,fun h=>?_⟩
  exact absurd h (by decide)
 ·have A_:1<=d.length:=by cases d with|nil=>exact absurd rfl h0|cons c r=>simp
  by_cases h9:9<d.length
  ·rw[rU,ir,decide_eq_true h9,decide_eq_false (by omega:¬d.length<=9)]
   simp
  ·have ha:=LG hd h0 (by omega)
   have hi:Lib.itoa (en d:Int)=Lib.decDigits (en d):=by rw[Lib.itoa,if_neg (by omega)];rfl
   refine⟨?_,fun _=>by rw[ha]⟩
   rw[rU,ha,ir,decide_eq_false h9,decide_eq_true A_,decide_eq_true (by omega:d.length<=9)]
   simp only[Bool.true_and,Bool.not_false,hi]
   rw[Bool.eq_iff_iff,beq_iff_eq,Bool.or_eq_true,decide_eq_true_iff,decide_eq_true_iff]
   obtain⟨_,_,_,_,h5,h6⟩:=wj (en d)
   constructor
   ·intro h
    rw[h]at h5 h6
    by_cases U:d.length=1
    ·exact .inl U
    ·exact .inr (h5 (h6 (by omega)))
   ·intro h
    obtain⟨n,hn⟩:∃n,d.length=n+1:=⟨d.length-1,by omega⟩
    exact(zC n d hn hd (fun U=>by
     rcases h with h|h
     ·omega
     ·exact h)).1
theorem zE:∀l:List UInt8,∀c∈l.take (ej l),eb c=true
 |[],c,h=>by simp at h
 |x::l,c,h=>by
  rw[ej]at h
  by_cases hx:eb x=true
  ·rw[if_pos hx,Nat.add_comm,List.take_succ_cons]at h
   rcases List.mem_cons.1 h with rfl|h
   ·exact hx
   ·exact zE l c h
  ·rw[if_neg hx]at h;simp at h
theorem MH {s:List UInt8} {k:Nat} (h:k<s.length):ej (s.drop k)=if eb (s.getD k 0)then 1+ej (s.drop (k+1))else 0:=by
 rw[FD h,ej]
theorem RX (s:List UInt8) (hs:s.length<=1000000) (f i:Nat) (hi:i<=s.length)
  (hl:∀i',i<i'->i'<=s.length->cO Tryz.prog 158 [.ob 0 0] (fL s i') (RA s f i') (XA s f i')):
  cO Tryz.prog 159 [.ob 0 0] (fL s i) (RT s (f+1) i) (XT s (f+1) i):=by
 refine cO.told (R:=fun r H'=>∃t j,pT s (f+1) i=some (t,j)/\(r=bD t\/t.xs=[]/\r= .agg [Sv t.nm,Iv t.ix,gp])/\H'=fL s j) ?_ (fun r H' ⟨t,j,U,h2,h3⟩=>⟨_,⟨t,j,U,rfl,h3⟩,by
  rcases h2 with rfl|⟨hx,rfl⟩
  ·exact dW.refl _
  ·rw[bD,hx,ay];exact(by repeat' (first|with_reducible exact dW.refl _|with_reducible exact gb.refl _|exact gb.nil _|with_reducible exact ct.refl _|with_reducible exact kG.refl _|with_reducible exact kH.refl _|refine ct.wh ?_ ?_|refine dW.agg ?_|refine dW.im ?_|refine gb.sl ?_|refine kH.cons ?_ ?_|refine kG.cons ?_ ?_))⟩)
 have hT:=CH s f i
 have he:=nQ s [63] i hi hs (by simp)
 refine cO.walk [0,2,3,4,5,6,7,10,54,89] [2] Tryz.func159 rfl Tryz.ntmps159 (by kernel_rfl) (by rfl) rfl fun W own I0 aw lay=>?_
 refine gO ?_
 refine AQ.bE [(0,0)] (by kernel_rfl) rfl rfl rfl rfl rfl rfl (by exact⟨rfl,trivial⟩) rfl (he) ?_;rintro r H1 ⟨rfl,rfl⟩;refine⟨rfl,?_⟩;refine sH ?_
 refine gO ?_
 refine AP.cond rfl rfl (fun h=>?_) (fun h=>?_)
 ·have h:bQ s i [63]=false:=by simpa using h
  rw[h,if_neg (by decide)]at hT
  rw[h,if_neg (by decide)]
  have hn:=HY s i hi hs
  refine gO ?_
  refine AQ.kV [(0,0)] (by kernel_rfl) rfl rfl rfl rfl rfl rfl (by exact⟨rfl,trivial⟩) rfl (hn) ?_ ?_
  ·rintro r H' ⟨hp,rfl,rfl⟩
   rw[if_pos hp]at hT
   refine⟨rfl,?_⟩;refine sH ?_
   exact cI.out [1] rfl rfl ⟨hT,rfl,rfl⟩
  ·rintro r H' ⟨hp,rfl,rfl⟩
   rw[if_neg hp]at hT
   have fm:=uJ true (s.drop i)
   rw[List.length_drop]at fm
   have eT:=hl (i+b7 true (s.drop i)) (by omega) (by omega)
   refine⟨rfl,?_⟩;refine sH ?_
   refine AQ.go (by kernel_rfl) ?_
   refine sI ?_
   refine gO ?_
   refine AQ.kV [(0,0)] (by kernel_rfl) rfl rfl rfl rfl rfl rfl (by exact⟨rfl,trivial⟩) rfl (eT) ?_ ?_
   ·rintro r H' ⟨hp,rfl,rfl⟩
    rw[hp]at hT
    refine⟨rfl,?_⟩;refine sH ?_
    exact cI.out [1] rfl rfl ⟨hT,rfl,rfl⟩
   ·rintro r H' ⟨l,k,hp,rfl,rfl⟩
    rw[hp]at hT
    refine⟨rfl,?_⟩;refine sH ?_
    refine AQ.go (by kernel_rfl) ?_
    refine sI ?_
    refine gO ?_
    exact AE.bk [1] rfl ⟨⟨rfl,Nat.le_of_ble_eq_true (by kernel_rfl)⟩,trivial⟩ rfl ⟨_,k,hT,.inl rfl,rfl⟩
 ·have h:bQ s i [63]=true:=by simpa using h
  have hle:=nI h hi
  simp only[List.length_cons,List.length_nil]at hle
  rw[if_pos h]at hT
  rw[if_pos h]
  refine gO ?_
  refine AP.loop rfl (α:=Nat) (fun k=>[(0,.ob 0 0),(2,.ob 1 0),(4,Iv (i+1:Nat))]) (fun k=>(1,.var 71 [Sv [],Iv 0,gp])::fL s (i+1+k)) (fun k=>i+1+k<=s.length/\ej (s.drop (i+1))=k+ej (s.drop (i+1+k))) (fun k=>s.length-(i+1+k)) 0 ⟨by omega,by simp⟩ (sU) rfl fun k ⟨hk,hm⟩=>?_
  by_cases ag:i+1+k<s.length
  ·have hw:=wr (x:=((i+1+k:Nat):Int)+1) (by omega)
   have hd:decide (((i+1+k:Nat):Int)<(s.length:Int))=true:=decide_eq_true (by omega)
   rw[MH ag]at hm
   refine gE @hd ?_
   refine AP.cond rfl rfl (fun h5=>?_) (fun h5=>?_)
   ·have h5:eb (s.getD (i+1+k) 0)=true:=by
     rw[eb];simp only[Bool.and_eq_true,decide_eq_true_eq]at h5⊢;omega
    rw[if_pos h5]at hm
    refine gE @hw ?_
    refine AE.round (k+1) ⟨by omega,by rw[hm];simp only[Nat.add_assoc]⟩ (by omega) (sU) rfl
   ·have h5:eb (s.getD (i+1+k) 0)=false:=by
     rw[eb,<-Bool.not_eq_true];intro hc;rw[<-Bool.not_eq_true]at h5;apply h5
     simp only[Bool.and_eq_true,decide_eq_true_eq]at hc⊢;omega
    rw[if_neg (by rw[h5];decide)]at hm
    refine gO ?_
    have gH:ej (s.drop (i+1))=k:=hm
    have ek:i+1+k-(i+1)=k:=Nat.add_sub_cancel_left ..
    have pI:=zE (s.drop (i+1))
    rw[gH]at pI
    have hV:pV s (i+1)=_:=pV.eq_def s (i+1)
    rw[gH]at hV
    rw[ek]
    have wQ:((s.drop (i+1)).take k).length<=1000000:=by rw[List.length_take,List.length_drop];omega
    obtain⟨d,hY⟩:∃d,(s.drop (i+1)).take k=d:=⟨_,rfl⟩
    rw[hY]at pI hV wQ⊢
    obtain⟨gm,ib⟩:=Ik pI
    have aH:=DW d (by omega)
    have gA:=DV d
    rw[rU]at gm
    obtain⟨⟨n,ok⟩,hq⟩:∃q,fA d=q:=⟨_,rfl⟩
    rw[hq]at aH gA gm ib
    simp only at aH gA gm ib
    have hit:=BM n gA
    cases ok with
    |false=>
     have bG:ir d=false:=by rw[<-gm];rfl
     rw[bG,if_neg (by decide)]at hV
     refine AQ.fn (by kernel_rfl) rfl rfl rfl (aH) rfl ?_
     refine sI ?_
     repeat(first|refine xA ?_|refine xB ?_|refine xC ?_|refine xE ?_|refine xD ?_|refine xK ?_|refine xS ?_|refine xM ?_|refine xT ?_|refine xF ?_|((first|refine xR ?_|refine xW ?_|refine mb ?_);simp only[go_sem,Nat.reduceAdd,Nat.reduceLeDiff,Nat.reduceSub,Int.reduceToNat,reduceCtorEq,kb])|(refine⟨by first|omega|(intros;simp_all;done)|(intros;simp_all;omega),?_⟩;try simp only[go_sem,Nat.reduceAdd,Nat.reduceLeDiff,Nat.reduceSub,Int.reduceToNat,reduceCtorEq,kb]))
     refine xI ?_;refine sI ?_
     refine gO ?_
     refine AQ.eQ 0 _ rfl (oC _ _) ?_
     refine sI ?_
     refine AQ.panic rfl ?_
     exact cI.out [1] rfl rfl ⟨by rw[hT,hV],rfl,rfl⟩
    |true=>
     refine AQ.fn (by kernel_rfl) rfl rfl rfl (aH) rfl ?_
     refine sI ?_
     repeat(first|refine xA ?_|refine xB ?_|refine xC ?_|refine xE ?_|refine xD ?_|refine xK ?_|refine xS ?_|refine xM ?_|refine xT ?_|refine xF ?_|((first|refine xR ?_|refine xW ?_|refine mb ?_);simp only[go_sem,Nat.reduceAdd,Nat.reduceLeDiff,Nat.reduceSub,Int.reduceToNat,reduceCtorEq,kb])|(refine⟨by first|omega|(intros;simp_all;done)|(intros;simp_all;omega),?_⟩;try simp only[go_sem,Nat.reduceAdd,Nat.reduceLeDiff,Nat.reduceSub,Int.reduceToNat,reduceCtorEq,kb]))
     refine AQ.kd (by kernel_rfl) rfl rfl (fun h=>by first|(simp[gs,AV.g];done)|(simp[gs,AV.g,bl];done)|(simp[gs,AV.g,bl,bw]at h⊢;done)|(simp[gs,AV.g,bl,bw]at h⊢;exact h)|(simp[gs,AV.g,bl,bw]at h⊢;simp[h];done)|(simp[bw]at h;done)|(simp[gs,AV.g,bw]at h⊢;simp[h];done)|(simp[gs,AV.g,bw]at h⊢;exact h.1)|(simp[gs,AV.g];rfl)|(simp[gs,AV.g,bw]at h⊢;rfl)|(simp[gs,AV.g,bw]at h⊢;simp[h];rfl)|(simp[gs,AV.g,bw]at h⊢;simp_all)) rfl (fun _=>hit) rfl ?_
     refine sI ?_
     refine gO ?_
     refine AP.cond rfl rfl (fun h6=>?_) (fun h6=>?_)
     ·have bG:ir d=false:=by
       rw[<-gm]
       by_cases h7:9<d.length
       ·rw[decide_eq_true h7];rfl
       ·rw[decide_eq_false h7]
        have h8:¬Lib.itoa n=d:=fun e=>by rw[e]at h6;simp at h6;omega
        rw[show(Lib.itoa n==d)=false by simpa using h8];rfl
      rw[bG,if_neg (by decide)]at hV
      refine gO ?_
      refine xI ?_;refine sI ?_
      refine gO ?_
      refine AQ.eQ 0 _ rfl (oC _ _) ?_
      refine sI ?_
      refine AQ.panic rfl ?_
      exact cI.out [1] rfl rfl ⟨by rw[hT,hV],rfl,rfl⟩
     ·have uk:ir d=true:=by
       rw[<-gm]
       have h7:¬9<d.length/\Lib.itoa n=d:=by simp at h6;exact⟨by omega,h6.2⟩
       rw[decide_eq_false h7.1,h7.2];simp
      have mK:=ib uk
      rw[uk,if_pos rfl]at hV
      subst mK
      refine gO ?_
      exact AE.bk [1] rfl ⟨⟨rfl,Nat.le_of_ble_eq_true (by kernel_rfl)⟩,trivial⟩ rfl ⟨_,_,by rw[hT,hV],.inr ⟨rfl,rfl⟩,rfl⟩
  ·have hd:decide (((i+1+k:Nat):Int)<(s.length:Int))=false:=decide_eq_false (by omega)
   have hm:ej (s.drop (i+1))=k:=by rw[hm,List.drop_eq_nil_of_le (by omega),ej];rfl
   refine gE @hd ?_
   have gH:ej (s.drop (i+1))=k:=hm
   have ek:i+1+k-(i+1)=k:=Nat.add_sub_cancel_left ..
   have pI:=zE (s.drop (i+1))
   rw[gH]at pI
   have hV:pV s (i+1)=_:=pV.eq_def s (i+1)
   rw[gH]at hV
   rw[ek]
   have wQ:((s.drop (i+1)).take k).length<=1000000:=by rw[List.length_take,List.length_drop];omega
   obtain⟨d,hY⟩:∃d,(s.drop (i+1)).take k=d:=⟨_,rfl⟩
   rw[hY]at pI hV wQ⊢
   obtain⟨gm,ib⟩:=Ik pI
   have aH:=DW d (by omega)
   have gA:=DV d
   rw[rU]at gm
   obtain⟨⟨n,ok⟩,hq⟩:∃q,fA d=q:=⟨_,rfl⟩
   rw[hq]at aH gA gm ib
   simp only at aH gA gm ib
   have hit:=BM n gA
   cases ok with
   |false=>
    have bG:ir d=false:=by rw[<-gm];rfl
    rw[bG,if_neg (by decide)]at hV
    refine AQ.fn (by kernel_rfl) rfl rfl rfl (aH) rfl ?_
    refine sI ?_
    repeat(first|refine xA ?_|refine xB ?_|refine xC ?_|refine xE ?_|refine xD ?_|refine xK ?_|refine xS ?_|refine xM ?_|refine xT ?_|refine xF ?_|((first|refine xR ?_|refine xW ?_|refine mb ?_);simp only[go_sem,Nat.reduceAdd,Nat.reduceLeDiff,Nat.reduceSub,Int.reduceToNat,reduceCtorEq,kb])|(refine⟨by first|omega|(intros;simp_all;done)|(intros;simp_all;omega),?_⟩;try simp only[go_sem,Nat.reduceAdd,Nat.reduceLeDiff,Nat.reduceSub,Int.reduceToNat,reduceCtorEq,kb]))
    refine xI ?_;refine sI ?_
    refine gO ?_
    refine AQ.eQ 0 _ rfl (oC _ _) ?_
    refine sI ?_
    refine AQ.panic rfl ?_
    exact cI.out [1] rfl rfl ⟨by rw[hT,hV],rfl,rfl⟩
   |true=>
    refine AQ.fn (by kernel_rfl) rfl rfl rfl (aH) rfl ?_
    refine sI ?_
    repeat(first|refine xA ?_|refine xB ?_|refine xC ?_|refine xE ?_|refine xD ?_|refine xK ?_|refine xS ?_|refine xM ?_|refine xT ?_|refine xF ?_|((first|refine xR ?_|refine xW ?_|refine mb ?_);simp only[go_sem,Nat.reduceAdd,Nat.reduceLeDiff,Nat.reduceSub,Int.reduceToNat,reduceCtorEq,kb])|(refine⟨by first|omega|(intros;simp_all;done)|(intros;simp_all;omega),?_⟩;try simp only[go_sem,Nat.reduceAdd,Nat.reduceLeDiff,Nat.reduceSub,Int.reduceToNat,reduceCtorEq,kb]))
    refine AQ.kd (by kernel_rfl) rfl rfl (fun h=>by first|(simp[gs,AV.g];done)|(simp[gs,AV.g,bl];done)|(simp[gs,AV.g,bl,bw]at h⊢;done)|(simp[gs,AV.g,bl,bw]at h⊢;exact h)|(simp[gs,AV.g,bl,bw]at h⊢;simp[h];done)|(simp[bw]at h;done)|(simp[gs,AV.g,bw]at h⊢;simp[h];done)|(simp[gs,AV.g,bw]at h⊢;exact h.1)|(simp[gs,AV.g];rfl)|(simp[gs,AV.g,bw]at h⊢;rfl)|(simp[gs,AV.g,bw]at h⊢;simp[h];rfl)|(simp[gs,AV.g,bw]at h⊢;simp_all)) rfl (fun _=>hit) rfl ?_
    refine sI ?_
    refine gO ?_
    refine AP.cond rfl rfl (fun h6=>?_) (fun h6=>?_)
    ·have bG:ir d=false:=by
      rw[<-gm]
      by_cases h7:9<d.length
      ·rw[decide_eq_true h7];rfl
      ·rw[decide_eq_false h7]
       have h8:¬Lib.itoa n=d:=fun e=>by rw[e]at h6;simp at h6;omega
       rw[show(Lib.itoa n==d)=false by simpa using h8];rfl
     rw[bG,if_neg (by decide)]at hV
     refine gO ?_
     refine xI ?_;refine sI ?_
     refine gO ?_
     refine AQ.eQ 0 _ rfl (oC _ _) ?_
     refine sI ?_
     refine AQ.panic rfl ?_
     exact cI.out [1] rfl rfl ⟨by rw[hT,hV],rfl,rfl⟩
    ·have uk:ir d=true:=by
      rw[<-gm]
      have h7:¬9<d.length/\Lib.itoa n=d:=by simp at h6;exact⟨by omega,h6.2⟩
      rw[decide_eq_false h7.1,h7.2];simp
     have mK:=ib uk
     rw[uk,if_pos rfl]at hV
     subst mK
     refine gO ?_
     exact AE.bk [1] rfl ⟨⟨rfl,Nat.le_of_ble_eq_true (by kernel_rfl)⟩,trivial⟩ rfl ⟨_,_,by rw[hT,hV],.inr ⟨rfl,rfl⟩,rfl⟩
theorem uY (s:List UInt8) (hs:s.length<=1000000):∀(f i:Nat),i<=s.length->s.length<f+i->cO Tryz.prog 159 [.ob 0 0] (fL s i) (RT s f i) (XT s f i)
 |0,i,hi,hf=>by omega
 |f+1,i,hi,hf=>RX s hs f i hi fun i' U h2=>I6 s hs f i' h2 (by omega) fun f' Pz h3 h4 h5=>uY s hs f' Pz h4 h5
termination_by f=>f
decreasing_by omega
theorem RJ (s:List UInt8) (hs:s.length<=1000000) (f i:Nat) (hi:i<=s.length) (hf:s.length<f+i):cO Tryz.prog 158 [.ob 0 0] (fL s i) (RA s f i) (XA s f i):=
 I6 s hs f i hi hf fun f' i' _ h4 h5=>uY s hs f' i' h4 h5
def RL (s:List UInt8) (i:Nat) (r:AV) (H':aa):Prop:=∃l j,pL s i=some (l,j)/\r=ju l/\H'=fL s j
def XL (s:List UInt8) (i:Nat) (r:AV) (H':aa):Prop:=pL s i=none/\r=uI/\H'=yx
theorem I7 (s:List UInt8) (hs:s.length<=1000000) (i:Nat) (hi:i<=s.length):cO Tryz.prog 82 [.ob 0 0] (fL s i) (RL s i) (XL s i):=by
 have hL:pL s i=_:=pL.eq_def s i
 have he:=nQ s [126] i hi hs (by simp)
 refine cO.walk [0,2,3,4,6,8,19,20,21,22,28,39] [2,4,6] Tryz.func82 rfl Tryz.ntmps82 (by kernel_rfl) (by rfl) rfl fun W own I0 aw lay=>?_
 refine gO ?_
 refine AQ.bE [(0,0)] (by kernel_rfl) rfl rfl rfl rfl rfl rfl (by exact⟨rfl,trivial⟩) rfl (he) ?_;rintro r H1 ⟨rfl,rfl⟩;refine⟨rfl,?_⟩;refine sH ?_
 refine gO ?_
 refine AP.cond rfl rfl (fun h=>?_) (fun h=>?_)
 ·have h:bQ s i [126]=true:=by simpa using h
  have hle:=nI h hi
  simp only[List.length_cons,List.length_nil]at hle
  rw[if_pos h]at hL
  rw[if_pos h]
  have hn:=HY s (i+1) (by omega) hs
  refine gO ?_
  refine AQ.kV [(0,0)] (by kernel_rfl) rfl rfl rfl rfl rfl rfl (by exact⟨rfl,trivial⟩) rfl (hn) ?_ ?_
  ·rintro r H' ⟨hp,rfl,rfl⟩
   rw[if_pos hp]at hL
   refine⟨rfl,?_⟩;refine sH ?_
   exact cI.out [1] rfl rfl ⟨hL,rfl,rfl⟩
  ·rintro r H' ⟨hp,rfl,rfl⟩
   rw[if_neg hp]at hL
   have fm:=uJ true (s.drop (i+1))
   rw[List.length_drop]at fm
   have eT:=RJ s hs (s.length+1) (i+1+b7 true (s.drop (i+1))) (by omega) (by omega)
   refine⟨rfl,?_⟩;refine sH ?_
   refine AQ.go (by kernel_rfl) ?_
   refine sI ?_
   refine gO ?_
   refine AQ.kV [(0,0)] (by kernel_rfl) rfl rfl rfl rfl rfl rfl (by exact⟨rfl,trivial⟩) rfl (eT) ?_ ?_
   ·rintro r H' ⟨hp,rfl,rfl⟩
    rw[hp]at hL
    refine⟨rfl,?_⟩;refine sH ?_
    exact cI.out [1] rfl rfl ⟨hL,rfl,rfl⟩
   ·rintro r H' ⟨l,k,hp,rfl,rfl⟩
    rw[hp]at hL
    refine⟨rfl,?_⟩;refine sH ?_
    refine AQ.go (by kernel_rfl) ?_
    refine sI ?_
    refine gO ?_
    exact AE.bk [1] rfl ⟨⟨rfl,Nat.le_of_ble_eq_true (by kernel_rfl)⟩,trivial⟩ rfl ⟨_,k,hL,rfl,rfl⟩
 ·have h:bQ s i [126]=false:=by simpa using h
  rw[h,if_neg (by decide)]at hL
  rw[h,if_neg (by decide)]
  have ht:=uY s hs (s.length+1) i hi (by omega)
  refine gO ?_
  refine AQ.kV [(0,0)] (by kernel_rfl) rfl rfl rfl rfl rfl rfl (by exact⟨rfl,trivial⟩) rfl (ht) ?_ ?_
  ·rintro r H' ⟨hp,rfl,rfl⟩
   rw[hp]at hL
   refine⟨rfl,?_⟩;refine sH ?_
   exact cI.out [1] rfl rfl ⟨hL,rfl,rfl⟩
  ·rintro r H' ⟨t,j,hp,rfl,rfl⟩
   have mM:=oL hp
   rw[hp]at hL
   simp only at hL
   refine⟨rfl,?_⟩;refine sH ?_
   refine AQ.go (by kernel_rfl) ?_
   refine sI ?_
   refine gO ?_
   have mO:([[IV.v (Value.string (BA [32,61,32])),IV.v (Value.bool false)],[IV.v (Value.string (BA [32,33,61,32])),IV.v (Value.bool true)]]:List (List IV)).getD 0 []=[Si [32,61,32],Bi false]:=rfl
   have tQ:([[IV.v (Value.string (BA [32,61,32])),IV.v (Value.bool false)],[IV.v (Value.string (BA [32,33,61,32])),IV.v (Value.bool true)]]:List (List IV)).getD 1 []=[Si [32,33,61,32],Bi true]:=rfl
   refine AP.loop rfl (α:=Nat) (fun k=>[(0,.ob 0 0),(2,.ob 1 0),(4,.ob 2 0),(19,.im (.sl 2 [[.v (.string (BA [32,61,32])),.v (.bool false)],[.v (.string (BA [32,33,61,32])),.v (.bool true)]])),(20,Iv 2),(21,Iv k)]) (fun _=>(2,.var 71 [Sv t.nm,Iv t.ix,.im (.sl 3 (ay t.xs))])::(1,.var 119 [Bv false,Sv [],gp])::fL s j) (fun k=>k<=2/\(0<k->bQ s j [32,61,32]=false)/\(1<k->bQ s j [32,33,61,32]=false)) (fun k=>2-k) 0 ⟨by omega,by omega,by omega⟩ (sU) rfl fun k ⟨hk,k1,k2⟩=>?_
   obtain rfl|rfl|rfl:k=0\/k=1\/k=2:=by omega
   ·have he:=nQ s [32,61,32] j mM.2.2 hs (by simp)
    refine gE (an @mO (an @List.length_cons.{0} @List.length_nil.{0})) ?_
    refine AQ.fix 3 rfl rfl ?_
    refine sI ?_
    refine AQ.bE [(0,0)] (by kernel_rfl) rfl rfl rfl rfl rfl rfl (by exact⟨rfl,trivial⟩) rfl (he) ?_;rintro r H1 ⟨rfl,rfl⟩;refine⟨rfl,?_⟩;refine sH ?_
    refine gO ?_
    refine AP.cond rfl rfl (fun U=>?_) (fun U=>?_)
    ·have U:bQ s j [32,61,32]=true:=by simpa using U
     have hle:=nI U mM.2.2
     simp only[List.length_cons,List.length_nil]at hle
     rw[if_pos U]at hL
     rw[if_pos U]
     have it:=uY s hs (s.length+1) (j+3) (by omega) (by omega)
     refine gO ?_
     refine AP.dh 8 (Tree.node [] [0,1,2,3] [4] [Tree.node [0,1,2] [] [5] [Tree.node [0,1] [6] [7] [Tree.node [] [] [] []]]]) (by kernel_rfl) rfl (by kernel_rfl) (by kernel_rfl) ?_
     refine de ?_
     refine sI ?_
     refine AQ.kV [(0,0)] (by kernel_rfl) rfl rfl rfl rfl rfl rfl (by exact⟨rfl,trivial⟩) rfl (it) ?_ ?_
     ·rintro r H' ⟨dP,rfl,rfl⟩
      rw[dP]at hL
      refine⟨rfl,?_⟩;refine sH ?_
      exact cI.Iy [2,1] rfl rfl rfl ⟨hL,rfl,rfl⟩
     ·rintro r H' ⟨u,k,dP,rfl,rfl⟩
      rw[dP]at hL
      refine⟨rfl,?_⟩;refine sH ?_
      refine AQ.nx rfl ?_
      refine sI ?_
      refine AQ.go (by kernel_rfl) ?_
      refine sI ?_
      refine AQ.nx rfl ?_
      refine sI ?_
      refine AQ.go (by kernel_rfl) ?_
      refine sI ?_
      refine AQ.nx rfl ?_
      refine sI ?_
      refine AQ.done ?_
      refine gO ?_
      exact AE.bk [2,1] rfl ⟨⟨rfl,Nat.le_of_ble_eq_true (by kernel_rfl)⟩,trivial⟩ rfl ⟨_,k,hL,by simp only[ju,ay,oT];rfl,rfl⟩
    ·have U:bQ s j [32,61,32]=false:=by simpa using U
     rw[U,if_neg (by decide)]
     refine gO ?_
     exact AE.round 1 ⟨by omega,by omega⟩ (by omega) (sU) rfl
   ·have he:=nQ s [32,33,61,32] j mM.2.2 hs (by simp)
    refine gE (an @tQ (an @List.length_cons.{0} @List.length_nil.{0})) ?_
    refine AQ.fix 3 rfl rfl ?_
    refine sI ?_
    refine AQ.bE [(0,0)] (by kernel_rfl) rfl rfl rfl rfl rfl rfl (by exact⟨rfl,trivial⟩) rfl (he) ?_;rintro r H1 ⟨rfl,rfl⟩;refine⟨rfl,?_⟩;refine sH ?_
    refine gO ?_
    refine AP.cond rfl rfl (fun U=>?_) (fun U=>?_)
    ·have U:bQ s j [32,33,61,32]=true:=by simpa using U
     have hle:=nI U mM.2.2
     simp only[List.length_cons,List.length_nil]at hle
     rw[if_neg (by rw[k1 (by omega)];decide),if_pos U]at hL
     rw[if_pos U]
     have it:=uY s hs (s.length+1) (j+4) (by omega) (by omega)
     refine gO ?_
     refine AP.dh 8 (Tree.node [] [0,1,2,3] [4] [Tree.node [0,1,2] [] [5] [Tree.node [0,1] [6] [7] [Tree.node [] [] [] []]]]) (by kernel_rfl) rfl (by kernel_rfl) (by kernel_rfl) ?_
     refine de ?_
     refine sI ?_
     refine AQ.kV [(0,0)] (by kernel_rfl) rfl rfl rfl rfl rfl rfl (by exact⟨rfl,trivial⟩) rfl (it) ?_ ?_
     ·rintro r H' ⟨dP,rfl,rfl⟩
      rw[dP]at hL
      refine⟨rfl,?_⟩;refine sH ?_
      exact cI.Iy [2,1] rfl rfl rfl ⟨hL,rfl,rfl⟩
     ·rintro r H' ⟨u,k,dP,rfl,rfl⟩
      rw[dP]at hL
      refine⟨rfl,?_⟩;refine sH ?_
      refine AQ.nx rfl ?_
      refine sI ?_
      refine AQ.go (by kernel_rfl) ?_
      refine sI ?_
      refine AQ.nx rfl ?_
      refine sI ?_
      refine AQ.go (by kernel_rfl) ?_
      refine sI ?_
      refine AQ.nx rfl ?_
      refine sI ?_
      refine AQ.done ?_
      refine gO ?_
      exact AE.bk [2,1] rfl ⟨⟨rfl,Nat.le_of_ble_eq_true (by kernel_rfl)⟩,trivial⟩ rfl ⟨_,k,hL,by simp only[ju,ay,oT];rfl,rfl⟩
    ·have U:bQ s j [32,33,61,32]=false:=by simpa using U
     rw[U,if_neg (by decide)]
     refine gO ?_
     exact AE.round 2 ⟨by omega,fun _=>k1 (by omega)⟩ (by omega) (sU) rfl
   ·rw[if_neg (by rw[k1 (by omega)];decide),if_neg (by rw[k2 (by omega)];decide)]at hL
    refine gO ?_
    refine AP.cond rfl rfl (fun h3=>?_) (fun h3=>?_)
    ·rw[if_pos (by simpa using h3)]at hL
     refine gO ?_;refine xI ?_;refine sI ?_;refine gO ?_;refine AQ.eQ 0 _ rfl (oC _ _) ?_;refine sI ?_;refine AQ.panic rfl ?_
     exact cI.out [2,1] rfl rfl ⟨hL,rfl,rfl⟩
    ·rw[if_neg (by simpa using h3)]at hL
     refine gO ?_
     exact AE.bk [2,1] rfl ⟨⟨rfl,Nat.le_of_ble_eq_true (by kernel_rfl)⟩,trivial⟩ rfl ⟨_,j,hL,rfl,rfl⟩
abbrev ni (a:AV) (e:Int):aa:=[(1,.var 30 [Iv e]),(0,.var 27 [a])]
theorem CI (x:IV) (e:Int):kP Tryz.prog 81 [.ob 0 0,.ob 1 0] (ni (.im x) e) none (fun H'=>H'=ni (.im x) e):=by
 refine kP.walk [0,1,2,3,4,7,14] [3] Tryz.func81 rfl Tryz.ntmps81 ⟨rfl,rfl,rfl⟩ ⟨rfl,rfl,rfl⟩ rfl (by kernel_rfl) (by rfl) rfl fun W own I0 aw lay=>?_
 simp only[go_sem,Nat.reduceAdd,Nat.reduceLeDiff,Nat.reduceSub,Int.reduceToNat,reduceCtorEq,oO]
 refine gO ?_
 exact AE.I5 [] (.inr rfl) rfl rfl trivial rfl rfl
theorem IL (e:Int):kP Tryz.prog 81 [.ob 0 0,.ob 1 0] (ni .top e) (some uI) (fun H'=>H'=ni (.im (.sl 3 [])) 2):=by
 refine kP.walk [0,1,2,3,4,7,14] [3] Tryz.func81 rfl Tryz.ntmps81 ⟨rfl,rfl,rfl⟩ ⟨rfl,rfl,rfl⟩ rfl (by kernel_rfl) (by rfl) rfl fun W own I0 aw lay=>?_
 simp only[go_sem,Nat.reduceAdd,Nat.reduceLeDiff,Nat.reduceSub,Int.reduceToNat,reduceCtorEq,oO]
 refine gO ?_
 refine AQ.LF (by kernel_rfl) rfl rfl ?_;refine sI ?_
 refine gO ?_
 refine AE.eQ 0 [.im (.sl 3 [])] rfl (ct.nil (ct.refl _)) ?_
 refine sI ?_
 exact AE.I5 [2] (.inr rfl) rfl rfl trivial rfl rfl
def qC (s:List UInt8) (g j:Nat):Option (List Lt):=if bQ s j [32,124,32]then pS s g (j+3)else if j<s.length then none else some []
def qm (a:List Lt):Option (List Lt)->Option (List Lt)
 |none=>none
 |some l=>some (a++l)
theorem IG (s:List UInt8) (f i:Nat):pS s (f+1) i=match pL s i with
  |none=>none
  |some (l,j)=>qm [l] (qC s f j):=by
 rw[pS]
 cases pL s i with
 |none=>rfl
 |some x=>
  obtain⟨l,j⟩:=x
  simp only[qC]
  split
  ·cases pS s f (j+3)<;>rfl
  ·split<;>rfl
def ll (s:List UInt8):Int:=if 40000<s.length then 15 else match pC s with
 |none=>2
 |some c=>bR 4 9 2 3 c
def jz (s:List UInt8):List Lt:=if 40000<s.length then[]else match pC s with
 |none=>[]
 |some c=>if bR 4 9 2 3 c≠0 then[]else c
theorem cI.eQ {C:Cx} {r:AV} {K:List PK} {E:Env} {H:aa} (b:Nat) (cs':List AV) {s:Sh} {cs:List AV} (hl:lk H b=some (.var s cs)) (hc:ct cs cs') (h:cI C r K E (bt H b (.var s cs'))):cI C r K E H:=by
 unfold cI at h⊢
 exact fun φ I a w v hs hd=>h _ _ _ _ _ ⟨hs.bo,hs.bp,hs.env,hs.st.eQ hl hc⟩ hd
theorem Hh (a:AV):ct [a] [.top]:=fun w φ I us h=>by
 simp only[AV.ab,AV.den]at h⊢
 obtain⟨u1,oY,rfl,_,rfl⟩:=h
 exact⟨_,_,rfl,trivial,rfl⟩
theorem Rs (s:List UInt8) (hs:s.length<=1000000) (ca:∀c,pC s=some c->dD c):cO Tryz.prog 19 [Sv s] [] (fun r H'=>H'=[]/\r= .aK [aV (jz s),Iv (ll s)]) (fun _ _=>False):=by
 have hE:ll s=_:=ll.eq_def s
 have hR:jz s=_:=jz.eq_def s
 refine cO.Tl [0,2,3,4,5,8,10,11,19,31,35] [2,3,4,14,17] Tryz.func19 rfl Tryz.ntmps19 (by kernel_rfl) (by rfl) rfl fun W own I0 aw lay=>?_
 refine gO ?_
 refine AP.cond rfl rfl (fun h=>?_) (fun h=>?_)
 ·rw[if_pos (by simp at h;omega)]at hE hR
  refine gO ?_
  refine AE.eQ 0 [.im (.sl 3 [])] rfl (ct.nil (ct.refl _)) ?_
  refine sI ?_
  exact AE.Hi (.inl rfl) rfl<|LV.bk [1,0] rfl ⟨⟨rfl,Nat.le_of_ble_eq_true (by kernel_rfl)⟩,⟨rfl,Nat.le_of_ble_eq_true (by kernel_rfl)⟩,trivial⟩ rfl ⟨rfl,by rw[hE,hR];rfl⟩
 rw[if_neg (by simp at h;omega)]at hE hR
 refine gO ?_
 refine AP.cond rfl rfl (fun U=>?_) (fun U=>?_)
 ·have U:s=[91,93]:=by simpa using U
  have hC:pC s=some []:=by rw[pC,if_pos U]
  rw[hC]at hE hR
  have e0:bR 4 9 2 3 []=0:=by decide
  simp only[e0]at hE hR
  refine gO ?_
  refine AE.eQ 0 [.im (.sl 3 [])] rfl (ct.nil (ct.refl _)) ?_
  refine sI ?_
  exact AE.Hi (.inl rfl) rfl<|LV.bk [1,0] rfl ⟨⟨rfl,Nat.le_of_ble_eq_true (by kernel_rfl)⟩,⟨rfl,Nat.le_of_ble_eq_true (by kernel_rfl)⟩,trivial⟩ rfl ⟨rfl,by rw[hE,hR];rfl⟩
 ·have U:¬s=[91,93]:=by simpa using U
  have hC:pC s=pS s (s.length+1) 0:=by rw[pC,if_neg U]
  rw[IG]at hC
  refine sI ?_
  refine xA ?_
  refine AP.RG rfl rfl ?_
  refine AQ.Nr (by kernel_rfl) rfl rfl ?_ ?_
  ·simp only[go_sem]
   done
  refine sI ?_
  refine AQ.defer rfl rfl rfl fun u=>?_
  refine sI ?_
  refine gO ?_
  refine AQ.kV [(0,2)] (by kernel_rfl) rfl rfl rfl rfl rfl rfl (by exact⟨rfl,trivial⟩) rfl (I7 s hs 0 (by omega)) ?_ ?_
  ·rintro r H' ⟨hp,rfl,rfl⟩
   rw[hp]at hC
   rw[hC]at hE hR
   simp only at hE hR
   refine⟨rfl,?_⟩;refine sH ?_
   refine cI.eQ 0 _ rfl (Hh _) ?_
   refine sI ?_
   refine cI.rK [(1,1),(0,0)] (K':=[_]) (t:=11) (Hc:=ni .top 0) rfl rfl rfl rfl rfl (by exact⟨rfl,rfl,trivial⟩) rfl (IL _) rfl ?_ rfl
   rintro H1 rfl
   refine⟨rfl,?_⟩
   refine sH ?_
   exact LV.bk [2,1,0] rfl ⟨⟨rfl,Nat.le_of_ble_eq_true (by kernel_rfl)⟩,⟨rfl,Nat.le_of_ble_eq_true (by kernel_rfl)⟩,trivial⟩ rfl ⟨rfl,by rw[hE,hR];rfl⟩
  ·rintro r H' ⟨x,j,hp,rfl,rfl⟩
   rw[hp]at hC
   simp only at hC
   refine⟨rfl,?_⟩;refine sH ?_
   refine AQ.go (by kernel_rfl) ?_
   refine sI ?_
   refine gO ?_
   have Gd:=CE hp
   have FL:pC s=qm [x] (qC s s.length j):=hC
   refine AP.loop rfl (α:=List Lt×Nat×Nat) (fun z=>[(0,Sv s),(2,.ob 0 0),(3,.ob 1 0),(4,.ob 2 0),(11,.wr (.exact u) (.fn 81 [] [.ob 0 0,.ob 1 0]))]) (fun z=>[(3,.vec 119 3 (bX z.1)),(2,.var 135 [Sv s,Iv z.2.1]),(1,.var 30 [Iv 0]),(0,.var 27 [.os 3 3 0 z.1.length])]) (fun z=>z.1.length<=z.2.1/\z.2.1<=s.length/\s.length<z.2.2+z.2.1/\pC s=qm z.1 (qC s z.2.2 z.2.1)) (fun z=>s.length-z.2.1) ([x],j,s.length) ⟨by simp only[List.length_singleton];omega,by simp only;omega,by simp only;omega,FL⟩ (sU) rfl fun⟨a,j,g⟩ ⟨z1,z2,z3,z4⟩=>?_
   simp only at z1 z2 z3 z4⊢
   clear hC FL Gd hp
   have he:=nQ s [32,124,32] j z2 hs (by simp)
   rw[qC]at z4
   refine gO ?_
   refine AQ.bE [(0,2)] (by kernel_rfl) rfl rfl rfl rfl rfl rfl (by exact⟨rfl,trivial⟩) rfl he ?_
   rintro r H1 ⟨rfl,rfl⟩
   refine⟨rfl,?_⟩
   refine sH ?_
   refine gO ?_
   refine AP.cond rfl rfl (fun h2=>?_) (fun h2=>?_)
   ·have h2:bQ s j [32,124,32]=true:=by simpa using h2
    have hle:=nI h2 z2
    simp only[List.length_cons,List.length_nil]at hle
    obtain⟨g,rfl⟩:∃q,g=q+1:=⟨g-1,by omega⟩
    rw[if_pos h2,IG]at z4
    rw[if_pos h2]
    refine gO ?_
    refine AP.dh 6 (Tree.node [] [0,1] [2] [Tree.node [0] [] [3] [Tree.node [0] [] [4] [Tree.node [] [] [5] [Tree.node [] [] [] []]]]]) (by kernel_rfl) rfl (by kernel_rfl) (by kernel_rfl) ?_
    refine de ?_
    refine sI ?_
    refine AQ.kV [(0,2)] (by kernel_rfl) rfl rfl rfl rfl rfl rfl (by exact⟨rfl,trivial⟩) rfl (I7 s hs (j+3) (by omega)) ?_ ?_
    ·rintro r H' ⟨hp,rfl,rfl⟩
     rw[hp]at z4
     rw[z4]at hE hR
     simp only[qm]at hE hR
     refine⟨rfl,?_⟩;refine sH ?_
     refine cI.draw [2,3,11] rfl (by kernel_rfl) ?_
     refine sI ?_
     refine cI.eQ 0 _ rfl (Hh _) ?_
     refine sI ?_
     refine cI.rK [(1,1),(0,0)] (K':=[_,_,_,_]) (t:=11) (Hc:=ni .top 0) rfl rfl rfl rfl rfl (by exact⟨rfl,rfl,trivial⟩) rfl (IL _) rfl ?_ rfl
     rintro H1 rfl
     refine⟨rfl,?_⟩
     refine sH ?_
     exact LV.bk [3,2,1,0] rfl ⟨⟨rfl,Nat.le_of_ble_eq_true (by kernel_rfl)⟩,⟨rfl,Nat.le_of_ble_eq_true (by kernel_rfl)⟩,trivial⟩ rfl ⟨rfl,by rw[hE,hR];rfl⟩
    ·rintro r H' ⟨y,k,hp,rfl,rfl⟩
     rw[hp]at z4
     simp only at z4
     have Gd:=CE hp
     refine⟨rfl,?_⟩;refine sH ?_
     refine AQ.nx rfl ?_
     refine sI ?_
     refine AQ.go (by kernel_rfl) ?_
     refine sI ?_
     refine AQ.nx rfl ?_
     refine sI ?_
     refine AQ.kill 3 ?_
     refine sI ?_
     refine AQ.append (hnb:=rfl) (rows:=bX a) (es:=2) (by kernel_rfl) rfl rfl rfl (by rfl) Tryz.yP Tryz.yM (by show Option.map _ (az Tryz.prog 119)=_;rw[Tryz.y7];rfl) Tryz.v_ (by first|rfl|(simp only[aJ,List.length_cons,List.length_nil];done)|(simp only[aJ,List.length_cons,List.length_nil];omega)) (by simp only[aJ,List.length_cons,List.length_nil];omega) (by simp only[aJ,List.length_cons,List.length_nil];omega) ?_
     refine sI ?_
     refine AQ.nx rfl ?_
     refine sI ?_
     refine AQ.go (by kernel_rfl) ?_
     refine sI ?_
     refine AQ.nx rfl ?_
     refine sI ?_
     refine AQ.done ?_
     refine gO ?_
     refine AE.round (a++[y],k,g) ⟨by simp only[List.length_append,List.length_singleton];omega,by simp only;omega,by simp only;omega,?_⟩ (by simp only;omega) (sU) ?_
     ·simp only
      rw[z4]
      cases qC s g k with
      |none=>rfl
      |some q=>simp[qm]
     ·simp only[uG,List.length_append,List.length_singleton,aJ]
   ·have h2:¬bQ s j [32,124,32]=true:=by simpa using h2
    rw[if_neg h2]at z4
    rw[if_neg h2]
    refine gO ?_
    refine AP.cond rfl rfl (fun h3=>?_) (fun h3=>?_)
    ·rw[if_pos (by simp at h3;omega)]at z4
     rw[z4]at hE hR
     simp only[qm]at hE hR
     refine gO ?_
     refine AE.eQ 0 [.im (.sl 3 [])] rfl (ct.nil (ct.refl _)) ?_
     refine sI ?_
     refine AE.rK [(1,1),(0,0)] (t:=11) (Hc:=ni (.im (.sl 3 [])) 2) (.inl rfl) rfl rfl rfl rfl rfl (by exact⟨rfl,rfl,trivial⟩) rfl (CI _ _) ?_
     rintro H1 rfl
     refine⟨rfl,?_⟩
     refine sH ?_
     exact LV.bk [3,2,1,0] rfl ⟨⟨rfl,Nat.le_of_ble_eq_true (by kernel_rfl)⟩,⟨rfl,Nat.le_of_ble_eq_true (by kernel_rfl)⟩,trivial⟩ rfl ⟨rfl,by rw[hE,hR];rfl⟩
    ·rw[if_neg (by simp at h3;omega)]at z4
     rw[z4]at hE hR
     simp only[qm,List.append_nil]at hE hR z4
     have q7:=ca a z4
     refine gO ?_
     refine AQ.freeze 3 (el:=119) (es:=3) (rows:=bX a) rfl (by simp only[go_sem,Nat.reduceAdd,Nat.reduceLeDiff,Nat.reduceSub,Int.reduceToNat,reduceCtorEq,aJ];first|done|trivial|omega|(simp;done)|(simp;omega)) (by simp only[go_sem,Nat.reduceAdd,Nat.reduceLeDiff,Nat.reduceSub,Int.reduceToNat,reduceCtorEq,aJ];first|done|trivial|omega|(simp;done)|(simp;omega)) ?_;simp only[go_sem,Nat.reduceAdd,Nat.reduceLeDiff,Nat.reduceSub,Int.reduceToNat,reduceCtorEq,aJ]
     rw[List.take_of_length_le (by rw[aJ];exact Nat.le_refl _)]
     refine AQ.fn (by kernel_rfl) rfl rfl rfl (pf a q7) rfl ?_
     refine sI ?_
     refine gO ?_
     refine AP.cond rfl rfl (fun h4=>?_) (fun h4=>?_)
     ·have h4:bR 4 9 2 3 a≠0:=by simpa using h4
      rw[if_pos h4]at hR
      refine gO ?_
      refine AE.eQ 0 [.im (.sl 3 [])] rfl (ct.nil (ct.refl _)) ?_
      refine sI ?_
      refine AE.rK [(1,1),(0,0)] (t:=11) (Hc:=ni (.im (.sl 3 [])) (bR 4 9 2 3 a)) (.inl rfl) rfl rfl rfl rfl rfl (by exact⟨rfl,rfl,trivial⟩) rfl (CI _ _) ?_
      rintro H1 rfl
      refine⟨rfl,?_⟩
      refine sH ?_
      exact LV.bk [2,1,0] rfl ⟨⟨rfl,Nat.le_of_ble_eq_true (by kernel_rfl)⟩,⟨rfl,Nat.le_of_ble_eq_true (by kernel_rfl)⟩,trivial⟩ rfl ⟨rfl,by rw[hE,hR];rfl⟩
     ·have h4:¬bR 4 9 2 3 a≠0:=by simpa using h4
      have h5:bR 4 9 2 3 a=0:=by simpa using h4
      rw[if_neg h4]at hR
      refine gO ?_
      refine AE.rK [(1,1),(0,0)] (t:=11) (Hc:=ni (.im (.sl 3 (bX a))) 0) (.inl rfl) rfl rfl rfl rfl rfl (by exact⟨rfl,rfl,trivial⟩) rfl (CI _ _) ?_
      rintro H1 rfl
      refine⟨rfl,?_⟩
      refine sH ?_
      exact LV.bk [2,1,0] rfl ⟨⟨rfl,Nat.le_of_ble_eq_true (by kernel_rfl)⟩,⟨rfl,Nat.le_of_ble_eq_true (by kernel_rfl)⟩,trivial⟩ rfl ⟨rfl,by rw[hE,hR,h5];rfl⟩
theorem C9 {l:List UInt8} {n i:Nat} {s:List UInt8} (h:l=s.drop i) (hs:s.length<=1000000):(l.take n).length<=1000000000:=by
 rw[List.length_take,h,List.length_drop];omega
theorem r2 (s:List UInt8) (hs:s.length<=1000000):∀f,(∀i t j,pT s f i=some (t,j)->aY t)/\(∀i l j,pR s f i=some (l,j)->b_ l/\l.length+i<=j)
 |0=>⟨fun i t j h=>(by rw[pT]at h;cases h),fun i l j h=>(by rw[pR]at h;cases h)⟩
 |f+1=>by
  obtain⟨GW,GX⟩:=r2 s hs f
  refine⟨fun i t j h=>?_,fun i l j h=>?_⟩
  ·rw[pT]at h
   split at h
   ·rw[pV]at h
    split at h
    ·cases h;rw[aY,b_];simp
    ·cases h
   ·split at h
    ·cases h
    ·split at h
     ·cases hq:pT s f (i+b7 true (s.drop i)+1)with
      |none=>rw[hq]at h;cases h
      |some x=>
       obtain⟨t1,j1⟩:=x
       rw[hq]at h
       simp only at h
       cases hr:pR s f j1 with
       |none=>rw[hr]at h;cases h
       |some y=>
        obtain⟨l1,k1⟩:=y
        rw[hr]at h
        cases h
        have U:=GW _ _ _ hq
        have h2:=GX _ _ _ hr
        have h3:=CF hr
        rw[aY,b_]
        exact⟨C9 rfl hs,by simp only[List.length_cons];omega,U,h2.1⟩
     ·cases h
      rw[aY,b_]
      exact⟨C9 rfl hs,by simp,trivial⟩
  ·rw[pR]at h
   split at h
   ·cases hq:pT s f (i+2)with
    |none=>rw[hq]at h;cases h
    |some x=>
     obtain⟨t1,j1⟩:=x
     rw[hq]at h
     simp only at h
     cases hr:pR s f j1 with
     |none=>rw[hr]at h;cases h
     |some y=>
      obtain⟨l1,k1⟩:=y
      rw[hr]at h
      cases h
      have U:=GW _ _ _ hq
      have h2:=GX _ _ _ hr
      have h3:=oL hq
      rw[b_]
      exact⟨⟨U,h2.1⟩,by simp only[List.length_cons];omega⟩
   ·split at h
    ·cases h;rw[b_];simp
    ·cases h
theorem Rl {s:List UInt8} (hs:s.length<=1000000) {f i j:Nat} {l:List Tm} (h:pA s f i=some (l,j)):b_ l/\l.length<=1000000000:=by
 rw[pA]at h
 split at h
 ·cases hq:pT s f (i+1)with
  |none=>rw[hq]at h;cases h
  |some x=>
   obtain⟨t1,j1⟩:=x
   rw[hq]at h
   simp only at h
   cases hr:pR s f j1 with
   |none=>rw[hr]at h;cases h
   |some y=>
    obtain⟨l1,k1⟩:=y
    rw[hr]at h
    cases h
    have U:=(r2 s hs f).1 _ _ _ hq
    have h2:=(r2 s hs f).2 _ _ _ hr
    have h3:=CF hr
    rw[b_]
    exact⟨⟨U,h2.1⟩,by simp only[List.length_cons];omega⟩
 ·cases h;rw[b_];simp
theorem Rp {s:List UInt8} (hs:s.length<=1000000) {i j:Nat} {x:Lt} (h:pL s i=some (x,j)):kC x:=by
 rw[pL]at h
 split at h
 ·split at h
  ·cases h
  ·cases hq:pA s (s.length+1) (i+1+b7 true (s.drop (i+1)))with
   |none=>rw[hq]at h;cases h
   |some y=>
    obtain⟨l1,k1⟩:=y
    rw[hq]at h
    cases h
    have:=Rl hs hq
    exact⟨C9 rfl hs,this.2,this.1⟩
 ·cases hq:pT s (s.length+1) i with
  |none=>rw[hq]at h;cases h
  |some y=>
   obtain⟨t1,k1⟩:=y
   rw[hq]at h
   simp only at h
   have U:=(r2 s hs _).1 _ _ _ hq
   split at h
   ·cases hr:pT s (s.length+1) (k1+3)with
    |none=>rw[hr]at h;cases h
    |some z=>
     obtain⟨t2,k2⟩:=z
     rw[hr]at h
     cases h
     have h2:=(r2 s hs _).1 _ _ _ hr
     exact⟨by simp,by simp,by rw[b_,b_,b_];exact⟨U,h2,trivial⟩⟩
   ·split at h
    ·cases hr:pT s (s.length+1) (k1+4)with
     |none=>rw[hr]at h;cases h
     |some z=>
      obtain⟨t2,k2⟩:=z
      rw[hr]at h
      cases h
      have h2:=(r2 s hs _).1 _ _ _ hr
      exact⟨by simp,by simp,by rw[b_,b_,b_];exact⟨U,h2,trivial⟩⟩
    ·split at h
     ·cases h
     ·cases h
      have:=ga.1 U
      exact⟨this.1,this.2.1,this.2.2⟩
theorem IE {s:List UInt8} (hs:s.length<=1000000):∀(f i:Nat) (c:List Lt),pS s f i=some c->c.length<=f/\∀l∈c,kC l
 |0,i,c,h=>by rw[pS]at h;cases h
 |f+1,i,c,h=>by
  rw[pS]at h
  cases hq:pL s i with
  |none=>rw[hq]at h;cases h
  |some y=>
   obtain⟨x,j⟩:=y
   rw[hq]at h
   simp only at h
   have U:=Rp hs hq
   split at h
   ·cases hr:pS s f (j+3)with
    |none=>rw[hr]at h;cases h
    |some r=>
     rw[hr]at h
     cases h
     obtain⟨h2,h3⟩:=IE hs f _ _ hr
     refine⟨by simp only[List.length_cons];omega,fun l hl=>?_⟩
     rcases List.mem_cons.1 hl with rfl|hl
     ·exact U
     ·exact h3 l hl
   ·split at h
    ·cases h
    ·cases h
     refine⟨by simp,fun l hl=>?_⟩
     rw[List.mem_singleton]at hl
     subst hl;exact U
theorem IA {s:List UInt8} (hs:s.length<=1000000) {c:List Lt} (h:pC s=some c):dD c:=by
 rw[pC]at h
 split at h
 ·cases h;exact⟨by simp,fun l hl=>by cases hl⟩
 ·obtain⟨U,h2⟩:=IE hs _ _ _ h
  exact⟨by omega,h2⟩
theorem IJ {s:List UInt8} (hs:s.length<=1000000):dD (jz s):=by
 have h0:dD ([]:List Lt):=⟨by simp,fun l hl=>by cases hl⟩
 rw[jz]
 split
 ·exact h0
 ·cases hq:pC s with
  |none=>exact h0
  |some c=>
   simp only
   split
   ·exact h0
   ·exact IA hs hq
theorem CJ (s:List UInt8) (hs:s.length<=1000000):aR Tryz.prog 19 [Sv s] (.aK [aV (jz s),Iv (ll s)]):=
 (Rs s hs fun c h=>IA hs h).SN fun _ _ h=>h
def lZ (c:List Lt):List Lt:=if bR 4 9 2 3 c≠0 then[]else cp c
theorem Cw (N:Nat) (tY:∀l:List Lt,l.length<=N->al Tryz.prog 90 [.os 0 4 0 l.length,.fn 91 [] []] (fc l) (fun r H'=>r= .aK []/\H'=fc (cC [] l))) (c:List Lt) (hN:c.length<=N) (hs:dD c):aR Tryz.prog 22 [aV c] (.aK [aV (lZ c),Iv (bR 4 9 2 3 c)]):=by
 by_cases dZ:bR 4 9 2 3 c=0
 ·rw[lZ,if_neg (by simpa using dZ),dZ]
  exact QU N tY c hN hs dZ
 ·have hR:lZ c=[]:=by rw[lZ,if_pos dZ]
  refine al.Rj ?_
  refine al.walk [0,2,3,4,5,6,7,8,10,11,15,17,18,19,20,29,44,45,46,47] [7,10,11] Tryz.func22 rfl Tryz.ntmps22 (by kernel_rfl) (by rfl) rfl fun W own I0 aw lay=>?_
  refine gO ?_
  refine AQ.fn (by kernel_rfl) rfl rfl rfl (pf c hs) rfl ?_
  refine sI ?_
  refine gO ?_
  refine AP.cond rfl rfl (fun h=>?_) (fun h=>?_)
  ·refine gO ?_
   exact AE.a7 rfl ⟨rfl,rfl,trivial⟩ rfl ⟨rfl,.inr ⟨hR,rfl⟩⟩
  ·exact absurd (by simpa using h) dZ
def qS:List UInt8:=[80,40,63,53,41,32,124,32,126,81,40,63,51,41,32,124,32,80,40,63,53,41]
def nR:List Lt:=[⟨false,[80],[.mk [] 5 []]⟩,⟨true,[81],[.mk [] 3 []]⟩,⟨false,[80],[.mk [] 5 []]⟩]
def kX:List Lt:=[⟨false,[80],[.mk [] 0 []]⟩,⟨true,[81],[.mk [] 1 []]⟩]
def E_:List UInt8:=[80,40,63,48,41,32,124,32,126,81,40,63,49,41]
theorem Fb:pC qS=some nR:=by kernel_rfl
theorem wB:bR 4 9 2 3 nR=0:=by kernel_rfl
theorem MR:cp nR=kX:=by kernel_rfl
theorem Fa:bR 4 9 2 3 kX=0:=by kernel_rfl
theorem EC {n:Nat} (h:n<10):Lib.itoa n=[UInt8.ofNat (48+n)]:=by
 rw[Lib.itoa,if_neg (by omega),Int.toNat_natCast,Lib.decDigits,dif_pos h]
theorem Fc:fu false kX=E_:=by
 have h0:Lib.itoa 0=[48]:=EC (n:=0) (by decide)
 have U:Lib.itoa 1=[49]:=EC (n:=1) (by decide)
 simp only[kX,fu,cR,dM,cq,bq,du,h0,U]
 rfl
theorem MS:sW (.mk [102] 0 [.mk [] 0 []]) (.mk [] 0 [])=(1,0):=by kernel_rfl
theorem ze:aR Tryz.prog 12 [] (Bv true):=by
 have hS:qS.length<=40000:=by decide
 have hp:=CJ qS (by decide)
 have xe:jz qS=nR:=by rw[jz,if_neg (by omega),Fb];simp only[wB];rfl
 have A7:ll qS=0:=by rw[ll,if_neg (by omega),Fb];exact wB
 rw[xe,A7]at hp
 have ca:dD nR:=by have:=IJ (s:=qS) (by decide);rw[xe]at this;exact this
 have hn:=Cw 20 C3 nR (by decide) ca
 have A1:lZ nR=kX:=by rw[lZ,wB,if_neg (by decide),MR]
 rw[A1,wB]at hn
 have q8:dD kX:=⟨by decide,fun l hl=>by
  simp only[kX,List.mem_cons,List.not_mem_nil,or_false]at hl
  rcases hl with rfl|rfl<;>exact⟨by decide,by decide,by simp[b_,aY]⟩⟩
 have ht:=C_ kX q8
 have O9:kL kX=E_:=by rw[kL,Fa,if_neg (by decide),Fc,if_neg (by decide)]
 have O8:j3 kX=0:=by rw[j3,Fa,if_neg (by decide),Fc,if_neg (by decide)]
 rw[O9,O8]at ht
 have xc:=K6 (.mk [102] 0 [.mk [] 0 []]) (.mk [] 0 []) (by simp[aY,b_]) (by simp[aY,b_])
 rw[MS]at xc
 have lQ:aR Tryz.prog 37 [.agg [Sv [102],Iv 0,.im (.sl 3 [[Si [],Ii 0,.sl 3 []]])],.agg [Sv [],Iv 0,.im (.sl 3 [])]] (.aK [Iv 1,Iv 0]):=xc
 have ho:=lQ.vW (xs:=[.agg [Sv [102],Iv 0,.im (.sl 3 [[Si [],Ii 0,.v (.slice none 0 0)]])],.agg [Sv [],Iv 0,gp]]) (by repeat' (first|with_reducible exact dW.refl _|with_reducible exact gb.refl _|exact gb.nil _|with_reducible exact ct.refl _|with_reducible exact kG.refl _|with_reducible exact kH.refl _|refine ct.wh ?_ ?_|refine dW.agg ?_|refine dW.im ?_|refine gb.sl ?_|refine kH.cons ?_ ?_|refine kG.cons ?_ ?_))
 have b6:aR Tryz.prog 19 [Sv [80,40,63,53,41,32,124,32,126,81,40,63,51,41,32,124,32,80,40,63,53,41]] (.aK [aV nR,Iv 0]):=hp
 have oc:aR Tryz.prog 17 [aV kX] (.aK [Sv [80,40,63,48,41,32,124,32,126,81,40,63,49,41],Iv 0]):=ht
 refine al.walk [0,1,2,3,4,5,6,7,8] [] Tryz.func12 rfl Tryz.ntmps12 (by kernel_rfl) (by rfl) rfl fun W own I0 aw lay=>?_
 refine gO ?_
 refine AQ.fn (by kernel_rfl) rfl rfl rfl (b6) rfl ?_
 refine sI ?_
 refine gO ?_
 refine AQ.fn (by kernel_rfl) rfl rfl rfl (hn) rfl ?_
 refine sI ?_
 refine gO ?_
 refine AQ.fn (by kernel_rfl) rfl rfl rfl (oc) rfl ?_
 refine sI ?_
 refine gO ?_
 refine AQ.fn (by kernel_rfl) rfl rfl rfl (ho) rfl ?_
 refine sI ?_
 refine gO ?_
 exact AE.a7 rfl ⟨rfl,trivial⟩ rfl ⟨rfl,rfl⟩
def uH (l:Lt):Prop:=l.pd.length<=9223372036854775807/\l.xs.length<=9223372036854775807/\ly l.xs
def qI (c:List Lt):Prop:=c.length<=9223372036854775807/\∀l∈c,uH l
theorem Er {c:List Lt} {k:Nat} {l:Lt} (h:qI c) (hk:c[k]?=some l):uH l:=h.2 l (List.mem_of_getElem? hk)
theorem JK (t:Tm) (m:Int) (hs:lx t) (hm:0<=m/\m<=1000000000):aR Tryz.prog 70 [bD t,Iv m] (Iv (iY t m)):=by
 have d_:=Kc.1 hs
 refine al.walk [0,1,2,4,5,7,9,10,11,12,17] [7] Tryz.func70 rfl Tryz.ntmps70 (by kernel_rfl) (by rfl) rfl fun W own I0 aw lay=>?_
 refine gE @ao ?_
 refine AP.loop rfl (α:=Nat) (fun k=>[(1,Iv m),(5,Iv (bM (t.xs.take k) m 1)),(9,.im (.sl 3 (ay t.xs))),(10,Iv t.xs.length),(11,Iv k)]) (fun _=>[]) (fun k=>k<=t.xs.length) (fun k=>t.xs.length-k) 0 (by omega) (by rw[List.take_zero,bM];exact(sU)) rfl fun k hk=>?_
 have hx:=d_.2.1
 have hb:=yO (t.xs.take k) m 1 hm.1 (by omega) (by omega)
 rcases Nat.eq_or_lt_of_le hk with aN|ag
 ·subst aN
  rw[List.take_length]at hb⊢
  refine gO ?_
  refine cF ?_
  refine gO ?_
  exact AE.a7 rfl ⟨rfl,trivial⟩ rfl ⟨rfl,by rw[J6];rfl⟩
 ·obtain⟨u,hu,aX⟩:=dL t.xs k ag
  have hw:=wr (x:=(k:Int)+1) (by omega)
  have bx:=J7 hu m 1
  refine gO ?_
  refine cT ?_
  refine gE @aX ?_
  refine⟨by rw[ao];omega,?_⟩
  refine gO ?_
  refine AP.cond rfl rfl (fun U=>?_) (fun U=>?_)
  ·have U:m<bM (t.xs.take k) m 1:=by simpa using U
   refine gO ?_
   refine AE.bk [0] rfl ⟨rfl,trivial⟩ rfl ⟨rfl,by rw[J6,SE k m 1 U];rfl⟩
  ·have U:¬m<bM (t.xs.take k) m 1:=by simpa using U
   rw[if_neg U]at bx
   generalize hn:bM (t.xs.take k) m 1=n at*
   have ha:=yN u (m-n) (by omega)
   have cQ:=wr (x:=m-n) (by omega)
   have jS:=wr (x:=n+iY u (m-n)) (by omega)
   refine gE @cQ ?_
   refine AQ.fn (by kernel_rfl) rfl rfl rfl (JK u (m-n) (va d_.2.2 hu) (by omega)) rfl ?_
   refine sI ?_
   refine gE (an @hw @jS) ?_
   refine AE.eu [0] rfl ?_
   refine sI ?_
   exact AE.round (k+1) (by omega) (by omega) (by rw[bx];exact(sU)) rfl
termination_by SizeOf.sizeOf t
decreasing_by exact kM hu
theorem QS (c:List Lt) (m:Int) (hs:qI c) (hm:0<=m/\m<=1000000000):aR Tryz.prog 14 [aV c,Iv m] (Iv (qg c m)):=by
 have ca:=hs.1
 refine al.walk [0,1,4,5,7,9,12,13,14,15,19,20,21,22,27] [7,9] Tryz.func14 rfl Tryz.ntmps14 (by kernel_rfl) (by rfl) rfl fun W own I0 aw lay=>?_
 refine gE @aJ ?_
 refine AP.loop rfl (α:=Nat) (fun k=>[(1,Iv m),(5,Iv (bM ((c.take k).flatMap (·.xs)) m c.length)),(12,aV c),(13,Iv c.length),(14,Iv k)]) (fun _=>[]) (fun k=>k<=c.length) (fun k=>c.length-k) 0 (by omega) (by rw[List.take_zero,List.flatMap_nil,bM];exact(sU)) rfl fun k hk=>?_
 rcases Nat.eq_or_lt_of_le hk with aN|ag
 ·subst aN
  rw[List.take_length]
  refine gO ?_
  refine cF ?_
  refine gO ?_
  exact AE.a7 rfl ⟨rfl,trivial⟩ rfl ⟨rfl,rfl⟩
 ·obtain⟨u,hu,aX⟩:=jt c k ag
  have hw:=wr (x:=(k:Int)+1) (by omega)
  have cG:=Er hs hu
  have ua:=cG.2.1
  have e5:=C8 ((c.take k).flatMap (·.xs)) m c.length hm.1 (by omega)
  have pM:=MY hu
  have eA:=fun j=>MX (j:=j) hu m c.length
  obtain⟨n0,rp⟩:∃n0,bM ((c.take k).flatMap (·.xs)) m c.length=n0:=⟨_,rfl⟩
  rw[rp]at e5 eA⊢
  refine gO ?_
  refine cT ?_
  refine gE @aX ?_
  refine⟨by rw[aJ];omega,?_⟩
  refine gE @ao ?_
  refine AP.loop rfl (α:=Nat) (fun j=>[(1,Iv m),(5,Iv (bM (u.xs.take j) m n0)),(12,aV c),(13,Iv c.length),(14,Iv k),(19,.im (.sl 3 (ay u.xs))),(20,Iv u.xs.length),(21,Iv j)]) (fun _=>[(0,.var 61 [Bv u.ng,Sv u.pd,.im (.sl 3 (ay u.xs))])]) (fun j=>j<=u.xs.length) (fun j=>u.xs.length-j) 0 (by omega) (by rw[List.take_zero,bM];exact(sU)) rfl fun j hj=>?_
  have hb:=C8 (u.xs.take j) m n0 hm.1 (by omega)
  rcases Nat.eq_or_lt_of_le hj with fk|k5
  ·subst fk
   rw[List.take_length]at hb⊢
   refine gO ?_
   refine cF ?_
   refine gE @hw ?_
   refine AE.eu [0] rfl ?_
   refine sI ?_
   refine AE.round (k+1) (by omega) (by omega) (by rw[pM,sf,rp];exact(sU)) rfl
  ·obtain⟨v,hv,dH⟩:=dL u.xs j k5
   have jS:=wr (x:=(j:Int)+1) (by omega)
   have bx:=J7 hv m n0
   refine gO ?_
   refine cT ?_
   refine gE @dH ?_
   refine⟨by rw[ao];omega,?_⟩
   refine gO ?_
   refine AP.cond rfl rfl (fun U=>?_) (fun U=>?_)
   ·have U:m<bM (u.xs.take j) m n0:=by simpa using U
    refine gO ?_
    refine AE.bk [1,0] rfl ⟨rfl,trivial⟩ rfl ⟨rfl,by rw[qg,eA j U];rfl⟩
   ·have U:¬m<bM (u.xs.take j) m n0:=by simpa using U
    rw[if_neg U]at bx
    clear eA
    generalize hn:bM (u.xs.take j) m n0=n at*
    have ha:=yN v (m-n) (by omega)
    have Pk:=wr (x:=m-n) (by omega)
    have Pl:=wr (x:=n+iY v (m-n)) (by omega)
    refine gE @Pk ?_
    refine AQ.fn (by kernel_rfl) rfl rfl rfl (JK v (m-n) (va cG.2.2 hv) (by omega)) rfl ?_
    refine sI ?_
    refine gE (an @jS @Pl) ?_
    refine AE.eu [1] rfl ?_
    refine sI ?_
    exact AE.round (j+1) (by omega) (by omega) (by rw[bx];exact(sU)) rfl
theorem PN (l:List Tm) (hl:l.length<=9223372036854775807) (h:∀(k:Nat) (t:Tm),l[k]?=some t->al Tryz.prog 67 [bD t,.ob 0 0] fa (fun r H'=>H'=fa/\r=Bv (gP t))):
  al Tryz.prog 146 [.im (.sl 3 (ay l)),.fn 67 [] [.ob 0 0]] fa (fun r H'=>H'=fa/\r=Iv (fX gP l 0)):=by
 refine al.walk [0,1,4,5,7,8,9,16] [] Tryz.func146 rfl Tryz.ntmps146 (by kernel_rfl) (by rfl) rfl fun W own I0 aw lay=>?_
 refine gE @ao ?_
 refine AP.loop rfl (α:=Nat) (fun k=>[(0,.im (.sl 3 (ay l))),(1,.fn 67 [] [.ob 0 0]),(7,Iv l.length),(8,Iv k)]) (fun _=>fa) (fun k=>k<=l.length/\fX gP l 0=fX gP (l.drop k) k) (fun k=>l.length-k) 0 ⟨by omega,rfl⟩ (sU) rfl fun k ⟨hk,hm⟩=>?_
 rcases Nat.eq_or_lt_of_le hk with aN|ag
 ·refine gO ?_
  refine cF ?_
  refine gO ?_
  exact AE.ret rfl ⟨rfl,trivial⟩ ⟨rfl,by rw[hm,aN,List.drop_length,fX];rfl⟩
 ·obtain⟨u,hu,aX⟩:=dL l k ag
  have hw:=wr (x:=(k:Int)+1) (by omega)
  have fF:=BN gP hu
  refine gO ?_
  refine cT ?_
  refine gE @aX ?_
  refine⟨by rw[ao];omega,?_⟩
  refine gO ?_
  refine AQ.sS (by kernel_rfl) rfl rfl rfl (h k u hu) ?_
  refine sI ?_
  refine gO ?_
  refine AP.cond rfl rfl (fun U=>?_) (fun U=>?_)
  ·refine gO ?_
   exact AE.ret rfl ⟨rfl,trivial⟩ ⟨rfl,by rw[hm,fF,if_pos (by simpa using U)];rfl⟩
  ·refine gE @hw ?_
   exact AE.round (k+1) ⟨by omega,by rw[hm,fF,if_neg (by simpa using U)]⟩ (by omega) (sU) rfl
theorem DT (l:List Tm) (hl:l.length<=9223372036854775807) (h:∀(k:Nat) (t:Tm),l[k]?=some t->al Tryz.prog 67 [bD t,.ob 0 0] fa (fun r H'=>H'=fa/\r=Bv (gP t))):
  al Tryz.prog 68 [.im (.sl 3 (ay l)),.fn 67 [] [.ob 0 0]] fa (fun r H'=>H'=fa/\r=Bv (l.any gP)):=by
 refine al.walk [0,1,4] [] Tryz.func68 rfl Tryz.ntmps68 (by kernel_rfl) (by rfl) rfl fun W own I0 aw lay=>?_
 refine gO ?_
 refine AQ.sS (by kernel_rfl) rfl rfl rfl (PN l hl h) ?_
 refine sI ?_
 refine gO ?_
 exact AE.ret rfl ⟨rfl,trivial⟩ ⟨rfl,by rw[<-xO gP l 0];rfl⟩
theorem HH (t:Tm) (hs:lx t):al Tryz.prog 67 [bD t,.ob 0 0] fa (fun r H'=>H'=fa/\r=Bv (gP t)):=by
 have d_:=Kc.1 hs
 have ha:=DT t.xs d_.2.1 fun k u hu=>HH u (va d_.2.2 hu)
 refine al.walk [0,1,2,3] [] Tryz.func67 rfl Tryz.ntmps67 (by kernel_rfl) (by rfl) rfl fun W own I0 aw lay=>?_
 refine gO ?_
 refine AQ.Ec (by kernel_rfl) rfl rfl rfl (fun h=>by first|(simp[gs,AV.g];done)|(simp[gs,AV.g,bl];done)|(simp[gs,AV.g,bl,bw]at h⊢;done)|(simp[gs,AV.g,bl,bw]at h⊢;exact h)|(simp[gs,AV.g,bl,bw]at h⊢;simp[h];done)|(simp[bw]at h;done)|(simp[gs,AV.g,bw]at h⊢;simp[h];done)|(simp[gs,AV.g,bw]at h⊢;exact h.1)|(simp[gs,AV.g];rfl)|(simp[gs,AV.g,bw]at h⊢;rfl)|(simp[gs,AV.g,bw]at h⊢;simp[h];rfl)|(simp[gs,AV.g,bw]at h⊢;simp_all)) (fun _=>ha) ?_
 refine sI ?_
 refine gO ?_
 exact AE.ret rfl ⟨rfl,trivial⟩ ⟨rfl,by rw[P_,show decide (100<t.nm.length)=decide ((100:Int)<t.nm.length) from by rw[decide_eq_decide];omega];rfl⟩
termination_by SizeOf.sizeOf t
decreasing_by exact kM hu
theorem Ql (l:Lt) (hs:uH l):al Tryz.prog 69 [ju l,.ob 0 0] fa (fun r H'=>H'=fa/\r=Bv (iQ l)):=by
 have ha:=DT l.xs hs.2.1 fun k u hu=>HH u (va hs.2.2 hu)
 refine al.walk [0,1,2,3] [] Tryz.func69 rfl Tryz.ntmps69 (by kernel_rfl) (by rfl) rfl fun W own I0 aw lay=>?_
 refine gO ?_
 refine AQ.Ec (by kernel_rfl) rfl rfl rfl (fun h=>by first|(simp[gs,AV.g];done)|(simp[gs,AV.g,bl];done)|(simp[gs,AV.g,bl,bw]at h⊢;done)|(simp[gs,AV.g,bl,bw]at h⊢;exact h)|(simp[gs,AV.g,bl,bw]at h⊢;simp[h];done)|(simp[bw]at h;done)|(simp[gs,AV.g,bw]at h⊢;simp[h];done)|(simp[gs,AV.g,bw]at h⊢;exact h.1)|(simp[gs,AV.g];rfl)|(simp[gs,AV.g,bw]at h⊢;rfl)|(simp[gs,AV.g,bw]at h⊢;simp[h];rfl)|(simp[gs,AV.g,bw]at h⊢;simp_all)) (fun _=>ha) ?_
 refine sI ?_
 refine gO ?_
 exact AE.ret rfl ⟨rfl,trivial⟩ ⟨rfl,by rw[iQ,show decide (100<l.pd.length)=decide ((100:Int)<l.pd.length) from by rw[decide_eq_decide];omega];rfl⟩
theorem PL (l:List Lt) (hl:l.length<=9223372036854775807) (h:∀(k:Nat) (t:Lt),l[k]?=some t->al Tryz.prog 69 [ju t,.ob 0 0] fa (fun r H'=>H'=fa/\r=Bv (iQ t))):
  al Tryz.prog 118 [.im (.sl 3 (bX l)),.fn 69 [] [.ob 0 0]] fa (fun r H'=>H'=fa/\r=Iv (fX iQ l 0)):=by
 refine al.walk [0,1,4,5,7,8,9,16] [] Tryz.func118 rfl Tryz.ntmps118 (by kernel_rfl) (by rfl) rfl fun W own I0 aw lay=>?_
 refine gE @aJ ?_
 refine AP.loop rfl (α:=Nat) (fun k=>[(0,.im (.sl 3 (bX l))),(1,.fn 69 [] [.ob 0 0]),(7,Iv l.length),(8,Iv k)]) (fun _=>fa) (fun k=>k<=l.length/\fX iQ l 0=fX iQ (l.drop k) k) (fun k=>l.length-k) 0 ⟨by omega,rfl⟩ (sU) rfl fun k ⟨hk,hm⟩=>?_
 rcases Nat.eq_or_lt_of_le hk with aN|ag
 ·refine gO ?_
  refine cF ?_
  refine gO ?_
  exact AE.ret rfl ⟨rfl,trivial⟩ ⟨rfl,by rw[hm,aN,List.drop_length,fX];rfl⟩
 ·obtain⟨u,hu,aX⟩:=jt l k ag
  have hw:=wr (x:=(k:Int)+1) (by omega)
  have fF:=BN iQ hu
  refine gO ?_
  refine cT ?_
  refine gE @aX ?_
  refine⟨by rw[aJ];omega,?_⟩
  refine gO ?_
  refine AQ.sS (by kernel_rfl) rfl rfl rfl (h k u hu) ?_
  refine sI ?_
  refine gO ?_
  refine AP.cond rfl rfl (fun U=>?_) (fun U=>?_)
  ·refine gO ?_
   exact AE.ret rfl ⟨rfl,trivial⟩ ⟨rfl,by rw[hm,fF,if_pos (by simpa using U)];rfl⟩
  ·refine gE @hw ?_
   exact AE.round (k+1) ⟨by omega,by rw[hm,fF,if_neg (by simpa using U)]⟩ (by omega) (sU) rfl
theorem Ly (l:List Lt) (hl:l.length<=9223372036854775807) (h:∀(k:Nat) (t:Lt),l[k]?=some t->al Tryz.prog 69 [ju t,.ob 0 0] fa (fun r H'=>H'=fa/\r=Bv (iQ t))):
  al Tryz.prog 46 [.im (.sl 3 (bX l)),.fn 69 [] [.ob 0 0]] fa (fun r H'=>H'=fa/\r=Bv (l.any iQ)):=by
 refine al.walk [0,1,4] [] Tryz.func46 rfl Tryz.ntmps46 (by kernel_rfl) (by rfl) rfl fun W own I0 aw lay=>?_
 refine gO ?_
 refine AQ.sS (by kernel_rfl) rfl rfl rfl (PL l hl h) ?_
 refine sI ?_
 refine gO ?_
 exact AE.ret rfl ⟨rfl,trivial⟩ ⟨rfl,by rw[<-xO iQ l 0];rfl⟩
theorem QG (c:List Lt) (hs:qI c):aR Tryz.prog 11 [aV c] (Bv (!c.any iQ)):=by
 have ha:=Ly c hs.1 fun k u hu=>Ql u (Er hs hu)
 refine al.walk [0,2,3] [3] Tryz.func11 rfl Tryz.ntmps11 (by kernel_rfl) (by rfl) rfl fun W own I0 aw lay=>?_
 refine gO ?_
 refine AQ.sS (by kernel_rfl) rfl rfl rfl (ha) ?_
 refine sI ?_
 refine gO ?_
 exact AE.bk [0] rfl ⟨rfl,trivial⟩ rfl ⟨rfl,rfl⟩
theorem Sf (c:List Lt) (m:Int) (hs:qI c) (hm:0<=m/\m<=1000000000):aR Tryz.prog 29 [aV c,Iv m] (Bv (decide (qg c m<=m)&&!c.any iQ)):=by
 refine al.walk [0,1,4] [] Tryz.func29 rfl Tryz.ntmps29 (by kernel_rfl) (by rfl) rfl fun W own I0 aw lay=>?_
 refine gO ?_
 refine AQ.fn (by kernel_rfl) rfl rfl rfl (QS c m hs hm) rfl ?_
 refine sI ?_
 refine gO ?_
 refine AQ.kd (by kernel_rfl) rfl rfl (fun h=>by first|(simp[gs,AV.g];done)|(simp[gs,AV.g,bl];done)|(simp[gs,AV.g,bl,bw]at h⊢;done)|(simp[gs,AV.g,bl,bw]at h⊢;exact h)|(simp[gs,AV.g,bl,bw]at h⊢;simp[h];done)|(simp[bw]at h;done)|(simp[gs,AV.g,bw]at h⊢;simp[h];done)|(simp[gs,AV.g,bw]at h⊢;exact h.1)|(simp[gs,AV.g];rfl)|(simp[gs,AV.g,bw]at h⊢;rfl)|(simp[gs,AV.g,bw]at h⊢;simp[h];rfl)|(simp[gs,AV.g,bw]at h⊢;simp_all)) rfl (fun _=>QG c hs) rfl ?_
 refine sI ?_
 refine gO ?_
 exact AE.a7 rfl ⟨rfl,trivial⟩ rfl ⟨rfl,rfl⟩
def C2 (c:List Lt) (m:Int):Bool:=decide (qg c m<=m)&&!c.any iQ
mutual
theorem P9:∀t:Tm,gP t=false->wT t<=1000000->aY t
 | .mk n i xs,h,hw=>by
  rw[gP,Bool.or_eq_false_iff,decide_eq_false_iff_not]at h
  rw[wT]at hw
  have:=Dr xs
  rw[aY]
  exact⟨by omega,by omega,BW xs h.2 (by omega)⟩
theorem BW:∀l:List Tm,rM l=false->aF l<=1000000->b_ l
 |[],_,_=>by rw[b_];trivial
 |t::l,h,hw=>by
  rw[rM,Bool.or_eq_false_iff]at h
  rw[aF]at hw
  rw[b_]
  exact⟨P9 t h.1 (by omega),BW l h.2 (by omega)⟩
end
theorem Se {c:List Lt} {m:Int} (hm:0<=m/\m<=1000000) (h:C2 c m=true):dD c/\(bT c:Int)<=m:=by
 rw[C2,Bool.and_eq_true,decide_eq_true_iff,Bool.not_eq_true']at h
 obtain⟨_,h2⟩:=QK c m hm.1
 have hn:(bT c:Int)<=m:=Int.not_lt.1 fun hc=>by have:=h2 hc;omega
 have hf:=Cl c
 refine⟨⟨by omega,fun l hl=>?_⟩,hn⟩
 have h3:iQ l=false:=by
  have:=h.2
  rw[List.any_eq_false]at this
  simpa using this l hl
 rw[iQ,Bool.or_eq_false_iff,decide_eq_false_iff_not]at h3
 have h4:=Cm c l hl
 rw[kE]at h4
 have h5:=Dr l.xs
 exact⟨by omega,by omega,BW l.xs (by rw[BX];exact h3.2) (by omega)⟩
theorem DR:∀c:List Lt,cS dm c c=true:=fun c=>(DQ c c).2 rfl
end Go.Proofs.YtpfohmboflcneaaGreatDoor
end
section
namespace Go.Proofs.YtpfohmboflcneaaGreatDoor
open Go Go.AL Go.RowKit
set_option maxRecDepth 100000
theorem Dd {P:Program} {n:Nat} {t e:TypeId} {xs:List IV} (ht:P.underlying t=some (.slice e)) (h:Typed P n t xs):∃rows m,n=m+1/\xs=[.sl (P.cellsOf e) rows]/\rows.length<=maxLen/\∀r∈rows,Typed P m e r:=by
 cases n with
 |zero=>exact h.elim
 |succ n=>
  simp only[Typed,ht]at h
  obtain⟨rows,U,h2,h3⟩:=h
  exact⟨rows,n,rfl,U,h2,h3⟩
theorem Kr {P:Program} {n:Nat} {t:TypeId} {fs:Array Field} {xs:List IV} (ht:P.underlying t=some (.struct fs)) (h:Typed P n t xs):
  ∃m,n=m+1/\xs.length=P.cellsOf t/\∀(i:Nat) (f:Field),fs.toList[i]?=some f->Typed P m f.type ((xs.drop f.offset).take (P.cellsOf f.type)):=by
 cases n with
 |zero=>exact h.elim
 |succ n=>
  simp only[Typed,ht]at h
  exact⟨n,rfl,h⟩
theorem C7 {n:Nat} {xs:List IV} (h:Typed Tryz.prog n 9 xs):∃l:List UInt8,xs=[Si l]/\l.length<=9223372036854775807:=by
 obtain⟨s,rfl,hs⟩:=S3 Tryz.underlying9 h
 refine⟨s.data.toList,congrArg (fun x=>[IV.v (Value.string x)]) (K5 s),?_⟩
 have e:s.size=s.data.size:=rfl
 have e2:s.data.toList.length=s.data.size:=Array.length_toList
 unfold maxLen at hs
 omega
theorem Db:∀{l:List Tm},(∀t∈l,lx t)->ly l
 |[],_=>by rw[ly];trivial
 |t::l,h=>by rw[ly];exact⟨h t (List.mem_cons_self ..),Db fun u hu=>h u (List.mem_cons_of_mem _ hu)⟩
theorem SL:∀(n:Nat) {xs:List IV},Typed Tryz.prog n 57 xs->∃t:Tm,xs=qs t/\lx t:=by
 intro n
 induction n using Nat.strongRecOn with
 |_ n ih=>
 intro xs h
 have hc:Tryz.prog.cellsOf 57=3:=by kernel_rfl
 have An:Tryz.prog.cellsOf 9=1:=by kernel_rfl
 have N0:Tryz.prog.cellsOf 3=1:=by kernel_rfl
 have Am:Tryz.prog.cellsOf 55=1:=by kernel_rfl
 obtain⟨m,rfl,hlen,hf⟩:=Kr Tryz.underlying57 h
 rw[hc]at hlen
 match xs,hlen with
 |[a,b,c],_=>
  have f0:=hf 0 _ rfl
  have f1:=hf 1 _ rfl
  have f2:=hf 2 _ rfl
  simp only[An,N0,Am,List.drop_zero,List.take_succ_cons,List.take_zero,List.drop_succ_cons]at f0 f1 f2
  obtain⟨nm,e0,l0⟩:=C7 f0
  obtain⟨ix,e1,_⟩:=S2 Tryz.underlying3 f1
  obtain⟨rows,m',rfl,e2,hl,aX⟩:=Dd Tryz.underlying55 f2
  obtain⟨l,rfl,hp⟩:=yC (p:=lx) (f:=qs) rows fun r hr=>ih m' (by omega) (aX r hr)
  cases e0;cases e1;cases e2
  rw[List.length_map]at hl
  unfold maxLen at hl
  exact⟨.mk nm ix l,by rw[qs,qt,hc],by rw[lx];exact⟨l0,by omega,Db hp⟩⟩
theorem SM (n:Nat) {xs:List IV} (h:Typed Tryz.prog n 55 xs):∃l:List Tm,xs=[.sl 3 (ay l)]/\l.length<=9223372036854775807/\ly l:=by
 have hc:Tryz.prog.cellsOf 57=3:=by kernel_rfl
 obtain⟨rows,m',rfl,rfl,hl,aX⟩:=Dd Tryz.underlying55 h
 obtain⟨l,rfl,hp⟩:=yC (p:=lx) (f:=qs) rows fun r hr=>SL m' (aX r hr)
 rw[List.length_map]at hl
 unfold maxLen at hl
 exact⟨l,by rw[qt,hc],by omega,Db hp⟩
theorem Qr (n:Nat) {xs:List IV} (h:Typed Tryz.prog n 61 xs):∃l:Lt,xs=lX l/\uH l:=by
 have hc:Tryz.prog.cellsOf 61=3:=by kernel_rfl
 have An:Tryz.prog.cellsOf 9=1:=by kernel_rfl
 have N1:Tryz.prog.cellsOf 4=1:=by kernel_rfl
 have Am:Tryz.prog.cellsOf 55=1:=by kernel_rfl
 obtain⟨m,rfl,hlen,hf⟩:=Kr Tryz.underlying61 h
 rw[hc]at hlen
 match xs,hlen with
 |[a,b,c],_=>
  have f0:=hf 0 _ rfl
  have f1:=hf 1 _ rfl
  have f2:=hf 2 _ rfl
  simp only[An,N1,Am,List.drop_zero,List.take_succ_cons,List.take_zero,List.drop_succ_cons]at f0 f1 f2
  obtain⟨ng,e0⟩:=S1 Tryz.underlying4 f0
  obtain⟨pd,e1,l1⟩:=C7 f1
  obtain⟨l,e2,l2,l3⟩:=SM m f2
  cases e0;cases e1;cases e2
  exact⟨⟨ng,pd,l⟩,rfl,l1,l2,l3⟩
theorem Ml (n:Nat) {xs:List IV} (h:Typed Tryz.prog n 23 xs):∃c:List Lt,xs=[.sl 3 (bX c)]/\qI c:=by
 have hc:Tryz.prog.cellsOf 61=3:=by kernel_rfl
 obtain⟨rows,m',rfl,rfl,hl,aX⟩:=Dd Tryz.underlying23 h
 obtain⟨l,rfl,hp⟩:=yC (p:=uH) (f:=lX) rows fun r hr=>Qr m' (aX r hr)
 rw[List.length_map]at hl
 unfold maxLen at hl
 exact⟨l,by rw[bX,hc],by omega,hp⟩
theorem Nk:Tryz.prog.globalNamed "strconv.ErrSyntax" =some 1:=by kernel_rfl
theorem Ni:Tryz.prog.globalNamed "strconv.ErrRange" =some 2:=by kernel_rfl
theorem Ng:Tryz.prog.globalNamed "internal/strconv.uint64pow10" =some 3:=by kernel_rfl
theorem Nl:(Tryz.prog.globals[1]?).map (·.type)=some 236:=by kernel_rfl
theorem Nj:(Tryz.prog.globals[2]?).map (·.type)=some 236:=by kernel_rfl
theorem Nh:(Tryz.prog.globals[3]?).map (·.type)=some 350:=by kernel_rfl
theorem Jd (u:TypeId) (h:Tryz.prog.typeName? 3 u=some "*errors.errorString"):u=346:=
 typeName_ptr_named (nm:= "errors.errorString") (by rw[show "*" ++ "errors.errorString" = "*errors.errorString" by decide];kernel_rfl) (by kernel_rfl) (by decide) u (by rw[show "*" ++ "errors.errorString" = "*errors.errorString" by decide];exact h)
theorem Dh {P:Program} {W:World} {n:String} {g:Nat} {cs:Array Value} (hg:P.globalNamed n=some g) (h:W.var? P n=some cs):g<W.heap.size/\∃T fz,W.heap[g]?=some (.cells cs T fz):=by
 unfold World.var? at h
 rw[hg,Option.bind_some]at h
 split at h
 ·rename_i cs' T fz hh
  cases h
  refine⟨?_,T,fz,hh⟩
  rcases Nat.lt_or_ge g W.heap.size with h'|h'
  ·exact h'
  ·rw[Array.getElem?_eq_none h']at hh;cases hh
 ·cases h
theorem Ta {W:World} (da:W.ShapedOpen Tryz.prog) (h:laidMet Tryz.prog [("math/bits.deBruijn32tab",Rows.laid_math_bits_deBruijn32tab),("math/bits.deBruijn64tab",Rows.laid_math_bits_deBruijn64tab),("internal/strconv.uint64pow10",Rows.laid_internal_strconv_uint64pow10),("strconv.ErrRange",Rows.laid_strconv_ErrRange),("strconv.ErrSyntax",Rows.laid_strconv_ErrSyntax)] W):
  VK Tryz.prog W (fun g=>g<W.heap.size):=by
 have h3:=h.tail.tail
 have h4:=h3.tail
 have h5:=h4.tail
 intro x hx g hg
 simp only[oB,List.mem_cons,List.not_mem_nil,or_false]at hx
 rcases hx with rfl|rfl|rfl|rfl
 ·obtain⟨a,s,hv,_⟩:=laid_sentinel h5 Nk Nl Tryz.underlying236 Jd Tryz.underlying346 Tryz.underlying348 rfl rfl Tryz.underlying9 (by kernel_rfl) (by kernel_rfl)
  obtain⟨U,T,fz,h2⟩:=Dh hg hv
  exact⟨U,_,h2,_,_,T,fz,rfl⟩
 ·obtain⟨a,s,hv,_⟩:=laid_sentinel h4 Ni Nj Tryz.underlying236 Jd Tryz.underlying346 Tryz.underlying348 rfl rfl Tryz.underlying9 (by kernel_rfl) (by kernel_rfl)
  obtain⟨U,T,fz,h2⟩:=Dh hg hv
  exact⟨U,_,h2,_,_,T,fz,rfl⟩
 ·have ht:Lib.TabIs Tryz.prog W "internal/strconv.uint64pow10" .u64 Lib.pow10Tab:=Lib.tabIs_of_head (rest:=_) Ng Nh Tryz.underlying350 Tryz.underlying314 (by kernel_rfl) (by kernel_rfl) h3
  obtain⟨U,T,fz,h2⟩:=Dh hg ht
  exact⟨U,_,h2,T,fz,rfl⟩
 ·have e:g=0:=by rw[show Tryz.prog.globalNamed "internal/bytealg.MaxLen" =some 0 by kernel_rfl]at hg;exact(Option.some.inj hg).symm
  subst e
  obtain⟨m,hm⟩:=cell_of_shapedOpen_int (k:= .i64) (g:=0) (t:=3) (zero:=#[.int .i64 0]) da (of_decide_eq_true (by kernel_rfl)) (by kernel_rfl) rfl (by kernel_rfl) (by kernel_rfl) Tryz.underlying3
  cases hh:W.heap[0]? with
  |none=>simp[World.cell?,hh]at hm
  |some o=>cases o with
   |cells cs T fz=>exact⟨(Array.getElem?_eq_some_iff.1 hh).1,_,rfl,m,cs,T,fz,rfl,by simpa[World.cell?,hh]using hm⟩
   |_=>simp[World.cell?,hh]at hm
def Sz:ByteArray:={data:=#[105,110,118,97,108,105,100,32,115,121,110,116,97,120]}
def RN:ByteArray:={data:=#[118,97,108,117,101,32,111,117,116,32,111,102,32,114,97,110,103,101]}
noncomputable def low:Nat:=(World.holding Tryz.prog default ⟨#[],#[],[]⟩).heap.size
def BY (d:DataW Unit):Array Value:=match d with
 | .agg l=>(l.map fun x=>match x with
  | .lit (.int k z)=>Value.int k z
  |_=> .nilIface).toArray
 |_=>#[]
def putCells (cs:Array Value):Obj->Obj
 | .cells _ t frozen=> .cells cs t frozen
 |o=>o
noncomputable def BV (os:Os):World:=
 let w0:=World.holding Tryz.prog os ⟨#[.cells #[.string Sz] 348,.cells #[.string RN] 348],#[],[]⟩
 {w0 with heap:=((((w0.heap.modify 1 (putCells #[.iface 346 (.pointer (some ⟨low,0,none⟩))])).modify 2 (putCells #[.iface 346 (.pointer (some ⟨low+1,0,none⟩))])).modify 3 (putCells (BY Rows.laid_internal_strconv_uint64pow10))).modify 4 (putCells (BY Rows.laid_math_bits_deBruijn32tab))).modify 5 (putCells (BY Rows.laid_math_bits_deBruijn64tab))}
end Go.Proofs.YtpfohmboflcneaaGreatDoor
end
section
namespace Go.Proofs.YtpfohmboflcneaaGreatDoor
open Go Go.AL Go.RowKit
set_option maxRecDepth 10000
set_option maxHeartbeats 4000000

def dp (l:List Int):List (List IV):=l.map fun v=>[Ii v]
theorem iM (l:List Int):(dp l).length=l.length:=by simp[dp]
theorem G2 (l m:List Int):dp l++dp m=dp (l++m):=by simp[dp]
theorem G3 (s:Int):[[Ii s]]=dp [s]:=rfl


def f_ (m m':Bd):List Int:=(m'.drop m.length).map (·.1)
theorem yj (m:Bd):f_ m m=[]:=by rw[f_,List.drop_length];rfl
theorem rX (m r:Bd):f_ m (m++r)=r.map (·.1):=by rw[f_,List.drop_left]
theorem Ir {a b c:Bd} (h:eP a b) (k:eP b c):f_ a c=f_ a b++f_ b c:=by
 obtain⟨⟨r,rfl⟩,_⟩:=h
 obtain⟨⟨q,rfl⟩,_⟩:=k
 rw[rX,rX,List.append_assoc,rX,List.map_append]
theorem QE (p t:Tm) (m:Bd):cw p t m=if p.nm=[]then(match iR m p.ix with
   |some x=>(m,cW x t)
   |none=>(m++[(p.ix,t)],true))
  else if p.nm≠t.nm\/p.xs.length≠t.xs.length then(m,false)else cL p.xs t.xs m:=by cases p;rw[cw];rfl
mutual
theorem Ce:∀(p t:Tm) (m:Bd),(cw p t m).1.length<=m.length+wT p
 | .mk n i xs,t,m=>by
  rw[cw,wT]
  by_cases hn:n=[]
  ·rw[if_pos hn]
   cases iR m i with
   |some x=>simp only;omega
   |none=>simp
  ·rw[if_neg hn]
   split
   ·simp only;omega
   ·have:=Ch xs t.xs m;omega
theorem Ch:∀(l k:List Tm) (m:Bd),(cL l k m).1.length<=m.length+aF l
 |[],_,m=>by rw[cL]<;>simp
 |_::_,[],m=>by rw[cL]<;>simp
 |a::l,b::k,m=>by
  have U:=Ce a b m
  rw[cL,aF]
  split
  ·have:=Ch l k (cw a b m).1;omega
  ·omega
end
theorem Ci (k:List Tm) (m:Bd):cL [] k m=(m,true):=by rw[cL]<;>simp
theorem HX (l k:List Tm) (j:Nat) (a b:Tm) (ha:l[j]?=some a) (hb:k[j]?=some b) (m:Bd):cL (l.drop j) (k.drop j) m=if(cw a b m).2 then cL (l.drop (j+1)) (k.drop (j+1)) (cw a b m).1 else cw a b m:=by
 obtain⟨U,e1⟩:=List.getElem?_eq_some_iff.1 ha
 obtain⟨h2,e2⟩:=List.getElem?_eq_some_iff.1 hb
 rw[List.drop_eq_getElem_cons U,List.drop_eq_getElem_cons h2,e1,e2,cL]
mutual
theorem Cd:∀(p t:Tm) (m:Bd),aY t->(∀b∈m,aY b.2)->∀b∈(cw p t m).1,aY b.2
 | .mk n i xs,t,m,ht,hm=>by
  rw[cw]
  by_cases hn:n=[]
  ·rw[if_pos hn]
   cases iR m i with
   |some x=>exact hm
   |none=>
    intro b hb
    rcases List.mem_append.1 hb with hb|hb
    ·exact hm b hb
    ·rw[List.mem_singleton]at hb;subst hb;exact ht
  ·rw[if_neg hn]
   split
   ·exact hm
   ·exact Cf xs t.xs m (ga.1 ht).2.2 hm
theorem Cf:∀(l k:List Tm) (m:Bd),b_ k->(∀b∈m,aY b.2)->∀b∈(cL l k m).1,aY b.2
 |[],_,m,_,hm=>by rw[cL]<;>first|exact hm|simp
 |_::_,[],m,_,hm=>by rw[cL]<;>first|exact hm|simp
 |a::l,b::k,m,hk,hm=>by
  rw[b_]at hk
  have U:=Cd a b m hk.1 hm
  rw[cL]
  split
  ·exact Cf l k (cw a b m).1 hk.2 U
  ·exact U
end
def oG (i:Nat) (m:Bd) (lg:List Int):aa:=[(i,.vec 3 1 (dp lg)),(1,.var 46 [.os i 1 0 lg.length]),(0,.var (.map (kI m)) (vT m))]
theorem HO (p t:Tm) (m:Bd) (lg:List Int) (hp:aY p) (ht:aY t) (cn:eg m) (aO:lg.length+wT p<=1000000) (lO:∀b∈m,aY b.2):
  al Tryz.prog 126 [bD p,bD t,.mp 0,.ob 1 0] (oG 2 m lg) (fun r H'=>r=Bv (cw p t m).2/\H'=oG 3 (cw p t m).1 (lg++f_ m (cw p t m).1)):=by
 have A6:=ga.1 hp
 have hq:=QE p t m
 have Vr:=y3 p
 refine al.walk [0,1,2,3,4,5,8,9,10,11,14,22,52,55,56,57,72] [9] Tryz.func126 rfl Tryz.ntmps126 (by kernel_rfl) (by rfl) rfl fun W own I0 aw lay=>?_
 simp only[go_sem,Nat.reduceAdd,Nat.reduceLeDiff,Nat.reduceSub,Int.reduceToNat,reduceCtorEq,oG]
 refine AP.rename 2 6 rfl rfl rfl ?_;refine sI ?_
 refine gO ?_
 refine AP.cond rfl rfl (fun hn=>?_) (fun hn=>?_)
 ·have hn:p.nm=[]:=by simpa[y_]using hn
  rw[if_pos hn,Hm]at hq
  refine gO ?_
  cases hi:dR m p.ix with
  |some j=>
   obtain⟨x,U,h2⟩:=rI hi
   rw[h2]at hq
   refine AQ.uF j (by kernel_rfl) rfl rfl rfl qu u3 (iO _) rfl (List.mem_of_getElem? (ov U)) (fun i hi=>ow cn U hi) (Kw U) ?_
   refine sI ?_
   refine gO ?_
   have Pt:=lO _ (List.mem_of_getElem? U)
   refine AQ.fn (by kernel_rfl) rfl rfl rfl (s6 x t Pt) rfl ?_
   refine sI ?_
   refine gO ?_
   refine AE.rename 6 3 rfl rfl rfl ?_;refine sI ?_
   exact AE.bk [7] rfl ⟨rfl,trivial⟩ (by simp only[go_sem,Nat.reduceAdd,Nat.reduceLeDiff,Nat.reduceSub,Int.reduceToNat,reduceCtorEq,bW,noMen,AV.mens,AV.men,fK,Bool.or_false];first|done|rfl) ⟨by rw[hq];rfl,by rw[hq,yj,List.append_nil];rfl⟩
  |none=>
   rw[(om hi).1]at hq
   refine AQ.Qm (.agg [Sv [],Iv 0,gp]) (by kernel_rfl) rfl rfl rfl qu u3 (iO _) rfl (qd hi) TA TB ?_
   refine sI ?_
   refine gO ?_
   refine AQ.Cc (by kernel_rfl) rfl rfl rfl rfl qu u3 (iO _) rfl (qd hi) ?_
   refine sI ?_
   refine gO ?_
   have e1:kI m++[.int .i64 p.ix]=kI (m++[(p.ix,t)]):=by simp only[kI,List.map_append];rfl
   have e2:vT m++[bD t]=vT (m++[(p.ix,t)]):=by simp only[vT,List.map_append];rfl
   rw[e1,e2]
   refine AP.dh 10 (Tree.node [] [0,1,2,3,4,5] [6] [Tree.node [0,1,2,3] [] [7] [Tree.node [0] [8] [9] [Tree.node [] [] [] []]]]) (by kernel_rfl) rfl (by kernel_rfl) (by kernel_rfl) ?_
   refine de ?_
   refine sI ?_
   refine AQ.go (by kernel_rfl) ?_
   refine sI ?_
   refine AQ.nx rfl ?_
   refine sI ?_
   refine AQ.kill 6 ?_
   refine sI ?_
   refine AQ.append (hnb:=rfl) (rows:=dp lg) (es:=0) (by kernel_rfl) rfl rfl rfl (by first|(simp only[go_sem,noMen,AV.mens,AV.men,Bool.or_false];done)|(simp only[go_sem,noMen,AV.mens,AV.men,Bool.or_false];rfl)) Tryz.J9 Tryz.J4 (by show Option.map _ (az Tryz.prog 3)=_;rw[Tryz.KX];rfl) Tryz.D6 (by first|rfl|(simp only[iM,List.length_cons,List.length_nil];done)|(simp only[iM,List.length_cons,List.length_nil];omega)) (by simp only[iM,List.length_cons,List.length_nil];omega) (by simp only[iM,List.length_cons,List.length_nil];omega) ?_
   refine sE (an @iM (an @G2 @G3)) ?_
   refine AQ.nx rfl ?_
   refine sI ?_
   refine AQ.go (by kernel_rfl) ?_
   refine sI ?_
   refine AQ.nx rfl ?_
   refine sI ?_
   refine AQ.done ?_
   refine gO ?_
   refine AE.rename 6 3 rfl rfl rfl ?_;refine sI ?_
   exact AE.bk [7] rfl ⟨rfl,trivial⟩ (by simp only[go_sem,Nat.reduceAdd,Nat.reduceLeDiff,Nat.reduceSub,Int.reduceToNat,reduceCtorEq,bW,noMen,AV.mens,AV.men,fK,Bool.or_false];first|done|rfl) ⟨by rw[hq];rfl,by rw[hq,rX,List.length_append];rfl⟩
 ·have hn:¬p.nm=[]:=by simpa[y_]using hn
  rw[if_neg hn]at hq
  refine gE @ao ?_
  refine AP.cond rfl rfl (fun h2=>?_) (fun h2=>?_)
  ·have h2:p.nm≠t.nm\/p.xs.length≠t.xs.length:=by
    by_cases hA:p.nm=t.nm
    ·refine .inr fun hc=>?_
     simp[hA,hc]at h2
    ·exact .inl hA
   rw[if_pos h2]at hq
   refine gO ?_
   refine AE.rename 6 3 rfl rfl rfl ?_;refine sI ?_
   exact AE.bk [] rfl ⟨rfl,trivial⟩ (by simp only[go_sem,Nat.reduceAdd,Nat.reduceLeDiff,Nat.reduceSub,Int.reduceToNat,reduceCtorEq,bW,noMen,AV.mens,AV.men,fK,Bool.or_false];first|done|rfl) ⟨by rw[hq];rfl,by rw[hq,yj,List.append_nil];rfl⟩
  ·have h2:¬(p.nm≠t.nm\/p.xs.length≠t.xs.length):=fun hc=>by
    by_cases hA:p.nm=t.nm
    ·rcases hc with hc|hc
     ·exact hc hA
     ·simp[hA]at h2;omega
    ·simp[hA]at h2
   rw[if_neg h2]at hq
   have nX:p.xs.length=t.xs.length:=Classical.byContradiction fun hc=>h2 (.inr hc)
   refine gE @ao ?_
   refine AP.loop rfl (α:=Nat×Bd) (fun q=>[(2,.mp 0),(3,.ob 1 0),(4,.im (oU p)),(5,.im (oU t)),(55,Iv p.xs.length),(56,Iv q.1)]) (fun q=>oG 6 q.2 (lg++f_ m q.2)) (fun q=>q.1<=p.xs.length/\eP m q.2/\q.2.length<=m.length+aF (p.xs.take q.1)/\(∀b∈q.2,aY b.2)/\cw p t m=cL (p.xs.drop q.1) (t.xs.drop q.1) q.2) (fun q=>p.xs.length-q.1) (0,m) ⟨by omega,eP.rfl' m,by simp,lO,hq⟩ (sU) (by rw[yj,List.append_nil];rfl) fun⟨k,mk⟩ ⟨hk,hG,hlen,w6,hm⟩=>?_
   have hk:k<=p.xs.length:=hk
   have hm:cw p t m=cL (p.xs.drop k) (t.xs.drop k) mk:=hm
   have hG:eP m mk:=hG
   have hlen:mk.length<=m.length+aF (p.xs.take k):=hlen
   have w6:∀b∈mk,aY b.2:=w6
   rcases Nat.eq_or_lt_of_le hk with aN|ag
   ·rw[aN,List.drop_length,Ci]at hm
    simp only[go_sem,Nat.reduceAdd,Nat.reduceLeDiff,Nat.reduceSub,Int.reduceToNat,reduceCtorEq,oG]
    refine gO ?_
    refine cF ?_
    refine gO ?_
    refine AE.rename 6 3 rfl rfl rfl ?_;refine sI ?_
    exact AE.bk [] rfl ⟨rfl,trivial⟩ (by simp only[go_sem,Nat.reduceAdd,Nat.reduceLeDiff,Nat.reduceSub,Int.reduceToNat,reduceCtorEq,bW,noMen,AV.mens,AV.men,fK,Bool.or_false];first|done|rfl) ⟨by rw[hm];rfl,by rw[hm];rfl⟩
   ·obtain⟨u,hu,aX⟩:=dL p.xs k ag
    obtain⟨v,hv,dH⟩:=dL t.xs k (by omega)
    have hw:=wr (x:=(k:Int)+1) (by omega)
    rw[HX p.xs t.xs k u v hu hv]at hm
    have rA:aF (p.xs.take k)+wT u<=aF p.xs:=by
     have:=Dt p.xs (k+1)
     rw[dV hu,vf,aF,aF]at this
     omega
    have OM:(f_ m mk).length<=aF (p.xs.take k):=by rw[f_,List.length_map,List.length_drop];omega
    have ih:=HO u v mk (lg++f_ m mk) (eh A6.2.2 hu) (eh (ga.1 ht).2.2 hv) (hG.2 cn) (by rw[List.length_append];omega) w6
    have tf:=yd u v mk
    simp only[go_sem,Nat.reduceAdd,Nat.reduceLeDiff,Nat.reduceSub,Int.reduceToNat,reduceCtorEq,oG]
    refine gE @ao ?_
    refine cT ?_
    refine gE (an @ao (an @aX @dH)) ?_
    refine AP.dh 14 (Tree.node [] [0,1,2,3,4,5,6,7,8,9,10,11] [12] [Tree.node [] [13] [] []]) (by kernel_rfl) rfl (by kernel_rfl) (by kernel_rfl) ?_
    refine de ?_
    refine sE (an @ao (an @aX @dH)) ?_
    refine⟨by omega,by omega,?_⟩
    refine AQ.bE [(2,6),(1,1),(0,0)] (by kernel_rfl) rfl rfl rfl rfl rfl rfl (by refine⟨?_,?_,?_,trivial⟩<;>(simp only[c7,AV.cy,AV.rn,ma];rfl)) rfl ih fun r' H' ⟨e1,e2⟩=>?_
    subst e1;subst e2
    simp only[go_sem,Nat.reduceAdd,Nat.reduceLeDiff,Nat.reduceSub,Int.reduceToNat,reduceCtorEq,cK,dU,bZ,eN,oG]
    rw[List.append_assoc,<-Ir hG tf]
    refine AQ.rename 10 6 rfl rfl rfl ?_;refine sI ?_
    refine AQ.nx rfl ?_
    refine sI ?_
    refine AQ.done ?_
    have k8:=Ce u v mk
    have Ac:∀b∈(cw u v mk).1,aY b.2:=Cd u v mk (eh (ga.1 ht).2.2 hv) w6
    have bc:aF (p.xs.take (k+1))=aF (p.xs.take k)+wT u:=by rw[dV hu,vf,aF,aF];rfl
    refine gO ?_
    refine AP.cond rfl rfl (fun h5=>?_) (fun h5=>?_)
    ·have h5:(cw u v mk).2=false:=by simpa using h5
     rw[if_neg (by rw[h5];simp)]at hm
     refine gO ?_
     refine AE.rename 6 3 rfl rfl rfl ?_;refine sI ?_
     exact AE.bk [] rfl ⟨rfl,trivial⟩ (by simp only[go_sem,Nat.reduceAdd,Nat.reduceLeDiff,Nat.reduceSub,Int.reduceToNat,reduceCtorEq,bW,noMen,AV.mens,AV.men,fK,Bool.or_false];first|done|rfl) ⟨by rw[hm,h5];rfl,by rw[hm];rfl⟩
    ·have h5:(cw u v mk).2=true:=by simpa using h5
     rw[if_pos h5]at hm
     refine gE @hw ?_
     exact AE.round (k+1,(cw u v mk).1) ⟨(by omega:k+1<=p.xs.length),hG.trans tf,(by rw[bc];omega:(cw u v mk).1.length<=m.length+aF (p.xs.take (k+1))),Ac,hm⟩ (by show p.xs.length-(k+1)<p.xs.length-k;omega) (sU) rfl
termination_by wT p
decreasing_by
 have:=Ds p.xs u (List.mem_of_getElem? hu)
 omega
def fi (x y:Lt) (m:Bd):Bd×Bool:=if lB x y then cL x.xs y.xs m else(m,false)
def jA (c d:List Lt) (x:Lt) (m:Bd) (y:Lt):Option Bd:=if(fi x y m).2 then dK c d (fi x y m).1 else none
theorem yF (x:Lt) (c d:List Lt) (m:Bd):dK (x::c) d m=d.findSome? (jA c d x m):=by
 rw[dK]
 refine congrArg (fun f=>List.findSome? f d) (funext fun y=>?_)
 rw[jA,fi]
 by_cases h:lB x y=true
 ·rw[if_pos h]
  by_cases k:(cL x.xs y.xs m).2=true
  ·rw[if_pos ⟨h,k⟩,if_pos k]
  ·rw[if_neg (fun hc=>k hc.2),if_neg k]
 ·rw[if_neg h,if_neg (fun hc=>h hc.1),if_neg (by simp)]
theorem zN (x y:Lt) (m:Bd):eP m (fi x y m).1:=by
 rw[fi];split
 ·exact ye _ _ _
 ·exact eP.rfl' m
theorem zO (x y:Lt) (m:Bd):(fi x y m).1.length<=m.length+aF x.xs:=by
 rw[fi];split
 ·exact Ch _ _ _
 ·simp only;omega
theorem Fg (x y:Lt) (m:Bd) (hy:b_ y.xs) (hm:∀b∈m,aY b.2):∀b∈(fi x y m).1,aY b.2:=by
 rw[fi];split
 ·exact Cf _ _ _ hy hm
 ·exact hm
theorem Hd (m:Bd) (b:Int×Tm) (r:Bd):(kI (m++b::r)).eraseIdx m.length=kI (m++r):=by
 rw[kI,List.map_append,List.eraseIdx_append_of_length_le (by simp),List.length_map,Nat.sub_self,List.map_cons,List.eraseIdx_cons_zero,<-List.map_append];rfl
theorem Kv (m:Bd) (b:Int×Tm) (r:Bd):(vT (m++b::r)).eraseIdx m.length=vT (m++r):=by
 rw[vT,List.map_append,List.eraseIdx_append_of_length_le (by simp),List.length_map,Nat.sub_self,List.map_cons,List.eraseIdx_cons_zero,<-List.map_append];rfl
theorem H7 {m r:Bd} (h:eg (m++r)) (j:Nat):eg (m++r.drop j):=
 h.sublist (((List.Sublist.refl m).append (List.drop_sublist j r)).map _)
theorem B8 {r:Bd} {j:Nat} {b:Int×Tm} (h:r[j]?=some b):(dp (r.map (·.1))).getD j []=[Ii b.1]:=by
 rw[dp,List.getD_eq_getElem?_getD,List.getElem?_map,List.getElem?_map,h];rfl
def fY (m:Bd):aa:=[(0,.var (.map (kI m)) (vT m))]
theorem J2:∀(c d:List Lt) (m:Bd),dD c->dD d->eg m->(∀b∈m,aY b.2)->(∀l∈c,aF l.xs<=4000)->
  al Tryz.prog 113 [aV c,aV d,.mp 0] (fY m) (fun r H'=>r=Bv (dK c d m).isSome/\H'=fY ((dK c d m).getD m))
 |[],d,m,hc,hd,cn,lO,aO=>by
  have hs:dK [] d m=some m:=by rw[dK]
  refine al.walk [0,1,2,6,8,9,10,11,12,14,17,18,19,20,21,55,77,78,79,80,81] [8,9,10] Tryz.func113 rfl Tryz.ntmps113 (by kernel_rfl) (by rfl) rfl fun W own I0 aw lay=>?_
  simp only[go_sem,Nat.reduceAdd,Nat.reduceLeDiff,Nat.reduceSub,Int.reduceToNat,reduceCtorEq,fY]
  refine gE (an @aJ @List.length_nil.{0}) ?_
  exact AE.bk [] rfl ⟨rfl,trivial⟩ (by simp only[go_sem,Nat.reduceAdd,Nat.reduceLeDiff,Nat.reduceSub,Int.reduceToNat,reduceCtorEq,bW,noMen,AV.mens,AV.men,fK,Bool.or_false];first|done|rfl) ⟨by rw[hs];rfl,by rw[hs];rfl⟩
 |x::c,d,m,hc,hd,cn,lO,aO=>by
  have hs:=yF x c d m
  have tl:=hc.1
  have lK:=hd.1
  have mT:=hc.2 x (List.mem_cons_self ..)
  have xj:(bX (x::c)).getD 0 []=[Bi x.ng,Si x.pd,.sl 3 (ay x.xs)]:=rfl
  have tH:(bX (x::c)).length=c.length+1:=by rw[aJ,List.length_cons]
  refine al.walk [0,1,2,6,8,9,10,11,12,14,17,18,19,20,21,55,77,78,79,80,81] [8,9,10] Tryz.func113 rfl Tryz.ntmps113 (by kernel_rfl) (by rfl) rfl fun W own I0 aw lay=>?_
  simp only[go_sem,Nat.reduceAdd,Nat.reduceLeDiff,Nat.reduceSub,Int.reduceToNat,reduceCtorEq,fY]
  refine gE @tH ?_
  refine sE @aJ ?_
  refine AP.loop rfl (α:=Nat) (fun k=>[(0,aV (x::c)),(1,aV d),(2,.mp 0),(18,aV d),(19,Iv d.length),(20,Iv k)]) (fun _=>fY m) (fun k=>k<=d.length/\dK (x::c) d m=(d.drop k).findSome? (jA c d x m)) (fun k=>d.length-k) 0 ⟨by omega,hs⟩ (sU) rfl fun k ⟨hk,hm⟩=>?_
  rcases Nat.eq_or_lt_of_le hk with aN|ag
  ·rw[aN,List.drop_length,List.findSome?_nil]at hm
   simp only[go_sem,Nat.reduceAdd,Nat.reduceLeDiff,Nat.reduceSub,Int.reduceToNat,reduceCtorEq,fY]
   refine gO ?_
   refine cF ?_
   refine gO ?_
   exact AE.bk [] rfl ⟨rfl,trivial⟩ (by simp only[go_sem,Nat.reduceAdd,Nat.reduceLeDiff,Nat.reduceSub,Int.reduceToNat,reduceCtorEq,bW,noMen,AV.mens,AV.men,fK,Bool.or_false];first|done|rfl) ⟨by rw[hm];rfl,by rw[hm];rfl⟩
  ·obtain⟨y,hy,aX⟩:=jt d k ag
   have uo:=hd.2 y (List.mem_of_getElem? hy)
   have hw:=wr (x:=(k:Int)+1) (by omega)
   rw[drop_cons hy,List.findSome?_cons]at hm
   simp only[go_sem,Nat.reduceAdd,Nat.reduceLeDiff,Nat.reduceSub,Int.reduceToNat,reduceCtorEq,fY]
   refine gO ?_
   refine cT ?_
   refine gE @aX ?_
   refine⟨by rw[aJ];omega,?_⟩
   repeat(first|refine xA ?_|refine xB ?_|refine xE ?_|refine xD ?_|refine xK ?_|refine xS ?_|refine xM ?_|refine xT ?_|refine xF ?_|((first|refine xR ?_|refine xW ?_|refine mb ?_);simp only[go_sem,Nat.reduceAdd,Nat.reduceLeDiff,Nat.reduceSub,Int.reduceToNat,reduceCtorEq])|(refine⟨by first|omega|(intros;simp_all;done)|(intros;simp_all;omega),?_⟩;try simp only[go_sem,Nat.reduceAdd,Nat.reduceLeDiff,Nat.reduceSub,Int.reduceToNat,reduceCtorEq]))
   refine xC ?_
   repeat(first|refine xA ?_|refine xB ?_|refine xE ?_|refine xD ?_|refine xK ?_|refine xS ?_|refine xM ?_|refine xT ?_|refine xF ?_|((first|refine xR ?_|refine xW ?_|refine mb ?_);simp only[go_sem,Nat.reduceAdd,Nat.reduceLeDiff,Nat.reduceSub,Int.reduceToNat,reduceCtorEq])|(refine⟨by first|omega|(intros;simp_all;done)|(intros;simp_all;omega),?_⟩;try simp only[go_sem,Nat.reduceAdd,Nat.reduceLeDiff,Nat.reduceSub,Int.reduceToNat,reduceCtorEq]))
   refine xC ?_
   repeat(first|refine xA ?_|refine xB ?_|refine xE ?_|refine xD ?_|refine xK ?_|refine xS ?_|refine xM ?_|refine xT ?_|refine xF ?_|((first|refine xR ?_|refine xW ?_|refine mb ?_);simp only[go_sem,Nat.reduceAdd,Nat.reduceLeDiff,Nat.reduceSub,Int.reduceToNat,reduceCtorEq,xj,tH])|(refine⟨by first|omega|(intros;simp_all;done)|(intros;simp_all;omega),?_⟩;try simp only[go_sem,Nat.reduceAdd,Nat.reduceLeDiff,Nat.reduceSub,Int.reduceToNat,reduceCtorEq,xj,tH]))
   refine xC ?_
   repeat(first|refine xA ?_|refine xB ?_|refine xE ?_|refine xD ?_|refine xK ?_|refine xS ?_|refine xM ?_|refine xT ?_|refine xF ?_|((first|refine xR ?_|refine xW ?_|refine mb ?_);simp only[go_sem,Nat.reduceAdd,Nat.reduceLeDiff,Nat.reduceSub,Int.reduceToNat,reduceCtorEq,xj,tH])|(refine⟨by first|omega|(intros;simp_all;done)|(intros;simp_all;omega),?_⟩;try simp only[go_sem,Nat.reduceAdd,Nat.reduceLeDiff,Nat.reduceSub,Int.reduceToNat,reduceCtorEq,xj,tH]))
   have MM:(x.ng==y.ng&&x.pd==y.pd&&((ay x.xs).length:Int)==((ay y.xs).length:Int))=lB x y:=by
    rw[lB,ao,ao]
    congr 1
    by_cases hl:x.xs.length=y.xs.length
    ·simp[hl]
    ·have:((x.xs.length:Int))≠(y.xs.length:Int):=fun h=>hl (by omega)
     simp[hl,this]
   have hF:fi x y m=if lB x y=true then cL (x.xs.drop 0) (y.xs.drop 0) m else(m,false):=rfl
   have Vt:aF x.xs<=4000:=aO x (List.mem_cons_self ..)
   refine AE.seq ?_
   refine AP.seq rfl ?_
   refine AP.cut (α:=Unit) (fun _=>[(0,aV (x::c)),(1,aV d),(2,.mp 0),(8,.ob 1 0),(9,.ob 2 0),(10,.ob 3 0),(11,Bv (fi x y m).2),(18,aV d),(19,Iv d.length),(20,Iv k)]) (fun _=>[(4,.vec 3 1 (dp (f_ m (fi x y m).1))),(3,.var 119 [Bv x.ng,Sv x.pd,.im (.sl 3 (ay x.xs))]),(2,.var 46 [.os 4 1 0 (f_ m (fi x y m).1).length]),(1,.var 119 [Bv y.ng,Sv y.pd,.im (.sl 3 (ay y.xs))]),(0,.var (.map (kI (fi x y m).1)) (vT (fi x y m).1))]) (fun _=>True) ?_ fun _ _=>?_
   rotate_left
   ·cases hb:(fi x y m).2 with
    |false=>
     have tV:jA c d x m y=none:=by rw[jA,hb,if_neg (by simp)]
     refine gO ?_
     have jm:dK (x::c) d m=(d.drop (k+1)).findSome? (jA c d x m):=by rw[hm,tV]
     obtain⟨⟨r,hr⟩,ib⟩:=zN x y m
     have AZ:eg (m++r):=by rw[<-hr];exact ib cn
     have lU:r.length<=4000:=by
      have:=zO x y m
      rw[hr,List.length_append]at this
      omega
     rw[hr,rX]
     refine AP.loop rfl (α:=Nat) (fun j=>[(0,aV (x::c)),(1,aV d),(2,.mp 0),(18,aV d),(19,Iv d.length),(20,Iv k),(78,.os 4 1 0 (r.map (·.1)).length),(79,Iv (r.map (·.1)).length),(80,Iv j)]) (fun j=>[(4,.vec 3 1 (dp (r.map (·.1)))),(3,.var 119 [Bv x.ng,Sv x.pd,.im (.sl 3 (ay x.xs))]),(2,.var 46 [.os 4 1 0 (r.map (·.1)).length]),(1,.var 119 [Bv y.ng,Sv y.pd,.im (.sl 3 (ay y.xs))]),(0,.var (.map (kI (m++r.drop j))) (vT (m++r.drop j)))]) (fun j=>j<=r.length) (fun j=>r.length-j) 0 (by omega) (sU) rfl fun j hj=>?_
     rcases Nat.eq_or_lt_of_le hj with fk|kn
     ·rw[fk,List.drop_length,List.append_nil]
      refine gE @List.length_map.{0,0} ?_
      refine cF ?_
      refine gE @hw ?_
      refine AE.eu [1,2,3,4] (by simp only[go_sem,Nat.reduceAdd,Nat.reduceLeDiff,Nat.reduceSub,Int.reduceToNat,reduceCtorEq,bW,noMen,AV.mens,AV.men,fK,Bool.or_false];first|done|rfl) ?_
      refine sI ?_
      exact AE.round (k+1) ⟨by omega,jm⟩ (by omega) (sU) rfl
     ·have hb:r[j]?=some r[j]:=List.getElem?_eq_getElem kn
      generalize r[j]=b at hb
      have Bx:=wr (x:=(j:Int)+1) (by omega)
      have Be:=B8 hb
      have tr:=drop_cons hb
      have A4:=H7 AZ j
      have aH:(m++r.drop j)[m.length]?=some (b.1,b.2):=by rw[tr,List.getElem?_append_right (Nat.le_refl _),Nat.sub_self];rfl
      have aN:=Hd m b (r.drop (j+1))
      have p8:=Kv m b (r.drop (j+1))
      rw[<-tr]at aN p8
      refine gE @List.length_map.{0,0} ?_
      refine cT ?_
      refine gE (an @Be (an @iM @List.length_map.{0,0})) ?_
      refine AQ.HP m.length (by kernel_rfl) rfl rfl rfl qu u3 (iO _) rfl (List.mem_of_getElem? (ov aH)) (fun i hi=>ow A4 aH hi) ?_
      refine sI ?_
      refine gE @Bx ?_
      rw[aN,p8]
      exact AE.round (j+1) (by omega) (by omega) (sU) rfl
    |true=>
     have ih:=J2 c d (fi x y m).1 ⟨by have:=hc.1;rw[List.length_cons]at this;omega,fun l hl=>hc.2 l (List.mem_cons_of_mem _ hl)⟩ hd ((zN x y m).2 cn) (Fg x y m uo.2.2 lO) (fun l hl=>aO l (List.mem_cons_of_mem _ hl))
     refine gO ?_
     refine AQ.opt 75 rfl ?_
     refine AQ.opt 74 rfl ?_
     refine AQ.opt 73 rfl ?_
     refine AQ.nW (by simp only[go_sem]) ?_
     refine sI ?_
     refine AQ.bE [(0,0)] (by kernel_rfl) rfl rfl rfl rfl rfl rfl (by refine⟨?_,trivial⟩;simp only[c7,AV.cy,AV.rn,ma];rfl) rfl ih fun r' H' ⟨e1,e2⟩=>?_
     subst e1;subst e2
     simp only[go_sem,Nat.reduceAdd,Nat.reduceLeDiff,Nat.reduceSub,Int.reduceToNat,reduceCtorEq,cK,dU,bZ,eN,fY]
     cases hk:dK c d (fi x y m).1 with
     |some m2=>
      have tV:jA c d x m y=some m2:=by rw[jA,hb,if_pos rfl,hk]
      rw[tV]at hm
      refine gO ?_
      exact AE.bk [1,2,3,4] rfl ⟨rfl,trivial⟩ (by simp only[go_sem,Nat.reduceAdd,Nat.reduceLeDiff,Nat.reduceSub,Int.reduceToNat,reduceCtorEq,bW,noMen,AV.mens,AV.men,fK,Bool.or_false];first|done|rfl) ⟨by rw[hm];rfl,by rw[hm];rfl⟩
     |none=>
      have tV:jA c d x m y=none:=by rw[jA,hb,if_pos rfl,hk]
      refine gO ?_
      simp only[go_sem,Nat.reduceAdd,Nat.reduceLeDiff,Nat.reduceSub,Int.reduceToNat,reduceCtorEq,Option.getD_none]
      have jm:dK (x::c) d m=(d.drop (k+1)).findSome? (jA c d x m):=by rw[hm,tV]
      obtain⟨⟨r,hr⟩,ib⟩:=zN x y m
      have AZ:eg (m++r):=by rw[<-hr];exact ib cn
      have lU:r.length<=4000:=by
       have:=zO x y m
       rw[hr,List.length_append]at this
       omega
      rw[hr,rX]
      refine AP.loop rfl (α:=Nat) (fun j=>[(0,aV (x::c)),(1,aV d),(2,.mp 0),(18,aV d),(19,Iv d.length),(20,Iv k),(78,.os 4 1 0 (r.map (·.1)).length),(79,Iv (r.map (·.1)).length),(80,Iv j)]) (fun j=>[(4,.vec 3 1 (dp (r.map (·.1)))),(3,.var 119 [Bv x.ng,Sv x.pd,.im (.sl 3 (ay x.xs))]),(2,.var 46 [.os 4 1 0 (r.map (·.1)).length]),(1,.var 119 [Bv y.ng,Sv y.pd,.im (.sl 3 (ay y.xs))]),(0,.var (.map (kI (m++r.drop j))) (vT (m++r.drop j)))]) (fun j=>j<=r.length) (fun j=>r.length-j) 0 (by omega) (sU) rfl fun j hj=>?_
      rcases Nat.eq_or_lt_of_le hj with fk|kn
      ·rw[fk,List.drop_length,List.append_nil]
       refine gE @List.length_map.{0,0} ?_
       refine cF ?_
       refine gE @hw ?_
       refine AE.eu [1,2,3,4] (by simp only[go_sem,Nat.reduceAdd,Nat.reduceLeDiff,Nat.reduceSub,Int.reduceToNat,reduceCtorEq,bW,noMen,AV.mens,AV.men,fK,Bool.or_false];first|done|rfl) ?_
       refine sI ?_
       exact AE.round (k+1) ⟨by omega,jm⟩ (by omega) (sU) rfl
      ·have hb:r[j]?=some r[j]:=List.getElem?_eq_getElem kn
       generalize r[j]=b at hb
       have Bx:=wr (x:=(j:Int)+1) (by omega)
       have Be:=B8 hb
       have tr:=drop_cons hb
       have A4:=H7 AZ j
       have aH:(m++r.drop j)[m.length]?=some (b.1,b.2):=by rw[tr,List.getElem?_append_right (Nat.le_refl _),Nat.sub_self];rfl
       have aN:=Hd m b (r.drop (j+1))
       have p8:=Kv m b (r.drop (j+1))
       rw[<-tr]at aN p8
       refine gE @List.length_map.{0,0} ?_
       refine cT ?_
       refine gE (an @Be (an @iM @List.length_map.{0,0})) ?_
       refine AQ.HP m.length (by kernel_rfl) rfl rfl rfl qu u3 (iO _) rfl (List.mem_of_getElem? (ov aH)) (fun i hi=>ow A4 aH hi) ?_
       refine sI ?_
       refine gE @Bx ?_
       rw[aN,p8]
       exact AE.round (j+1) (by omega) (by omega) (sU) rfl
   refine gO ?_
   refine AP.iu 2 0 3 1 rfl rfl ?_
   refine sI ?_
   rw[MM]
   refine AP.loop rfl (α:=Nat×Bd×Bool) (fun q=>[(0,aV (x::c)),(1,aV d),(2,.mp 0),(8,.ob 1 0),(9,.ob 2 0),(10,.ob 3 0),(11,Bv q.2.2),(12,Iv q.1),(18,aV d),(19,Iv d.length),(20,Iv k)]) (fun q=>[(4,.vec 3 1 (dp (f_ m q.2.1))),(3,.var 119 [Bv x.ng,Sv x.pd,.im (.sl 3 (ay x.xs))]),(2,.var 46 [.os 4 1 0 (f_ m q.2.1).length]),(1,.var 119 [Bv y.ng,Sv y.pd,.im (.sl 3 (ay y.xs))]),(0,.var (.map (kI q.2.1)) (vT q.2.1))]) (fun q=>q.1<=x.xs.length+1/\eP m q.2.1/\q.2.1.length<=m.length+aF x.xs/\(q.2.2=true->lB x y=true/\q.1<=x.xs.length/\q.2.1.length<=m.length+aF (x.xs.take q.1))/\(∀b∈q.2.1,aY b.2)/\fi x y m=if q.2.2=true then cL (x.xs.drop q.1) (y.xs.drop q.1) q.2.1 else(q.2.1,false)) (fun q=>x.xs.length+1-q.1) (0,m,lB x y) ⟨by omega,eP.rfl' m,by simp,fun h=>⟨h,by omega,by simp⟩,lO,hF⟩ (sU) (by rw[yj];rfl) fun⟨q,mq,oq⟩ ⟨OX,hG,gK,Gx,Ba,oa⟩=>?_
   dsimp only at OX hG gK Gx Ba oa⊢
   cases oq with
   |false=>
    rw[if_neg (by simp)]at oa
    rw[oa]
    refine gO ?_
    exact AE.meet () trivial (sU) rfl
   |true=>
    obtain⟨n5,O0,xg⟩:=Gx rfl
    rw[if_pos rfl]at oa
    have eW:=(DP.1 n5).2.2
    rcases Nat.eq_or_lt_of_le O0 with Bb|OZ
    ·rw[Bb,List.drop_length,Ci]at oa
     rw[oa]
     refine gE @ao ?_
     refine cF ?_
     refine gO ?_
     exact AE.meet () trivial (sU) rfl
    ·obtain⟨u,hu,Gz⟩:=dL x.xs q OZ
     obtain⟨v,hv,dH⟩:=dL y.xs q (by omega)
     have Vu:=mT.2.1
     have Pp:=wr (x:=(q:Int)+1) (by omega)
     rw[HX x.xs y.xs q u v hu hv]at oa
     have bc:aF (x.xs.take (q+1))=aF (x.xs.take q)+wT u:=by rw[dV hu,vf,aF,aF];rfl
     have rA:=Dt x.xs (q+1)
     have OM:(f_ m mq).length<=aF (x.xs.take q):=by rw[f_,List.length_map,List.length_drop];omega
     have ih:=HO u v mq (f_ m mq) (eh mT.2.2 hu) (eh uo.2.2 hv) (hG.2 cn) (by omega) Ba
     have tf:=yd u v mq
     have k8:=Ce u v mq
     have Ac:∀b∈(cw u v mq).1,aY b.2:=Cd u v mq (eh uo.2.2 hv) Ba
     refine gE @ao ?_
     refine cT ?_
     refine gE (an @Gz (an @dH @ao)) ?_
     refine AP.dh 13 (Tree.node [] [0,1,2,3,4,5,6,7,8,9,10] [11] [Tree.node [] [12] [] []]) (by kernel_rfl) rfl (by kernel_rfl) (by kernel_rfl) ?_
     refine de ?_
     refine sE (an @Gz (an @dH @ao)) ?_
     refine⟨by omega,by omega,?_⟩
     refine AQ.bE [(2,4),(1,2),(0,0)] (by kernel_rfl) rfl rfl rfl rfl rfl rfl (by refine⟨?_,?_,?_,trivial⟩<;>(simp only[c7,AV.cy,AV.rn,ma];rfl)) rfl ih fun r' H' ⟨e1,e2⟩=>?_
     subst e1;subst e2
     simp only[go_sem,Nat.reduceAdd,Nat.reduceLeDiff,Nat.reduceSub,Int.reduceToNat,reduceCtorEq,cK,dU,bZ,eN,oG]
     rw[<-Ir hG tf]
     refine AQ.rename 8 4 rfl rfl rfl ?_;refine sI ?_
     refine AQ.nx rfl ?_
     refine sI ?_
     refine AQ.done ?_
     refine gE @Pp ?_
     refine AE.round (q+1,(cw u v mq).1,(cw u v mq).2) ⟨(by omega:q+1<=x.xs.length+1),hG.trans tf,(by omega:(cw u v mq).1.length<=m.length+aF x.xs),fun _=>⟨n5,(by omega:q+1<=x.xs.length),(by rw[bc];omega:(cw u v mq).1.length<=m.length+aF (x.xs.take (q+1)))⟩,Ac,?_⟩ (by show x.xs.length+1-(q+1)<x.xs.length+1-q;omega) (sU) rfl
     show fi x y m=if(cw u v mq).2=true then cL (x.xs.drop (q+1)) (y.xs.drop (q+1)) (cw u v mq).1 else((cw u v mq).1,false)
     rw[oa]
     cases hb:(cw u v mq).2 with
     |true=>rw[if_pos rfl,if_pos rfl]
     |false=>rw[if_neg (by simp),if_neg (by simp),<-hb]
theorem LS (l m:Bd):jG l++jG m=jG (l++m):=by simp[jG]
theorem LX (l:Bd) (n:Nat) (h:l.length<=n):(jG l).take n=jG l:=List.take_of_length_le (by rw[mn];exact h)

theorem Sk (l o:Bd):(ft o l).length=o.length+l.length:=by rw[(yL l o).length_eq,List.length_append]
theorem LU (b:Int×Tm):[[Ii b.1,Si b.2.nm,Ii b.2.ix,.sl 3 (ay b.2.xs)]]=jG [b]:=rfl
theorem Jv:∀(c d:List Lt) (m m':Bd),dK c d m=some m'->m'.length<=m.length+bT c
 |[],d,m,m',h=>by rw[dK]at h;cases h;omega
 |x::c,d,m,m',h=>by
  rw[yF]at h
  obtain⟨y,_,hy⟩:=List.exists_of_findSome?_eq_some h
  rw[jA]at hy
  split at hy
  ·have U:=Jv c d _ m' hy
   have h2:=zO x y m
   rw[iq];omega
  ·cases hy
def wi (c d:List Lt):Bd:=match dK c d []with
 |some m=>ft [] m
 |none=>[]
def jC (c d:List Lt):Int:=if bR 4 9 2 3 c≠0 then bR 4 9 2 3 c else bR 4 9 2 3 d
def j2 (c d:List Lt):Bool:=decide (jC c d=0)&&(dK c d []).isSome
def lu (c d:List Lt):Bd:=if jC c d=0 then wi c d else[]
theorem Sx {c d:List Lt}:jC c d=0↔bR 4 9 2 3 c=0/\bR 4 9 2 3 d=0:=by
 rw[jC]
 by_cases h:bR 4 9 2 3 c=0
 ·simp[h]
 ·simp[h]


theorem QJ {c:List Lt} {l:Lt} (h:l∈c):1+aF l.xs<=bT c:=by
 induction c with
 |nil=>cases h
 |cons x c ih=>
  rw[iq]
  rcases List.mem_cons.1 h with rfl|h
  ·omega
  ·have:=ih h;omega
theorem MJ {c:List Lt} {l:Lt} (h:l∈c):fB l.xs<=dY c:=by
 induction c with
 |nil=>cases h
 |cons x c ih=>
  rw[dY]
  rcases List.mem_cons.1 h with rfl|h
  ·omega
  ·have:=ih h;omega
def okB (b:Int×Tm):Prop:=0<=b.1/\b.1<1000/\ck b.2=true/\wT b.2<=3999/\jH b.2<=100
mutual
theorem QF:∀(p t:Tm) (m:Bd),ck p=true->ck t=true->wT t<=3999->jH t<=100->(∀b∈m,okB b)->∀b∈(cw p t m).1,okB b
 | .mk n i xs,t,m,hp,ht,hw,hd,hm=>by
  rw[cw]
  rw[ck]at hp
  by_cases hn:n=[]
  ·rw[if_pos hn]at hp⊢
   cases iR m i with
   |some x=>exact hm
   |none=>
    intro b hb
    rcases List.mem_append.1 hb with hb|hb
    ·exact hm b hb
    ·rw[List.mem_singleton]at hb
     subst hb
     simp only[Bool.and_eq_true,decide_eq_true_eq]at hp
     exact⟨hp.2.1,hp.2.2,ht,hw,hd⟩
  ·rw[if_neg hn]at hp⊢
   rw[Bool.and_eq_true]at hp
   split
   ·exact hm
   ·refine Cj xs t.xs m hp.2 ?_ ?_ ?_ hm
    ·rw[uM]at ht
     rename_i hc
     rw[if_neg (fun e=>hn (by
      have:n=t.nm:=Classical.byContradiction fun h=>hc (.inl h)
      rw[this,e])),Bool.and_eq_true]at ht
     exact ht.2
    ·have:=y3 t;omega
    ·have:=MK t;omega
theorem Cj:∀(l k:List Tm) (m:Bd),bJ l=true->bJ k=true->aF k<=3999->fB k<=100->(∀b∈m,okB b)->∀b∈(cL l k m).1,okB b
 |[],k,m,_,_,_,_,hm=>by rw[Ci];exact hm
 |a::l,[],m,_,_,_,_,hm=>by
  have h2:cL (a::l) [] m=(m,true):=by rw[cL]<;>simp
  rw[h2];exact hm
 |a::l,b::k,m,hl,hk,hw,hd,hm=>by
  rw[bJ,Bool.and_eq_true]at hl hk
  rw[aF]at hw
  rw[fB]at hd
  have U:=QF a b m hl.1 hk.1 (by omega) (by omega) hm
  rw[cL]
  split
  ·exact Cj l k _ hl.2 hk.2 (by omega) (by omega) U
  ·exact U
end
theorem Jw:∀(c d:List Lt) (m m':Bd),c.all bO=true->d.all bO=true->bT d<=4000->dY d<=100->(∀b∈m,okB b)->dK c d m=some m'->∀b∈m',okB b
 |[],d,m,m',_,_,_,_,hm,h=>by rw[dK]at h;cases h;exact hm
 |x::c,d,m,m',hc,hd,hw,hp,hm,h=>by
  rw[List.all_cons,Bool.and_eq_true]at hc
  rw[yF]at h
  obtain⟨y,fW,hy⟩:=List.exists_of_findSome?_eq_some h
  rw[jA]at hy
  split at hy
  ·refine Jw c d _ m' hc.2 hd hw hp ?_ hy
   rw[fi]
   split
   ·have Pv:=List.all_eq_true.1 hd y fW
    have U:1+aF y.xs<=bT d:=QJ fW
    exact Cj x.xs y.xs m (oK hc.1) (oK Pv) (by omega) (Nat.le_trans (MJ fW) hp) hm
   ·exact hm
  ·cases hy
theorem Js:∀(c d:List Lt) (m m':Bd),dD d->(∀b∈m,aY b.2)->dK c d m=some m'->∀b∈m',aY b.2
 |[],d,m,m',_,hm,h=>by rw[dK]at h;cases h;exact hm
 |x::c,d,m,m',hd,hm,h=>by
  rw[yF]at h
  obtain⟨y,fW,hy⟩:=List.exists_of_findSome?_eq_some h
  rw[jA]at hy
  split at hy
  ·exact Js c d _ m' hd (Fg x y m (hd.2 y fW).2.2 hm) hy
  ·cases hy
theorem Tk {c:List Lt} {l:Lt} (h:l∈c):aF l.xs<=bT c:=by
 induction c with
 |nil=>cases h
 |cons x c ih=>
  rw[iq]
  rcases List.mem_cons.1 h with rfl|h
  ·omega
  ·have:=ih h;omega
theorem Sy (OA:∀m:Bd,eg m->(∀b∈m,aY b.2/\ck b.2=true)->m.length<=4000->al Tryz.prog 114 [.mp 0] (fY m) (fun r H'=>r=qD (ft [] m)/\H'=fY m))
  (c d:List Lt) (hc:dD c) (hd:dD d):aR Tryz.prog 42 [aV c,aV d] (.aK [qD (lu c d),Bv (j2 c d),Iv (jC c d)]):=by
 refine al.told (R:=fun r H'=>H'=[]/\(r= .aK [qD (lu c d),Bv (j2 c d),Iv (jC c d)]\/lu c d=[]/\r= .aK [gp,Bv (j2 c d),Iv (jC c d)])) ?_ (fun r H' ⟨hH,hr⟩=>⟨_,⟨hH,rfl⟩,by
  rcases hr with rfl|⟨hc,rfl⟩
  ·exact fun _ _ _ _ h=>h
  ·rw[hc]
   exact(show dW (.aK [gp,Bv (j2 c d),Iv (jC c d)]) (.aK [qD [],Bv (j2 c d),Iv (jC c d)]) from dW.aK (ct.wh (dW.im (gb.nil 4)) (ct.refl _)))⟩)
 refine al.walk [0,1,4,5,6,7,8,9,13,18,25] [] Tryz.func42 rfl Tryz.ntmps42 (by kernel_rfl) (by rfl) rfl fun W own I0 aw lay=>?_
 refine gO ?_
 refine AQ.fn (by kernel_rfl) rfl rfl rfl (pf c hc) rfl ?_
 refine sI ?_
 refine gO ?_
 refine AP.cond rfl rfl (fun U=>?_) (fun U=>?_)
 ·have U:bR 4 9 2 3 c≠0:=by simpa using U
  have hE:jC c d=bR 4 9 2 3 c:=by rw[jC,if_pos U]
  have hB:j2 c d=false:=by rw[j2,hE,decide_eq_false U,Bool.false_and]
  have hR:lu c d=[]:=by rw[lu,hE,if_neg U]
  refine gO ?_
  exact AE.a7 rfl ⟨rfl,rfl,rfl,trivial⟩ rfl ⟨rfl,.inr ⟨hR,by rw[hB,hE];rfl⟩⟩
 ·have U:¬bR 4 9 2 3 c≠0:=by simpa using U
  have wI:bR 4 9 2 3 c=0:=Classical.byContradiction U
  have hE:jC c d=bR 4 9 2 3 d:=by rw[jC,if_neg U]
  refine gO ?_
  refine AQ.fn (by kernel_rfl) rfl rfl rfl (pf d hd) rfl ?_
  refine sI ?_
  refine gO ?_
  refine AP.cond rfl rfl (fun h2=>?_) (fun h2=>?_)
  ·have h2:bR 4 9 2 3 d≠0:=by simpa using h2
   have hB:j2 c d=false:=by rw[j2,hE,decide_eq_false h2,Bool.false_and]
   have hR:lu c d=[]:=by rw[lu,hE,if_neg h2]
   refine gO ?_
   exact AE.a7 rfl ⟨rfl,rfl,rfl,trivial⟩ rfl ⟨rfl,.inr ⟨hR,by rw[hB,hE];rfl⟩⟩
  ·have nX:bR 4 9 2 3 d=0:=by simpa using h2
   have hB:j2 c d=(dK c d []).isSome:=by rw[j2,hE,nX];rfl
   have hR:lu c d=wi c d:=by rw[lu,hE,nX,if_pos rfl]
   have hn:=(nK wI).2.1
   have hs:=J2 c d [] hc hd List.nodup_nil (fun b hb=>by cases hb) (fun l hl=>Nat.le_trans (Tk hl) hn)
   refine gO ?_
   refine AQ.Cb (by kernel_rfl) ?_
   refine sI ?_
   refine gO ?_
   refine AQ.bE [(0,0)] (by kernel_rfl) rfl rfl rfl rfl rfl rfl (by refine⟨?_,trivial⟩;simp only[c7,AV.cy,AV.rn,ma];rfl) rfl hs fun r' H' ⟨e1,e2⟩=>?_
   subst e1;subst e2
   simp only[go_sem,Nat.reduceAdd,Nat.reduceLeDiff,Nat.reduceSub,Int.reduceToNat,reduceCtorEq,cK,dU,bZ,eN,fY]
   cases hk:dK c d []with
   |none=>
    rw[hk]at hB
    have Ae:lu c d=[]:=by rw[hR,wi,hk]
    refine gO ?_
    exact AE.bk [0] rfl ⟨rfl,rfl,rfl,trivial⟩ (by simp only[go_sem,Nat.reduceAdd,Nat.reduceLeDiff,Nat.reduceSub,Int.reduceToNat,reduceCtorEq,bW,noMen,AV.mens,AV.men,fK,Bool.or_false];first|done|rfl) ⟨rfl,.inr ⟨Ae,by rw[hB,hE,nX];rfl⟩⟩
   |some m=>
    rw[hk]at hB
    have Ae:lu c d=ft [] m:=by rw[hR,wi,hk]
    have hG:=Ju c d [] m hk
    have hl:=Jv c d [] m hk
    have hq:=OA m (hG.2 List.nodup_nil) (fun b hb=>⟨Js c d [] m hd (fun b hb=>by cases hb) hk b hb,(Jw c d [] m (List.all_eq_true.2 (nK wI).2.2.2) (List.all_eq_true.2 (nK nX).2.2.2) (nK nX).2.1 (nK nX).2.2.1 (fun b hb=>by cases hb) hk b hb).2.2.1⟩) (by simp at hl;omega)
    refine gO ?_
    simp only[go_sem,Nat.reduceAdd,Nat.reduceLeDiff,Nat.reduceSub,Int.reduceToNat,reduceCtorEq,Option.getD_some]
    refine AQ.bE [(0,0)] (by kernel_rfl) rfl rfl rfl rfl rfl rfl (by refine⟨?_,trivial⟩;simp only[c7,AV.cy,AV.rn,ma];rfl) rfl hq fun r' H' ⟨e1,e2⟩=>?_
    subst e1;subst e2
    simp only[go_sem,Nat.reduceAdd,Nat.reduceLeDiff,Nat.reduceSub,Int.reduceToNat,reduceCtorEq,cK,dU,bZ,eN,fY]
    refine gO ?_
    exact AE.bk [0] rfl ⟨rfl,rfl,rfl,trivial⟩ (by simp only[go_sem,Nat.reduceAdd,Nat.reduceLeDiff,Nat.reduceSub,Int.reduceToNat,reduceCtorEq,bW,noMen,AV.mens,AV.men,fK,Bool.or_false];first|done|rfl) ⟨rfl,.inl (by rw[hB,hE,Ae,nX];rfl)⟩

def ik (m:Bd):aa:=[(1,.var 158 [.mp 0]),(0,.var (.map (kI m)) (vT m))]
theorem PS (m:Bd):al Tryz.prog 174 [.mp 0] (fY m) (fun r H'=>r= .fn 213 [] [.ob 1 0]/\H'=ik m):=by
 refine al.walk [0,1,2] [0,1] Tryz.func174 rfl Tryz.ntmps174 (by kernel_rfl) (by rfl) rfl fun W own I0 aw lay=>?_
 simp only[go_sem,Nat.reduceAdd,Nat.reduceLeDiff,Nat.reduceSub,Int.reduceToNat,reduceCtorEq,fY]
 refine gO ?_
 exact AE.bk [] rfl ⟨rfl,trivial⟩ (by simp only[go_sem,Nat.reduceAdd,Nat.reduceLeDiff,Nat.reduceSub,Int.reduceToNat,reduceCtorEq,bW,noMen,AV.mens,AV.men,fK,Bool.or_false];first|done|rfl) ⟨rfl,rfl⟩
theorem Qg {m:Bd} (cn:eg m) {b:Int×Tm} (hb:b∈ft [] m):∃j:Nat,m[j]?=some b:=by
 have hp:(ft [] m).Perm m:=by have:=yL m [];rwa [List.nil_append]at this
 exact List.mem_iff_getElem?.1 (hp.mem_iff.1 hb)
theorem Qe (tY:∀m:Bd,eg m->m.length<=4000->al Tryz.prog 120 [.fn 213 [] [.ob 1 0]] (ik m) (fun r H'=>r= .im (.sl 1 (dp ((ft [] m).map (·.1))))/\H'=ik m))
  (m:Bd) (cn:eg m) (lO:∀b∈m,aY b.2/\ck b.2=true) (hl:m.length<=4000):al Tryz.prog 114 [.mp 0] (fY m) (fun r H'=>r=qD (ft [] m)/\H'=fY m):=by
 have hk:=PS m
 have hs:=tY m cn hl
 have lV:(ft [] m).length=m.length:=by rw[Sk];simp
 refine al.walk [0,2,3,5,8,9,10,11] [] Tryz.func114 rfl Tryz.ntmps114 (by kernel_rfl) (by rfl) rfl fun W own I0 aw lay=>?_
 simp only[go_sem,Nat.reduceAdd,Nat.reduceLeDiff,Nat.reduceSub,Int.reduceToNat,reduceCtorEq,fY]
 refine gO ?_
 refine AQ.bE [(0,0)] (by kernel_rfl) rfl rfl rfl rfl rfl rfl (by refine⟨?_,trivial⟩;simp only[c7,AV.cy,AV.rn,ma];rfl) rfl hk fun r' H' ⟨e1,e2⟩=>?_
 subst e1;subst e2
 simp only[go_sem,Nat.reduceAdd,Nat.reduceLeDiff,Nat.reduceSub,Int.reduceToNat,reduceCtorEq,cK,dU,bZ,eN,ik]
 refine AQ.bE [(1,2),(0,0)] (by kernel_rfl) rfl rfl rfl rfl rfl rfl (by refine⟨?_,?_,trivial⟩<;>(simp only[c7,AV.cy,AV.rn,ma];rfl)) rfl hs fun r' H' ⟨e1,e2⟩=>?_
 subst e1;subst e2
 simp only[go_sem,Nat.reduceAdd,Nat.reduceLeDiff,Nat.reduceSub,Int.reduceToNat,reduceCtorEq,cK,dU,bZ,eN,ik]
 refine gO ?_
 refine sE (an @iM @List.length_map.{0,0}) ?_
 refine AP.own 3 98 4 rfl ?_
 refine sI ?_
 have Vi:=lV
 generalize hS:ft [] m=l at*
 refine AP.loop rfl (α:=Nat) (fun k=>[(0,.mp 0),(3,.os 3 4 0 k),(8,.im (.sl 1 (dp (l.map (·.1))))),(9,Iv l.length),(10,Iv k)]) (fun k=>[(3,.vec 98 4 (jG (l.take k))),(2,.var 158 [.mp 0]),(0,.var (.map (kI m)) (vT m))]) (fun k=>k<=l.length) (fun k=>l.length-k) 0 (by omega) (sU) rfl fun k hk=>?_
 rcases Nat.eq_or_lt_of_le hk with aN|ag
 ·subst aN
  rw[List.take_length]
  refine gO ?_
  refine cF ?_
  refine gO ?_
  refine AE.freeze 3 (el:=98) (es:=4) (rows:=jG l) rfl (by simp only[go_sem,Nat.reduceAdd,Nat.reduceLeDiff,Nat.reduceSub,Int.reduceToNat,reduceCtorEq,mn];first|done|trivial|omega|(simp;done)|(simp;omega)) (by simp only[go_sem,Nat.reduceAdd,Nat.reduceLeDiff,Nat.reduceSub,Int.reduceToNat,reduceCtorEq,mn];first|done|trivial|omega|(simp;done)|(simp;omega)) ?_;simp only[go_sem,Nat.reduceAdd,Nat.reduceLeDiff,Nat.reduceSub,Int.reduceToNat,reduceCtorEq,mn]
  rw[LX _ _ (by omega)]
  exact AE.bk [2] rfl ⟨rfl,trivial⟩ (by simp only[go_sem,Nat.reduceAdd,Nat.reduceLeDiff,Nat.reduceSub,Int.reduceToNat,reduceCtorEq,bW,noMen,AV.mens,AV.men,fK,Bool.or_false];first|done|rfl) ⟨rfl,rfl⟩
 ·have hb:l[k]?=some l[k]:=List.getElem?_eq_getElem ag
  generalize l[k]=b at hb
  have hw:=wr (x:=(k:Int)+1) (by omega)
  have O2:=B8 hb
  have bc:=kK (l:=l) (k:=k) (by omega)
  have bx:=dV hb
  obtain⟨j,hj⟩:=Qg cn (b:=b) (by rw[hS];exact List.mem_of_getElem? hb)
  have FR:=lO b (List.mem_of_getElem? hj)
  have FX:=MA b.2 FR.1
  rw[Ei bn b.2 FR.2 fun v _=>rfl]at FX
  refine gO ?_
  refine cT ?_
  refine gE (an @O2 (an @iM @List.length_map.{0,0})) ?_
  refine AQ.uF j (by kernel_rfl) rfl rfl rfl qu u3 (iO _) rfl (List.mem_of_getElem? (show(kI m)[j]?=some (.int .i64 b.1) from ov hj)) (fun i hi=>ow cn (show m[j]?=some (b.1,b.2) from hj) hi) (show(vT m)[j]?=some (bD b.2) from Kw hj) ?_
  refine sI ?_
  refine AQ.fn (by kernel_rfl) rfl rfl rfl (FX) rfl ?_
  refine sI ?_
  refine gO ?_
  refine AQ.append (hnb:=rfl) (rows:=jG (l.take k)) (es:=3) (by kernel_rfl) rfl rfl rfl (by first|(simp only[go_sem,noMen,AV.mens,AV.men,Bool.or_false];done)|(simp only[go_sem,noMen,AV.mens,AV.men,Bool.or_false];rfl)) Tryz.SK Tryz.SD (by show Option.map _ (az Tryz.prog 98)=_;rw[Tryz.TG];rfl) Tryz.Ma (by first|rfl|(simp only[mn,bc,List.length_cons,List.length_nil];done)|(simp only[mn,bc,List.length_cons,List.length_nil];omega)) (by simp only[mn,bc,List.length_cons,List.length_nil];omega) (by simp only[mn,bc,List.length_cons,List.length_nil];omega) ?_
  simp only[go_sem,Nat.reduceAdd,Nat.reduceLeDiff,Nat.reduceSub,Int.reduceToNat,reduceCtorEq,mn,bc,LS,LU,<-bx]
  refine gE @hw ?_
  exact AE.round (k+1) (by omega) (by omega) (sU) rfl
end Go.Proofs.YtpfohmboflcneaaGreatDoor
end
section
namespace Go.Proofs
open Go.Shelf
def Tryz.P1:Go.Shelf.Ren:=⟨fun|189=>181|125=>216|257=>215|128=>239|129=>240|294=>230|295=>231|296=>232|297=>233|298=>234|299=>235|216=>236|300=>237|301=>238|328=>251|329=>252|330=>253|331=>254|332=>255|215=>229|343=>263|n=>n,fun|28=>46|3=>3|46=>295|0=>0|51=>312|53=>314|4=>4|183=>305|182=>304|131=>75|5=>5|9=>9|218=>326|222=>330|228=>342|229=>343|n=>n,fun|n=>n⟩
theorem Tryz.Hf:Go.Proofs.Lays.n189 Tryz.prog Tryz.P1:={
 mixed:=by kernel_rfl
 f125:=Tryz.func216.trans (congrArg some (by kernel_rfl))
 f128:=Tryz.func239.trans (congrArg some (by kernel_rfl))
 f129:=Tryz.func240.trans (congrArg some (by kernel_rfl))
 f189:=Tryz.func181.trans (congrArg some (by kernel_rfl))
 f215:=Tryz.func229.trans (congrArg some (by kernel_rfl))
 f216:=Tryz.func236.trans (congrArg some (by kernel_rfl))
 f257:=Tryz.func215.trans (congrArg some (by kernel_rfl))
 f294:=Tryz.func230.trans (congrArg some (by kernel_rfl))
 f295:=Tryz.func231.trans (congrArg some (by kernel_rfl))
 f296:=Tryz.func232.trans (congrArg some (by kernel_rfl))
 f297:=Tryz.func233.trans (congrArg some (by kernel_rfl))
 f298:=Tryz.func234.trans (congrArg some (by kernel_rfl))
 f299:=Tryz.func235.trans (congrArg some (by kernel_rfl))
 f300:=Tryz.func237.trans (congrArg some (by kernel_rfl))
 f301:=Tryz.func238.trans (congrArg some (by kernel_rfl))
 f328:=Tryz.func251.trans (congrArg some (by kernel_rfl))
 f329:=Tryz.func252.trans (congrArg some (by kernel_rfl))
 f330:=Tryz.func253.trans (congrArg some (by kernel_rfl))
 f331:=Tryz.func254.trans (congrArg some (by kernel_rfl))
 f332:=Tryz.func255.trans (congrArg some (by kernel_rfl))
 f343:=Tryz.func263.trans (congrArg some (by kernel_rfl))
 t0:=Tryz.underlying0
 a0:=Tryz.isAgg0
 z0:=Tryz.sizeOf0
 v0:=Tryz.zeroValue0
 t3:=Tryz.underlying3
 a3:=Tryz.isAgg3
 z3:=Tryz.sizeOf3
 v3:=Tryz.zeroValue3
 t4:=Tryz.underlying4
 a4:=Tryz.isAgg4
 z4:=Tryz.sizeOf4
 v4:=Tryz.zeroValue4
 t5:=Tryz.underlying5
 a5:=Tryz.isAgg5
 z5:=Tryz.sizeOf5
 v5:=Tryz.zeroValue5
 t9:=Tryz.underlying9
 a9:=Tryz.isAgg9
 z9:=Tryz.sizeOf9
 v9:=Tryz.zeroValue9
 t28:=Tryz.underlying46
 a28:=Tryz.isAgg46
 z28:=Tryz.sizeOf46
 v28:=Tryz.zeroValue46
 t46:=Tryz.underlying295
 a46:=Tryz.isAgg295
 z46:=Tryz.sizeOf295
 v46:=Tryz.zeroValue295
 t51:=Tryz.underlying312
 a51:=Tryz.isAgg312
 z51:=Tryz.sizeOf312
 v51:=Tryz.zeroValue312
 t53:=Tryz.underlying314
 a53:=Tryz.isAgg314
 z53:=Tryz.sizeOf314
 v53:=Tryz.zeroValue314
 t131:=Tryz.underlying75
 a131:=Tryz.isAgg75
 z131:=Tryz.sizeOf75
 v131:=Tryz.zeroValue75
 t182:=Tryz.underlying304
 a182:=Tryz.isAgg304
 z182:=Tryz.sizeOf304
 v182:=Tryz.zeroValue304
 t183:=Tryz.underlying305
 a183:=Tryz.isAgg305
 z183:=Tryz.sizeOf305
 v183:=Tryz.zeroValue305
 t218:=Tryz.underlying326
 a218:=Tryz.isAgg326
 z218:=Tryz.sizeOf326
 v218:=Tryz.zeroValue326
 t222:=Tryz.underlying330
 a222:=Tryz.isAgg330
 z222:=Tryz.sizeOf330
 v222:=Tryz.zeroValue330
 t228:=Tryz.underlying342
 a228:=Tryz.isAgg342
 z228:=Tryz.sizeOf342
 v228:=Tryz.zeroValue342
 t229:=Tryz.underlying343
 a229:=Tryz.isAgg343
 z229:=Tryz.sizeOf343
 v229:=Tryz.zeroValue343}
open Go.Sort Go.RowKit in
theorem Tryz.slices_Sort_int (dn off cap:Nat) (zs:List Int) (w:World) (hH:Holds (Value.int .i64) w dn off zs.toArray) (NY:dn<w.heap.size) (aO:zs.length<4611686018427387904):
  Calls Tryz.prog 181 #[.slice (some ⟨dn,off,none⟩) zs.length cap] w fun e w'=>
   e= .returned (.tuple #[])/\∃n os,w'=grow (putRow (Value.int .i64) (Sort.ahead w n) dn off (zs.mergeSort fun x y=>decide (x<=y)).toArray) os:=Any.slices_Sort_int Tryz.Hf dn off cap zs w hH NY aO
#check @Go.Proofs.Any.slices_Sort_int
end Go.Proofs
end
section
namespace Go.Proofs
open Go.Shelf
open Go.RowKit Go.Sort in
theorem Tryz.slices_Sort_int_none (p:Option Addr) (cap:Nat) (w:World):
  Calls Tryz.prog 181 #[.slice p 0 cap] w fun e w'=>e= .returned (.tuple #[])/\w'=w:=Any.slices_Sort_int_none Tryz.Hf p cap w
end Go.Proofs
namespace Go.Proofs.YtpfohmboflcneaaGreatDoor
open Go Go.AL Go.RowKit Go.Shelf Go.Sort
set_option maxRecDepth 10000
set_option maxHeartbeats 4000000
abbrev lr (l:List Int):List Int:=l.mergeSort fun x y=>decide (x<=y)
theorem JQ (l:List Int):(lr l).length=l.length:=List.length_mergeSort l
theorem encI:vp (fun z:Int=>Value.int .i64 z) (fun z:Int=>Ii z):=⟨fun h=>h.1,⟨rfl,rfl⟩⟩
theorem RR {w:World} {φ:ak} {I:Nat->Prop} {el:TypeId} {l:List Int} (hR:Real w φ I [(0,.vec el 1 (dp l))]) {g:Nat} (hg:φ 0=some (some g)):Sort.Holds (Value.int .i64) w g 0 l.toArray/\g<w.heap.size:=by
 have aH:=hR.own 0 _ (some g) rfl hg
 simp only[Ob.at]at aH
 rcases aH with⟨U,_⟩|⟨g',ae,rest,e,hh,hd,_⟩
 ·cases U
 cases e
 have c_:=zX encI l ae hd
 rw[c_]at hh
 refine⟨fun j hj=>?_,(hR.off 0 g hg).2⟩
 have hj:j<l.length:=by simpa using hj
 rw[Nat.zero_add]
 constructor
 ·rw[World.cell?,hh]
  show((l.map fun z=>Value.int .i64 z)++rest).toArray[j]?=_
  rw[List.getElem?_toArray,List.getElem?_append_left (by simpa using hj),List.getElem?_map,List.getElem?_eq_getElem hj]
  simp[hj]
 ·simp[World.frozen?,hh]
theorem Sg (l:List Int) (hl:l.length<4611686018427387904):al Tryz.prog 181 [.os 0 1 0 l.length] [(0,.vec 3 1 (dp l))] (fun r H'=>r= .aK []/\H'=[(0,.vec 3 1 (dp (lr l)))]):=by
 refine⟨by rfl,fun w φ I vs hd hR hV=>?_⟩
 simp only[AV.ab,AV.den]at hd
 obtain⟨u,us,rfl,h,rfl⟩:=hd
 rcases h with⟨aq,_,hn,rfl⟩|⟨g,c,aq,rfl,_⟩
 ·have iF:=List.eq_nil_of_length_eq_zero hn
  subst iF
  refine(Tryz.slices_Sort_int_none none 0 w).mono fun e w' ⟨he,hw⟩=>?_
  subst hw
  exact⟨.aK [],_,φ,I,_,⟨rfl,rfl⟩,he,⟨[],rfl,rfl⟩,by rw[show lr []=[] by simp[lr]];exact oN hR _⟩
 ·obtain⟨hH,ag⟩:=RR hR aq
  rw[Nat.zero_mul]
  refine(Tryz.slices_Sort_int g 0 c l w hH ag hl).mono fun e w' ⟨he,n,os,hw⟩=>?_
  subst hw
  exact⟨.aK [],_,φ,I,_,⟨rfl,rfl⟩,he,⟨[],rfl,rfl⟩,St.Rz encI hR aq (JQ l) n os⟩
theorem PR {m:Bd} (cn:eg m) {ks:List Int} (hp:ks.Perm (m.map (·.1))):lr ks=(ft [] m).map (·.1):=by
 have hq:(ft [] m).Perm m:=by have:=yL m [];rwa [List.nil_append]at this
 have hs:=JP m [] (by rw[List.nil_append];exact cn) List.Pairwise.nil
 have U:(lr ks).Perm (m.map (·.1)):=(List.mergeSort_perm ks _).trans hp
 have h2:(lr ks).Pairwise (fun x y=>decide (x<=y)=true):=List.pairwise_mergeSort (fun a b c h k=>by simp at h k⊢;omega) (fun a b=>by simp;omega) ks
 have h3:(lr ks).Nodup:=U.symm.nodup cn
 refine JM _ _ ?_ (List.pairwise_map.2 hs) fun v=>?_
 ·refine(List.Pairwise.and h2 h3).imp fun{a b} h=>?_
  have h4:a<=b:=by simpa using h.1
  have:=h.2
  omega
 ·rw[U.mem_iff,(hq.map (·.1)).mem_iff]
end Go.Proofs.YtpfohmboflcneaaGreatDoor
end
section
namespace Go.Proofs.YtpfohmboflcneaaGreatDoor
open Go Go.AL Go.RowKit
set_option maxRecDepth 10000
set_option maxHeartbeats 4000000
noncomputable def mr (l:Nat) (st:fP):Ob:= .lp l 13 st Tryz.f214 [0,1,0,1] [7] [(2,.ob 2 0)]
noncomputable def qL (l:Nat) (m:Bd) (acc:List Int):aa:=[(5,mr l .ready),(4,.vec 3 1 (dp acc)),(2,.var 46 [.os 4 1 0 acc.length]),(1,.var 158 [.mp 0]),(0,.var (.map (kI m)) (vT m))]
noncomputable def pj (l:Nat) (m:Bd) (bs:List Nat) (clock:Nat) (seen:List Nat) (acc:List Int):aa:=[(3,.var (.raw (iN clock seen clock)) [.mp 0]),(5,mr l .ready),(4,.vec 3 1 (dp acc)),(2,.var 46 [.os 4 1 0 acc.length]),(1,.var 158 [.mp 0]),(0,.var (.raw (jv (kI m) bs clock)) (vT m))]
theorem Mu (l:Nat) (m:Bd) (bs:List Nat) (clock:Nat) (seen:List Nat) (acc:List Int) (v:Int) (hx:acc.length<=1000000):fx Tryz.prog 4 l [Iv v] (pj l m bs clock seen acc) (fun r H'=>r=Bv true/\H'=pj l m bs clock seen (acc++[v])):=by
 refine fx.walk (b:=5) [2,5,7,8,9,10,11] [] rfl rfl rfl fun w own I0 aw lay=>?_
 simp only[go_sem,Nat.reduceAdd,Nat.reduceLeDiff,Nat.reduceSub,Int.reduceToNat,reduceCtorEq,mf,pj,mr]
 refine gO ?_
 refine AE.begin (b:=5) rfl rfl _ ?_
 refine sI ?_
 refine gO ?_
 refine AQ.kill 4 ?_
 refine sI ?_
 refine AQ.append (hnb:=rfl) (rows:=dp acc) (es:=0) (by kernel_rfl) rfl rfl rfl (by first|(simp only[go_sem,noMen,AV.mens,AV.men,Bool.or_false];done)|(simp only[go_sem,noMen,AV.mens,AV.men,Bool.or_false];rfl)) Tryz.J9 Tryz.J4 (by show Option.map _ (az Tryz.prog 3)=_;rw[Tryz.KX];rfl) Tryz.D6 (by first|rfl|(simp only[iM,List.length_cons,List.length_nil];done)|(simp only[iM,List.length_cons,List.length_nil];omega)) (by simp only[iM,List.length_cons,List.length_nil];omega) (by simp only[iM,List.length_cons,List.length_nil];omega) ?_
 refine sE (an @iM (an @G2 @G3)) ?_
 refine gO ?_
 refine AE.r7 (b:=5) rfl ⟨rfl,?_⟩
 simp only[go_sem,Nat.reduceAdd,Nat.reduceLeDiff,Nat.reduceSub,Int.reduceToNat,reduceCtorEq,pj,mr,List.length_append,List.length_singleton]
def oz (m:Bd) (js:List Nat):List Int:=js.map fun j=>(m.getD j (0,.mk [] 0 [])).1
def u7 (bs:List Nat) (js:List Nat):List Nat:=js.map fun j=>bs.getD j 0
theorem PO {m:Bd} {js:List Nat} (U:js.Nodup) (h2:∀j∈js,j<m.length) (h3:∀j,j<m.length->j∈js):(oz m js).Perm (m.map (·.1)):=by
 have hp:js.Perm (List.range m.length):=(List.perm_ext_iff_of_nodup U List.nodup_range).2 fun j=>by rw[List.mem_range];exact⟨h2 j,h3 j⟩
 refine(hp.map _).trans ?_
 have:(List.range m.length).map (fun j=>(m.getD j (0,.mk [] 0 [])).1)=m.map (·.1):=by
  apply List.ext_getElem (by simp)
  intro i h4 h5
  have h6:i<m.length:=by simpa using h5
  simp[List.getElem?_eq_getElem h6]
 rw[this]
theorem PQ (l:Nat) (m:Bd) (hm:m.length<=4000):gX Tryz.prog 3 213 [Yl l,.ob 1 0] (qL l m []) (fun _ H'=>∃ks:List Int,ks.Perm (m.map (·.1))/\H'=qL l m ks):=by
 refine gX.walk [0,1,3,5,7,13] [] Tryz.func213 rfl Tryz.ntmps213 (by kernel_rfl) (by rfl) fun W own I0 aw lay=>?_
 simp only[go_sem,Nat.reduceAdd,Nat.reduceLeDiff,Nat.reduceSub,Int.reduceToNat,reduceCtorEq,qL,mr]
 refine gO ?_
 refine AQ.HU (by kernel_rfl) rfl rfl qu fun bs clock bz=>?_
 have ca:(vT m).length=bs.length:=by rw[<-bz.len,Kx,xP]
 have Vd:bs.length=m.length:=by rw[<-ca,Kx]
 have ku:=He m
 refine sI ?_
 refine gO ?_
 refine AP.rename 6 3 rfl rfl rfl ?_
 refine sI ?_
 refine AP.loop rfl (α:=List Nat) (fun _=>[(0,Yl l),(5,.ob 3 0)]) (fun js=>pj l m bs clock (u7 bs js) (oz m js)) (fun js=>js.Nodup/\∀j∈js,j<m.length) (fun js=>m.length-js.length) [] ⟨List.nodup_nil,fun _ h=>by cases h⟩ (sU) rfl fun js ⟨hn,hj⟩=>?_
 have kn:js.length<=m.length:=by
  have:=(List.Nodup.length_le_of_subset hn (fun j h=>List.mem_range.2 (hj j h)):js.length<=(List.range m.length).length)
  simpa using this
 simp only[go_sem,Nat.reduceAdd,Nat.reduceLeDiff,Nat.reduceSub,Int.reduceToNat,reduceCtorEq,pj,mr]
 refine gO ?_
 refine AQ.HS (by kernel_rfl) rfl rfl rfl bz rfl rfl ku ca (fun gz=>?_) (fun j n key y e6 ru pO hy=>?_)
 ·refine sI ?_
  refine gO ?_
  refine AE.lY 0 rfl bz ca ?_
  refine sI ?_
  exact AE.MW [3] rfl trivial (by simp only[go_sem,Nat.reduceAdd,Nat.reduceLeDiff,Nat.reduceSub,Int.reduceToNat,reduceCtorEq,bW,noMen,AV.mens,AV.men,fK,Bool.or_false];first|done|rfl) ⟨oz m js,PO hn hj fun j h=>by
   have:=gz (bs.getD j 0) (by rw[List.getD_eq_getElem?_getD,List.getElem?_eq_getElem (by omega)];exact List.getElem_mem _)
   obtain⟨i,hi,e⟩:=List.mem_map.1 this
   have F8:=hj i hi
   rw[List.getD_eq_getElem?_getD,List.getElem?_eq_getElem (by omega:i<bs.length),List.getD_eq_getElem?_getD,List.getElem?_eq_getElem (by omega:j<bs.length)]at e
   have:=(List.getElem_inj bz.nd).1 e
   exact this▸hi,rfl⟩
 ·obtain⟨p,hp,rfl⟩:=BO pO
  have jh:=(List.getElem?_eq_some_iff.1 hp).1
  have tD:j∉js:=fun h=>ru (List.mem_map.2 ⟨j,h,by rw[List.getD_eq_getElem?_getD,e6];rfl⟩)
  have e1:u7 bs js++[n]=u7 bs (js++[j]):=by simp[u7,e6]
  have e2:oz m js++[p.1]=oz m (js++[j]):=by simp[oz,hp]
  have hr:=Mu l m bs clock (u7 bs (js++[j])) (oz m js) p.1 (by rw[oz,List.length_map];omega)
  rw[e2]at hr
  refine sI ?_
  refine gO ?_
  refine AQ.HR (by kernel_rfl) rfl rfl rfl bz ku ca e6 pO hy ?_
  refine sI ?_
  refine gO ?_
  refine AQ.vl 4 rfl (by kernel_rfl) rfl ⟨rfl,rfl⟩ rfl rfl (by rw[e1];exact hr) (fun r H' h=>by rw[h.2];exact dT.of _ _ _ rfl) fun r H' h=>?_
  obtain⟨rfl,rfl⟩:=h
  simp only[go_sem,Nat.reduceAdd,Nat.reduceLeDiff,Nat.reduceSub,Int.reduceToNat,reduceCtorEq,pj,mr]
  refine AQ.go (by kernel_rfl) ?_
  refine gO ?_
  have mK:(js++[j]).Nodup:=List.nodup_append.2 ⟨hn,List.pairwise_singleton ..,fun a ha b hb=>by rw[List.mem_singleton.1 hb];exact fun e=>tD (e▸ha)⟩
  have ic:∀i∈js++[j],i<m.length:=fun i hi=>by
   rcases List.mem_append.1 hi with hi|hi
   ·exact hj i hi
   ·rw[List.mem_singleton.1 hi];exact jh
  have fm:(js++[j]).length<=m.length:=by
   have:=(List.Nodup.length_le_of_subset mK (fun j h=>List.mem_range.2 (ic j h)):(js++[j]).length<=(List.range m.length).length)
   simpa using this
  exact AE.round (js++[j]) ⟨mK,ic⟩ (by rw[List.length_append,List.length_singleton]at*;omega) (sU) rfl
theorem Mw (m:Bd) (hm:m.length<=4000):al Tryz.prog 214 [gp,.fn 213 [] [.ob 1 0]] (ik m) (fun r H'=>∃ks:List Int,ks.Perm (m.map (·.1))/\r= .os 4 1 0 ks.length/\H'=(4,.vec 3 1 (dp ks))::ik m):=by
 refine al.walk [0,1,2,4,5,6,7] [2] Tryz.func214 rfl Tryz.ntmps214 (by kernel_rfl) (by rfl) rfl fun W own I0 aw lay=>?_
 simp only[go_sem,Nat.reduceAdd,Nat.reduceLeDiff,Nat.reduceSub,Int.reduceToNat,reduceCtorEq,ik]
 refine gO ?_
 refine AP.iu 2 0 3 1 rfl rfl ?_
 refine sI ?_
 refine AP.rename 3 4 rfl rfl rfl ?_
 refine sI ?_
 refine AP.yw 3 0 5 [(2,.ob 2 0)] (R:=fun l _ H'=>∃ks:List Int,ks.Perm (m.map fun p:Int×Tm=>p.1)/\H'=qL l m ks) rfl rfl (by kernel_rfl) (sU) rfl rfl (fun l=>PQ l m hm) (fun l r H' hR=>?_)
 obtain⟨ks,hk,rfl⟩:=hR
 refine⟨dT.of _ _ _ rfl,.ready,_,rfl,by simp only[go_sem,Nat.reduceAdd,Nat.reduceLeDiff,Nat.reduceSub,Int.reduceToNat,reduceCtorEq,qL,mr,noMen,AV.mens,AV.men,fK,Bool.or_false];first|done|rfl,?_⟩
 simp only[go_sem,Nat.reduceAdd,Nat.reduceLeDiff,Nat.reduceSub,Int.reduceToNat,reduceCtorEq,qL,mr]
 refine gO ?_
 exact AE.bk [2] rfl ⟨rfl,trivial⟩ (by simp only[go_sem,Nat.reduceAdd,Nat.reduceLeDiff,Nat.reduceSub,Int.reduceToNat,reduceCtorEq,bW,noMen,AV.mens,AV.men,fK,Bool.or_false];first|done|rfl) ⟨ks,hk,rfl,rfl⟩
theorem Mv (m:Bd) (hm:m.length<=4000):al Tryz.prog 180 [.fn 213 [] [.ob 1 0]] (ik m) (fun r H'=>∃ks:List Int,ks.Perm (m.map (·.1))/\r= .os 6 1 0 ks.length/\H'=(6,.vec 3 1 (dp ks))::ik m):=by
 refine al.walk [0,2] [] Tryz.func180 rfl Tryz.ntmps180 (by kernel_rfl) (by rfl) rfl fun W own I0 aw lay=>?_
 simp only[go_sem,Nat.reduceAdd,Nat.reduceLeDiff,Nat.reduceSub,Int.reduceToNat,reduceCtorEq,ik]
 refine gO ?_
 refine AQ.bE [(1,1),(0,0)] (by kernel_rfl) rfl rfl rfl rfl rfl rfl (by refine⟨?_,?_,trivial⟩<;>(simp only[c7,AV.cy,AV.rn,ma];rfl)) rfl (Mw m hm) fun r' H' ⟨ks,hk,e1,e2⟩=>?_
 subst e1;subst e2
 simp only[go_sem,Nat.reduceAdd,Nat.reduceLeDiff,Nat.reduceSub,Int.reduceToNat,reduceCtorEq,cK,dU,bZ,eN,ik]
 refine gO ?_
 exact AE.bk [] rfl ⟨rfl,trivial⟩ (by simp only[go_sem,Nat.reduceAdd,Nat.reduceLeDiff,Nat.reduceSub,Int.reduceToNat,reduceCtorEq,bW,noMen,AV.mens,AV.men,fK,Bool.or_false];first|done|rfl) ⟨ks,hk,rfl,rfl⟩
theorem Sj (m:Bd) (cn:eg m) (hm:m.length<=4000):al Tryz.prog 120 [.fn 213 [] [.ob 1 0]] (ik m) (fun r H'=>r= .im (.sl 1 (dp ((ft [] m).map (·.1))))/\H'=ik m):=by
 refine al.walk [0,2,3] [] Tryz.func120 rfl Tryz.ntmps120 (by kernel_rfl) (by rfl) rfl fun W own I0 aw lay=>?_
 simp only[go_sem,Nat.reduceAdd,Nat.reduceLeDiff,Nat.reduceSub,Int.reduceToNat,reduceCtorEq,ik]
 refine gO ?_
 refine AQ.bE [(1,1),(0,0)] (by kernel_rfl) rfl rfl rfl rfl rfl rfl (by refine⟨?_,?_,trivial⟩<;>(simp only[c7,AV.cy,AV.rn,ma];rfl)) rfl (Mv m hm) fun r' H' ⟨ks,hk,e1,e2⟩=>?_
 subst e1;subst e2
 have Ge:ks.length<=4000:=by rw[hk.length_eq,List.length_map];exact hm
 have rz:=PR cn hk
 simp only[go_sem,Nat.reduceAdd,Nat.reduceLeDiff,Nat.reduceSub,Int.reduceToNat,reduceCtorEq,cK,dU,bZ,eN,ik]
 refine gO ?_
 refine AQ.bE [(0,8)] (by kernel_rfl) rfl rfl rfl rfl rfl rfl (by exact⟨rfl,trivial⟩) rfl (Sg ks (by omega)) ?_
 rintro r H1 ⟨rfl,rfl⟩
 refine⟨rfl,?_⟩
 refine sH ?_
 refine gO ?_
 have Gf:(dp (lr ks)).length=ks.length:=by rw[iM,JQ]
 refine AE.freeze 8 (el:=3) (es:=1) (rows:=dp (lr ks)) rfl (by simp[go_sem,Gf]) (by simp[go_sem,Gf]) ?_
 refine sI ?_
 rw[show List.take ks.length (dp (lr ks))=dp ((ft [] m).map (·.1)) by rw[List.take_of_length_le (by omega),rz]]
 exact AE.bk [] rfl ⟨rfl,trivial⟩ (by simp only[go_sem,Nat.reduceAdd,Nat.reduceLeDiff,Nat.reduceSub,Int.reduceToNat,reduceCtorEq,bW,noMen,AV.mens,AV.men,fK,Bool.or_false];first|done|rfl) ⟨rfl,rfl⟩
theorem Qd (m:Bd) (cn:eg m) (lO:∀b∈m,aY b.2/\ck b.2=true) (hl:m.length<=4000):al Tryz.prog 114 [.mp 0] (fY m) (fun r H'=>r=qD (ft [] m)/\H'=fY m):=
 Qe (fun m U h2=>Sj m U h2) m cn lO hl
end Go.Proofs.YtpfohmboflcneaaGreatDoor
end
section
namespace Go.Proofs.YtpfohmboflcneaaGreatDoor
open Go
def dr:Bool->List UInt8->Option Bool
 |p,[]=>some p
 |p,c::l=>if c=32 then(if p then none else dr true l)else dr false l
theorem lq:∀(a b:List UInt8) (p:Bool),dr p (a++b)=(dr p a).bind fun q=>dr q b
 |[],_,_=>rfl
 |c::a,b,p=>by
  rw[List.cons_append,dr,dr]
  split
  ·split
   ·rfl
   ·exact lq a b true
  ·exact lq a b false
theorem CV:∀(l:List UInt8) (p:Bool),(∀c∈l,c≠32)->dr p l=some (if l=[]then p else false)
 |[],_,_=>rfl
 |c::l,p,h=>by
  rw[dr,if_neg (h c (by simp)),CV l false fun d hd=>h d (by simp[hd]),if_neg (by simp:¬c::l=[])]
  split<;>rfl
theorem CU:∀(l:List UInt8) (p:Bool),dr p l≠none->Lib.index l [32,32]=-1/\(p=true->∀c r,l=c::r->c≠32)
 |[],_,_=>⟨rfl,fun _ _ _ h=>by cases h⟩
 |c::l,p,h=>by
  rw[dr]at h
  by_cases hc:c=32
  ·subst hc
   rw[if_pos rfl]at h
   cases p with
   |true=>exact absurd (if_pos rfl) h
   |false=>
    rw[if_neg (by simp)]at h
    obtain⟨U,h2⟩:=CU l true h
    refine⟨?_,fun e=>by cases e⟩
    rw[Lib.index,U]
    have:([32,32]:List UInt8).isPrefixOf (32::l)=false:=by
     cases l with
     |nil=>rfl
     |cons d r=>
      have:=h2 rfl d r rfl
      simp only[List.isPrefixOf,beq_self_eq_true,Bool.true_and,Bool.and_true,beq_eq_false_iff_ne]
      exact fun e=>this e.symm
    rw[this];rfl
  ·rw[if_neg hc]at h
   obtain⟨U,_⟩:=CU l false h
   refine⟨?_,fun _ d r e=>by cases e;exact hc⟩
   rw[Lib.index,U]
   have:([32,32]:List UInt8).isPrefixOf (c::l)=false:=by
    simp only[List.isPrefixOf,Bool.and_eq_false_iff,beq_eq_false_iff_ne]
    exact .inl fun e=>hc e.symm
   rw[this];rfl
theorem PF {b:Bool} {c:UInt8} (h:fp c b=true):c≠32:=fun e=>by
 subst e
 cases b<;>exact absurd h (by decide)
theorem H_:∀(l:List UInt8) (b:Bool),jy b l=true->∀c∈l,c≠32
 |[],_,_,_,hc=>by cases hc
 |d::l,b,h,c,hc=>by
  rw[jy,Bool.and_eq_true]at h
  rcases List.mem_cons.1 hc with rfl|hc
  ·exact PF h.1
  ·exact H_ l false h.2 c hc
theorem Cu {n:List UInt8} (h:dq n=true) (p:Bool):dr p n=some false:=by
 rw[dq,Bool.and_eq_true,Bool.and_eq_true]at h
 rw[CV n p (H_ n true h.2),if_neg (by simpa using h.1.1)]
theorem PJ {i:Int} (h:0<=i):∀c∈Lib.itoa i,c≠32:=fun c hc=>by
 obtain⟨n,rfl⟩:=Int.eq_ofNat_of_zero_le h
 rw[Lib.itoa_nonneg]at hc
 have:=(wj n).2.1 c (by simpa using hc)
 intro e
 subst e
 exact absurd this (by decide)
mutual
theorem uU:∀(t:Tm) (p:Bool),ck t=true->dr p (bq false t)=some false
 | .mk n i xs,p,h=>by
  rw[ck]at h
  rw[bq]
  by_cases hn:n=[]
  ·rw[if_pos hn]at h⊢
   simp only[Bool.and_eq_true,decide_eq_true_eq]at h
   rw[dr,if_neg (by decide)]
   rw[if_neg (by simp),CV _ _ (PJ h.2.1)]
   split<;>rfl
  ·rw[if_neg hn]at h⊢
   simp only[Bool.and_eq_true]at h
   rw[lq,Cu h.1.1,Option.bind_some,CT xs h.2]
theorem CT:∀(l:List Tm),bJ l=true->dr false (cq false l)=some false
 |[],_=>by rw[cq];rfl
 |t::l,h=>by
  rw[bJ,Bool.and_eq_true]at h
  rw[cq,dr,if_neg (by decide),lq,uU t _ h.1,Option.bind_some,I9 l h.2]
theorem I9:∀(l:List Tm),bJ l=true->dr false (du false l)=some false
 |[],_=>by rw[du];rfl
 |t::l,h=>by
  rw[bJ,Bool.and_eq_true]at h
  rw[du,dr,if_neg (by decide),dr,if_pos rfl,if_neg (by simp),lq,uU t _ h.1,Option.bind_some,I9 l h.2]
end
theorem I8 {l:Lt} (h:bO l=true) (p:Bool):dr p (cR false l)=some false:=by
 rw[bO]at h
 rw[cR]
 by_cases hp:l.pd=[61]
 ·rw[if_pos hp]at h⊢
  rw[Bool.and_eq_true,decide_eq_true_eq]at h
  obtain⟨ng,pd,xs⟩:=l
  match xs,h with
  |[a,b],h=>
   have h2:bJ [a,b]=true:=h.2
   clear h
   simp only[bJ,Bool.and_eq_true]at h2
   show dr p (bq false a++(ka ng++bq false b))=_
   rw[lq,uU a p h2.1,Option.bind_some,lq]
   cases ng
   ·show(dr false [32,61,32]).bind _=_
    rw[show dr false [32,61,32]=some true from rfl,Option.bind_some,uU b _ h2.2.1]
   ·show(dr false [32,33,61,32]).bind _=_
    rw[show dr false [32,33,61,32]=some true from rfl,Option.bind_some,uU b _ h2.2.1]
 ·rw[if_neg hp]at h⊢
  rw[Bool.and_eq_true]at h
  cases rq:l.ng
  ·simp only[Bool.false_eq_true,if_false,List.nil_append]
   rw[lq,Cu h.1,Option.bind_some,CT _ h.2]
  ·simp only[if_true,List.cons_append,List.nil_append]
   rw[dr,if_neg (by decide),lq,Cu h.1,Option.bind_some,CT _ h.2]
theorem I_:∀(c:List Lt),c.all bO=true->dr false (dM false c)=some false
 |[],_=>by rw[dM];rfl
 |l::c,h=>by
  rw[List.all_cons,Bool.and_eq_true]at h
  rw[dM,dr,if_pos rfl,if_neg (by simp),dr,if_neg (by decide),dr,if_pos rfl,if_neg (by simp),lq,I8 h.1,Option.bind_some,I_ c h.2]
theorem SR {c:List Lt} (h:c.all bO=true):Lib.contains (fu false c) [32,32]=false:=by
 have:Lib.index (fu false c) [32,32]=-1:=by
  refine(CU _ false ?_).1
  cases c with
  |nil=>rw[fu];decide
  |cons l c=>
   rw[List.all_cons,Bool.and_eq_true]at h
   rw[fu,lq,I8 h.1,Option.bind_some,I_ c h.2];simp
 rw[Lib.contains,this];rfl
end Go.Proofs.YtpfohmboflcneaaGreatDoor
end
section
namespace Go.Proofs
open Go.Shelf
def Tryz.P0:Go.Shelf.Ren:=⟨fun|144=>54|143=>128|219=>185|217=>217|225=>218|224=>219|267=>220|266=>241|314=>242|n=>n,fun|9=>9|4=>4|3=>3|5=>5|46=>295|146=>315|51=>312|n=>n,fun|1=>0|n=>n⟩
theorem Tryz.PZ:Go.Proofs.Lays.n144 Tryz.prog Tryz.P0:={
 mixed:=by kernel_rfl
 f143:=Tryz.func128.trans (congrArg some (by kernel_rfl))
 f144:=Tryz.func54.trans (congrArg some (by kernel_rfl))
 f217:=Tryz.func217.trans (congrArg some (by kernel_rfl))
 f219:=Tryz.func185.trans (congrArg some (by kernel_rfl))
 f224:=Tryz.func219.trans (congrArg some (by kernel_rfl))
 f225:=Tryz.func218.trans (congrArg some (by kernel_rfl))
 f266:=Tryz.func241.trans (congrArg some (by kernel_rfl))
 f267:=Tryz.func220.trans (congrArg some (by kernel_rfl))
 f314:=Tryz.func242.trans (congrArg some (by kernel_rfl))
 t3:=Tryz.underlying3
 a3:=Tryz.isAgg3
 z3:=Tryz.sizeOf3
 v3:=Tryz.zeroValue3
 t4:=Tryz.underlying4
 a4:=Tryz.isAgg4
 z4:=Tryz.sizeOf4
 v4:=Tryz.zeroValue4
 t5:=Tryz.underlying5
 a5:=Tryz.isAgg5
 z5:=Tryz.sizeOf5
 v5:=Tryz.zeroValue5
 t9:=Tryz.underlying9
 a9:=Tryz.isAgg9
 z9:=Tryz.sizeOf9
 v9:=Tryz.zeroValue9
 t46:=Tryz.underlying295
 a46:=Tryz.isAgg295
 z46:=Tryz.sizeOf295
 v46:=Tryz.zeroValue295
 t51:=Tryz.underlying312
 a51:=Tryz.isAgg312
 z51:=Tryz.sizeOf312
 v51:=Tryz.zeroValue312
 t146:=Tryz.underlying315
 a146:=Tryz.isAgg315
 z146:=Tryz.sizeOf315
 v146:=Tryz.zeroValue315
 g1:=by kernel_rfl}
open Go.RowKit Go.Lib in
theorem Tryz.strings_Contains (s sub:ByteArray) (m:Int) (w:World) (hs:s.size<4294967281) (hm:w.cell? ⟨0,0,none⟩=some (.int .i64 m)):
  Calls Tryz.prog 54 #[.string s,.string sub] w fun e w'=>e= .returned (.bool (Lib.contains s.data.toList sub.data.toList))/\w'=w:=Any.strings_Contains Tryz.PZ s sub m w hs hm
end Go.Proofs
namespace Go.Proofs.YtpfohmboflcneaaGreatDoor
open Go Go.AL Go.RowKit
set_option maxRecDepth 10000
set_option maxHeartbeats 4000000
theorem Mz (l p:List UInt8) (hl:l.length<4294967281):aR Tryz.prog 54 [Sv l,Sv p] (Bv (Lib.contains l p)):=by
 refine aR.yl (by rfl) rfl fun w φ I vs hd hI hV=>?_
 simp only[AV.ab]at hd
 obtain⟨u,us,rfl,hu,u2,yW,rfl,od,rfl⟩:=hd
 rw[jd]at hu od
 subst hu;subst od
 obtain⟨g,o,hg,ho,m,cs,T,fz,rfl,hm⟩:=yY (n:= "internal/bytealg.MaxLen") hV (by simp only[oB,List.mem_cons];exact .inr (.inr (.inr (.inl rfl)))) (by rfl)
 have e:g=0:=by rw[show Tryz.prog.globalNamed "internal/bytealg.MaxLen" =some 0 by kernel_rfl]at hg;exact(Option.some.inj hg).symm
 subst e
 have hb:∀l:List UInt8,(BA l).data.toList=l:=o3
 refine(Tryz.strings_Contains (BA l) (BA p) m w (by show l.toArray.size<_;simpa using hl) (by simp[World.cell?,ho,hm])).mono fun e w' ⟨he,hw⟩=>⟨_,he,?_,?_⟩
 ·rw[hb,hb];exact⟨rfl,rfl⟩
 ·subst hw;exact Below.refl _ _
end Go.Proofs.YtpfohmboflcneaaGreatDoor
end
section
namespace Go.Proofs.YtpfohmboflcneaaGreatDoor
open Go Go.AL Go.RowKit
set_option maxRecDepth 10000
set_option maxHeartbeats 4000000
theorem Ka (f:Int->Tm) (hf:∀v,aY (f v)):∀t:Tm,aY t->aY (aB f t)
 | .mk n i xs,h=>by
  have h0:=ga.1 h
  rw[aB]
  split
  ·exact hf i
  ·rw[aY]
   have hl:(bj f xs).length=xs.length:=by rw[mo,List.length_map]
   refine⟨h0.1,by rw[hl];exact h0.2.1,?_⟩
   have U:b_ xs:=h0.2.2
   exact Da f hf xs U
where
 Da (f:Int->Tm) (hf:∀v,aY (f v)):∀l:List Tm,b_ l->b_ (bj f l)
 |[],_=>by rw[bj,b_];trivial
 |t::l,h=>by
  rw[b_]at h
  rw[bj,b_]
  exact⟨Ka f hf t h.1,Da f hf l h.2⟩
theorem QV {c:List Lt} (h:dD c) (hc:c.all bO=true):dD (cp c):=by
 have hl:=(Cy hc).1
 refine⟨by have:=h.1;omega,fun l hm=>?_⟩
 rw[cp]at hm
 obtain⟨x,hx,rfl⟩:=List.mem_map.1 hm
 have hL:=h.2 x (rZ.1 hx)
 refine⟨hL.1,by show(bj _ x.xs).length<=_;rw[mo,List.length_map];exact hL.2.1,Ka.Da _ (fun v=>by rw[qo,bn];simp[aY,b_]) _ hL.2.2⟩
theorem LR (c:List Lt) (s:List UInt8) (hc:qI c):aR Tryz.prog 8 [aV c,Sv s] (Bv true):=by
 refine al.walk [0,1,4,5,6,7,8,9,10,11,12,13,14,15,17,18,31,39,51,60,82] [] Tryz.func8 rfl Tryz.ntmps8 (by kernel_rfl) (by rfl) rfl fun W own I0 aw lay=>?_
 refine gO ?_
 refine AQ.fn (by kernel_rfl) rfl rfl rfl (Sf c 60 hc (by omega)) rfl ?_
 refine sI ?_
 refine gE @aJ ?_
 refine AP.cond rfl rfl (fun h=>?_) (fun h=>?_)
 ·refine gO ?_
  refine AQ.fn (by kernel_rfl) rfl rfl rfl (ze) rfl ?_
  refine sI ?_
  refine gO ?_
  exact AE.a7 rfl ⟨rfl,trivial⟩ rfl ⟨rfl,rfl⟩
 ·have U:C2 c 60=true/\c.length<=6/\s.length<=1000:=by
   simp only[Bool.or_eq_false_iff,Bool.not_eq_false',decide_eq_false_iff_not,aJ]at h
   exact⟨h.1.1,by have:=h.1.2;omega,by have:=h.2;omega⟩
  obtain⟨q6,q8⟩:=Se (by omega) U.1
  have hp:=CJ s (by omega)
  have ht:=C_ (jz s) (IJ (by omega))
  have hq:ll s=0->j3 (jz s)=0/\kL (jz s)=s:=fun he=>by
   have q0:¬40000<s.length:=by omega
   rw[ll,if_neg q0]at he
   rw[jz,if_neg q0]
   cases hx:pC s with
   |none=>rw[hx]at he;simp at he
   |some d=>
    rw[hx]at he
    have he:bR 4 9 2 3 d=0:=he
    have e2:=Ro hx
    show j3 (if bR 4 9 2 3 d≠0 then[]else d)=0/\kL (if bR 4 9 2 3 d≠0 then[]else d)=s
    rw[he,if_neg (by omega),j3,kL,he,e2,if_neg q0,if_neg q0]
    exact⟨rfl,rfl⟩
  clear h
  have hn:=Cw 20 C3 c (by omega) q6
  refine gO ?_
  refine AQ.fn (by kernel_rfl) rfl rfl rfl (hp) rfl ?_
  refine sI ?_
  refine gO ?_
  refine AP.cut (α:=Unit) (fun _=>[(0,aV c),(1,Sv s)]) (fun _=>[]) (fun _=>True) ?_ fun _ _=>?_
  ·refine AP.cond rfl rfl (fun h2=>?_) (fun h2=>?_)
   ·have h2:ll s=0:=by simpa using h2
    obtain⟨e1,e2⟩:=hq h2
    rw[e1,e2]at ht
    refine gO ?_
    refine AQ.fn (by kernel_rfl) rfl rfl rfl (ht) rfl ?_
    refine sI ?_
    refine gO ?_
    refine cF ?_
    refine gO ?_
    exact AE.meet () trivial (sU) rfl
   ·refine gO ?_
    exact AE.meet () trivial (sU) rfl
  refine gO ?_
  refine AQ.fn (by kernel_rfl) rfl rfl rfl (Mm c q6) rfl ?_
  refine sI ?_
  refine gO ?_
  refine AQ.fn (by kernel_rfl) rfl rfl rfl (C_ c q6) rfl ?_
  refine sI ?_
  refine gO ?_
  refine AP.cond rfl rfl (fun h3=>?_) (fun h3=>?_)
  ·have h3:j3 c≠0:=by simpa using h3
   have h4:kL c=[]:=by
    rw[j3]at h3
    rw[kL]
    by_cases k:bR 4 9 2 3 c≠0
    ·rw[if_pos k]
    ·rw[if_neg k]at h3⊢
     by_cases k2:40000<(fu false c).length
     ·rw[if_pos k2]
     ·rw[if_neg k2]at h3;exact absurd rfl h3
   rw[h4]
   refine gO ?_
   refine AQ.kd (by kernel_rfl) rfl rfl (fun h=>by first|(simp[gs,AV.g];done)|(simp[gs,AV.g,bl];done)|(simp[gs,AV.g,bl,bw]at h⊢;done)|(simp[gs,AV.g,bl,bw]at h⊢;exact h)|(simp[gs,AV.g,bl,bw]at h⊢;simp[h];done)|(simp[bw]at h;done)|(simp[gs,AV.g,bw]at h⊢;simp[h];done)|(simp[gs,AV.g,bw]at h⊢;exact h.1)|(simp[gs,AV.g];rfl)|(simp[gs,AV.g,bw]at h⊢;rfl)|(simp[gs,AV.g,bw]at h⊢;simp[h];rfl)|(simp[gs,AV.g,bw]at h⊢;simp_all)) rfl (fun _=>ze) rfl ?_
   refine sI ?_
   refine gO ?_
   exact AE.a7 rfl ⟨rfl,trivial⟩ rfl ⟨rfl,rfl⟩
  ·have h3:j3 c=0:=by simpa using h3
   have dZ:bR 4 9 2 3 c=0:=by
    rw[j3]at h3
    by_cases k:bR 4 9 2 3 c≠0
    ·rw[if_pos k]at h3;exact h3
    ·exact Classical.byContradiction k
   have k9:¬40000<(fu false c).length:=fun k=>by
    rw[j3,dZ,if_pos k]at h3
    exact absurd h3 (by decide)
   have ah:c.all bO=true:=List.all_eq_true.2 (nK dZ).2.2.2
   have hS:kL c=fu false c:=by rw[kL,dZ,if_neg (by omega),if_neg k9]
   obtain⟨t,Bn⟩:∃t,fu false c=t:=⟨_,rfl⟩
   have tN:=Rn ah
   rw[hS]
   rw[Bn]at k9 tN⊢
   have dP:=CJ t (by omega)
   have A7:ll t=0:=by rw[ll,if_neg k9,tN];exact dZ
   have xe:jz t=c:=by rw[jz,if_neg k9,tN];simp[dZ]
   rw[A7,xe]at dP
   have tX:=Jr c c q6
   rw[DR]at tX
   have FY:=Mz t [32,32] (by omega)
   rw[<-Bn,SR ah,Bn]at FY
   have N3:aR Tryz.prog 54 [Sv t,Sv [32,32]] (Bv false):=FY
   rw[dZ]at hn
   have A1:lZ c=cp c:=by rw[lZ,dZ,if_neg (by omega)]
   rw[A1]at hn
   have w9:=QV q6 ah
   have fm:=(Cy ah).1
   have gn:=QW (eS:=4) (eD:=9) (eF:=2) (eR:=3) (by omega) (by omega) (by omega) (by omega) dZ
   have ib:=Cw 20 C3 (cp c) (by omega) w9
   have OF:lZ (cp c)=cp c:=by rw[lZ,gn,if_neg (by omega),QX ah]
   rw[OF,gn]at ib
   have mQ:=Sy Qd (cp c) c w9 q6
   have eE:jC (cp c) c=0:=Sx.2 ⟨gn,dZ⟩
   have eB:j2 (cp c) c=true:=by rw[j2,eE,R4 ah];rfl
   rw[eE,eB]at mQ
   have NX:=D1 (cp c) w9
   have GA:=Jr (cp c) (cp c) w9
   rw[DR]at GA
   clear hp ht hq U q8
   refine gO ?_
   refine AQ.fn (by kernel_rfl) rfl rfl rfl (dP) rfl ?_
   refine sI ?_
   refine gO ?_
   refine AQ.kd (by kernel_rfl) rfl rfl (fun h=>by first|(simp[gs,AV.g];done)|(simp[gs,AV.g,bl];done)|(simp[gs,AV.g,bl,bw]at h⊢;done)|(simp[gs,AV.g,bl,bw]at h⊢;exact h)|(simp[gs,AV.g,bl,bw]at h⊢;simp[h];done)|(simp[bw]at h;done)|(simp[gs,AV.g,bw]at h⊢;simp[h];done)|(simp[gs,AV.g,bw]at h⊢;exact h.1)|(simp[gs,AV.g];rfl)|(simp[gs,AV.g,bw]at h⊢;rfl)|(simp[gs,AV.g,bw]at h⊢;simp[h];rfl)|(simp[gs,AV.g,bw]at h⊢;simp_all)) rfl (fun _=>tX) rfl ?_
   refine sI ?_
   refine gO ?_
   refine AQ.kd (by kernel_rfl) rfl rfl (fun h=>by first|(simp[gs,AV.g];done)|(simp[gs,AV.g,bl];done)|(simp[gs,AV.g,bl,bw]at h⊢;done)|(simp[gs,AV.g,bl,bw]at h⊢;exact h)|(simp[gs,AV.g,bl,bw]at h⊢;simp[h];done)|(simp[bw]at h;done)|(simp[gs,AV.g,bw]at h⊢;simp[h];done)|(simp[gs,AV.g,bw]at h⊢;exact h.1)|(simp[gs,AV.g];rfl)|(simp[gs,AV.g,bw]at h⊢;rfl)|(simp[gs,AV.g,bw]at h⊢;simp[h];rfl)|(simp[gs,AV.g,bw]at h⊢;simp_all)) rfl (fun _=>N3) rfl ?_
   refine sI ?_
   refine gO ?_
   refine AQ.fn (by kernel_rfl) rfl rfl rfl (hn) rfl ?_
   refine sI ?_
   refine gO ?_
   refine AQ.fn (by kernel_rfl) rfl rfl rfl (ib) rfl ?_
   refine sI ?_
   refine gO ?_
   refine AQ.fn (by kernel_rfl) rfl rfl rfl (mQ) rfl ?_
   refine sI ?_
   refine gO ?_
   refine AQ.kd (by kernel_rfl) rfl rfl (fun h=>by first|(simp[gs,AV.g];done)|(simp[gs,AV.g,bl];done)|(simp[gs,AV.g,bl,bw]at h⊢;done)|(simp[gs,AV.g,bl,bw]at h⊢;exact h)|(simp[gs,AV.g,bl,bw]at h⊢;simp[h];done)|(simp[bw]at h;done)|(simp[gs,AV.g,bw]at h⊢;simp[h];done)|(simp[gs,AV.g,bw]at h⊢;exact h.1)|(simp[gs,AV.g];rfl)|(simp[gs,AV.g,bw]at h⊢;rfl)|(simp[gs,AV.g,bw]at h⊢;simp[h];rfl)|(simp[gs,AV.g,bw]at h⊢;simp_all)) rfl (fun _=>NX) rfl ?_
   refine sI ?_
   refine gO ?_
   refine AQ.kd (by kernel_rfl) rfl rfl (fun h=>by first|(simp[gs,AV.g];done)|(simp[gs,AV.g,bl];done)|(simp[gs,AV.g,bl,bw]at h⊢;done)|(simp[gs,AV.g,bl,bw]at h⊢;exact h)|(simp[gs,AV.g,bl,bw]at h⊢;simp[h];done)|(simp[bw]at h;done)|(simp[gs,AV.g,bw]at h⊢;simp[h];done)|(simp[gs,AV.g,bw]at h⊢;exact h.1)|(simp[gs,AV.g];rfl)|(simp[gs,AV.g,bw]at h⊢;rfl)|(simp[gs,AV.g,bw]at h⊢;simp[h];rfl)|(simp[gs,AV.g,bw]at h⊢;simp_all)) rfl (fun _=>GA) rfl ?_
   refine sI ?_
   refine gO ?_
   refine AQ.kd (by kernel_rfl) rfl rfl (fun h=>by first|(simp[gs,AV.g];done)|(simp[gs,AV.g,bl];done)|(simp[gs,AV.g,bl,bw]at h⊢;done)|(simp[gs,AV.g,bl,bw]at h⊢;exact h)|(simp[gs,AV.g,bl,bw]at h⊢;simp[h];done)|(simp[bw]at h;done)|(simp[gs,AV.g,bw]at h⊢;simp[h];done)|(simp[gs,AV.g,bw]at h⊢;exact h.1)|(simp[gs,AV.g];rfl)|(simp[gs,AV.g,bw]at h⊢;rfl)|(simp[gs,AV.g,bw]at h⊢;simp[h];rfl)|(simp[gs,AV.g,bw]at h⊢;simp_all)) rfl (fun _=>ze) rfl ?_
   refine sI ?_
   refine gO ?_
   exact AE.a7 rfl ⟨rfl,trivial⟩ rfl ⟨rfl,rfl⟩
end Go.Proofs.YtpfohmboflcneaaGreatDoor
end
