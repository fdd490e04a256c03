import Derived.Test.YtpfohmboflcneaaGreatDoorW1
import Derived.Lib.Strings
import Derived.Lib.Walk
import Derived.Lib.BufferWrite
import Derived.Lib.UnsafeStr
import Derived.Lib.Hide
import Derived.Laws.MakeOwn
import Derived.Lib.Builder
import Derived.Shelf.LaysM
import Derived.Shelf.Strconv.Itoa3
import Derived.Shelf.LaysC
import Derived.Shelf.Strconv.AtoiAll
import Derived.Shelf.Strconv.ErrVarAll
import Derived.Shelf.Strings.Prefix
import Derived.Lib.AtoiErrMem
import Derived.Test.YtpfohmboflcneaaGreatDoorCards
import Derived.Test.YtpfohmboflcneaaGreatDoorTie
import Derived.Stop.LaidErr
import Derived.Lib.LaidTab
import Derived.Shelf.Vars
import Derived.Shelf.Sort.Plain
import Derived.Shelf.Slices.In.SortNone
import Derived.Lib.IndexMore
import Derived.Shelf.Strings.Search3
set_option linter.unusedSimpArgs false
set_option linter.unusedVariables false
set_option linter.unnecessarySimpa false
section
namespace Go.Proofs.YtpfohmboflcneaaGreatDoor
open Go Go.AL Go.RowKit
set_option maxRecDepth 10000
set_option linter.unusedSimpArgs false
set_option maxHeartbeats 4000000 in
set_option maxRecDepth 100000 in
theorem S5 (l:List UInt8) (h0:l≠[]) (b g cap:Nat) (p sv:Value) (rest:List Value) (w:World) (own:Nat->Prop) (ba:own g)
  (jq:w.heap[b]?=some (.cells #[p,.slice (some ⟨g,0,none⟩) l.length cap,sv] 234 (0,0))) (hg:w.heap[g]?=some (.cells (Lib.byteCells l++rest).toArray 5 (0,0)))
  (uk:l.length<=cap) (yT:cap<=maxLen):
  Calls Tryz.prog 154 #[.pointer (some ⟨b,0,none⟩)] w fun e w'=>e= .returned (.string ⟨l.toArray⟩)/\Ext own w w':=by
 have i5:(Tryz.prog.info? 5).map (fun i=>(i.zero,i.size,i.bytes))=some (some (Value.int IntKind.u8 0),1,1):=by kernel_rfl
 obtain⟨i0,hi,NF,fk,np⟩:=info_parts i5
 have VF:Tryz.prog.cellsOf 5=1:=by simp[Program.cellsOf,hi,fk]
 have om:l.length≠0:=by simpa using h0
 have c1:w.drew.cell? ⟨b,1,none⟩=some (.slice (some ⟨g,0,none⟩) l.length cap):=by
  have:w.drew.heap[b]?=some (.cells #[p,.slice (some ⟨g,0,none⟩) l.length cap,sv] 234 (0,0)):=jq
  rw[Lib.cell_of_heap this];rfl
 have rS:(Builtin.unsafeSliceData_ #[230] 278 #[.slice (some ⟨g,0,none⟩) l.length cap]).run Tryz.prog w.drew= .ok (.pointer (some ⟨g,0,none⟩)) w.drew:=
  Lib.run_unsafeSliceData_row _ _ _ _ _ _ (by omega)
 have FJ:(Builtin.unsafeString_ #[278,3] 9 #[.pointer (some ⟨g,0,none⟩),.int .i64 l.length]).run Tryz.prog w.drew= .ok (.string ⟨l.toArray⟩) (w.drew.freeze ⟨g,0,none⟩ l.length):=by
  have bO:w.drew.heap[g]?=some (.cells (Lib.byteCells l++rest).toArray 5 (0,0)):=hg
  refine Lib.run_unsafeString_row w.drew 278 3 9 5 Tryz.underlying278 VF g (Lib.byteCells l++rest).toArray.size (by simp[World.shape?,bO]) l h0 (by simp[Lib.byteCells_length]) (by unfold maxLen at yT;omega) ?_
  intro j x hx
  have ag:j<l.length:=by
   rcases Nat.lt_or_ge j l.length with h|h
   ·exact h
   ·rw[List.getElem?_eq_none h]at hx;cases hx
  have e1:(⟨g,0,none⟩:Addr).add j=⟨g,j,none⟩:=by unfold Addr.add;by_cases hj:j=0<;>simp[hj]
  rw[e1,Lib.cell_of_heap bO,List.getElem?_toArray,List.getElem?_append_left (by rw[Lib.byteCells_length];exact ag)]
  simp[Lib.byteCells,hx]
 go_enter Tryz.func154,Tryz.ntmps154
 go_wp2
 go_region
 all_goals(go_wp2;go_ret;exact⟨rfl,(E7 w).trans (TZ w.drew ⟨g,0,none⟩ l.length ba) (fun _ h=> .inl h)⟩)
set_option maxHeartbeats 4000000 in
set_option maxRecDepth 100000 in
theorem S2 (b:Nat) (p sv:Value) (w:World) (own:Nat->Prop) (jq:w.heap[b]?=some (.cells #[p,.slice none 0 0,sv] 234 (0,0))):
  Calls Tryz.prog 154 #[.pointer (some ⟨b,0,none⟩)] w fun e w'=>e= .returned (.string ⟨#[]⟩)/\Ext own w w':=by
 have FJ:∀(W:World) (q:Option Addr),(Builtin.unsafeString_ #[278,3] 9 #[.pointer q,.int .i64 0]).run Tryz.prog W= .ok (.string .empty) W:=fun W q=>Lib.run_unsafeString_none W _ _ _ q
 have c1:w.drew.cell? ⟨b,1,none⟩=some (.slice none 0 0):=by
  have:w.drew.heap[b]?=some (.cells #[p,.slice none 0 0,sv] 234 (0,0)):=jq
  rw[Lib.cell_of_heap this];rfl
 have rS:(Builtin.unsafeSliceData_ #[230] 278 #[.slice none 0 0]).run Tryz.prog w.drew= .ok (.pointer none) w.drew:=rfl
 go_enter Tryz.func154,Tryz.ntmps154
 go_wp2
 go_region
 all_goals(go_wp2;go_ret;exact⟨rfl,E7 w⟩)
set_option maxHeartbeats 4000000 in
set_option maxRecDepth 100000 in
theorem S3 (b g:Nat) (p sv:Value) (cur:Array Value) (w:World) (own:Nat->Prop) (jq:w.heap[b]?=some (.cells #[p,.slice (some ⟨g,0,none⟩) 0 0,sv] 234 (0,0))) (hg:w.heap[g]?=some (.cells cur 5 (0,0))):
  Calls Tryz.prog 154 #[.pointer (some ⟨b,0,none⟩)] w fun e w'=>e= .returned (.string ⟨#[]⟩)/\Ext own w w':=by
 have FJ:∀(W:World) (q:Option Addr),(Builtin.unsafeString_ #[278,3] 9 #[.pointer q,.int .i64 0]).run Tryz.prog W= .ok (.string .empty) W:=fun W q=>Lib.run_unsafeString_none W _ _ _ q
 have ag:b<w.heap.size:=by
  rcases Nat.lt_or_ge b w.heap.size with h'|h'
  ·exact h'
  ·simp[Array.getElem?_eq_none h']at jq
 have c1:w.drew.cell? ⟨b,1,none⟩=some (.slice (some ⟨g,0,none⟩) 0 0):=by
  have:w.drew.heap[b]?=some (.cells #[p,.slice (some ⟨g,0,none⟩) 0 0,sv] 234 (0,0)):=jq
  rw[Lib.cell_of_heap this];rfl
 have rS:(Builtin.unsafeSliceData_ #[230] 278 #[.slice (some ⟨g,0,none⟩) 0 0]).run Tryz.prog w.drew= .ok (.pointer (some ⟨w.drew.heap.size,0,none⟩)) (w.drew.alloc (.view ⟨g,0,none⟩ 5)):=
  Lib.run_unsafeSliceData_zero w.drew _ _ 5 Tryz.underlying278 ⟨g,0,none⟩ 0 (5,cur.size) (by have bO:w.drew.heap[g]?=some (.cells cur 5 (0,0)):=hg;simp[World.shape?,bO])
 have c2:(w.drew.alloc (.view ⟨g,0,none⟩ 5)).cell? ⟨b,1,none⟩=some (.slice (some ⟨g,0,none⟩) 0 0):=by
  have:(w.drew.alloc (.view ⟨g,0,none⟩ 5)).heap[b]?=_:=(Lib.alloc_old w.drew _ b ag).trans jq
  rw[Lib.cell_of_heap this];rfl
 have c3:(w.alloc (.view ⟨g,0,none⟩ 5)).drew.cell? ⟨b,1,none⟩=some (.slice (some ⟨g,0,none⟩) 0 0):=c2
 have c0:w.cell? ⟨b,1,none⟩=some (.slice (some ⟨g,0,none⟩) 0 0):=c1
 go_enter Tryz.func154,Tryz.ntmps154
 go_wp2
 go_region
 all_goals(go_wp2;go_ret;exact⟨rfl,yy (w:=w) _⟩)
set_option maxHeartbeats 4000000 in
set_option maxRecDepth 100000 in
theorem S4 (b g cap:Nat) (p sv:Value) (w:World) (own:Nat->Prop) (vX:cap≠0) (jq:w.heap[b]?=some (.cells #[p,.slice (some ⟨g,0,none⟩) 0 cap,sv] 234 (0,0))):
  Calls Tryz.prog 154 #[.pointer (some ⟨b,0,none⟩)] w fun e w'=>e= .returned (.string ⟨#[]⟩)/\Ext own w w':=by
 have FJ:∀(W:World) (q:Option Addr),(Builtin.unsafeString_ #[278,3] 9 #[.pointer q,.int .i64 0]).run Tryz.prog W= .ok (.string .empty) W:=fun W q=>Lib.run_unsafeString_none W _ _ _ q
 have c1:w.drew.cell? ⟨b,1,none⟩=some (.slice (some ⟨g,0,none⟩) 0 cap):=by
  have:w.drew.heap[b]?=some (.cells #[p,.slice (some ⟨g,0,none⟩) 0 cap,sv] 234 (0,0)):=jq
  rw[Lib.cell_of_heap this];rfl
 have rS:(Builtin.unsafeSliceData_ #[230] 278 #[.slice (some ⟨g,0,none⟩) 0 cap]).run Tryz.prog w.drew= .ok (.pointer (some ⟨g,0,none⟩)) w.drew:=
  Lib.run_unsafeSliceData_row _ _ _ _ _ _ vX
 clear vX
 go_enter Tryz.func154,Tryz.ntmps154
 go_wp2
 go_region
 all_goals(go_wp2;go_ret;exact⟨rfl,E7 w⟩)
theorem Kb {w:World} {I:Nat->Prop}:∀(l:List UInt8) (ae:List (List Value)),IV.aE w I (dB l) ae->ae.flatten=Lib.byteCells l
 |[],ae,h=>by simp only[dB,List.map_nil,IV.aE]at h;subst h;rfl
 |x::l,ae,h=>by
  simp only[dB,List.map_cons,IV.aE,IV.ab,IV.den]at h
  obtain⟨u,ak,rfl,⟨v,vs,rfl,⟨rfl,_⟩,rfl⟩,h2⟩:=h
  have:=Kb l ak h2
  simp[Lib.byteCells,this]
theorem S6 (l:List UInt8) (p:AV) (sh:Bool):ao Tryz.prog 154 [.ob 0 0] [(0,.var 234 [p,.os 1 1 0 l.length,Bv sh]),(1,.vec 5 1 (dB l))] (fun r H'=>H'=[]/\r=Sv l):=by
 refine ao.drop (r:=Sv l) (by rfl) rfl ⟨rfl,rfl⟩ fun w φ I vs hd hR _=>?_
 simp only[AV.ab,AV.den]at hd
 obtain⟨u,us,rfl,⟨b,hb,rfl⟩,rfl⟩:=hd
 have h0:=hR.own 0 _ _ rfl hb
 simp only[Ob.at,Sh.has,AV.ab,AV.den]at h0
 obtain⟨b',us,FQ,jq,⟨u,rp,rfl,_,v,oR,rfl,hv,sv,us3,rfl,_,rfl⟩,_⟩:=h0
 cases FQ
 have key:Calls Tryz.prog 154 #[.pointer (some ⟨b,0,none⟩)] w fun e' w'=>e'= .returned (.string ⟨l.toArray⟩)/\Ext (cN φ) w w':=by
  rcases hv with⟨_,_,hl,rfl⟩|⟨g,c,hg,rfl,h2,h3,h4⟩
  ·have:l=[]:=List.eq_nil_of_length_eq_zero hl
   subst this
   exact S2 b u sv w _ jq
  ·have U:=hR.own 1 _ _ rfl hg
   simp only[Ob.at]at U
   rcases U with⟨U,_⟩|⟨g',ae,rest,cq,F8,hr,_⟩
   ·cases U
   cases cq
   have dO:=Kb l ae hr
   rw[dO]at F8
   simp only[Nat.zero_mul]at jq
   by_cases hl:l=[]
   ·subst hl
    by_cases hc:c=0
    ·subst hc
     exact S3 b g u sv _ w _ jq F8
    ·exact S4 b g c u sv w _ hc jq
   ·exact S5 l hl b g c u sv rest w _ ⟨1,hg⟩ jq F8 h2 h3
 refine key.mono fun e w' ⟨he,hx⟩=>⟨_,he,?_,hx⟩
 rw[ma]
 rfl
theorem J_:∃j,Tryz.prog.info? 232=some j/\j.size≠0:=by
 have h:(Tryz.prog.info? 232).map (·.size)=some 2:=by kernel_rfl
 obtain⟨j,hj,hs⟩:=Option.map_eq_some_iff.1 h
 exact⟨j,hj,by rw[hs];decide⟩
theorem S9:liesAt Tryz.prog Tryz.prog.depth 234 (3/Tryz.prog.cellsOf 234) 0 232 1=true:=by kernel_rfl
theorem Qj {w:World} {φ:ai} {I:Nat->Prop} {H:aa} {b g:Nat} {p q:AV} {sh:Bool} (hR:Real w φ I H) (hl:lk H b=some (.var 234 [p,q,Bv sh])) (hb:φ b=some (some g)):w.shape? g=some (234,3):=by
 have h0:=hR.own b _ _ hl hb
 simp only[Ob.at,Sh.has,AV.ab]at h0
 obtain⟨b',us,FQ,jq,⟨u,rp,rfl,_,v,oR,rfl,hv,sv,us3,rfl,_,rfl⟩,_⟩:=h0
 cases FQ
 simp[World.shape?,jq]
theorem Il {C:Cx} {φ:ai} {I:Nat->Prop} {E:Env} {H:aa} {a:Act} {w:World} (hs:bt C φ I E H a w) {t:Nat} (ht:lk E t=some (.ob 0 0)):∃g,φ 0=some (some g)/\a.eval (.tmp t)= .pointer (some ⟨g,0,none⟩):=by
 obtain⟨u,hu,hd⟩:=hs.env _ _ ht
 simp only[AV.den]at hd
 obtain⟨g,hg,rfl⟩:=hd
 exact⟨g,hg,by simp only[Act.eval,Array.getD_eq_getD_getElem?,hu,Option.getD_some]⟩
set_option maxRecDepth 10000
set_option maxHeartbeats 1000000
theorem Kw (q:AV) (sh:Bool) (rows:List (List IV)):ao Tryz.prog 196 [.ob 0 0] [(0,.var 234 [.im (.v (.pointer none)),q,Bv sh]),(1,.vec 5 1 rows)] (fun r H'=>H'=[(0,.var 234 [.ob 0 0,q,Bv sh]),(1,.vec 5 1 rows)]/\r= .aG []):=by
 obtain⟨j,hj,y9⟩:=J_
 refine ao.walk [0,6,19] [] Tryz.func196 rfl Tryz.ntmps196 (by kernel_rfl) (by rfl) rfl fun W own I0 aq lay=>?_
 refine gO ?_
 refine AQ.val (.ob 0 0) (by kernel_rfl) rfl (fun φ I a w hs=>?_) ?_
 ·obtain⟨g,hg,mX⟩:=Il (t:=8) hs rfl
  have cK:=Qj hs.st.real rfl hg
  refine⟨_,?_,by simp only[AV.den];exact⟨g,hg,rfl⟩⟩
  simp only[execOp,mX,Sem.run_bind]
  rw[Lib.run_to_unsafe w ⟨g,0,none⟩ Tryz.underlying229 Tryz.underlying300 hj y9 cK (Nat.zero_lt_succ _)]
  rfl
 refine gO ?_
 refine AQ.val (.ob 0 0) (by kernel_rfl) rfl (fun φ I a w hs=>?_) ?_
 ·obtain⟨g,hg,mX⟩:=Il (t:=9) hs rfl
  refine⟨_,?_,by simp only[AV.den];exact⟨g,hg,rfl⟩⟩
  simp only[execOp,Sem.run_bind,resolve,invoke,Sem.run_pure,Result.andThen_ok,List.map_toArray,List.map_cons,List.map_nil,mX]
  have hf:a.eval (Operand.func 224)= .func (.func 224) #[] #[]:=rfl
  simp only[hf,Deferred.ofValue,Sem.run_pure,Result.andThen_ok,Array.append_empty,Array.empty_append]
  rw[run_callFunc_extern Tryz.func224 (by kernel_rfl) (by kernel_rfl) (by kernel_rfl) (e:=Extern.AbiNoEscape.same) (by kernel_rfl)]
  rw[Lib.run_noEscape]
  rfl
 refine gO ?_
 refine AQ.val (.ob 0 0) (by kernel_rfl) rfl (fun φ I a w hs=>?_) ?_
 ·obtain⟨g,hg,mX⟩:=Il (t:=10) hs rfl
  have cK:=Qj hs.st.real rfl hg
  refine⟨_,?_,by simp only[AV.den];exact⟨g,hg,rfl⟩⟩
  simp only[execOp,mX,Sem.run_bind]
  rw[Lib.run_from_unsafe w ⟨g,0,none⟩ Tryz.underlying300 Tryz.underlying229 hj cK S9]
  rfl
 refine gO ?_
 exact AE.jQ rfl trivial ⟨rfl,rfl⟩
theorem Kx (q:AV) (sh:Bool) (rows:List (List IV)):ao Tryz.prog 196 [.ob 0 0] [(0,.var 234 [.ob 0 0,q,Bv sh]),(1,.vec 5 1 rows)] (fun r H'=>H'=[(0,.var 234 [.ob 0 0,q,Bv sh]),(1,.vec 5 1 rows)]/\r= .aG []):=by
 obtain⟨j,hj,y9⟩:=J_
 refine ao.walk [0,6,19] [] Tryz.func196 rfl Tryz.ntmps196 (by kernel_rfl) (by rfl) rfl fun W own I0 aq lay=>?_
 refine gO ?_
 exact AE.jQ rfl trivial ⟨rfl,rfl⟩
theorem abq (p:AV) (hp:p= .im (.v (.pointer none))\/p= .ob 0 0) (sh:Bool) (l m:List UInt8) (n:Nat) (hn:n=l.length) (hb:l.length+m.length<=1000000000):
  ao Tryz.prog 152 [.ob 0 0,Sv m] [(0,.var 234 [p,.os 1 1 0 n,Bv sh]),(1,.vec 5 1 (dB l))]
   (fun r H'=>H'=[(0,.var 234 [.ob 0 0,.os 2 1 0 (n+m.length),Bv sh]),(2,.vec 5 1 (dB (l++m)))]/\r= .aG [Iv m.length,.im (.v .nilIface)]):=by
 subst hn
 have jt:ao Tryz.prog 196 [.ob 0 0] [(0,.var 234 [p,.os 1 1 0 l.length,Bv sh]),(1,.vec 5 1 (dB l))] (fun r H'=>H'=[(0,.var 234 [.ob 0 0,.os 1 1 0 l.length,Bv sh]),(1,.vec 5 1 (dB l))]/\r= .aG []):=by
  rcases hp with rfl|rfl
  ·exact Kw _ _ _
  ·exact Kx _ _ _
 have Gy:lh (br [(0,0),(1,1)] 2) [(0,.var 234 [p,.os 1 1 0 l.length,Bv sh]),(1,.vec 5 1 (dB l))] [(0,.var 234 [p,.os 1 1 0 l.length,Bv sh]),(1,.vec 5 1 (dB l))]:=by
  rcases hp with rfl|rfl
  ·exact⟨rfl,rfl,trivial⟩
  ·exact⟨rfl,rfl,trivial⟩
 refine ao.walk [0,1,4,5] [] Tryz.func152 rfl Tryz.ntmps152 (by kernel_rfl) (by rfl) rfl fun W own I0 aq lay=>?_
 refine gO ?_
 refine AQ.bR [(0,0),(1,1)] (by kernel_rfl) rfl rfl rfl rfl rfl rfl Gy rfl jt ?_
 rintro r H1 ⟨rfl,rfl⟩
 refine⟨rfl,?_⟩
 refine gO ?_
 refine AQ.rename 1 2 rfl rfl rfl ?_
 refine sI ?_
 refine AQ.kill 2 ?_
 refine sI ?_
 refine AQ.SB (hnb:=rfl) (l:=m) (by kernel_rfl) rfl rfl rfl rfl (by kernel_rfl) (by kernel_rfl) (by kernel_rfl) (by kernel_rfl) (by kernel_rfl) (oW l).symm (by rw[oW];omega) ?_
 refine gO ?_
 exact AE.ret rfl ⟨rfl,rfl,trivial⟩ ⟨by rw[oW,show dB (l++m)=dB l++dB m by simp[dB]],rfl⟩
end Go.Proofs.YtpfohmboflcneaaGreatDoor
end
section
namespace Go.Proofs
open Go.Shelf
def Tryz.X_:Go.Shelf.Ren:=⟨fun|171=>202|243=>227|246=>249|283=>259|284=>260|285=>261|286=>262|129=>240|317=>266|318=>267|319=>268|320=>269|337=>270|338=>271|n=>n,fun|3=>3|9=>9|2=>2|4=>4|171=>338|0=>0|53=>314|37=>230|5=>5|173=>340|212=>350|51=>312|20=>20|213=>351|46=>295|232=>352|233=>353|n=>n,fun|17=>3|18=>4|19=>5|n=>n⟩
theorem Tryz.X9:Go.Proofs.LaysM.n171 Tryz.prog Tryz.X_:={
 mixed:=by kernel_rfl
 f129:=Tryz.func240.trans (congrArg some (by kernel_rfl))
 f171:=Tryz.func202.trans (congrArg some (by kernel_rfl))
 f243:=Tryz.func227.trans (congrArg some (by kernel_rfl))
 f246:=Tryz.func249.trans (congrArg some (by kernel_rfl))
 f283:=Tryz.func259.trans (congrArg some (by kernel_rfl))
 f284:=Tryz.func260.trans (congrArg some (by kernel_rfl))
 f285:=Tryz.func261.trans (congrArg some (by kernel_rfl))
 f286:=Tryz.func262.trans (congrArg some (by kernel_rfl))
 f317:=Tryz.func266.trans (congrArg some (by kernel_rfl))
 f318:=Tryz.func267.trans (congrArg some (by kernel_rfl))
 f319:=Tryz.func268.trans (congrArg some (by kernel_rfl))
 f320:=Tryz.func269.trans (congrArg some (by kernel_rfl))
 f337:=Tryz.func270.trans (congrArg some (by kernel_rfl))
 f338:=Tryz.func271.trans (congrArg some (by kernel_rfl))
 t0:=Tryz.underlying0
 a0:=Tryz.isAgg0
 z0:=Tryz.sizeOf0
 v0:=Tryz.zeroValue0
 t2:=Tryz.underlying2
 a2:=Tryz.isAgg2
 z2:=Tryz.sizeOf2
 v2:=Tryz.zeroValue2
 t3:=Tryz.underlying3
 a3:=Tryz.isAgg3
 z3:=Tryz.sizeOf3
 v3:=Tryz.zeroValue3
 t4:=Tryz.underlying4
 a4:=Tryz.isAgg4
 z4:=Tryz.sizeOf4
 v4:=Tryz.zeroValue4
 t5:=Tryz.underlying5
 a5:=Tryz.isAgg5
 z5:=Tryz.sizeOf5
 v5:=Tryz.zeroValue5
 t9:=Tryz.underlying9
 a9:=Tryz.isAgg9
 z9:=Tryz.sizeOf9
 v9:=Tryz.zeroValue9
 t20:=Tryz.underlying20
 a20:=Tryz.isAgg20
 z20:=Tryz.sizeOf20
 v20:=Tryz.zeroValue20
 t37:=Tryz.underlying230
 a37:=Tryz.isAgg230
 z37:=Tryz.sizeOf230
 v37:=Tryz.zeroValue230
 t46:=Tryz.underlying295
 a46:=Tryz.isAgg295
 z46:=Tryz.sizeOf295
 v46:=Tryz.zeroValue295
 t51:=Tryz.underlying312
 a51:=Tryz.isAgg312
 z51:=Tryz.sizeOf312
 v51:=Tryz.zeroValue312
 t53:=Tryz.underlying314
 a53:=Tryz.isAgg314
 z53:=Tryz.sizeOf314
 v53:=Tryz.zeroValue314
 t171:=Tryz.underlying338
 a171:=Tryz.isAgg338
 z171:=Tryz.sizeOf338
 v171:=Tryz.zeroValue338
 t173:=Tryz.underlying340
 a173:=Tryz.isAgg340
 z173:=Tryz.sizeOf340
 v173:=Tryz.zeroValue340
 t212:=Tryz.underlying350
 a212:=Tryz.isAgg350
 z212:=Tryz.sizeOf350
 v212:=Tryz.zeroValue350
 t213:=Tryz.underlying351
 a213:=Tryz.isAgg351
 z213:=Tryz.sizeOf351
 t232:=Tryz.underlying352
 a232:=Tryz.isAgg352
 z232:=Tryz.sizeOf352
 v232:=Tryz.zeroValue352
 t233:=Tryz.underlying353
 a233:=Tryz.isAgg353
 z233:=Tryz.sizeOf353
 v233:=Tryz.zeroValue353
 g17:=by kernel_rfl
 g18:=by kernel_rfl
 g19:=by kernel_rfl
 i0:=by kernel_rfl
 i2:=by kernel_rfl
 i3:=by kernel_rfl
 i4:=by kernel_rfl
 i5:=by kernel_rfl
 i9:=by kernel_rfl
 i20:=by kernel_rfl
 i37:=by kernel_rfl
 i46:=by kernel_rfl
 i51:=by kernel_rfl
 i53:=by kernel_rfl
 i171:=by kernel_rfl
 i173:=by kernel_rfl
 i212:=by kernel_rfl
 i232:=by kernel_rfl
 i233:=by kernel_rfl
 m17:=by kernel_rfl
 m18:=by kernel_rfl
 m19:=by kernel_rfl}
open Go.RowKit Go.Sort Go.Lib in
theorem Tryz.strconv_Itoa (n:Int) (h0:-9223372036854775808<=n) (U:n<=9223372036854775807) (w:World) (W7:Lib.TabIs Tryz.prog w "internal/strconv.uint64pow10" .u64 Lib.pow10Tab):
  Calls Tryz.prog 202 #[.int .i64 n] w fun e w'=>e= .returned (.string ⟨(Lib.itoa n).toArray⟩)/\∃k os,w'=grow (w.drewN k) os:=Any.strconv_Itoa Tryz.X9 n h0 U w W7
def Tryz.X8:Go.Shelf.Ren:=⟨fun|172=>201|244=>225|245=>226|247=>244|279=>245|280=>246|281=>247|282=>248|287=>256|316=>257|171=>202|205=>258|321=>264|322=>265|243=>227|246=>249|283=>259|284=>260|285=>261|286=>262|129=>240|317=>266|318=>267|319=>268|320=>269|337=>270|338=>271|n=>n,fun|9=>9|3=>3|75=>236|76=>237|4=>4|5=>5|167=>319|37=>230|0=>0|85=>320|2=>2|168=>322|53=>314|175=>332|46=>295|210=>336|127=>278|145=>348|143=>346|21=>21|171=>338|173=>340|212=>350|51=>312|20=>20|213=>351|232=>352|233=>353|80=>240|n=>n,fun|15=>1|16=>2|17=>3|18=>4|19=>5|n=>n⟩
theorem Tryz.C8:Go.Proofs.LaysC.n172 Tryz.prog Tryz.X8:={
 mixed:=by kernel_rfl
 f129:=Tryz.func240.trans (congrArg some (by kernel_rfl))
 f171:=Tryz.func202.trans (congrArg some (by kernel_rfl))
 f172:=Tryz.func201.trans (congrArg some (by kernel_rfl))
 f205:=Tryz.func258.trans (congrArg some (by kernel_rfl))
 f243:=Tryz.func227.trans (congrArg some (by kernel_rfl))
 f244:=Tryz.func225.trans (congrArg some (by kernel_rfl))
 f245:=Tryz.func226.trans (congrArg some (by kernel_rfl))
 f246:=Tryz.func249.trans (congrArg some (by kernel_rfl))
 f247:=Tryz.func244.trans (congrArg some (by kernel_rfl))
 f279:=Tryz.func245.trans (congrArg some (by kernel_rfl))
 f280:=Tryz.func246.trans (congrArg some (by kernel_rfl))
 f281:=Tryz.func247.trans (congrArg some (by kernel_rfl))
 f282:=Tryz.func248.trans (congrArg some (by kernel_rfl))
 f283:=Tryz.func259.trans (congrArg some (by kernel_rfl))
 f284:=Tryz.func260.trans (congrArg some (by kernel_rfl))
 f285:=Tryz.func261.trans (congrArg some (by kernel_rfl))
 f286:=Tryz.func262.trans (congrArg some (by kernel_rfl))
 f287:=Tryz.func256.trans (congrArg some (by kernel_rfl))
 f316:=Tryz.func257.trans (congrArg some (by kernel_rfl))
 f317:=Tryz.func266.trans (congrArg some (by kernel_rfl))
 f318:=Tryz.func267.trans (congrArg some (by kernel_rfl))
 f319:=Tryz.func268.trans (congrArg some (by kernel_rfl))
 f320:=Tryz.func269.trans (congrArg some (by kernel_rfl))
 f321:=Tryz.func264.trans (congrArg some (by kernel_rfl))
 f322:=Tryz.func265.trans (congrArg some (by kernel_rfl))
 f337:=Tryz.func270.trans (congrArg some (by kernel_rfl))
 f338:=Tryz.func271.trans (congrArg some (by kernel_rfl))
 t0:=Tryz.underlying0
 a0:=Tryz.isAgg0
 z0:=Tryz.sizeOf0
 v0:=Tryz.zeroValue0
 t2:=Tryz.underlying2
 a2:=Tryz.isAgg2
 z2:=Tryz.sizeOf2
 v2:=Tryz.zeroValue2
 t3:=Tryz.underlying3
 a3:=Tryz.isAgg3
 z3:=Tryz.sizeOf3
 v3:=Tryz.zeroValue3
 t4:=Tryz.underlying4
 a4:=Tryz.isAgg4
 z4:=Tryz.sizeOf4
 v4:=Tryz.zeroValue4
 t5:=Tryz.underlying5
 a5:=Tryz.isAgg5
 z5:=Tryz.sizeOf5
 v5:=Tryz.zeroValue5
 t9:=Tryz.underlying9
 a9:=Tryz.isAgg9
 z9:=Tryz.sizeOf9
 v9:=Tryz.zeroValue9
 t20:=Tryz.underlying20
 a20:=Tryz.isAgg20
 z20:=Tryz.sizeOf20
 v20:=Tryz.zeroValue20
 t21:=Tryz.underlying21
 a21:=Tryz.isAgg21
 z21:=Tryz.sizeOf21
 v21:=Tryz.zeroValue21
 t37:=Tryz.underlying230
 a37:=Tryz.isAgg230
 z37:=Tryz.sizeOf230
 v37:=Tryz.zeroValue230
 t46:=Tryz.underlying295
 a46:=Tryz.isAgg295
 z46:=Tryz.sizeOf295
 v46:=Tryz.zeroValue295
 t51:=Tryz.underlying312
 a51:=Tryz.isAgg312
 z51:=Tryz.sizeOf312
 v51:=Tryz.zeroValue312
 t53:=Tryz.underlying314
 a53:=Tryz.isAgg314
 z53:=Tryz.sizeOf314
 v53:=Tryz.zeroValue314
 t75:=Tryz.underlying236
 a75:=Tryz.isAgg236
 z75:=Tryz.sizeOf236
 v75:=Tryz.zeroValue236
 t76:=Tryz.underlying237
 a76:=Tryz.isAgg237
 z76:=Tryz.sizeOf237
 v76:=Tryz.zeroValue237
 t85:=Tryz.underlying320
 a85:=Tryz.isAgg320
 z85:=Tryz.sizeOf320
 v85:=Tryz.zeroValue320
 t127:=Tryz.underlying278
 a127:=Tryz.isAgg278
 z127:=Tryz.sizeOf278
 v127:=Tryz.zeroValue278
 t143:=Tryz.underlying346
 a143:=Tryz.isAgg346
 z143:=Tryz.sizeOf346
 v143:=Tryz.zeroValue346
 t145:=Tryz.underlying348
 a145:=Tryz.isAgg348
 z145:=Tryz.sizeOf348
 v145:=Tryz.zeroValue348
 t167:=Tryz.underlying319
 a167:=Tryz.isAgg319
 z167:=Tryz.sizeOf319
 v167:=Tryz.zeroValue319
 t168:=Tryz.underlying322
 a168:=Tryz.isAgg322
 z168:=Tryz.sizeOf322
 v168:=Tryz.zeroValue322
 t171:=Tryz.underlying338
 a171:=Tryz.isAgg338
 z171:=Tryz.sizeOf338
 v171:=Tryz.zeroValue338
 t173:=Tryz.underlying340
 a173:=Tryz.isAgg340
 z173:=Tryz.sizeOf340
 v173:=Tryz.zeroValue340
 t175:=Tryz.underlying332
 a175:=Tryz.isAgg332
 z175:=Tryz.sizeOf332
 v175:=Tryz.zeroValue332
 t210:=Tryz.underlying336
 a210:=Tryz.isAgg336
 z210:=Tryz.sizeOf336
 v210:=Tryz.zeroValue336
 t212:=Tryz.underlying350
 a212:=Tryz.isAgg350
 z212:=Tryz.sizeOf350
 v212:=Tryz.zeroValue350
 t213:=Tryz.underlying351
 a213:=Tryz.isAgg351
 z213:=Tryz.sizeOf351
 t232:=Tryz.underlying352
 a232:=Tryz.isAgg352
 z232:=Tryz.sizeOf352
 v232:=Tryz.zeroValue352
 t233:=Tryz.underlying353
 a233:=Tryz.isAgg353
 z233:=Tryz.sizeOf353
 v233:=Tryz.zeroValue353
 g15:=by kernel_rfl
 g16:=by kernel_rfl
 g17:=by kernel_rfl
 g18:=by kernel_rfl
 g19:=by kernel_rfl
 t80:=Tryz.underlying240
 a80:=Tryz.isAgg240
 z80:=Tryz.sizeOf240
 v80:=Tryz.zeroValue240
 i0:=by kernel_rfl
 i2:=by kernel_rfl
 i3:=by kernel_rfl
 i4:=by kernel_rfl
 i5:=by kernel_rfl
 i9:=by kernel_rfl
 i20:=by kernel_rfl
 i21:=by kernel_rfl
 i37:=by kernel_rfl
 i46:=by kernel_rfl
 i51:=by kernel_rfl
 i53:=by kernel_rfl
 i75:=by kernel_rfl
 i76:=by kernel_rfl
 i80:=by kernel_rfl
 i85:=by kernel_rfl
 i127:=by kernel_rfl
 i143:=by kernel_rfl
 i145:=by kernel_rfl
 i167:=by kernel_rfl
 i168:=by kernel_rfl
 i171:=by kernel_rfl
 i173:=by kernel_rfl
 i175:=by kernel_rfl
 i210:=by kernel_rfl
 i212:=by kernel_rfl
 i232:=by kernel_rfl
 i233:=by kernel_rfl
 m15:=by kernel_rfl
 m16:=by kernel_rfl
 m17:=by kernel_rfl
 m18:=by kernel_rfl
 m19:=by kernel_rfl
 c0:=by kernel_rfl
 c2:=by kernel_rfl
 c3:=by kernel_rfl
 c4:=by kernel_rfl
 c5:=by kernel_rfl
 c9:=by kernel_rfl
 c20:=by kernel_rfl
 c21:=by kernel_rfl
 c37:=by kernel_rfl
 c46:=by kernel_rfl
 c51:=by kernel_rfl
 c53:=by kernel_rfl
 c75:=by kernel_rfl
 c76:=by kernel_rfl
 c80:=by kernel_rfl
 c85:=by kernel_rfl
 c127:=by kernel_rfl
 c143:=by kernel_rfl
 c145:=by kernel_rfl
 c167:=by kernel_rfl
 c168:=by kernel_rfl
 c171:=by kernel_rfl
 c173:=by kernel_rfl
 c175:=by kernel_rfl
 c210:=by kernel_rfl
 c212:=by kernel_rfl
 c213:=by kernel_rfl
 c232:=by kernel_rfl
 c233:=by kernel_rfl}
open Go.RowKit in
theorem Tryz.strconv_Atoi_ok (s:ByteArray) (Wj:s.size<=9223372036854775806) (v:Int) (h:Lib.atoiAll s.data.toList= .ok v) (w:World):
  Calls Tryz.prog 201 #[.string s] w fun e w'=>e= .returned (.tuple #[.int .i64 v,.nilIface])/\(w'=w\/∃t,w'=Lib.bytesWorld w 5 t):=Any.strconv_Atoi_ok Tryz.C8 s Wj v h w
open Go.RowKit in
theorem Tryz.strconv_Atoi_syntax_var (s:ByteArray) (Gj:s.size<=281474976710656) (h:Lib.atoiAll s.data.toList= .«syntax») (tp:TypeId) (p:Value) (w:World) (wB:w.var? Tryz.prog "strconv.ErrSyntax" =some #[.iface tp p]):
  Calls Tryz.prog 201 #[.string s] w fun e w'=>∃N,e= .returned (.tuple #[.int .i64 0,.iface 322 (.pointer (some ⟨N,0,none⟩))])/\w.heap.size<=N/\w'.heap[N]?=some (.cells #[.string ⟨#[65,116,111,105]⟩,.string s,.iface tp p] 336 (0,0))/\Below w.heap.size w w':=Any.strconv_Atoi_syntax_var Tryz.C8 s Gj h tp p w wB
open Go.RowKit in
theorem Tryz.strconv_Atoi_range_var (s:ByteArray) (Gj:s.size<=281474976710656) (h:Lib.atoiAll s.data.toList= .range) (tp:TypeId) (p:Value) (w:World) (wB:w.var? Tryz.prog "strconv.ErrRange" =some #[.iface tp p]):
  Calls Tryz.prog 201 #[.string s] w fun e w'=>∃N,e= .returned (.tuple #[.int .i64 (Lib.atoiSat s.data.toList),.iface 322 (.pointer (some ⟨N,0,none⟩))])/\w.heap.size<=N/\w'.heap[N]?=some (.cells #[.string ⟨#[65,116,111,105]⟩,.string s,.iface tp p] 336 (0,0))/\Below w.heap.size w w':=Any.strconv_Atoi_range_var Tryz.C8 s Gj h tp p w wB
def Tryz.X7:Go.Shelf.Ren:=⟨fun|99=>160|206=>203|n=>n,fun|9=>9|4=>4|3=>3|n=>n,fun|n=>n⟩
theorem Tryz.X6:Go.Proofs.Lays.n99 Tryz.prog Tryz.X7:={
 mixed:=by kernel_rfl
 f99:=Tryz.func160.trans (congrArg some (by kernel_rfl))
 f206:=Tryz.func203.trans (congrArg some (by kernel_rfl))
 t3:=Tryz.underlying3
 a3:=Tryz.isAgg3
 z3:=Tryz.sizeOf3
 v3:=Tryz.zeroValue3
 t4:=Tryz.underlying4
 a4:=Tryz.isAgg4
 z4:=Tryz.sizeOf4
 v4:=Tryz.zeroValue4
 t9:=Tryz.underlying9
 a9:=Tryz.isAgg9
 z9:=Tryz.sizeOf9
 v9:=Tryz.zeroValue9}
open Go.RowKit Go.Lib in
theorem Tryz.strings_HasPrefix (s p:ByteArray) (w:World):
  Calls Tryz.prog 160 #[.string s,.string p] w fun e w'=>e= .returned (.bool (Lib.hasPrefix s.data.toList p.data.toList))/\w'=w:=Any.strings_HasPrefix Tryz.X6 s p w
end Go.Proofs
end
section
namespace Go.Proofs.YtpfohmboflcneaaGreatDoor
open Go Go.AL Go.RowKit
set_option maxRecDepth 10000
set_option maxHeartbeats 4000000
def gT (l:List UInt8):Int×Bool:=match Lib.atoiAll l with
 | .ok v=>(v,true)
 | .range=>(Lib.atoiSat l,false)
 |_=>(0,false)
def mT (b:Bool):AV:=bif b then .im (.v .nilIface)else .wr (.iface 322) .top
theorem Jd {P:Program} {w:World} {I:Nat->Prop} {n:String} {Q:Obj->Prop} (hV:VK P w I) (hm:(n,Q)∈uE) (hs:(P.globalNamed n).isSome=true):∃g o,P.globalNamed n=some g/\w.heap[g]?=some o/\Q o:=by
 obtain⟨g,hg⟩:=Option.isSome_iff_exists.1 hs
 obtain⟨_,o,U,h2⟩:=hV _ hm g hg
 exact⟨g,o,hg,U,h2⟩
theorem JV (l:List UInt8) (hl:l.length<=1000000000):bh Tryz.prog 201 [Sv l] (.aG [Iv (gT l).1,mT (gT l).2]):=by
 refine bh.Im (by rfl) (by cases(gT l).2<;>rfl) fun w φ I vs hd hI hV=>?_
 simp only[AV.ab]at hd
 obtain⟨u,us,rfl,hu,rfl⟩:=hd
 rw[ma]at hu
 subst hu
 have hb:(BA l).data.toList=l:=ve l
 have aO:(BA l).size=l.length:=rfl
 cases h:Lib.atoiAll l with
 |ok v=>
  have e:gT l=(v,true):=by simp[gT,h]
  rw[e]
  refine(Tryz.strconv_Atoi_ok (BA l) (by omega) v (by rw[hb];exact h) w).mono fun e w' ⟨he,hw⟩=>⟨_,he,?_,?_⟩
  ·simp only[AV.den,AV.ab,IV.den,mT,cond_true]
   exact⟨_,⟨_,_,rfl,⟨rfl,rfl⟩,_,_,rfl,⟨rfl,rfl⟩,rfl⟩,rfl⟩
  ·rcases hw with rfl|⟨t,rfl⟩
   ·exact Below.refl _ _
   ·exact Lib.bytesWorld_below _ _ _
 |range=>
  have e:gT l=(Lib.atoiSat l,false):=by simp[gT,h]
  rw[e]
  obtain⟨g,o,hg,ho,tp,p,T,fz,rfl⟩:=Jd (n:= "strconv.ErrRange") hV (by simp only[uE,List.mem_cons];exact .inr (.inl rfl)) (by rfl)
  refine(Tryz.strconv_Atoi_range_var (BA l) (by omega) (by rw[hb];exact h) tp p w (by simp only[World.var?,hg,Option.bind_some,ho])).mono fun e w' ⟨N,he,_,_,hw⟩=>⟨_,he,?_,hw⟩
  rw[hb]
  simp only[AV.den,AV.ab,IV.den,mT,cond_false,WK.rel]
  exact⟨_,⟨_,_,rfl,⟨rfl,rfl⟩,_,_,rfl,⟨_,rfl,trivial⟩,rfl⟩,rfl⟩
 |_=>
  have e:gT l=(0,false):=by simp[gT,h]
  rw[e]
  obtain⟨g,o,hg,ho,tp,p,T,fz,rfl⟩:=Jd (n:= "strconv.ErrSyntax") hV (by simp only[uE,List.mem_cons];exact .inl rfl) (by rfl)
  refine(Any.strconv_Atoi_syntax_var Tryz.C8 (BA l) (by omega) (by rw[hb];exact h) tp p w (by simp only[World.var?,hg,Option.bind_some,ho])).mono fun e w' ⟨N,he,_,_,hw⟩=>⟨_,he,?_,hw⟩
  simp only[AV.den,AV.ab,IV.den,mT,cond_false,WK.rel]
  exact⟨_,⟨_,_,rfl,⟨rfl,rfl⟩,_,_,rfl,⟨_,rfl,trivial⟩,rfl⟩,rfl⟩
theorem JU (l:List UInt8):-9223372036854775808<=(gT l).1/\(gT l).1<=9223372036854775807:=by
 unfold gT
 split
 ·rename_i v h;exact Lib.atoiAll_bounds h
 ·exact Lib.atoiSat_bounds l
 ·simp
theorem Hh (n:Int) (h:-9223372036854775808<=n/\n<=9223372036854775807):bh Tryz.prog 202 [Iv n] (Sv (Lib.itoa n)):=by
 refine bh.Im (by rfl) rfl fun w φ I vs hd hI hV=>?_
 simp only[AV.ab]at hd
 obtain⟨u,us,rfl,hu,rfl⟩:=hd
 rw[fU]at hu
 subst hu
 obtain⟨g,o,hg,ho,T,fz,rfl⟩:=Jd (n:= "internal/strconv.uint64pow10") hV (by simp only[uE,List.mem_cons];exact .inr (.inr (.inl rfl))) (by rfl)
 refine(Tryz.strconv_Itoa n h.1 h.2 w (by simp only[Lib.TabIs,World.var?,hg,Option.bind_some,ho];rfl)).mono fun e w' ⟨he,k,os,hw⟩=>⟨_,he,by rw[ma];rfl,?_⟩
 subst hw
 refine⟨rfl,rfl,rfl,?_,fun j hj=>?_⟩
 ·show w.heap.size<=(w.heap++os).size;rw[Array.size_append];exact Nat.le_add_right _ _
 ·show(w.heap++os)[j]?=_
  rw[Array.getElem?_append_left hj]
theorem Vv (l m:List UInt8):bh Tryz.prog 160 [Sv l,Sv m] (Bv (Lib.hasPrefix l m)):=by
 refine bh.Im (by rfl) rfl fun w φ I vs hd hI hV=>?_
 simp only[AV.ab]at hd
 obtain⟨u,us,rfl,hu,u2,oR,rfl,zB,rfl⟩:=hd
 rw[ma]at hu zB
 subst hu;subst zB
 refine(Tryz.strings_HasPrefix (BA l) (BA m) w).mono fun e w' ⟨he,hw⟩=>⟨_,he,?_,?_⟩
 ·have U:(BA l).data.toList=l:=ve l
  have h2:(BA m).data.toList=m:=ve m
  rw[U,h2]
  simp only[AV.den,IV.den]
  exact⟨trivial,rfl⟩
 ·subst hw;exact Below.refl _ _
theorem abp (p:AV) (hp:p= .im (.v (.pointer none))\/p= .ob 0 0) (sh:Bool) (l:List UInt8) (m:UInt8) (n:Nat) (hn:n=l.length) (hb:l.length+1<=1000000000):
  ao Tryz.prog 198 [.ob 0 0,Uv m] [(0,.var 234 [p,.os 1 1 0 n,Bv sh]),(1,.vec 5 1 (dB l))]
   (fun r H'=>H'=[(0,.var 234 [.ob 0 0,.os 2 1 0 (n+1),Bv sh]),(2,.vec 5 1 (dB (l++[m])))]/\r= .im (.v .nilIface)):=by
 subst hn
 have jt:ao Tryz.prog 196 [.ob 0 0] [(0,.var 234 [p,.os 1 1 0 l.length,Bv sh]),(1,.vec 5 1 (dB l))] (fun r H'=>H'=[(0,.var 234 [.ob 0 0,.os 1 1 0 l.length,Bv sh]),(1,.vec 5 1 (dB l))]/\r= .aG []):=by
  rcases hp with rfl|rfl
  ·exact Kw _ _ _
  ·exact Kx _ _ _
 have Gy:lh (br [(0,0),(1,1)] 2) [(0,.var 234 [p,.os 1 1 0 l.length,Bv sh]),(1,.vec 5 1 (dB l))] [(0,.var 234 [p,.os 1 1 0 l.length,Bv sh]),(1,.vec 5 1 (dB l))]:=by
  rcases hp with rfl|rfl
  ·exact⟨rfl,rfl,trivial⟩
  ·exact⟨rfl,rfl,trivial⟩
 refine ao.walk [0,1,4] [] Tryz.func198 rfl Tryz.ntmps198 (by kernel_rfl) (by rfl) rfl fun W own I0 aq lay=>?_
 refine gO ?_
 refine AQ.bR [(0,0),(1,1)] (by kernel_rfl) rfl rfl rfl rfl rfl rfl Gy rfl jt ?_
 rintro r H1 ⟨rfl,rfl⟩
 refine⟨rfl,?_⟩
 refine gO ?_
 refine AQ.rename 1 2 rfl rfl rfl ?_
 refine sI ?_
 refine AQ.kill 2 ?_
 refine sI ?_
 refine AQ.append (hnb:=rfl) (rows:=dB l) (es:=0) (by kernel_rfl) rfl rfl rfl (by rfl) Tryz.aaF Tryz.sz5 (by show Option.map _ (aA Tryz.prog 5)=_;rw[Tryz.zr5];rfl) Tryz.Te (by first|rfl|(simp only[oW,List.length_cons,List.length_nil];done)|(simp only[oW,List.length_cons,List.length_nil];omega)) (by simp only[oW,List.length_cons,List.length_nil];omega) (by simp only[oW,List.length_cons,List.length_nil];omega) ?_
 refine sI ?_
 refine gO ?_
 exact AE.ret rfl ⟨rfl,trivial⟩ ⟨by rw[oW,show dB (l++[m])=dB l++[[.v (.int .u8 m.toNat)]] by simp[dB]],rfl⟩
abbrev eQ (sh:Bool) (p:AV) (i:Nat) (l:List UInt8):aa:=[(0,.var 234 [p,.os i 1 0 l.length,Bv sh]),(i,.vec 5 1 (dB l))]
def qX (p:AV):Prop:=p= .im (.v (.pointer none))\/p= .ob 0 0
theorem u_ {p:AV} (hp:qX p) (sh:Bool) (l m:List UInt8) (hb:l.length+m.length<=1000000000):
  ao Tryz.prog 152 [.ob 0 0,Sv m] (eQ sh p 1 l) (fun r H'=>H'=eQ sh (.ob 0 0) 2 (l++m)/\r= .aG [Iv m.length,.im (.v .nilIface)]):=by
 have:=abq p hp sh l m l.length rfl hb
 rw[show l.length+m.length=(l++m).length by simp]at this
 exact this
theorem Ed {p:AV} (hp:qX p) (sh:Bool) (l:List UInt8) (m:UInt8) (hb:l.length+1<=1000000000):
  ao Tryz.prog 198 [.ob 0 0,Uv m] (eQ sh p 1 l) (fun r H'=>H'=eQ sh (.ob 0 0) 2 (l++[m])/\r= .im (.v .nilIface)):=by
 have:=abp p hp sh l m l.length rfl hb
 rw[show l.length+1=(l++[m]).length by simp]at this
 exact this
theorem Py {p:AV} (hp:qX p) (sh:Bool) (l:List UInt8) (n:Nat):lh (br [(0,0),(1,4)] n) (eQ sh p 4 l) (eQ sh p 1 l):=by
 rcases hp with rfl|rfl
 ·exact⟨rfl,rfl,trivial⟩
 ·exact⟨rfl,rfl,trivial⟩
theorem aas {C:Cx} {K:List PK} {q:List Nat} {t:Tm} {p:AV} (hp:qX p) {sh:Bool} {l:List UInt8} (hnb:C.B.nb=2) (h:AP C q K [(0,.ob 0 0),(1,bf t)] (eQ sh p 4 l)):AP C q K [(0,.ob 0 0),(1,bf t)] (eQ sh p 1 l):=by
 have hb:Nat.ble C.B.nb 4=true:=by rw[hnb];rfl
 rcases hp with rfl|rfl
 ·exact AP.rename 1 4 rfl rfl hb h
 ·exact AP.rename 1 4 rfl rfl hb h
theorem aar {C:Cx} {K:List PK} {q:List Nat} {t:Lt} {p:AV} (hp:qX p) {sh:Bool} {l:List UInt8} (hnb:C.B.nb=2) (h:AP C q K [(0,.ob 0 0),(1,nB t)] (eQ sh p 4 l)):AP C q K [(0,.ob 0 0),(1,nB t)] (eQ sh p 1 l):=by
 have hb:Nat.ble C.B.nb 4=true:=by rw[hnb];rfl
 rcases hp with rfl|rfl
 ·exact AP.rename 1 4 rfl rfl hb h
 ·exact AP.rename 1 4 rfl rfl hb h
theorem aaT (sh:Bool) (t:Tm):eT sh t=if t.nm=[]then 63::(if sh then[]else Lib.itoa t.ix)else t.nm++fQ sh t.xs:=by cases t;rw[eT];rfl
theorem Zt (sh:Bool) (t:Tm) (hs:aR t) (ho:c7 t=true) (p:AV) (hp:qX p) (l:List UInt8) (hb:l.length+(eT sh t).length<=1000000000)
  (hl:t.nm≠[]->∀l:List UInt8,l.length+(fQ sh t.xs).length<=1000000000->ao Tryz.prog 199 [.ob 0 0,.im (.sl 3 (az t.xs))] (eQ sh (.ob 0 0) 1 l) (fun r H'=>H'=eQ sh (.ob 0 0) 2 (l++fQ sh t.xs)/\r= .aG [])):
  ao Tryz.prog 197 [.ob 0 0,bf t] (eQ sh p 1 l) (fun r H'=>H'=eQ sh (.ob 0 0) 2 (l++eT sh t)/\r= .aG []):=by
 have hT:=aaT sh t
 have ah:=sQ t
 rw[ho]at ah
 have uu:=Py hp sh l
 refine ao.walk [0,1,3,6,15] [] Tryz.func197 rfl Tryz.ntmps197 (by kernel_rfl) (by rfl) rfl fun W own I0 aq lay=>?_
 refine aas hp rfl ?_
 refine gO ?_
 refine AP.cond rfl rfl (fun h=>?_) (fun h=>?_)
 ·have h:t.nm=[]:=by simpa using h
  rw[if_pos h]at hT ah
  rw[hT]at hb
  have qJ:=Ed hp sh l 63 (by simp at hb;omega)
  refine gO ?_
  refine AQ.bR [(0,0),(1,4)] (by kernel_rfl) rfl rfl rfl rfl rfl rfl (uu _) rfl (qJ) ?_
  rintro r H1 ⟨rfl,rfl⟩;refine⟨rfl,?_⟩;refine sH ?_;refine AQ.rename 7 4 rfl rfl rfl ?_;refine sI ?_;refine AQ.order [0,4] rfl ?_;refine sI ?_
  cases sh with
  |true=>
   refine gO ?_
   refine AE.rename 4 2 rfl rfl rfl ?_;refine sI ?_
   exact AE.ret rfl trivial ⟨by rw[hT];rfl,rfl⟩
  |false=>
   have ah:=ah.symm
   rw[Bool.and_eq_true,Bool.and_eq_true,decide_eq_true_iff,decide_eq_true_iff]at ah
   have hit:=Hh t.ix (by omega)
   have hT:eT false t=63::Lib.itoa t.ix:=hT
   have Xo:=u_ (.inr rfl) false (l++[63]) (Lib.itoa t.ix) (by simp at hb⊢;omega)
   refine gO ?_
   refine AP.db 7 (Tree.node [] [0,1,2,3,4] [5] [Tree.node [0,1,2] [] [6] [Tree.node [] [] [] []]]) (by kernel_rfl) rfl (by kernel_rfl) (by kernel_rfl) ?_
   refine c_ ?_
   refine sI ?_
   refine AQ.fn (by kernel_rfl) rfl rfl rfl (hit) rfl ?_
   refine sI ?_
   refine AQ.nx rfl ?_
   refine sI ?_
   refine AQ.bR [(0,0),(1,4)] (by kernel_rfl) rfl rfl rfl rfl rfl rfl (by exact⟨rfl,rfl,trivial⟩) rfl (Xo) ?_
   rintro r H1 ⟨rfl,rfl⟩;refine⟨rfl,?_⟩;refine sH ?_;refine AQ.rename 7 4 rfl rfl rfl ?_;refine sI ?_;refine AQ.order [0,4] rfl ?_;refine sI ?_
   refine AQ.nx rfl ?_
   refine sI ?_
   refine AQ.done ?_
   refine gO ?_
   refine AE.rename 4 2 rfl rfl rfl ?_;refine sI ?_
   exact AE.ret rfl trivial ⟨by rw[hT,show l++63::Lib.itoa t.ix=l++[63]++Lib.itoa t.ix by simp];rfl,rfl⟩
 ·have h:¬t.nm=[]:=by simpa using h
  rw[if_neg h]at hT
  rw[hT,List.length_append]at hb
  have zJ:=u_ hp sh l t.nm (by omega)
  have eB:=hl h (l++t.nm) (by rw[List.length_append];omega)
  refine gO ?_
  refine AP.db 6 (Tree.node [] [0,1,2,3,4] [5] [Tree.node [] [] [] []]) (by kernel_rfl) rfl (by kernel_rfl) (by kernel_rfl) ?_
  refine c_ ?_
  refine sI ?_
  refine AQ.bR [(0,0),(1,4)] (by kernel_rfl) rfl rfl rfl rfl rfl rfl (uu _) rfl (zJ) ?_
  rintro r H1 ⟨rfl,rfl⟩;refine⟨rfl,?_⟩;refine sH ?_;refine AQ.rename 7 4 rfl rfl rfl ?_;refine sI ?_;refine AQ.order [0,4] rfl ?_;refine sI ?_
  refine AQ.nx rfl ?_
  refine sI ?_
  refine AQ.done ?_
  refine gO ?_
  refine AQ.bR [(0,0),(1,4)] (by kernel_rfl) rfl rfl rfl rfl rfl rfl (by exact⟨rfl,rfl,trivial⟩) rfl (eB) ?_
  rintro r H1 ⟨rfl,rfl⟩;refine⟨rfl,?_⟩;refine sH ?_;refine AQ.rename 7 4 rfl rfl rfl ?_;refine sI ?_;refine AQ.order [0,4] rfl ?_;refine sI ?_
  refine gO ?_
  refine AE.rename 4 2 rfl rfl rfl ?_;refine sI ?_
  exact AE.jQ rfl trivial ⟨by rw[hT,<-List.append_assoc];rfl,rfl⟩
def rj (sh:Bool) (l:List Tm):List UInt8:=l.flatMap fun t=>44::32::eT sh t
def ic (sh:Bool):List Tm->List UInt8
 |[]=>[]
 |t::l=>40::(eT sh t++rj sh l)
theorem Q3 (sh:Bool):∀l,mI sh l=rj sh l++[41]
 |[]=>by rw[mI];rfl
 |t::l=>by rw[mI,Q3 sh l,rj,rj,List.flatMap_cons];simp
theorem Q0 (sh:Bool) {l:List Tm} (h:l≠[]):fQ sh l=ic sh l++[41]:=by
 cases l with
 |nil=>exact absurd rfl h
 |cons t l=>rw[fQ,Q3,ic];simp
theorem aaQ (sh:Bool) {l:List Tm} {k:Nat} {u:Tm} (h:l[k]?=some u):ic sh (l.take (k+1))=ic sh (l.take k)++((if k=0 then[40]else[44,32])++eT sh u):=by
 rw[dX h]
 cases l with
 |nil=>simp at h
 |cons t l=>
  cases k with
  |zero=>simp[ic,rj]
  |succ k=>rw[List.take_succ_cons,List.cons_append,ic,ic];simp[rj]
theorem aaP (sh:Bool) (l:List Tm) (k:Nat):∃r,ic sh l=ic sh (l.take k)++r:=by
 cases l with
 |nil=>exact⟨[],by rw[List.take_nil];rfl⟩
 |cons t l=>
  cases k with
  |zero=>exact⟨_,rfl⟩
  |succ k=>exact⟨rj sh (l.drop k),by
    rw[List.take_succ_cons,ic,ic]
    conv=>lhs;rw[<-List.take_append_drop k l,rj,List.flatMap_append]
    simp[rj]⟩
theorem aaO (sh:Bool) (l:List Tm) (k:Nat):(ic sh (l.take k)).length<=(ic sh l).length:=by
 obtain⟨r,h⟩:=aaP sh l k
 rw[h,List.length_append];omega
theorem PC (sh:Bool) (xs:List Tm) (zK:xs.length<=1000000000) (l:List UInt8) (hb:l.length+(fQ sh xs).length<=1000000000)
  (ih:∀(k:Nat) (t:Tm) (l:List UInt8),xs[k]?=some t->l.length+(eT sh t).length<=1000000000->ao Tryz.prog 197 [.ob 0 0,bf t] (eQ sh (.ob 0 0) 1 l) (fun r H'=>H'=eQ sh (.ob 0 0) 2 (l++eT sh t)/\r= .aG [])):
  ao Tryz.prog 199 [.ob 0 0,.im (.sl 3 (az xs))] (eQ sh (.ob 0 0) 1 l) (fun r H'=>H'=eQ sh (.ob 0 0) 2 (l++fQ sh xs)/\r= .aG []):=by
 refine ao.walk [0,1,4,5,8,9,10,11,12,17] [5] Tryz.func199 rfl Tryz.ntmps199 (by kernel_rfl) (by rfl) rfl fun W own I0 aq lay=>?_
 refine AP.rename 1 4 rfl rfl rfl ?_
 refine sI ?_
 refine gE @aw ?_
 refine AP.cond rfl rfl (fun h=>?_) (fun h=>?_)
 ·have h:xs=[]:=by cases xs with|nil=>rfl|cons a b=>simp at h;omega
  subst h
  refine gO ?_
  refine AE.rename 4 2 rfl rfl rfl ?_;refine sI ?_
  exact AE.ret rfl trivial ⟨by rw[fQ,List.append_nil];rfl,rfl⟩
 have h:xs≠[]:=fun e=>by subst e;simp at h
 rw[Q0 sh h,List.length_append,List.length_singleton]at hb
 refine gE @aw ?_
 refine AP.loop rfl (α:=Nat) (fun k=>[(0,.ob 0 0),(9,.im (.sl 3 (az xs))),(10,Iv xs.length),(11,Iv k)]) (fun k=>eQ sh (.ob 0 0) 4 (l++ic sh (xs.take k))) (fun k=>k<=xs.length) (fun k=>xs.length-k) 0 (by omega) (sU) (by rw[List.take_zero,ic,List.append_nil];rfl) fun k hk=>?_
 rcases Nat.eq_or_lt_of_le hk with aM|ag
 ·subst aM
  rw[List.take_length]
  have qJ:=Ed (.inr rfl) sh (l++ic sh xs) 41 (by rw[List.length_append];omega)
  refine gO ?_
  refine cF ?_
  refine gO ?_
  refine AQ.bR [(0,0),(1,4)] (by kernel_rfl) rfl rfl rfl rfl rfl rfl (by exact⟨rfl,rfl,trivial⟩) rfl (qJ) ?_
  rintro r H1 ⟨rfl,rfl⟩;refine⟨rfl,?_⟩;refine sH ?_;refine AQ.rename 7 4 rfl rfl rfl ?_;refine sI ?_;refine AQ.order [0,4] rfl ?_;refine sI ?_
  refine gO ?_
  refine AE.rename 4 2 rfl rfl rfl ?_;refine sI ?_
  exact AE.jQ rfl trivial ⟨by rw[Q0 sh h,<-List.append_assoc];rfl,rfl⟩
 ·obtain⟨u,hu,aX⟩:=fo xs k ag
  have hw:=wr (x:=(k:Int)+1) (by omega)
  have bP:=aaQ sh hu
  have hle:=aaO sh xs (k+1)
  rw[bP,List.length_append,List.length_append]at hle
  refine gO ?_
  refine cT ?_
  refine gE @aX ?_
  refine⟨by rw[aw];omega,?_⟩
  refine gO ?_
  refine AP.fix 5 rfl rfl ?_
  refine sI ?_
  by_cases mh:k=0
  ·subst mh
   rw[if_pos rfl]at bP hle
   have qJ:=Ed (.inr rfl) sh (l++ic sh (xs.take 0)) 40 (by simp at hle⊢;omega)
   have hit:=ih 0 u (l++ic sh (xs.take 0)++[40]) hu (by simp at hle⊢;omega)
   refine cT ?_
   refine gO ?_
   refine AQ.bR [(0,0),(1,4)] (by kernel_rfl) rfl rfl rfl rfl rfl rfl (by exact⟨rfl,rfl,trivial⟩) rfl (qJ) ?_
   rintro r H1 ⟨rfl,rfl⟩;refine⟨rfl,?_⟩;refine sH ?_;refine AQ.rename 7 4 rfl rfl rfl ?_;refine sI ?_;refine AQ.order [0,4] rfl ?_;refine sI ?_
   refine gO ?_
   refine AQ.bR [(0,0),(1,4)] (by kernel_rfl) rfl rfl rfl rfl rfl rfl (by exact⟨rfl,rfl,trivial⟩) rfl (hit) ?_
   rintro r H1 ⟨rfl,rfl⟩;refine⟨rfl,?_⟩;refine sH ?_;refine AQ.rename 7 4 rfl rfl rfl ?_;refine sI ?_;refine AQ.order [0,4] rfl ?_;refine sI ?_
   refine gO ?_
   refine AE.round 1 (by omega) (by omega) (sU) ?_
   rw[bP];simp only[List.append_assoc];rfl
  ·rw[if_neg mh]at bP hle
   have qJ:=u_ (.inr rfl) sh (l++ic sh (xs.take k)) [44,32] (by simp at hle⊢;omega)
   have hit:=ih k u (l++ic sh (xs.take k)++[44,32]) hu (by simp at hle⊢;omega)
   refine cF ?_
   refine gO ?_
   refine AQ.bR [(0,0),(1,4)] (by kernel_rfl) rfl rfl rfl rfl rfl rfl (by exact⟨rfl,rfl,trivial⟩) rfl (qJ) ?_
   rintro r H1 ⟨rfl,rfl⟩;refine⟨rfl,?_⟩;refine sH ?_;refine AQ.rename 7 4 rfl rfl rfl ?_;refine sI ?_;refine AQ.order [0,4] rfl ?_;refine sI ?_
   refine gO ?_
   refine AQ.bR [(0,0),(1,4)] (by kernel_rfl) rfl rfl rfl rfl rfl rfl (by exact⟨rfl,rfl,trivial⟩) rfl (hit) ?_
   rintro r H1 ⟨rfl,rfl⟩;refine⟨rfl,?_⟩;refine sH ?_;refine AQ.rename 7 4 rfl rfl rfl ?_;refine sI ?_;refine AQ.order [0,4] rfl ?_;refine sI ?_
   refine gE @hw ?_
   refine AE.round (k+1) (by omega) (by omega) (sU) ?_
   rw[bP];simp only[List.append_assoc];rfl
theorem Pd {t:Tm} (h:c7 t=true) (hn:t.nm≠[]):cB t.xs=true:=by
 rw[sQ,if_neg hn,Bool.and_eq_true]at h;exact h.2
theorem DA (sh:Bool) (t:Tm) (hs:aR t) (ho:c7 t=true) (p:AV) (hp:qX p) (l:List UInt8) (hb:l.length+(eT sh t).length<=1000000000):
  ao Tryz.prog 197 [.ob 0 0,bf t] (eQ sh p 1 l) (fun r H'=>H'=eQ sh (.ob 0 0) 2 (l++eT sh t)/\r= .aG []):=
 Zt sh t hs ho p hp l hb fun hn l hb=>PC sh t.xs (ji.1 hs).2.1 l hb fun k u l hu hb=>
  DA sh u (gl (ji.1 hs).2.2 hu) (qY (Pd ho hn) u (List.mem_of_getElem? hu)) _ (.inr rfl) l hb
termination_by SizeOf.sizeOf t
decreasing_by exact lX hu
theorem PB (sh:Bool) (xs:List Tm) (zK:xs.length<=1000000000) (hs:bI xs) (ho:cB xs=true) (l:List UInt8) (hb:l.length+(fQ sh xs).length<=1000000000):
  ao Tryz.prog 199 [.ob 0 0,.im (.sl 3 (az xs))] (eQ sh (.ob 0 0) 1 l) (fun r H'=>H'=eQ sh (.ob 0 0) 2 (l++fQ sh xs)/\r= .aG []):=
 PC sh xs zK l hb fun k u l hu hb=>DA sh u (gl hs hu) (qY ho u (List.mem_of_getElem? hu)) _ (.inr rfl) l hb
theorem PD (sh:Bool) (x:Lt) (hs:oB x) (ho:iQ x=true) (p:AV) (hp:qX p) (l:List UInt8) (hb:l.length+(jK sh x).length<=1000000000):
  ao Tryz.prog 153 [.ob 0 0,nB x] (eQ sh p 1 l) (fun r H'=>H'=eQ sh (.ob 0 0) 2 (l++jK sh x)/\r= .aG []):=by
 have ah:=w7 ho
 have hT:jK sh x=_:=jK.eq_def sh x
 have uu:=Py hp sh l
 rw[hT]at hb
 refine ao.walk [0,1,3,6,14,30] [] Tryz.func153 rfl Tryz.ntmps153 (by kernel_rfl) (by rfl) rfl fun W own I0 aq lay=>?_
 refine aar hp rfl ?_
 refine gO ?_
 refine AP.cond rfl rfl (fun h=>?_) (fun h=>?_)
 ·have h:x.pd=[61]:=by simpa using h
  rw[iQ,if_pos h,Bool.and_eq_true,decide_eq_true_iff]at ho
  rw[if_pos h]at hb hT
  obtain⟨a,b,rT⟩:∃a b,x.xs=[a,b]:=by
   have:=ho.1
   match x.xs,this with
   |[a,b],_=>exact⟨a,b,rfl⟩
  have CJ:=hs.2.2
  rw[rT]at ah CJ hb hT
  simp only[List.getD_cons_zero,List.getD_cons_succ]at hb hT
  rw[cB,cB,Bool.and_eq_true,Bool.and_eq_true]at ah
  rw[bI,bI]at CJ
  have aX:az x.xs=[s9 a,s9 b]:=by rw[rT];simp only[az,jJ]
  have e0:[s9 a,s9 b].getD 0 []=[Si a.nm,Ii a.ix,.sl 3 (az a.xs)]:=rfl
  have e1:[s9 a,s9 b].getD 1 []=[Si b.nm,Ii b.ix,.sl 3 (az b.xs)]:=rfl
  have ha:=DA sh a CJ.1 ah.1 p hp l (by simp only[List.length_append]at hb;omega)
  have hw:=u_ (.inr rfl) sh (l++eT sh a) (tH x.ng) (by simp only[List.length_append]at hb⊢;omega)
  have aj:=DA sh b CJ.2.1 ah.2.1 (.ob 0 0) (.inr rfl) (l++eT sh a++tH x.ng) (by simp only[List.length_append]at hb⊢;omega)
  rw[aX]
  refine gE (an @e0 (an @List.length_cons.{0} @List.length_nil.{0})) ?_
  refine AQ.bR [(0,0),(1,4)] (by kernel_rfl) rfl rfl rfl rfl rfl rfl (uu _) rfl (ha) ?_
  rintro r H1 ⟨rfl,rfl⟩;refine⟨rfl,?_⟩;refine sH ?_;refine AQ.rename 7 4 rfl rfl rfl ?_;refine sI ?_;refine AQ.order [0,4] rfl ?_;refine sI ?_
  refine gO ?_
  cases zk:x.ng with
  |true=>
   rw[zk]at hw aj hT
   refine gO ?_
   refine AQ.bR [(0,0),(1,4)] (by kernel_rfl) rfl rfl rfl rfl rfl rfl (by exact⟨rfl,rfl,trivial⟩) rfl (hw) ?_
   rintro r H1 ⟨rfl,rfl⟩;refine⟨rfl,?_⟩;refine sH ?_;refine AQ.rename 7 4 rfl rfl rfl ?_;refine sI ?_;refine AQ.order [0,4] rfl ?_;refine sI ?_
   refine gE (an @e1 (an @List.length_cons.{0} @List.length_nil.{0})) ?_
   refine AQ.bR [(0,0),(1,4)] (by kernel_rfl) rfl rfl rfl rfl rfl rfl (by exact⟨rfl,rfl,trivial⟩) rfl (aj) ?_
   rintro r H1 ⟨rfl,rfl⟩;refine⟨rfl,?_⟩;refine sH ?_;refine AQ.rename 7 4 rfl rfl rfl ?_;refine sI ?_;refine AQ.order [0,4] rfl ?_;refine sI ?_
   refine gO ?_
   refine AE.rename 4 2 rfl rfl rfl ?_;refine sI ?_
   exact AE.ret rfl trivial ⟨by rw[hT];simp only[List.append_assoc];rfl,rfl⟩
  |false=>
   rw[zk]at hw aj hT
   refine gO ?_
   refine AQ.bR [(0,0),(1,4)] (by kernel_rfl) rfl rfl rfl rfl rfl rfl (by exact⟨rfl,rfl,trivial⟩) rfl (hw) ?_
   rintro r H1 ⟨rfl,rfl⟩;refine⟨rfl,?_⟩;refine sH ?_;refine AQ.rename 7 4 rfl rfl rfl ?_;refine sI ?_;refine AQ.order [0,4] rfl ?_;refine sI ?_
   refine gE (an @e1 (an @List.length_cons.{0} @List.length_nil.{0})) ?_
   refine AQ.bR [(0,0),(1,4)] (by kernel_rfl) rfl rfl rfl rfl rfl rfl (by exact⟨rfl,rfl,trivial⟩) rfl (aj) ?_
   rintro r H1 ⟨rfl,rfl⟩;refine⟨rfl,?_⟩;refine sH ?_;refine AQ.rename 7 4 rfl rfl rfl ?_;refine sI ?_;refine AQ.order [0,4] rfl ?_;refine sI ?_
   refine gO ?_
   refine AE.rename 4 2 rfl rfl rfl ?_;refine sI ?_
   exact AE.ret rfl trivial ⟨by rw[hT];simp only[List.append_assoc];rfl,rfl⟩
 ·have h:¬x.pd=[61]:=by simpa using h
  rw[if_neg h]at hb hT
  cases zk:x.ng with
  |true=>
   rw[zk,if_pos rfl]at hb hT
   have qJ:=Ed hp sh l 126 (by simp only[List.length_append,List.length_singleton]at hb;omega)
   have zJ:=u_ (.inr rfl) sh (l++[126]) x.pd (by simp only[List.length_append,List.length_singleton]at hb⊢;omega)
   have eB:=PB sh x.xs hs.2.1 hs.2.2 ah (l++[126]++x.pd) (by simp only[List.length_append,List.length_singleton]at hb⊢;omega)
   refine gO ?_
   refine AQ.bR [(0,0),(1,4)] (by kernel_rfl) rfl rfl rfl rfl rfl rfl (uu _) rfl (qJ) ?_
   rintro r H1 ⟨rfl,rfl⟩;refine⟨rfl,?_⟩;refine sH ?_;refine AQ.rename 7 4 rfl rfl rfl ?_;refine sI ?_;refine AQ.order [0,4] rfl ?_;refine sI ?_
   refine gO ?_
   refine AP.db 6 (Tree.node [] [0,1,2,3,4] [5] [Tree.node [] [] [] []]) (by kernel_rfl) rfl (by kernel_rfl) (by kernel_rfl) ?_
   refine c_ ?_
   refine sI ?_
   refine AQ.bR [(0,0),(1,4)] (by kernel_rfl) rfl rfl rfl rfl rfl rfl (by exact⟨rfl,rfl,trivial⟩) rfl (zJ) ?_
   rintro r H1 ⟨rfl,rfl⟩;refine⟨rfl,?_⟩;refine sH ?_;refine AQ.rename 7 4 rfl rfl rfl ?_;refine sI ?_;refine AQ.order [0,4] rfl ?_;refine sI ?_
   refine AQ.nx rfl ?_
   refine sI ?_
   refine AQ.done ?_
   refine gO ?_
   refine AQ.bR [(0,0),(1,4)] (by kernel_rfl) rfl rfl rfl rfl rfl rfl (by exact⟨rfl,rfl,trivial⟩) rfl (eB) ?_
   rintro r H1 ⟨rfl,rfl⟩;refine⟨rfl,?_⟩;refine sH ?_;refine AQ.rename 7 4 rfl rfl rfl ?_;refine sI ?_;refine AQ.order [0,4] rfl ?_;refine sI ?_
   refine gO ?_
   refine AE.rename 4 2 rfl rfl rfl ?_;refine sI ?_
   exact AE.jQ rfl trivial ⟨by rw[hT];simp only[List.append_assoc];rfl,rfl⟩
  |false=>
   rw[zk,if_neg (by decide),List.nil_append]at hb hT
   have zJ:=u_ hp sh l x.pd (by simp only[List.length_append]at hb⊢;omega)
   have eB:=PB sh x.xs hs.2.1 hs.2.2 ah (l++x.pd) (by simp only[List.length_append]at hb⊢;omega)
   refine gO ?_
   refine AP.db 6 (Tree.node [] [0,1,2,3,4] [5] [Tree.node [] [] [] []]) (by kernel_rfl) rfl (by kernel_rfl) (by kernel_rfl) ?_
   refine c_ ?_
   refine sI ?_
   refine AQ.bR [(0,0),(1,4)] (by kernel_rfl) rfl rfl rfl rfl rfl rfl (uu _) rfl (zJ) ?_
   rintro r H1 ⟨rfl,rfl⟩;refine⟨rfl,?_⟩;refine sH ?_;refine AQ.rename 7 4 rfl rfl rfl ?_;refine sI ?_;refine AQ.order [0,4] rfl ?_;refine sI ?_
   refine AQ.nx rfl ?_
   refine sI ?_
   refine AQ.done ?_
   refine gO ?_
   refine AQ.bR [(0,0),(1,4)] (by kernel_rfl) rfl rfl rfl rfl rfl rfl (by exact⟨rfl,rfl,trivial⟩) rfl (eB) ?_
   rintro r H1 ⟨rfl,rfl⟩;refine⟨rfl,?_⟩;refine sH ?_;refine AQ.rename 7 4 rfl rfl rfl ?_;refine sI ?_;refine AQ.order [0,4] rfl ?_;refine sI ?_
   refine gO ?_
   refine AE.rename 4 2 rfl rfl rfl ?_;refine sI ?_
   exact AE.jQ rfl trivial ⟨by rw[hT];simp only[List.append_assoc];rfl,rfl⟩
theorem OV {n:List UInt8} (h:fI n=true):n.length<=60:=by
 rw[fI,Bool.and_eq_true,Bool.and_eq_true,decide_eq_true_iff,decide_eq_true_iff]at h;exact h.1.2
theorem XE {n:Int} (h:0<=n/\n<1000):(Lib.itoa n).length<=3:=by
 rw[Lib.itoa,if_neg (by omega)]
 exact(KD n.toNat).2.2.2.1 3 (by omega) (by omega)
mutual
theorem D4 (sh:Bool):∀t:Tm,c7 t=true->(eT sh t).length+2<=70*wT t
 | .mk n i xs,h=>by
  rw[c7]at h
  rw[eT,wT]
  by_cases hn:n=[]
  ·rw[if_pos hn,Bool.and_eq_true,Bool.and_eq_true,decide_eq_true_iff,decide_eq_true_iff]at h
   rw[if_pos hn]
   have:=XE h.2
   cases sh<;>simp<;>omega
  ·rw[if_neg hn,Bool.and_eq_true,Bool.and_eq_true]at h
   rw[if_neg hn,List.length_append]
   have U:=OV h.1.1
   have h2:=Q1 sh xs h.2
   omega
theorem Q1 (sh:Bool):∀l:List Tm,cB l=true->(fQ sh l).length<=2+70*aK l
 |[],_=>by rw[fQ];simp
 |t::l,h=>by
  rw[cB,Bool.and_eq_true]at h
  have U:=D4 sh t h.1
  have h2:=Q4 sh l h.2
  rw[fQ,aK,List.length_cons,List.length_append];omega
theorem Q4 (sh:Bool):∀l:List Tm,cB l=true->(mI sh l).length<=1+70*aK l
 |[],_=>by rw[mI];simp
 |t::l,h=>by
  rw[cB,Bool.and_eq_true]at h
  have U:=D4 sh t h.1
  have h2:=Q4 sh l h.2
  rw[mI,aK,List.length_cons,List.length_cons,List.length_append];omega
end
theorem Q2 (sh:Bool) {x:Lt} (h:iQ x=true):(jK sh x).length<=70*jF x:=by
 have ah:=w7 h
 rw[iQ]at h
 rw[jK,jF]
 by_cases hp:x.pd=[61]
 ·rw[if_pos hp,Bool.and_eq_true,decide_eq_true_iff]at h
  rw[if_pos hp]
  obtain⟨a,b,rT⟩:∃a b,x.xs=[a,b]:=by
   have:=h.1
   match x.xs,this with
   |[a,b],_=>exact⟨a,b,rfl⟩
  rw[rT]at ah⊢
  rw[cB,cB,Bool.and_eq_true,Bool.and_eq_true]at ah
  have U:=D4 sh a ah.1
  have h2:=D4 sh b ah.2.1
  simp only[List.getD_cons_zero,List.getD_cons_succ,List.length_append,aK]
  have:(tH x.ng).length<=4:=by cases x.ng<;>simp[tH]
  omega
 ·rw[if_neg hp,Bool.and_eq_true]at h
  rw[if_neg hp]
  have U:=OV h.1
  have h2:=Q1 sh x.xs ah
  simp only[List.length_append]
  cases x.ng<;>simp<;>omega
def lr (sh:Bool):List Lt->List UInt8
 |[]=>[]
 |l::r=>jK sh l++kq sh r
theorem Q6 (sh:Bool):∀c:List Lt,(∀l∈c,iQ l=true)->(kq sh c).length<=3*c.length+70*b8 c
 |[],_=>by rw[kq];simp
 |l::c,h=>by
  have U:=Q2 sh (h l (List.mem_cons_self ..))
  have h2:=Q6 sh c fun x hx=>h x (List.mem_cons_of_mem _ hx)
  have e:b8 (l::c)=jF l+b8 c:=by rw[nC,jF]
  rw[kq,e]
  simp only[List.length_cons,List.length_append];omega
theorem aaR (sh:Bool) {c:List Lt} (h:∀l∈c,iQ l=true):(lr sh c).length<=3*c.length+70*b8 c:=by
 cases c with
 |nil=>simp[lr]
 |cons l c=>
  have U:=Q2 sh (h l (List.mem_cons_self ..))
  have h2:=Q6 sh c fun x hx=>h x (List.mem_cons_of_mem _ hx)
  have e:b8 (l::c)=jF l+b8 c:=by rw[nC,jF]
  rw[lr,e]
  simp only[List.length_cons,List.length_append];omega
theorem Q5 (sh:Bool):∀a b:List Lt,kq sh (a++b)=kq sh a++kq sh b
 |[],b=>by rw[kq];rfl
 |l::a,b=>by rw[List.cons_append,kq,kq,Q5 sh a b];simp
theorem aaS (sh:Bool) {c:List Lt} {k:Nat} {u:Lt} (h:c[k]?=some u):lr sh (c.take (k+1))=lr sh (c.take k)++((if k=0 then[]else[32,124,32])++jK sh u):=by
 rw[dX h]
 cases c with
 |nil=>simp at h
 |cons l c=>
  cases k with
  |zero=>simp[lr,kq]
  |succ k=>rw[List.take_succ_cons,List.cons_append,lr,lr,Q5];simp[kq]
theorem YG (c:List Lt) (k:Nat):b8 (c.take k)<=b8 c:=OR (List.take_sublist k c)
def nD (k:Nat):AV:=if k=0 then .im (.v (.pointer none))else .ob 0 0
theorem Pb (k:Nat):qX (nD k):=by
 rw[nD]
 split
 ·exact .inl rfl
 ·exact .inr rfl
theorem Zk (k:Nat) (sh:Bool) (l:List UInt8) (n:Nat):lh (br [(0,0),(1,1)] n) (eQ sh (nD k) 1 l) (eQ sh (nD k) 1 l):=by
 rcases Pb k with h|h<;>rw[h]<;>exact⟨rfl,rfl,trivial⟩
theorem RF (c:List Lt) (sh:Bool) (hs:ft c) (UM:c.length<=4000) (bS:b8 c<=8000) (ah:∀l∈c,iQ l=true):bh Tryz.prog 79 [b6 c,Bv sh] (Sv (pW sh c)):=by
 refine ao.walk [0,1,4,5,6,7,10,14,15,16,17,22] [5,7,13] Tryz.func79 rfl Tryz.ntmps79 (by kernel_rfl) (by rfl) rfl fun W own I0 aq lay=>?_
 refine gE @bn ?_
 refine AP.cond rfl rfl (fun h=>?_) (fun h=>?_)
 ·have h:c=[]:=by cases c with|nil=>rfl|cons a b=>simp at h;omega
  subst h
  refine gO ?_
  exact AE.bz rfl ⟨rfl,trivial⟩ rfl ⟨rfl,rfl⟩
 have h:c≠[]:=fun e=>by subst e;simp at h
 have hE:pW sh c=lr sh c:=by
  cases c with
  |nil=>exact absurd rfl h
  |cons l r=>rfl
 refine gE @bn ?_
 refine AP.jg 0 1 5 1 rfl rfl ?_
 refine sI ?_
 refine AP.order [0,1] rfl ?_
 refine sI ?_
 refine AP.loop rfl (α:=Nat) (fun k=>[(5,.ob 0 0),(14,b6 c),(15,Iv c.length),(16,Iv k)]) (fun k=>eQ sh (nD k) 1 (lr sh (c.take k))) (fun k=>k<=c.length) (fun k=>c.length-k) 0 (by omega) (sU) rfl fun k hk=>?_
 have uu:=Zk k sh (lr sh (c.take k))
 have kU:=Pb k
 rcases Nat.eq_or_lt_of_le hk with aM|ag
 ·subst aM
  have dq:nD c.length= .ob 0 0:=by rw[nD,if_neg (by cases c with|nil=>exact absurd rfl h|cons a b=>simp)]
  rw[List.take_length,dq,<-hE]
  refine gO ?_
  refine cF ?_
  refine gO ?_
  refine AQ.bR [(0,0),(1,1)] (by kernel_rfl) rfl rfl rfl rfl rfl rfl (by exact⟨rfl,rfl,trivial⟩) rfl (S6 (pW sh c) (.ob 0 0) sh) ?_
  rintro r H1 ⟨rfl,rfl⟩;refine⟨rfl,?_⟩;refine sH ?_
  refine gO ?_
  exact AE.bz rfl ⟨rfl,trivial⟩ rfl ⟨rfl,rfl⟩
 ·obtain⟨u,hu,aX⟩:=oC c k ag
  have hw:=wr (x:=(k:Int)+1) (by omega)
  have cY:=tx hs hu
  have CO:=ah u (List.mem_of_getElem? hu)
  have bP:=aaS sh hu
  have hle:=aaR sh (c:=c.take (k+1)) fun l hl=>ah l (List.mem_of_mem_take hl)
  have ei:=YG c (k+1)
  have fD:(c.take (k+1)).length<=c.length:=by rw[List.length_take];omega
  rw[bP,List.length_append,List.length_append]at hle
  have M_:nD (k+1)= .ob 0 0:=by rw[nD,if_neg (by omega)]
  by_cases mh:k=0
  ·subst mh
   rw[if_pos rfl,List.nil_append]at bP
   have eB:=PD sh u cY CO _ (.inl rfl) (lr sh (c.take 0)) (by simp only[List.take_zero,lr,List.length_nil]at hle⊢;omega)
   rw[show nD 0= .im (.v (.pointer none)) from rfl]
   refine gO ?_
   refine cT ?_
   refine gE @aX ?_
   refine⟨by rw[bn];omega,?_⟩
   refine gO ?_
   refine AQ.fix 2 rfl rfl ?_
   refine sI ?_
   refine AQ.bR [(0,0),(1,1)] (by kernel_rfl) rfl rfl rfl rfl rfl rfl (by exact⟨rfl,rfl,trivial⟩) rfl (eB) ?_
   rintro r H1 ⟨rfl,rfl⟩;refine⟨rfl,?_⟩;refine sH ?_;refine AQ.rename 4 1 rfl rfl rfl ?_;refine sI ?_;refine AQ.order [0,1] rfl ?_;refine sI ?_
   refine gO ?_
   refine AE.round 1 (by omega) (by omega) (sU) ?_
   rw[bP,M_];rfl
  ·rw[if_neg mh]at bP hle
   rw[show nD k= .ob 0 0 by rw[nD,if_neg mh]]
   have NA:=u_ (.inr rfl) sh (lr sh (c.take k)) [32,124,32] (by simp at hle⊢;omega)
   have eB:=PD sh u cY CO _ (.inr rfl) (lr sh (c.take k)++[32,124,32]) (by simp at hle⊢;omega)
   refine gO ?_
   refine cT ?_
   refine gE @aX ?_
   refine⟨by rw[bn];omega,?_⟩
   refine gO ?_
   refine AP.fix 2 rfl rfl ?_
   refine sI ?_
   refine cT ?_
   refine gO ?_
   refine AQ.bR [(0,0),(1,1)] (by kernel_rfl) rfl rfl rfl rfl rfl rfl (by exact⟨rfl,rfl,trivial⟩) rfl (NA) ?_
   rintro r H1 ⟨rfl,rfl⟩;refine⟨rfl,?_⟩;refine sH ?_;refine AQ.rename 4 1 rfl rfl rfl ?_;refine sI ?_;refine AQ.order [0,1] rfl ?_;refine sI ?_
   refine gO ?_
   refine AQ.bR [(0,0),(1,1)] (by kernel_rfl) rfl rfl rfl rfl rfl rfl (by exact⟨rfl,rfl,trivial⟩) rfl (eB) ?_
   rintro r H1 ⟨rfl,rfl⟩;refine⟨rfl,?_⟩;refine sH ?_;refine AQ.rename 4 1 rfl rfl rfl ?_;refine sI ?_;refine AQ.order [0,1] rfl ?_;refine sI ?_
   refine gE @hw ?_
   refine AE.round (k+1) (by omega) (by omega) (sU) ?_
   rw[bP,M_];simp only[List.append_assoc];rfl
def Ax (c:List Lt):List UInt8:=if bp 4 9 2 3 c≠0 then[]else if 40000<(pW false c).length then[]else pW false c
def Aw (c:List Lt):Int:=if bp 4 9 2 3 c≠0 then bp 4 9 2 3 c else if 40000<(pW false c).length then 15 else 0
theorem aaD (c:List Lt) (hs:ft c):bh Tryz.prog 17 [b6 c] (.aG [Sv (Ax c),Iv (Aw c)]):=by
 have hS:Ax c=_:=Ax.eq_def c
 have hE:Aw c=_:=Aw.eq_def c
 refine ao.walk [0,2,3,4,5,9,15] [] Tryz.func17 rfl Tryz.ntmps17 (by kernel_rfl) (by rfl) rfl fun W own I0 aq lay=>?_
 refine gO ?_
 refine AQ.fn (by kernel_rfl) rfl rfl rfl (vt c hs) rfl ?_
 refine sI ?_
 refine gO ?_
 refine AP.cond rfl rfl (fun h=>?_) (fun h=>?_)
 ·rw[if_pos (by simpa using h)]at hS hE
  refine gO ?_
  exact AE.bz rfl ⟨rfl,rfl,trivial⟩ rfl ⟨rfl,by rw[hS,hE];rfl⟩
 have h:bp 4 9 2 3 c=0:=by simpa using h
 rw[if_neg (by simpa using h)]at hS hE
 obtain⟨U,h2,h3,h4⟩:=vu h
 refine gO ?_
 refine AQ.fn (by kernel_rfl) rfl rfl rfl (RF c false hs (by omega) (by omega) h4) rfl ?_
 refine sI ?_
 refine gO ?_
 refine AP.cond rfl rfl (fun h5=>?_) (fun h5=>?_)
 ·rw[if_pos (by simp at h5;omega)]at hS hE
  refine gO ?_
  exact AE.bz rfl ⟨rfl,rfl,trivial⟩ rfl ⟨rfl,by rw[hS,hE];rfl⟩
 ·rw[if_neg (by simp at h5;omega)]at hS hE
  refine gO ?_
  exact AE.bz rfl ⟨rfl,rfl,trivial⟩ rfl ⟨rfl,by rw[hS,hE];rfl⟩
abbrev Qs (l:Lt):List IV:=[Bi l.ng,Si l.pd,.sl 3 (az l.xs),Si (dP l)]
abbrev Qt (l:Lt):AV:= .agg [Bv l.ng,Sv l.pd,.im (.sl 3 (az l.xs)),Sv (dP l)]
def gI (c:List Lt):List (List IV):=c.map Qs
theorem q7 (l:List Lt):(gI l).length=l.length:=by rw[gI,List.length_map]
theorem DV {l:List Lt} {k:Nat} {x:Lt} (h:l[k]?=some x):(gI l).getD k []=[Bi x.ng,Si x.pd,.sl 3 (az x.xs),Si (dP x)]:=by
 rw[List.getD_eq_getElem?_getD,gI,List.getElem?_map,h];rfl
theorem Qr (l:List Lt) (k:Nat) (x:Lt):(gI l).set k (Qs x)=gI (l.set k x):=by simp only[gI,List.map_set]
theorem Ty (a b:Lt):bh Tryz.prog 91 [Qt a,Qt b] (Iv (mQ (dP a) (dP b))):=by
 refine ao.walk [0,1,2,3,4] [] Tryz.func91 rfl Tryz.ntmps91 (by kernel_rfl) (by rfl) rfl fun W own I0 aq lay=>?_
 refine gO ?_
 refine AQ.fn (by kernel_rfl) rfl rfl rfl (Ku (dP a) (dP b)) rfl ?_
 refine sI ?_
 refine gO ?_
 exact AE.bz rfl ⟨rfl,trivial⟩ rfl ⟨rfl,rfl⟩
abbrev gk (l:List Lt):aa:=[(0,.vec 145 4 (gI l))]
theorem NX (pre mid post:List Lt) (hn:(pre++mid++post).length<=1000000):
  ao Tryz.prog 205 [.os 0 4 0 (pre++mid++post).length,Iv pre.length,Iv (pre.length+mid.length),.fn 91 [] []] (gk (pre++mid++post)) (fun r H'=>r= .aG []/\H'=gk (pre++du [] mid++post)):=by
 obtain⟨n,qC⟩:∃n,(pre++mid++post).length=n:=⟨_,rfl⟩
 have hlen:pre.length+mid.length+post.length=n:=by rw[<-qC];simp only[List.length_append]
 rw[qC]at hn⊢
 have G1:=wr (x:=(pre.length:Int)+1) (by omega)
 refine ao.walk [0,1,2,3,8,9,14,34] [] Tryz.func205 rfl Tryz.ntmps205 (by kernel_rfl) (by rfl) rfl fun W own I0 aq lay=>?_
 refine gE @G1 ?_
 refine AP.loop rfl (α:=Nat) (fun k=>[(0,.os 0 4 0 n),(1,Iv pre.length),(2,Iv (pre.length+mid.length)),(3,.fn 91 [] []),(8,Iv (pre.length+k))]) (fun k=>gk (pre++du [] (mid.take k)++(mid.drop k++post))) (fun k=>1<=k/\k<=mid.length+1) (fun k=>mid.length+1-k) 1 (by omega) (sU) (by
  cases mid with
  |nil=>simp[du]
  |cons x r=>simp[du,lR]) fun k ⟨oh,hk⟩=>?_
 by_cases ag:k<mid.length
 ·have hw:=wr (x:=(pre.length:Int)+k+1) (by omega)
  obtain⟨x,hx⟩:∃x,mid[k]?=some x:=⟨_,List.getElem?_eq_getElem ag⟩
  have hP:(du [] (mid.take k)).length=k:=by rw[(uW _ _).length_eq];simp;omega
  have BZ:(du [] (mid.take k)).Pairwise mC:=QA _ _ List.Pairwise.nil
  have bP:du [] (mid.take (k+1))=lR x (du [] (mid.take k)):=by rw[dX hx,Qz]
  have fZ:=drop_cons hx
  refine gO ?_
  refine cT ?_
  refine gO ?_
  refine AP.loop rfl (α:=List Lt×List Lt) (fun s=>[(0,.os 0 4 0 n),(1,Iv pre.length),(2,Iv (pre.length+mid.length)),(3,.fn 91 [] []),(8,Iv (pre.length+k)),(9,Iv (pre.length+s.1.length))]) (fun s=>gk (pre++s.1++x::(s.2++(mid.drop (k+1)++post)))) (fun s=>s.1++s.2=du [] (mid.take k)/\∀y∈s.2,dP x<dP y) (fun s=>s.1.length) (du [] (mid.take k),[]) ⟨List.append_nil _,fun y hy=>by cases hy⟩ (by rw[hP];exact(sU)) (by rw[fZ];rfl) fun⟨o1,o2⟩ ⟨ho,lN⟩=>?_
  simp only at ho lN⊢
  rcases List.eq_nil_or_concat o1 with rfl|⟨W,y,rfl⟩
  ·have e9:(pre.length:Int)+(([]:List Lt).length:Nat)=(pre.length:Int):=by simp
   have hd:decide ((pre.length:Int)<(pre.length:Int))=false:=decide_eq_false (by omega)
   rw[e9]
   refine gO ?_
   refine AP.db 17 (Tree.node [] [0,1,2,3,4,5,6,7,8,9,10,11,12,13] [14] [Tree.node [] [15,16] [] []]) (by kernel_rfl) rfl (by kernel_rfl) (by kernel_rfl) ?_
   refine c_ ?_
   refine sE @hd ?_
   refine⟨fun h=>h.elim,fun h=>h.elim,fun h=>h.elim,fun h=>h.elim,?_⟩
   refine AQ.skip (by kernel_rfl) rfl ?_
   refine sI ?_
   refine AQ.nx rfl ?_
   refine sI ?_
   refine AQ.done ?_
   refine gE @hw ?_
   rw[List.nil_append]at ho
   refine AE.round (k+1) ⟨by omega,by omega⟩ (by omega) (sU) ?_
   have dC:lR x (du [] (mid.take k))=x::o2:=by
    rw[<-ho]
    exact Ha [] o2 x (by rw[List.nil_append,ho];exact BZ) lN (fun y hy=>by cases hy)
   rw[bP,dC];simp
  ·rw[List.concat_eq_append]at ho⊢
   obtain⟨q,hq⟩:∃q,pre.length+W.length=q:=⟨_,rfl⟩
   have e9:(pre.length:Int)+((W++[y]).length:Nat)=((q+1:Nat):Int):=by simp;omega
   obtain⟨T,hT⟩:∃T,o2++(mid.drop (k+1)++post)=T:=⟨_,rfl⟩
   obtain⟨Z,hZ⟩:∃Z,pre++W=Z:=⟨_,rfl⟩
   have yP:Z.length=q:=by rw[<-hZ,List.length_append];exact hq
   have eR:pre++(W++[y])++x::(o2++(mid.drop (k+1)++post))=Z++y::x::T:=by rw[hT,<-hZ];simp
   have oa:(gI (Z++y::x::T)).getD q []=[Bi y.ng,Si y.pd,.sl 3 (az y.xs),Si (dP y)]:=DV (by rw[List.getElem?_append_right (by omega),yP,Nat.sub_self];rfl)
   have y4:(gI (Z++y::x::T)).getD (q+1) []=[Bi x.ng,Si x.pd,.sl 3 (az x.xs),Si (dP x)]:=DV (by rw[List.getElem?_append_right (by omega),yP,Nat.add_sub_cancel_left];rfl)
   have eC:W.length+1+o2.length=k:=by
    have:=congrArg List.length ho
    rw[hP]at this;simp only[List.length_append,List.length_singleton]at this;exact this
   have GC:q+1<n:=by omega
   have yM:(gI (Z++y::x::T)).length=n:=by
    rw[q7,<-hT];simp only[List.length_append,List.length_cons,List.length_drop];omega
   have hd:decide ((pre.length:Int)<((q+1:Nat):Int))=true:=decide_eq_true (by omega)
   have cL:IntKind.i64.wrap (((q+1:Nat):Int)-1)=(q:Int):=by rw[wr (by omega)];omega
   rw[e9,eR]
   refine gE (an @hd @cL) ?_
   refine AP.db 17 (Tree.node [] [0,1,2,3,4,5,6,7,8,9,10,11,12,13] [14] [Tree.node [] [15,16] [] []]) (by kernel_rfl) rfl (by kernel_rfl) (by kernel_rfl) ?_
   refine c_ ?_
   refine sE (an @hd (an @cL (an @oa (an @y4 (an @Int.toNat_natCast @yM))))) ?_
   refine⟨⟨by omega,by omega⟩,GC,⟨by omega,by omega⟩,by omega,?_⟩
   refine AQ.opt 22 rfl ?_
   refine AQ.nW (by simp only[go_sem]) ?_
   refine AQ.Bo [] (by kernel_rfl) rfl rfl rfl rfl rfl rfl (fun k=>by exact trivial) (fun k=>rfl) (fun k=>rfl) (Ty x y) ?_
   refine sI ?_
   refine AQ.nx rfl ?_
   refine sI ?_
   refine AQ.done ?_
   refine gO ?_
   refine AP.cond rfl rfl (fun h5=>?_) (fun h5=>?_)
   ·have h5:dP x<dP y:=by
     have:mQ (dP x) (dP y)<0:=by simpa using h5
     rw[mQ]at this
     by_cases h6:dP x<dP y
     ·exact h6
     ·rw[if_neg h6]at this;split at this<;>omega
    refine gE @cL ?_
    refine AP.db 18 (Tree.node [] [0,1,2,3,4,5,6,7,8,9,10,11,12,13,14] [15] [Tree.node [2,3,4] [16] [17] [Tree.node [] [] [] []]]) (by kernel_rfl) rfl (by kernel_rfl) (by kernel_rfl) ?_
    refine c_ ?_
    refine sE (an @cL (an @oa (an @y4 (an @Int.toNat_natCast @yM)))) ?_
    refine⟨⟨by omega,by omega⟩,by omega,⟨by omega,by omega⟩,GC,⟨by omega,by omega⟩,?_⟩
    refine AQ.go (by kernel_rfl) ?_
    refine sE @yM ?_
    have jA:(gI (Z++y::x::T)).set (q+1) (Bi y.ng::Si y.pd::IV.sl 3 (az y.xs)::Si (dP y)::List.drop 4 ((gI (Z++y::x::T)).getD (q+1) []))=gI (Z++y::y::T):=by
     rw[y4]
     refine(Qr _ _ y).trans ?_
     rw[List.set_append_right _ _ (by omega),<-yP,Nat.add_sub_cancel_left];rfl
    have gD:(gI (Z++y::y::T)).set q (Bi x.ng::Si x.pd::IV.sl 3 (az x.xs)::Si (dP x)::List.drop 4 ((gI (Z++y::y::T)).getD q []))=gI (Z++x::y::T):=by
     have VZ:(gI (Z++y::y::T)).getD q []=[Bi y.ng,Si y.pd,.sl 3 (az y.xs),Si (dP y)]:=DV (by rw[List.getElem?_append_right (by omega),yP,Nat.sub_self];rfl)
     rw[VZ]
     refine(Qr _ _ x).trans ?_
     rw[List.set_append_right _ _ (by omega),<-yP,Nat.sub_self];rfl
    have Mj:(gI (Z++y::y::T)).length=n:=by rw[q7]at yM⊢;rw[<-yM];simp
    rw[jA]
    refine⟨GC,?_⟩
    refine AQ.nx rfl ?_
    refine sE (an @cL (an @Int.toNat_natCast @Mj)) ?_
    refine⟨⟨by omega,by omega⟩,?_⟩
    refine AQ.go (by kernel_rfl) ?_
    refine sE @Mj ?_
    rw[gD]
    refine⟨by omega,?_⟩
    refine AQ.nx rfl ?_
    refine sI ?_
    refine AQ.done ?_
    refine gE @cL ?_
    refine AE.round (W,y::o2) ⟨by rw[<-ho];simp,fun z hz=>?_⟩ (by simp) (by rw[<-hq];exact(sU)) (by rw[<-hZ,<-hT];simp)
    rcases List.mem_cons.1 hz with rfl|hz
    ·exact h5
    ·exact lN z hz
   ·have h5:¬dP x<dP y:=fun h6=>by
     rw[mQ,if_pos h6]at h5;simp at h5
    refine gE @hw ?_
    refine AE.round (k+1) ⟨by omega,by omega⟩ (by omega) (sU) ?_
    have dC:lR x (du [] (mid.take k))=W++[y]++x::o2:=by
     have:=Ha (W++[y]) o2 x (by rw[ho];exact BZ) lN (fun z hz=>by rw[List.getLast?_concat]at hz;cases hz;exact h5)
     rw[ho]at this;exact this
    rw[bP,dC,<-hZ,<-hT];simp
 ·have aM:mid.take k=mid:=List.take_of_length_le (by omega)
  have Wa:mid.drop k=[]:=List.drop_eq_nil_of_le (by omega)
  rw[aM,Wa,List.nil_append]
  refine gO ?_
  refine cF ?_
  refine gO ?_
  exact AE.jQ rfl trivial ⟨rfl,rfl⟩
theorem aat (l:List Lt) (h:l.length<=20):ao Tryz.prog 164 [.os 0 4 0 l.length,Iv l.length,.fn 91 [] []] (gk l) (fun r H'=>r= .aG []/\H'=gk (du [] l)):=by
 have h0:=NX [] l [] (by simp;omega)
 simp only[List.nil_append,List.append_nil,List.length_nil]at h0
 rw[show((0:Nat):Int)+(l.length:Int)=l.length by omega]at h0
 have U:=NX (du [] l) [] [] (by simp[(uW _ _).length_eq];omega)
 simp only[List.append_nil,List.length_nil]at U
 have mn:(du [] l).length=l.length:=by rw[(uW _ _).length_eq];rfl
 rw[mn,show((l.length:Nat):Int)+((0:Nat):Int)=l.length by omega,show du [] []=[] from rfl,List.append_nil]at U
 refine ao.walk [0,1,2,6,7,8,9,13,30,35,54] [] Tryz.func164 rfl Tryz.ntmps164 (by kernel_rfl) (by rfl) rfl fun W own I0 aq lay=>?_
 refine gO ?_
 refine AP.loop rfl (α:=Bool) (fun b=>[(0,.os 0 4 0 l.length),(1,Iv l.length),(2,.fn 91 [] []),(6,Iv 20),(7,Iv (if b then 20 else 0)),(8,Iv (if b then 40 else 20))]) (fun b=>gk (if b then du [] l else l)) (fun b=>b=true->l.length=20) (fun b=>if b then 0 else 1) false (by simp) (by exact(sU)) rfl fun b hb=>?_
 cases b with
 |false=>
  simp only[Bool.false_eq_true,if_false]
  by_cases yG:l.length=20
  ·rw[yG]at h0
   have LX:ao Tryz.prog 205 [.os 0 4 0 20,Iv 0,Iv 20,.fn 91 [] []] (gk l) (fun r H'=>r= .aG []/\H'=gk (du [] l)):=h0
   rw[yG]
   refine gO ?_
   refine AQ.bR [(0,0)] (by kernel_rfl) rfl rfl rfl rfl rfl rfl (by exact⟨rfl,trivial⟩) rfl (LX) ?_;rintro r H1 ⟨rfl,rfl⟩;refine⟨rfl,?_⟩;refine sH ?_
   have Xm:IntKind.i64.wrap (20+20)=40:=by rw[wr (by omega)];rfl
   refine gE @Xm ?_
   exact AE.round true (by simp) (by simp) (sU) rfl
  ·refine gO ?_
   refine cF ?_
   refine gO ?_
   refine AQ.bR [(0,0)] (by kernel_rfl) rfl rfl rfl rfl rfl rfl (by exact⟨rfl,trivial⟩) rfl (h0) ?_;rintro r H1 ⟨rfl,rfl⟩;refine⟨rfl,?_⟩;refine sH ?_
   refine gO ?_
   refine AP.loop rfl (α:=Unit) (fun _=>[(1,Iv l.length),(6,Iv 20)]) (fun _=>gk (du [] l)) (fun _=>True) (fun _=>0) () trivial (sU) rfl fun _ _=>?_
   refine gO ?_
   refine cF ?_
   refine gO ?_
   exact AE.jQ rfl trivial ⟨rfl,rfl⟩
 |true=>
  simp only[if_true]
  have yG:=hb rfl
  rw[yG]at U
  have UG:ao Tryz.prog 205 [.os 0 4 0 20,Iv 20,Iv 20,.fn 91 [] []] (gk (du [] l)) (fun r H'=>r= .aG []/\H'=gk (du [] l)):=U
  rw[yG]
  refine gO ?_
  refine AQ.bR [(0,0)] (by kernel_rfl) rfl rfl rfl rfl rfl rfl (by exact⟨rfl,trivial⟩) rfl (UG) ?_;rintro r H1 ⟨rfl,rfl⟩;refine⟨rfl,?_⟩;refine sH ?_
  refine gO ?_
  refine AP.loop rfl (α:=Unit) (fun _=>[(1,Iv 20),(6,Iv 20)]) (fun _=>gk (du [] l)) (fun _=>True) (fun _=>0) () trivial (sU) rfl fun _ _=>?_
  refine gO ?_
  exact AE.jQ rfl trivial ⟨rfl,rfl⟩
theorem aal (l:List Lt) (h:l.length<=20):ao Tryz.prog 90 [.os 0 4 0 l.length,.fn 91 [] []] (gk l) (fun r H'=>r= .aG []/\H'=gk (du [] l)):=by
 refine ao.walk [0,1] [] Tryz.func90 rfl Tryz.ntmps90 (by kernel_rfl) (by rfl) rfl fun W own I0 aq lay=>?_
 refine gO ?_
 refine AQ.bR [(0,0)] (by kernel_rfl) rfl rfl rfl rfl rfl rfl (by exact⟨rfl,trivial⟩) rfl (aat l h) ?_;rintro r H1 ⟨rfl,rfl⟩;refine⟨rfl,?_⟩;refine sH ?_
 refine gO ?_
 exact AE.jQ rfl trivial ⟨rfl,rfl⟩
def fG (k:Nat):List Int->List (Int×Int)
 |[]=>[]
 |v::o=>(v,(k:Int))::fG (k+1) o
theorem Yt (o:List Int) (k:Nat):(fG k o).length=o.length:=by
 induction o generalizing k with
 |nil=>rfl
 |cons v o ih=>rw[fG,List.length_cons,List.length_cons,ih]
theorem Ys (o:List Int) (k:Nat):(fG k o).map (·.1)=o:=by
 induction o generalizing k with
 |nil=>rfl
 |cons v o ih=>rw[fG,List.map_cons,ih]
theorem Yu (o:List Int) (v:Int) (k:Nat):fG k (o++[v])=fG k o++[(v,((k+o.length:Nat):Int))]:=by
 induction o generalizing k with
 |nil=>simp[fG]
 |cons w o ih=>
  rw[List.cons_append,fG,fG,ih,List.cons_append]
  simp only[List.length_cons]
  rw[show k+1+o.length=k+(o.length+1) by omega]
theorem OG (o:List Int) (v:Int) (k:Nat):(v∈o->aU (fG k o) v=some ((k+o.idxOf v:Nat):Int))/\(v∉o->dA (fG k o) v=none):=by
 induction o generalizing k with
 |nil=>exact⟨fun h=>(by cases h),fun _=>rfl⟩
 |cons w o ih=>
  rw[fG,aU,dA,List.idxOf_cons]
  by_cases h:w=v
  ·subst h
   rw[if_pos rfl,if_pos rfl]
   exact⟨fun _=>by simp,fun h=>absurd (List.mem_cons_self ..) h⟩
  ·rw[if_neg h,if_neg h,show(w==v)=false by simpa using h]
   obtain⟨U,h2⟩:=ih (k+1)
   refine⟨fun hv=>?_,fun hv=>?_⟩
   ·rcases List.mem_cons.1 hv with e|hv
    ·exact absurd e.symm h
    ·rw[U hv,cond_false];congr 1;omega
   ·rw[h2 (fun h3=>hv (List.mem_cons_of_mem _ h3))];rfl
def eP (F:List Int) (v:Int):Tm:=bg (F.idxOf v:Nat)
abbrev qV (o:List Int):aa:=[(1,.var 149 [.mp 0]),(0,.var (.map (kI (fG 0 o))) (vN (fG 0 o)))]
theorem NO {o r:List Int} {v:Int} (h:v∈o):(o++r).idxOf v=o.idxOf v:=by rw[List.idxOf_append,if_pos h]
theorem YX (o F r:List Int) (v:Int) (hF:F=c6 o [v]++r) (bS:o.Nodup) (hlen:o.length<=1000000):ao Tryz.prog 94 [Iv v,.ob 1 0] (qV o) (fun r H'=>r=bf (eP F v)/\H'=qV (c6 o [v])):=by
 have hm:eE (fG 0 o):=by rw[eE,Ys];exact bS
 have wo:c6 o [v]=if v∈o then o else o++[v]:=rfl
 refine ao.walk [0,1,3,4,5,13] [3] Tryz.func94 rfl Tryz.ntmps94 (by kernel_rfl) (by rfl) rfl fun W own I0 aq lay=>?_
 refine gO ?_
 by_cases hv:v∈o
 ·rw[if_pos hv]at wo
  have hl:=(OG o v 0).1 hv
  rw[Nat.zero_add]at hl
  obtain⟨j,hj,hg⟩:=zX hl
  have he:eP F v=bg (o.idxOf v:Nat):=by rw[eP,hF,wo,NO hv]
  refine AQ.sF j (by kernel_rfl) rfl rfl rfl oP u3 (gF _) rfl (List.mem_of_getElem? (show(kI (fG 0 o))[j]?=some (.int .i64 v) from qQ hg)) (fun i hi=>qR hm hg hi) (D8 hg) ?_
  refine sI ?_
  refine gO ?_
  refine AQ.fn (by kernel_rfl) rfl rfl rfl (AF (o.idxOf v:Nat)) rfl ?_
  refine sI ?_
  refine gO ?_
  exact AE.bm [2] rfl ⟨⟨rfl,Nat.le_of_ble_eq_true (by kernel_rfl)⟩,trivial⟩ (by simp only[go_sem,Nat.reduceAdd,Nat.reduceLeDiff,Nat.reduceSub,Int.reduceToNat,reduceCtorEq,bN,noMen,AV.mens,AV.men,hY,Bool.or_false];first|done|rfl) ⟨by rw[he];rfl,by rw[wo];rfl⟩
 ·rw[if_neg hv]at wo
  have hl:=(OG o v 0).2 hv
  have he:eP F v=bg (o.length:Nat):=by
   rw[eP,hF,wo,NO (by simp),List.idxOf_append,if_neg hv];simp
  refine AQ.Df (by kernel_rfl) rfl rfl rfl oP u3 (gF _) rfl (mA hl) rfl rfl ?_
  refine sI ?_
  refine gO ?_
  refine AQ.YB (by kernel_rfl) rfl rfl oP ?_
  have MM:(kI (fG 0 o)).length=o.length:=by rw[wI,Yt]
  rw[MM]
  refine sI ?_
  refine gO ?_
  refine AQ.Ab (by kernel_rfl) rfl rfl rfl rfl oP u3 (gF _) rfl (mA hl) ?_
  refine sI ?_
  refine gO ?_
  have e0:fG 0 (o++[v])=fG 0 o++[(v,((o.length:Nat):Int))]:=by rw[Yu,Nat.zero_add]
  have e1:vN (fG 0 o)++[Iv (o.length:Nat)]=vN (fG 0 (o++[v])):=by rw[e0];simp only[vN,List.map_append];rfl
  have e2:kI (fG 0 o)++[.int .i64 v]=kI (fG 0 (o++[v])):=by rw[e0];simp only[kI,List.map_append];rfl
  rw[e1,e2]
  refine AQ.fn (by kernel_rfl) rfl rfl rfl (AF (o.length:Nat)) rfl ?_
  refine sI ?_
  refine gO ?_
  exact AE.bm [2] rfl ⟨⟨rfl,Nat.le_of_ble_eq_true (by kernel_rfl)⟩,trivial⟩ (by simp only[go_sem,Nat.reduceAdd,Nat.reduceLeDiff,Nat.reduceSub,Int.reduceToNat,reduceCtorEq,bN,noMen,AV.mens,AV.men,hY,Bool.or_false];first|done|rfl) ⟨by rw[he];rfl,by rw[wo];rfl⟩
theorem qW (o:List Int):∀(l m:List Int),c6 o (l++m)=c6 (c6 o l) m
 |[],m=>rfl
 |v::l,m=>by rw[List.cons_append,c6,c6,qW _ l m]
theorem Rs {l:List Tm} {k:Nat} {u:Tm} (h:l[k]?=some u):bJ (l.take (k+1))=bJ (l.take k)++dm u:=by
 rw[dX h]
 have:∀a:List Tm,bJ (a++[u])=bJ a++dm u:=fun a=>by
  induction a with
  |nil=>rw[List.nil_append,bJ,bJ,bJ];simp
  |cons b a ih=>rw[List.cons_append,bJ,bJ,ih,List.append_assoc]
 exact this _
theorem Rq {l:List Tm} {k:Nat} {u:Tm} (h:l[k]?=some u):bJ l=bJ (l.take k)++(dm u++bJ (l.drop (k+1))):=by
 have FO:∀a b:List Tm,bJ (a++b)=bJ a++bJ b:=fun a b=>by
  induction a with
  |nil=>rw[List.nil_append,bJ];rfl
  |cons c a ih=>rw[List.cons_append,bJ,bJ,ih,List.append_assoc]
 conv=>lhs;rw[<-List.take_append_drop k l,drop_cons h]
 rw[FO,bJ]
theorem Ig:∀(l o:List Int),(c6 o l).length<=o.length+l.length
 |[],o=>by rw[c6];simp
 |v::l,o=>by
  rw[c6]
  have:=Ig l (if v∈o then o else o++[v])
  by_cases h:v∈o
  ·rw[if_pos h]at this⊢;simp only[List.length_cons];omega
  ·rw[if_neg h]at this⊢;simp only[List.length_cons,List.length_append,List.length_nil]at this⊢;omega
theorem O7 {o F r a b c:List Int} (h:F=c6 o (a++(b++c))++r):∃r',F=c6 (c6 o a) b++r':=by
 rw[qW,qW]at h
 obtain⟨q,hq⟩:=O6 c (c6 (c6 o a) b)
 exact⟨q++r,by rw[h,hq,List.append_assoc]⟩
theorem Kp (F:List Int) (x:Tm) (o r:List Int) (hF:F=c6 o (dm x)++r) (bS:o.Nodup) (hlen:o.length+(dm x).length<=1000000) (hs:aR x) (ah:c7 x=true):ao Tryz.prog 140 [bf x,.fn 94 [] [.ob 1 0]] (qV o) (fun r H'=>r=bf (al (eP F) x)/\H'=qV (c6 o (dm x))):=by
 have eW:=ji.1 hs
 have hc:=qe (eP F) x
 have dr:=Rp x
 have CB:=sQ x
 rw[ah]at CB
 refine ao.walk [0,1,2,4,5,7,10,19,20,21,22] [4,5,7] Tryz.func140 rfl Tryz.ntmps140 (by kernel_rfl) (by rfl) rfl fun W own I0 aq lay=>?_
 refine gO ?_
 refine AP.cond rfl rfl (fun h=>?_) (fun h=>?_)
 ·have h:x.nm=[]:=by simpa using h
  rw[if_pos h]at hc CB dr
  have qL:x.xs=[]:=by
   have:=CB.symm
   rw[Bool.and_eq_true,List.isEmpty_iff]at this;exact this.1
  rw[qL,bJ,List.append_nil]at dr
  rw[dr]at hF hlen⊢
  have Wt:=YX o F r x.ix hF bS (by omega)
  refine gO ?_
  refine AQ.bR [(1,1),(0,0)] (by kernel_rfl) rfl rfl rfl rfl rfl rfl (by refine⟨?_,?_,trivial⟩<;>(simp only[dK,AV.cO,AV.rn,Am];rfl)) rfl Wt fun r' H' ⟨e1,e2⟩=>?_
  subst e1;subst e2
  refine sH ?_
  refine gO ?_
  exact AE.bm [2] rfl ⟨⟨rfl,Nat.le_of_ble_eq_true (by kernel_rfl)⟩,trivial⟩ (by simp only[go_sem,Nat.reduceAdd,Nat.reduceLeDiff,Nat.reduceSub,Int.reduceToNat,reduceCtorEq,bN,noMen,AV.mens,AV.men,hY,Bool.or_false];first|done|rfl) ⟨by rw[hc];rfl,rfl⟩
 have h:¬x.nm=[]:=by simpa using h
 rw[if_neg h,List.nil_append]at dr
 rw[if_neg h]at hc
 rw[dr]at hF hlen⊢
 have Ww:=Pd ah h
 refine gE @aw ?_
 rw[kH]at hc
 refine AP.jg 3 2 71 3 rfl rfl ?_
 refine sI ?_
 refine AP.loop rfl (α:=Nat) (fun k=>[(1,.fn 94 [] [.ob 1 0]),(4,.ob 2 0),(5,.ob 3 0),(19,.im (.sl 3 (az x.xs))),(20,Iv x.xs.length),(21,Iv k)]) (fun k=>(4,.vec 71 3 (az ((x.xs.take k).map (al (eP F)))))::(3,.var 71 [Sv x.nm,Iv 0,.os 4 3 0 k])::(2,.var 71 [Sv [],Iv 0,eO])::qV (c6 o (bJ (x.xs.take k)))) (fun k=>k<=x.xs.length) (fun k=>x.xs.length-k) 0 (by omega) (sU) (by rw[List.take_zero,bJ];rfl) fun k hk=>?_
 rcases Nat.eq_or_lt_of_le hk with aM|ag
 ·subst aM
  rw[List.take_length]
  refine gE @aw ?_
  refine cF ?_
  refine gO ?_
  refine AE.freeze 4 (el:=71) (es:=3) (rows:=az (x.xs.map (al (eP F)))) rfl (by simp only[go_sem,Nat.reduceAdd,Nat.reduceLeDiff,Nat.reduceSub,Int.reduceToNat,reduceCtorEq,aw,List.length_map];first|done|trivial|omega|(simp;done)|(simp;omega)) (by simp only[go_sem,Nat.reduceAdd,Nat.reduceLeDiff,Nat.reduceSub,Int.reduceToNat,reduceCtorEq,aw,List.length_map];first|done|trivial|omega|(simp;done)|(simp;omega)) ?_;simp only[go_sem,Nat.reduceAdd,Nat.reduceLeDiff,Nat.reduceSub,Int.reduceToNat,reduceCtorEq,aw,List.length_map]
  rw[List.take_of_length_le (by rw[aw,List.length_map];omega)]
  exact AE.bm [3,2] rfl ⟨⟨rfl,Nat.le_of_ble_eq_true (by kernel_rfl)⟩,trivial⟩ (by simp only[go_sem,Nat.reduceAdd,Nat.reduceLeDiff,Nat.reduceSub,Int.reduceToNat,reduceCtorEq,bN,noMen,AV.mens,AV.men,hY,Bool.or_false];first|done|rfl) ⟨by rw[hc];rfl,rfl⟩
 ·obtain⟨u,hu,aX⟩:=fo x.xs k ag
  have hw:=wr (x:=(k:Int)+1) (by omega)
  have bc:=oO (l:=x.xs) (k:=k) (by omega)
  have GY:=Rs hu
  have GW:=Rq hu
  obtain⟨r',qp⟩:=O7 (GW▸hF)
  have rY:(bJ x.xs).length=(bJ (x.xs.take k)).length+((dm u).length+(bJ (x.xs.drop (k+1))).length):=by rw[GW,List.length_append,List.length_append]
  have g_:=Ig (bJ (x.xs.take k)) o
  have ih:=Kp F u (c6 o (bJ (x.xs.take k))) r' qp (Dt _ _ bS) (by omega) (gl eW.2.2 hu) (qY Ww u (List.mem_of_getElem? hu))
  rw[<-qW,<-GY]at ih
  have bP:=uJ (al (eP F)) hu
  obtain⟨w,qK⟩:∃w,al (eP F) u=w:=⟨_,rfl⟩
  rw[qK]at ih bP
  clear GW qp rY g_ hF hc dr CB
  refine gE @aw ?_
  refine cT ?_
  refine gE @aX ?_
  refine⟨by rw[aw];omega,?_⟩
  refine gO ?_
  refine AP.db 9 (Tree.node [] [0,1,2,3] [4] [Tree.node [0,1] [] [5] [Tree.node [0,1] [] [6] [Tree.node [] [7] [8] [Tree.node [] [] [] []]]]]) (by kernel_rfl) rfl (by kernel_rfl) (by kernel_rfl) ?_
  refine c_ ?_
  refine sI ?_
  refine AQ.bR [(1,1),(0,0)] (by kernel_rfl) rfl rfl rfl rfl rfl rfl (by refine⟨?_,?_,trivial⟩<;>(simp only[dK,AV.cO,AV.rn,Am];rfl)) rfl ih fun r' H' ⟨e1,e2⟩=>?_
  subst e1;subst e2
  refine sH ?_
  refine AQ.nx rfl ?_
  refine sI ?_
  refine AQ.go (by kernel_rfl) ?_
  refine sI ?_
  refine AQ.nx rfl ?_
  refine sI ?_
  refine AQ.kill 4 ?_
  refine sI ?_
  refine AQ.append (hnb:=rfl) (rows:=az ((x.xs.take k).map (al (eP F)))) (es:=2) (by kernel_rfl) rfl rfl rfl (by first|(simp only[go_sem,noMen,AV.mens,AV.men,Bool.or_false];done)|(simp only[go_sem,noMen,AV.mens,AV.men,Bool.or_false];rfl)) Tryz.s8 Tryz.s6 (by show Option.map _ (aA Tryz.prog 71)=_;rw[Tryz.td];rfl) Tryz.rB (by first|rfl|(simp only[aw,List.length_map,bc,List.length_cons,List.length_nil];done)|(simp only[aw,List.length_map,bc,List.length_cons,List.length_nil];omega)) (by simp only[aw,List.length_map,bc,List.length_cons,List.length_nil];omega) (by simp only[aw,List.length_map,bc,List.length_cons,List.length_nil];omega) ?_
  refine sI ?_
  refine AQ.nx rfl ?_
  refine sI ?_
  refine AQ.go (by kernel_rfl) ?_
  refine sI ?_
  refine AQ.nx rfl ?_
  refine sI ?_
  refine AQ.done ?_
  refine gE @hw ?_
  refine AE.eJ [5] (by simp only[go_sem,Nat.reduceAdd,Nat.reduceLeDiff,Nat.reduceSub,Int.reduceToNat,reduceCtorEq,bN,noMen,AV.mens,AV.men,hY,Bool.or_false];first|done|rfl) ?_
  refine sI ?_
  refine AE.round (k+1) (by omega) (by omega) (sU) ?_
  rw[bP,rh,aw,List.length_map,bc];rfl
termination_by SizeOf.sizeOf x
decreasing_by exact lX hu
theorem Rm:∀a b:List Lt,dY (a++b)=dY a++dY b:=fun a b=>by rw[dY,List.flatMap_append];rfl
theorem abe {c:List Lt} {k:Nat} {u:Lt} (h:c[k]?=some u):dY (c.take (k+1))=dY (c.take k)++bJ u.xs:=by
 rw[dX h,Rm];simp[dY]
theorem abd {c:List Lt} {k j:Nat} {u:Lt} {v:Tm} (h:c[k]?=some u) (hv:u.xs[j]?=some v):∃q,dY c=(dY (c.take k)++bJ (u.xs.take j))++(dm v++q):=by
 have U:dY c=dY (c.take k)++(bJ u.xs++dY (c.drop (k+1))):=by
  conv=>lhs;rw[<-List.take_append_drop k c,drop_cons h]
  rw[Rm,Rn]
 rw[U,Rq hv]
 exact⟨bJ (u.xs.drop (j+1))++dY (c.drop (k+1)),by simp only[List.append_assoc]⟩
theorem Tn (F:List Int) (c:List Lt) (hF:F=c6 [] (dY c)) (hlen:(dY c).length<=1000000) (hs:ft c) (ah:∀l∈c,iQ l=true):ao Tryz.prog 93 [b6 c,.fn 94 [] [.ob 1 0]] (qV []) (fun r H'=>r=b6 (cU (eP F) c)/\H'=qV F):=by
 have cz:=hs.1
 refine ao.walk [0,1,4,5,7,8,10,11,12,13,14,23,24,25,26] [7,8,10] Tryz.func93 rfl Tryz.ntmps93 (by kernel_rfl) (by rfl) rfl fun W own I0 aq lay=>?_
 refine gE @bn ?_
 refine AP.own 5 119 3 rfl ?_
 refine sI ?_
 refine AP.loop rfl (α:=Nat) (fun k=>[(1,.fn 94 [] [.ob 1 0]),(5,.os 2 3 0 k),(11,b6 c),(12,Iv c.length),(13,Iv k)]) (fun k=>(2,.vec 119 3 (cD ((c.take k).map (fK (eP F)))))::qV (c6 [] (dY (c.take k)))) (fun k=>k<=c.length) (fun k=>c.length-k) 0 (by omega) (sU) rfl fun k hk=>?_
 rcases Nat.eq_or_lt_of_le hk with aM|ag
 ·subst aM
  rw[List.take_length]
  refine gE @bn ?_
  refine cF ?_
  refine gO ?_
  refine AE.freeze 2 (el:=119) (es:=3) (rows:=cD (c.map (fK (eP F)))) rfl (by simp only[go_sem,Nat.reduceAdd,Nat.reduceLeDiff,Nat.reduceSub,Int.reduceToNat,reduceCtorEq,bn,List.length_map];first|done|trivial|omega|(simp;done)|(simp;omega)) (by simp only[go_sem,Nat.reduceAdd,Nat.reduceLeDiff,Nat.reduceSub,Int.reduceToNat,reduceCtorEq,bn,List.length_map];first|done|trivial|omega|(simp;done)|(simp;omega)) ?_;simp only[go_sem,Nat.reduceAdd,Nat.reduceLeDiff,Nat.reduceSub,Int.reduceToNat,reduceCtorEq,bn,List.length_map]
  rw[List.take_of_length_le (by rw[bn,List.length_map];omega)]
  exact AE.bm [] rfl ⟨rfl,trivial⟩ rfl ⟨rfl,by rw[hF];rfl⟩
 ·obtain⟨u,hu,aX⟩:=oC c k ag
  have hw:=wr (x:=(k:Int)+1) (by omega)
  have bc:=oO (l:=c) (k:=k) (by omega)
  have cY:=tx hs hu
  have zD:=cY.2.1
  have bP:=uJ (fK (eP F)) hu
  refine gE @bn ?_
  refine cT ?_
  refine gE @aX ?_
  refine⟨by rw[bn];omega,?_⟩
  refine gE @aw ?_
  refine AP.jg 4 2 71 3 rfl rfl ?_
  refine sI ?_
  have B9:fK (eP F) u=⟨u.ng,u.pd,u.xs.map (al (eP F))⟩:=by rw[fK,kH]
  refine AP.loop rfl (α:=Nat) (fun j=>[(1,.fn 94 [] [.ob 1 0]),(5,.os 2 3 0 k),(8,.ob 4 0),(11,b6 c),(12,Iv c.length),(13,Iv k),(23,.im (.sl 3 (az u.xs))),(24,Iv u.xs.length),(25,Iv j)]) (fun j=>(5,.vec 71 3 (az ((u.xs.take j).map (al (eP F)))))::(4,.var 119 [Bv u.ng,Sv u.pd,.os 5 3 0 j])::(3,.var 119 [Bv u.ng,Sv u.pd,.im (.sl 3 (az u.xs))])::(2,.vec 119 3 (cD ((c.take k).map (fK (eP F)))))::qV (c6 (c6 [] (dY (c.take k))) (bJ (u.xs.take j)))) (fun j=>j<=u.xs.length) (fun j=>u.xs.length-j) 0 (by omega) (sU) (by rw[List.take_zero (l:=u.xs),bJ];rfl) fun j hj=>?_
  rcases Nat.eq_or_lt_of_le hj with iG|od
  ·subst iG
   rw[List.take_length]
   refine gE @aw ?_
   refine cF ?_
   refine sI ?_
   refine AP.freeze 5 (el:=71) (es:=3) (rows:=az (u.xs.map (al (eP F)))) rfl (by simp only[go_sem,Nat.reduceAdd,Nat.reduceLeDiff,Nat.reduceSub,Int.reduceToNat,reduceCtorEq,aw,List.length_map];first|done|trivial|omega|(simp;done)|(simp;omega)) (by simp only[go_sem,Nat.reduceAdd,Nat.reduceLeDiff,Nat.reduceSub,Int.reduceToNat,reduceCtorEq,aw,List.length_map];first|done|trivial|omega|(simp;done)|(simp;omega)) ?_;simp only[go_sem,Nat.reduceAdd,Nat.reduceLeDiff,Nat.reduceSub,Int.reduceToNat,reduceCtorEq,aw,List.length_map]
   rw[show List.take u.xs.length (az (u.xs.map (al (eP F))))=az (u.xs.map (al (eP F))) from List.take_of_length_le (by rw[aw,List.length_map];omega)]
   refine gO ?_
   refine AQ.append (hnb:=rfl) (rows:=cD ((c.take k).map (fK (eP F)))) (es:=2) (by kernel_rfl) rfl rfl rfl (by first|(simp only[go_sem,noMen,AV.mens,AV.men,Bool.or_false];done)|(simp only[go_sem,noMen,AV.mens,AV.men,Bool.or_false];rfl)) Tryz.D1 Tryz.DY (by show Option.map _ (aA Tryz.prog 119)=_;rw[Tryz.Eh];rfl) Tryz.Bn (by first|rfl|(simp only[bn,List.length_map,bc,List.length_cons,List.length_nil];done)|(simp only[bn,List.length_map,bc,List.length_cons,List.length_nil];omega)) (by simp only[bn,List.length_map,bc,List.length_cons,List.length_nil];omega) (by simp only[bn,List.length_map,bc,List.length_cons,List.length_nil];omega) ?_
   refine sI ?_
   refine gE @hw ?_
   refine AE.eJ [4,3] (by simp only[go_sem,Nat.reduceAdd,Nat.reduceLeDiff,Nat.reduceSub,Int.reduceToNat,reduceCtorEq,bN,noMen,AV.mens,AV.men,hY,Bool.or_false];first|done|rfl) ?_
   refine sE (an @bn (an @List.length_map.{0,0} @bc)) ?_
   refine AE.round (k+1) (by omega) (by omega) (sU) ?_
   rw[bP,Dh,B9,abe hu,qW];rfl
  ·obtain⟨v,hv,jd⟩:=fo u.xs j od
   have iJ:=wr (x:=(j:Int)+1) (by have:=cY.2.1;omega)
   have ot:=oO (l:=u.xs) (k:=j) (by omega)
   obtain⟨q,hq⟩:=abd hu hv
   have GY:=Rs hv
   have Mc:F=c6 (c6 (c6 [] (dY (c.take k))) (bJ (u.xs.take j))) (dm v++q)++[]:=by rw[hF,hq,qW _ (_++_),qW _ (dY _),List.append_nil]
   obtain⟨r',qp⟩:=O7 (a:=[]) Mc
   have rY:=congrArg List.length hq
   simp only[List.length_append]at rY
   have g_:=Ig (dY (c.take k)++bJ (u.xs.take j)) []
   rw[qW,List.length_append,List.length_nil]at g_
   have ih:=Kp F v (c6 (c6 [] (dY (c.take k))) (bJ (u.xs.take j))) r' qp (Dt _ _ (Dt _ _ List.nodup_nil)) (by omega) (gl cY.2.2 hv) (qY (w7 (ah u (List.mem_of_getElem? hu))) v (List.mem_of_getElem? hv))
   rw[<-qW (c6 [] (dY (c.take k))),<-GY]at ih
   clear Mc qp rY g_ hq
   have sa:=uJ (al (eP F)) hv
   obtain⟨w,qK⟩:∃w,al (eP F) v=w:=⟨_,rfl⟩
   rw[qK]at ih sa
   refine gE @aw ?_
   refine cT ?_
   refine gE @jd ?_
   refine⟨by rw[aw];omega,?_⟩
   refine gO ?_
   refine AP.db 9 (Tree.node [] [0,1,2,3] [4] [Tree.node [0,1] [] [5] [Tree.node [0,1] [] [6] [Tree.node [] [7] [8] [Tree.node [] [] [] []]]]]) (by kernel_rfl) rfl (by kernel_rfl) (by kernel_rfl) ?_
   refine c_ ?_
   refine sI ?_
   refine AQ.bR [(1,1),(0,0)] (by kernel_rfl) rfl rfl rfl rfl rfl rfl (by refine⟨?_,?_,trivial⟩<;>(simp only[dK,AV.cO,AV.rn,Am];rfl)) rfl ih fun r' H' ⟨e1,e2⟩=>?_
   subst e1;subst e2
   refine sH ?_
   refine AQ.nx rfl ?_
   refine sI ?_
   refine AQ.go (by kernel_rfl) ?_
   refine sI ?_
   refine AQ.nx rfl ?_
   refine sI ?_
   refine AQ.kill 5 ?_
   refine sI ?_
   refine AQ.append (hnb:=rfl) (rows:=az ((u.xs.take j).map (al (eP F)))) (es:=2) (by kernel_rfl) rfl rfl rfl (by first|(simp only[go_sem,noMen,AV.mens,AV.men,Bool.or_false];done)|(simp only[go_sem,noMen,AV.mens,AV.men,Bool.or_false];rfl)) Tryz.s8 Tryz.s6 (by show Option.map _ (aA Tryz.prog 71)=_;rw[Tryz.td];rfl) Tryz.rB (by first|rfl|(simp only[aw,List.length_map,ot,List.length_cons,List.length_nil];done)|(simp only[aw,List.length_map,ot,List.length_cons,List.length_nil];omega)) (by simp only[aw,List.length_map,ot,List.length_cons,List.length_nil];omega) (by simp only[aw,List.length_map,ot,List.length_cons,List.length_nil];omega) ?_
   refine sI ?_
   refine AQ.nx rfl ?_
   refine sI ?_
   refine AQ.go (by kernel_rfl) ?_
   refine sI ?_
   refine AQ.nx rfl ?_
   refine sI ?_
   refine AQ.done ?_
   refine gE @iJ ?_
   refine AE.eJ [6] (by simp only[go_sem,Nat.reduceAdd,Nat.reduceLeDiff,Nat.reduceSub,Int.reduceToNat,reduceCtorEq,bN,noMen,AV.mens,AV.men,hY,Bool.or_false];first|done|rfl) ?_
   refine sI ?_
   refine AE.round (j+1) (by omega) (by omega) (sU) ?_
   rw[sa,rh,aw,List.length_map,ot];rfl
theorem YO (x y:Lt) (hs:oB x):bh Tryz.prog 88 [nB y,.im (Dg x)] (Bv (jH x y)):=by
 refine ao.walk [0,1,2,3] [] Tryz.func88 rfl Tryz.ntmps88 (by kernel_rfl) (by rfl) rfl fun W own I0 aq lay=>?_
 refine gO ?_
 refine AQ.fn (by kernel_rfl) rfl rfl rfl (Z3 x y hs) rfl ?_
 refine sI ?_
 refine gO ?_
 exact AE.bz rfl ⟨rfl,trivial⟩ rfl ⟨rfl,rfl⟩
theorem XH (l:List Lt) (x:Lt) (hl:l.length<=1000000000) (hs:oB x):
  bh Tryz.prog 162 [b6 l,.fn 88 [] [.im (Dg x)]] (Iv (iN (jH x) l 0)):=by
 refine ao.walk [0,1,4,5,7,8,9,16] [] Tryz.func162 rfl Tryz.ntmps162 (by kernel_rfl) (by rfl) rfl fun W own I0 aq lay=>?_
 refine gE @bn ?_
 refine AP.loop rfl (α:=Nat) (fun k=>[(0,b6 l),(1,.fn 88 [] [.im (Dg x)]),(7,Iv l.length),(8,Iv k)]) (fun _=>[]) (fun k=>k<=l.length/\iN (jH x) l 0=iN (jH x) (l.drop k) k) (fun k=>l.length-k) 0 ⟨by omega,rfl⟩ (sU) rfl fun k ⟨hk,hm⟩=>?_
 rcases Nat.eq_or_lt_of_le hk with aM|ag
 ·refine gO ?_
  refine cF ?_
  refine gO ?_
  exact AE.bz rfl ⟨rfl,trivial⟩ rfl ⟨rfl,by rw[hm,aM,List.drop_length,iN];rfl⟩
 ·obtain⟨u,hu,aX⟩:=oC l k ag
  have hw:=wr (x:=(k:Int)+1) (by omega)
  have fZ:=Hi (jH x) hu
  refine gO ?_
  refine cT ?_
  refine gE @aX ?_
  refine⟨by rw[bn];omega,?_⟩
  refine gO ?_
  refine AQ.Bo [] (by kernel_rfl) rfl rfl rfl rfl rfl rfl (fun k=>by exact trivial) (fun k=>rfl) (fun k=>rfl) (YO x u hs) ?_
  refine sI ?_
  refine gO ?_
  refine AP.cond rfl rfl (fun U=>?_) (fun U=>?_)
  ·refine gO ?_
   exact AE.bz rfl ⟨rfl,trivial⟩ rfl ⟨rfl,by rw[hm,fZ,if_pos (by simpa using U)];rfl⟩
  ·refine gE @hw ?_
   exact AE.round (k+1) ⟨by omega,by rw[hm,fZ,if_neg (by simpa using U)]⟩ (by omega) (sU) rfl
theorem Sz (l:List Lt) (x:Lt) (hl:l.length<=1000000000) (hs:oB x):bh Tryz.prog 87 [b6 l,.fn 88 [] [.im (Dg x)]] (Bv (l.any (jH x))):=by
 refine ao.walk [0,1,4] [] Tryz.func87 rfl Tryz.ntmps87 (by kernel_rfl) (by rfl) rfl fun W own I0 aq lay=>?_
 refine gO ?_
 refine AQ.fn (by kernel_rfl) rfl rfl rfl (XH l x hl hs) rfl ?_
 refine sI ?_
 refine gO ?_
 exact AE.bz rfl ⟨rfl,trivial⟩ rfl ⟨rfl,by rw[<-C1 (jH x) l 0];rfl⟩
mutual
theorem abf:∀t:Tm,(dm t).length<=wT t
 | .mk n i xs=>by
  rw[dm,wT,List.length_append]
  have:=Jg xs
  split<;>simp<;>omega
theorem Jg:∀l:List Tm,(bJ l).length<=aK l
 |[]=>by rw[bJ,aK];simp
 |t::l=>by rw[bJ,aK,List.length_append];have:=abf t;have:=Jg l;omega
end
theorem Ro:∀c:List Lt,(dY c).length<=b8 c
 |[]=>by simp[dY]
 |l::c=>by rw[Rn,List.length_append,nC];have:=Jg l.xs;have:=Ro c;omega
theorem YQ (N:Nat) (GQ:∀l:List Lt,l.length<=N->ao Tryz.prog 90 [.os 0 4 0 l.length,.fn 91 [] []] (gk l) (fun r H'=>r= .aG []/\H'=gk (du [] l))) (c:List Lt) (hN:c.length<=N) (hs:ft c) (iZ:bp 4 9 2 3 c=0):
  bh Tryz.prog 22 [b6 c] (.aG [b6 (Dr c),Iv 0]):=by
 obtain⟨U,h2,h3,h4⟩:=vu iZ
 refine ao.walk [0,2,3,4,5,6,7,8,10,11,15,17,18,19,20,29,44,45,46,47] [7,10,11] Tryz.func22 rfl Tryz.ntmps22 (by kernel_rfl) (by rfl) rfl fun W own I0 aq lay=>?_
 refine gO ?_
 refine AQ.fn (by kernel_rfl) rfl rfl rfl (vt c hs) rfl ?_
 refine sE @iZ ?_
 refine gE (an @iZ @bn) ?_
 refine AP.own 5 145 4 rfl ?_
 refine sI ?_
 refine AP.loop rfl (α:=Nat) (fun k=>[(0,b6 c),(5,.os 0 4 0 (e8 [] (c.take k)).length),(17,b6 c),(18,Iv c.length),(19,Iv k)]) (fun k=>gk (e8 [] (c.take k))) (fun k=>k<=c.length) (fun k=>c.length-k) 0 (by omega) (sU) rfl fun k hk=>?_
 rcases Nat.eq_or_lt_of_le hk with aM|ag
 ·subst aM
  rw[List.take_length]
  have Ca:(e8 [] c).length<=c.length:=(vz c []).length_le
  have mo:=GQ (e8 [] c) (by omega)
  have eC:(jf c).length=(e8 [] c).length:=by rw[jf,(uW _ _).length_eq];rfl
  have M5:∀l∈jf c,oB l:=fun l hl=>hs.2 l (Po.1 hl)
  have Wy:∀l∈jf c,iQ l=true:=fun l hl=>h4 l (Po.1 hl)
  have Mp:ft (jf c):=⟨by omega,M5⟩
  have M1:jf c=du [] (e8 [] c):=rfl
  rw[<-M1]at mo
  have fF:(dY (jf c)).length<=1000000:=by
   have h5:=Ro (jf c)
   have h6:b8 (jf c)=b8 (e8 [] c):=by rw[M1];exact YF (uW _ _)
   have h7:=OR (vz c [])
   omega
  have FX:=Tn (c6 [] (dY (jf c))) (jf c) rfl fF Mp Wy
  have po:cU (eP (c6 [] (dY (jf c)))) (jf c)=Dr c:=rfl
  rw[po]at FX
  rw[<-eC]at mo
  obtain⟨o,ho⟩:∃o,jf c=o:=⟨_,rfl⟩
  rw[ho]at mo eC M5 Mp FX
  rw[<-eC]
  refine gO ?_
  refine cF ?_
  refine gO ?_
  refine AQ.bR [(0,0)] (by kernel_rfl) rfl rfl rfl rfl rfl rfl (by exact⟨rfl,trivial⟩) rfl mo ?_
  rintro r H1 ⟨rfl,rfl⟩
  refine⟨rfl,?_⟩
  refine sH ?_
  refine gE @q7 ?_
  refine AP.own 8 119 3 rfl ?_
  refine sI ?_
  refine AP.loop rfl (α:=Nat) (fun k=>[(8,.os 1 3 0 k),(44,.os 0 4 0 o.length),(45,Iv o.length),(46,Iv k)]) (fun k=>(1,.vec 119 3 (cD (o.take k)))::gk o) (fun k=>k<=o.length) (fun k=>o.length-k) 0 (by omega) (sU) rfl fun k hk=>?_
  rcases Nat.eq_or_lt_of_le hk with aM|ag
  ·subst aM
   rw[List.take_length]
   refine gO ?_
   refine cF ?_
   refine gO ?_
   refine AQ.freeze 1 (el:=119) (es:=3) (rows:=cD o) rfl (by simp only[go_sem,Nat.reduceAdd,Nat.reduceLeDiff,Nat.reduceSub,Int.reduceToNat,reduceCtorEq,bn];first|done|trivial|omega|(simp;done)|(simp;omega)) (by simp only[go_sem,Nat.reduceAdd,Nat.reduceLeDiff,Nat.reduceSub,Int.reduceToNat,reduceCtorEq,bn];first|done|trivial|omega|(simp;done)|(simp;omega)) ?_;simp only[go_sem,Nat.reduceAdd,Nat.reduceLeDiff,Nat.reduceSub,Int.reduceToNat,reduceCtorEq,bn]
   rw[List.take_of_length_le (by rw[bn];omega)]
   refine AQ.wW (by kernel_rfl) ?_
   refine sI ?_
   refine gO ?_
   refine AQ.bR [(1,2),(0,1)] (by kernel_rfl) rfl rfl rfl rfl rfl rfl (by exact⟨rfl,rfl,trivial⟩) rfl FX ?_
   rintro r H1 ⟨rfl,rfl⟩
   refine⟨rfl,?_⟩
   refine sH ?_
   refine gO ?_
   exact AE.bm [2,1,0] rfl ⟨rfl,rfl,trivial⟩ (by simp only[go_sem,Nat.reduceAdd,Nat.reduceLeDiff,Nat.reduceSub,Int.reduceToNat,reduceCtorEq,bN,noMen,AV.mens,AV.men,hY,Bool.or_false];first|done|rfl) ⟨rfl,rfl⟩
  ·obtain⟨u,hu,_⟩:=oC o k ag
   have aX:=DV hu
   have hw:=wr (x:=(k:Int)+1) (by omega)
   have bP:=dX hu
   have bc:=oO (l:=o) (k:=k) (by omega)
   refine gO ?_
   refine cT ?_
   refine gE @aX ?_
   refine⟨by rw[q7];omega,?_⟩
   refine gO ?_
   refine AQ.append (hnb:=rfl) (rows:=cD (o.take k)) (es:=2) (by kernel_rfl) rfl rfl rfl (by rfl) Tryz.D1 Tryz.DY (by show Option.map _ (aA Tryz.prog 119)=_;rw[Tryz.Eh];rfl) Tryz.Bn (by first|rfl|(simp only[bn,bc,List.length_cons,List.length_nil];done)|(simp only[bn,bc,List.length_cons,List.length_nil];omega)) (by simp only[bn,bc,List.length_cons,List.length_nil];omega) (by simp only[bn,bc,List.length_cons,List.length_nil];omega) ?_
   refine sI ?_
   refine gE @hw ?_
   refine AE.eJ [2] rfl ?_
   refine sI ?_
   refine AE.round (k+1) (by omega) (by omega) (by simp only[bn,bc];exact(sU)) ?_
   rw[bP,Dh]
 ·obtain⟨u,hu,aX⟩:=oC c k ag
  have hw:=wr (x:=(k:Int)+1) (by omega)
  have cY:=tx hs hu
  have CO:=h4 u (List.mem_of_getElem? hu)
  have ff:=KA (c.take k) [] u
  rw[<-dX hu,List.nil_append]at ff
  refine gE @bn ?_
  refine cT ?_
  refine gE @aX ?_
  refine⟨by rw[bn];omega,?_⟩
  refine gO ?_
  refine⟨⟨by omega,by rw[bn];omega⟩,?_⟩
  have bc:List.take k (cD c)=cD (c.take k):=by rw[cD,cD,List.map_take]
  have GR:List.drop k (List.take (k+1) (cD c))=cD [u]:=by
   rw[cD,<-List.map_take,<-List.map_drop,dX hu,List.drop_append_of_le_length (by rw[List.length_take];omega),List.drop_take_self];rfl
  have zI:((k:Int)+1).toNat=k+1:=by omega
  have wE:=RF [u] true ⟨by simp,fun l hl=>by rw[List.mem_singleton]at hl;subst hl;exact cY⟩ (by simp) (by
   have h6:=Dm c u (List.mem_of_getElem? hu)
   simp only[b8,List.map_cons,List.map_nil,List.sum_cons,List.sum_nil];omega) (fun l hl=>by rw[List.mem_singleton]at hl;subst hl;exact CO)
  have pj:pW true [u]=dP u:=by rw[pW,kq,List.append_nil,dP]
  rw[pj]at wE
  have qw:(e8 [] (c.take k)).length<=k:=by
   have:=(vz (c.take k) []).length_le
   rw[List.length_take]at this;omega
  rw[bc]
  refine AQ.fix 1 rfl rfl ?_
  refine sI ?_
  refine AQ.fn (by kernel_rfl) rfl rfl rfl (Sz (c.take k) u (by rw[List.length_take];omega) cY) rfl ?_
  refine sI ?_
  refine gO ?_
  refine AP.cond rfl rfl (fun h5=>?_) (fun h5=>?_)
  ·have h5:(c.take k).any (jH u)=false:=by simpa using h5
   rw[h5,if_neg (by decide)]at ff
   refine gO ?_
   refine AP.db 11 (Tree.node [] [0,1,2,3,4,5,6] [7] [Tree.node [0,1] [8] [9] [Tree.node [0] [] [10] [Tree.node [] [] [] []]]]) (by kernel_rfl) rfl (by kernel_rfl) (by kernel_rfl) ?_
   refine c_ ?_
   refine sE (an @hw (an @zI (an @GR @bn))) ?_
   refine⟨⟨by omega,by omega,by omega⟩,?_⟩
   refine AQ.fn (by kernel_rfl) rfl rfl rfl (wE) rfl ?_
   refine sI ?_
   refine AQ.nx rfl ?_
   refine sI ?_
   refine AQ.go (by kernel_rfl) ?_
   refine sI ?_
   refine AQ.nx rfl ?_
   refine sI ?_
   refine AQ.append (hnb:=rfl) (rows:=gI (e8 [] (c.take k))) (es:=3) (by kernel_rfl) rfl rfl rfl (by rfl) Tryz.aaE Tryz.aay (by show Option.map _ (aA Tryz.prog 145)=_;rw[Tryz.abu];rfl) Tryz.Ta (by first|rfl|(simp only[q7,List.length_cons,List.length_nil];done)|(simp only[q7,List.length_cons,List.length_nil];omega)) (by simp only[q7,List.length_cons,List.length_nil];omega) (by simp only[q7,List.length_cons,List.length_nil];omega) ?_
   refine sI ?_
   refine AQ.nx rfl ?_
   refine sI ?_
   refine AQ.done ?_
   refine gE @hw ?_
   have hlen:(e8 [] (c.take (k+1))).length=(e8 [] (c.take k)).length+1:=by rw[ff,List.length_append];rfl
   refine AE.round (k+1) (by omega) (by omega) (by rw[hlen];simp only[q7];exact(sU)) ?_
   rw[ff];simp only[gk,gI,List.map_append];rfl
  ·have h5:(c.take k).any (jH u)=true:=by simpa using h5
   rw[if_pos h5,List.append_nil]at ff
   refine gE @hw ?_
   exact AE.round (k+1) (by omega) (by omega) (by rw[ff];exact(sU)) (by rw[ff])
abbrev ia (s:List UInt8) (i:Nat):aa:=[(0,.var 135 [Sv s,Iv i])]
abbrev Aa:AV:= .wr (.iface 131) (.agg [])
abbrev DF:aa:=[(0,.var 135 [.top,.top])]
theorem sA (a b:AV):bY [a,b] [.top,.top]:=fun w φ I us h=>by
 simp only[AV.ab,AV.den]at h⊢
 obtain⟨u1,rp,rfl,_,u2,oR,rfl,_,rfl⟩:=h
 exact⟨_,_,rfl,trivial,_,_,rfl,trivial,rfl⟩
theorem rz {s:List UInt8} {i:Nat} {w:List UInt8} (h:cX s i w=true) (hi:i<=s.length):i+w.length<=s.length:=by
 rcases JT h with h|h
 ·exact h
 ·subst h;simpa using hi
theorem rI (s w:List UInt8) (i:Nat) (hi:i<=s.length) (hs:s.length<=1000000) (hw:w.length<=1000):ao Tryz.prog 83 [.ob 0 0,Sv w] (ia s i) (fun r H'=>r=Bv (cX s i w)/\H'=ia s (if cX s i w then i+w.length else i)):=by
 have hp:=Vv (s.drop i) w
 have he:Lib.hasPrefix (s.drop i) w=cX s i w:=rfl
 have bc:List.take (s.length-i) (List.drop i s)=List.drop i s:=List.take_of_length_le (by rw[List.length_drop];exact Nat.le_refl _)
 rw[he,<-bc]at hp
 clear he
 refine ao.walk [0,1,4,16] [] Tryz.func83 rfl Tryz.ntmps83 (by kernel_rfl) (by rfl) rfl fun W own I0 aq lay=>?_
 refine gO ?_
 refine AP.db 12 (Tree.node [] [0,1,2,3,4,5,6,7,8,9] [10] [Tree.node [] [11] [] []]) (by kernel_rfl) rfl (by kernel_rfl) (by kernel_rfl) ?_
 refine c_ ?_
 refine sI ?_
 refine⟨by omega,?_⟩
 refine AQ.fn (by kernel_rfl) rfl rfl rfl (hp) rfl ?_
 refine sI ?_
 refine AQ.nx rfl ?_
 refine sI ?_
 refine AQ.done ?_
 refine gO ?_
 refine AP.cond rfl rfl (fun h=>?_) (fun h=>?_)
 ·have h:cX s i w=false:=by simpa using h
  refine gO ?_
  exact AE.ret rfl ⟨rfl,trivial⟩ ⟨by rw[h];rfl,by rw[h];rfl⟩
 ·have h:cX s i w=true:=by simpa using h
  have hle:=rz h hi
  have cL:=wr (x:=(i:Int)+w.length) (by omega)
  refine gE @cL ?_
  exact AE.ret rfl ⟨rfl,trivial⟩ ⟨by rw[h];rfl,by rw[h,if_pos rfl];rfl⟩
theorem LK {l:List UInt8} {k:Nat} (h:k<l.length):l.drop k=l.getD k 0::l.drop (k+1):=by
 rw[List.drop_eq_getElem_cons h,List.getD_eq_getElem?_getD,List.getElem?_eq_getElem h];rfl
theorem YM {s:List UInt8} {k:Nat} (b:Bool) (h:k<s.length):cM b (s.drop k)=if mz (s.getD k 0) b then 1+cM false (s.drop (k+1))else 0:=by
 rw[LK h,cM]
theorem OO (s:List UInt8) (i:Nat) (hi:i<=s.length) (hs:s.length<=1000000):dw Tryz.prog 157 [.ob 0 0] (ia s i) (fun r H'=>cM true (s.drop i)≠0/\r=Sv ((s.drop i).take (cM true (s.drop i)))/\H'=ia s (i+cM true (s.drop i))) (fun r H'=>cM true (s.drop i)=0/\r=Aa/\H'=DF):=by
 refine dw.walk [0,2,3,35,48] [] Tryz.func157 rfl Tryz.ntmps157 (by kernel_rfl) (by rfl) rfl fun W own I0 aq lay=>?_
 refine gO ?_
 refine AP.loop rfl (α:=Nat) (fun k=>[(0,.ob 0 0),(3,Iv i)]) (fun k=>ia s (i+k)) (fun k=>i+k<=s.length/\cM true (s.drop i)=k+cM (decide (k=0)) (s.drop (i+k))) (fun k=>s.length-(i+k)) 0 ⟨by omega,by simp⟩ (sU) rfl fun k ⟨hk,hm⟩=>?_
 by_cases ag:i+k<s.length
 ·have hw:=wr (x:=((i+k:Nat):Int)+1) (by omega)
  have hd:decide (((i+k:Nat):Int)<(s.length:Int))=true:=decide_eq_true (by omega)
  have he:decide (((i+k:Nat):Int)=(i:Int))=decide (k=0):=by rw[decide_eq_decide];omega
  rw[YM _ ag]at hm
  refine gE @hd ?_
  refine AP.db 28 (Tree.node [] [0,1,2,3,4,5,6,7,8,9,10,11,12,13,14,15,16,17,18,19,20,21,22,23,24,25] [26] [Tree.node [] [27] [] []]) (by kernel_rfl) rfl (by kernel_rfl) (by kernel_rfl) ?_
  refine c_ ?_
  refine sE @hd ?_
  refine⟨⟨by omega,by omega⟩,?_⟩
  refine AQ.nW (by simp only[go_sem]) ?_
  refine AQ.fn (by kernel_rfl) rfl rfl rfl (NV (s.getD (i+k) 0) (((i+k:Nat):Int)==(i:Int))) rfl ?_
  refine sI ?_
  refine AQ.nx rfl ?_
  refine sI ?_
  refine AQ.done ?_
  have VA:(((i+k:Nat):Int)==(i:Int))=decide (k=0):=by
   rw[Bool.eq_iff_iff,beq_iff_eq,decide_eq_true_iff];omega
  rw[VA]
  refine gO ?_
  refine AP.cond rfl rfl (fun h5=>?_) (fun h5=>?_)
  ·have h5:mz (s.getD (i+k) 0) (decide (k=0))=true:=by simpa using h5
   rw[if_pos h5]at hm
   refine gE @hw ?_
   refine AE.round (k+1) ⟨by omega,?_⟩ (by omega) (sU) rfl
   rw[hm,show decide (k+1=0)=false from decide_eq_false (by omega)];simp only[Nat.add_assoc];
  ·have h5:mz (s.getD (i+k) 0) (decide (k=0))=false:=by simpa using h5
   rw[if_neg (by rw[h5];decide)]at hm
   refine gO ?_
   have jv:cM true (s.drop i)=k:=hm
   by_cases mh:k=0
   ·subst mh
    refine cT ?_
    refine gO ?_
    refine xI ?_;refine sI ?_
    refine gO ?_
    refine AQ.fJ 0 _ rfl (sA _ _) ?_
    refine sI ?_
    refine AQ.panic rfl ?_
    exact di.out [] rfl rfl ⟨jv,rfl,rfl⟩
   ·refine cF ?_
    refine gO ?_
    exact AE.ret rfl ⟨rfl,trivial⟩ ⟨by omega,by rw[jv,Nat.add_sub_cancel_left];rfl,by rw[jv]⟩
 ·have hd:decide (((i+k:Nat):Int)<(s.length:Int))=false:=decide_eq_false (by omega)
  refine gE @hd ?_
  refine AP.db 28 (Tree.node [] [0,1,2,3,4,5,6,7,8,9,10,11,12,13,14,15,16,17,18,19,20,21,22,23,24,25] [26] [Tree.node [] [27] [] []]) (by kernel_rfl) rfl (by kernel_rfl) (by kernel_rfl) ?_
  refine c_ ?_
  refine sE @hd ?_
  refine⟨fun h=>h.elim,fun h=>h.elim,?_⟩
  refine AQ.skip (by kernel_rfl) rfl ?_
  refine sI ?_
  refine AQ.nx rfl ?_
  refine sI ?_
  refine AQ.done ?_
  have hm:cM true (s.drop i)=k:=by rw[hm,List.drop_eq_nil_of_le (by omega),cM];rfl
  refine gO ?_
  have jv:cM true (s.drop i)=k:=hm
  by_cases mh:k=0
  ·subst mh
   refine cT ?_
   refine gO ?_
   refine xI ?_;refine sI ?_
   refine gO ?_
   refine AQ.fJ 0 _ rfl (sA _ _) ?_
   refine sI ?_
   refine AQ.panic rfl ?_
   exact di.out [] rfl rfl ⟨jv,rfl,rfl⟩
  ·refine cF ?_
   refine gO ?_
   exact AE.ret rfl ⟨rfl,trivial⟩ ⟨by omega,by rw[jv,Nat.add_sub_cancel_left];rfl,by rw[jv]⟩
theorem dw.told {P:Program} {f:FuncId} {xs:List AV} {H:aa} {R R' X:AV->aa->Prop} (h:dw P f xs H R X) (hr:∀r H',R r H'->∃r',R' r' H'/\da r r'):dw P f xs H R' X:=
 ⟨h.gv,fun w φ I vs hd hR hV=>(h.run w φ I vs hd hR hV).mono fun _ _ h=>by
  rcases h with⟨r,H',φ',I',v,U,h2,h3,h4⟩|h
  ·obtain⟨r',kW,eM⟩:=hr _ _ U
   exact .inl ⟨r',H',φ',I',v,kW,h2,eM _ _ _ _ h3,h4⟩
  ·exact .inr h⟩
def RT (s:List UInt8) (f i:Nat) (r:AV) (H':aa):Prop:=∃t j,pT s f i=some (t,j)/\r=bf t/\H'=ia s j
def XT (s:List UInt8) (f i:Nat) (r:AV) (H':aa):Prop:=pT s f i=none/\r=Aa/\H'=DF
def RA (s:List UInt8) (f i:Nat) (r:AV) (H':aa):Prop:=∃l j,pA s f i=some (l,j)/\r= .im (.sl 3 (az l))/\H'=ia s j
def XA (s:List UInt8) (f i:Nat) (r:AV) (H':aa):Prop:=pA s f i=none/\r=Aa/\H'=DF
theorem Ze (s:List UInt8) (f i:Nat):pR s (f+1) i=if cX s i [44,32]then
   match pT s f (i+2)with
   |none=>none
   |some (t,j)=>match pR s f j with
    |none=>none
    |some (l,k)=>some (t::l,k)
  else if cX s i [41]then some ([],i+1)else none:=by rw[pR];rfl
def Dz (a:List Tm):Option (List Tm×Nat)->Option (List Tm×Nat)
 |none=>none
 |some (l,k)=>some (a++l,k)
theorem PU (s:List UInt8) (hs:s.length<=1000000) (f i:Nat) (hi:i<=s.length) (hf:s.length<f+i)
  (ih:∀f' i',f'<=f->i'<=s.length->s.length<f'+i'->dw Tryz.prog 159 [.ob 0 0] (ia s i') (RT s f' i') (XT s f' i')):
  dw Tryz.prog 158 [.ob 0 0] (ia s i) (RA s f i) (XA s f i):=by
 refine dw.told (R:=fun r H'=>∃l j,pA s f i=some (l,j)/\(r= .im (.sl 3 (az l))\/l=[]/\r=eO)/\H'=ia s j) ?_ (fun r H' ⟨l,j,U,h2,h3⟩=>⟨_,⟨l,j,U,rfl,h3⟩,by
  rcases h2 with rfl|⟨rfl,rfl⟩
  ·exact da.refl _
  ·exact fun w φ I u h=>OU 3 w φ I u h⟩)
 have hA:pA s f i=_:=pA.eq_def s f i
 have he:=rI s [40] i hi hs (by simp)
 refine dw.walk [0,2,3,6,11,19] [3,9] Tryz.func158 rfl Tryz.ntmps158 (by kernel_rfl) (by rfl) rfl fun W own I0 aq lay=>?_
 refine gO ?_
 refine AQ.bR [(0,0)] (by kernel_rfl) rfl rfl rfl rfl rfl rfl (by exact⟨rfl,trivial⟩) rfl (he) ?_;rintro r H1 ⟨rfl,rfl⟩;refine⟨rfl,?_⟩;refine sH ?_
 refine gO ?_
 refine AP.cond rfl rfl (fun h=>?_) (fun h=>?_)
 ·have h:cX s i [40]=false:=by simpa using h
  rw[h,if_neg (by decide)]at hA
  rw[h,if_neg (by decide)]
  refine gO ?_
  exact AE.ret rfl ⟨rfl,trivial⟩ ⟨[],i,hA,.inr ⟨rfl,rfl⟩,rfl⟩
 have h:cX s i [40]=true:=by simpa using h
 have hle:=rz h hi
 simp only[List.length_cons,List.length_nil]at hle
 rw[if_pos h]at hA
 rw[if_pos h]
 have it:=ih f (i+1) (Nat.le_refl _) (by omega) (by omega)
 refine gO ?_
 refine AQ.nR [(0,0)] (by kernel_rfl) rfl rfl rfl rfl rfl rfl (by exact⟨rfl,trivial⟩) rfl (it) ?_ ?_
 ·rintro r H' ⟨hp,rfl,rfl⟩
  rw[hp]at hA
  refine⟨rfl,?_⟩;refine sH ?_
  exact di.out [] rfl rfl ⟨hA,rfl,rfl⟩
 ·rintro r H' ⟨t,j,hp,rfl,rfl⟩
  have qH:=sR hp
  rw[hp]at hA
  simp only at hA
  refine⟨rfl,?_⟩;refine sH ?_
  refine AQ.go (by kernel_rfl) ?_
  refine sI ?_
  refine gO ?_
  have L9:pA s f i=Dz [t] (pR s f j):=by rw[hA];cases pR s f j<;>rfl
  refine AP.loop rfl (α:=List Tm×Nat×Nat) (fun z=>[(0,.ob 0 0),(3,.os 1 3 0 z.1.length)]) (fun z=>(1,.vec 71 3 (az z.1))::ia s z.2.1) (fun z=>z.1.length<=z.2.1/\z.2.1<=s.length/\s.length<z.2.2+z.2.1/\z.2.2<=f/\pA s f i=Dz z.1 (pR s z.2.2 z.2.1)) (fun z=>s.length-z.2.1) ([t],j,f) ⟨by simp only[List.length_singleton];omega,qH.2.2,by simp only;omega,Nat.le_refl _,L9⟩ (sU) (by simp only[az,jJ];rfl) fun⟨a,j,g⟩ ⟨z1,z2,z3,z4,z5⟩=>?_
  simp only at z1 z2 z3 z4 z5⊢
  clear hA L9 qH hp it he hle
  obtain⟨g,rfl⟩:∃q,g=q+1:=⟨g-1,by omega⟩
  rw[Ze]at z5
  have he:=rI s [44,32] j z2 hs (by simp)
  refine gO ?_
  refine AQ.bR [(0,0)] (by kernel_rfl) rfl rfl rfl rfl rfl rfl (by exact⟨rfl,trivial⟩) rfl (he) ?_;rintro r H1 ⟨rfl,rfl⟩;refine⟨rfl,?_⟩;refine sH ?_
  refine gO ?_
  refine AP.cond rfl rfl (fun h2=>?_) (fun h2=>?_)
  ·have h2:cX s j [44,32]=true:=by simpa using h2
   have hle:=rz h2 z2
   simp only[List.length_cons,List.length_nil]at hle
   have it:=ih g (j+2) (by omega) (by omega) (by omega)
   rw[if_pos h2]at z5
   rw[if_pos h2]
   refine gO ?_
   refine AQ.nR [(0,0)] (by kernel_rfl) rfl rfl rfl rfl rfl rfl (by exact⟨rfl,trivial⟩) rfl (it) ?_ ?_
   ·rintro r H' ⟨hp,rfl,rfl⟩
    rw[hp]at z5
    refine⟨rfl,?_⟩;refine sH ?_
    exact di.out [1] rfl rfl ⟨z5,rfl,rfl⟩
   ·rintro r H' ⟨u,k,hp,rfl,rfl⟩
    have qH:=sR hp
    rw[hp]at z5
    refine⟨rfl,?_⟩;refine sH ?_
    refine AQ.go (by kernel_rfl) ?_
    refine sI ?_
    refine gO ?_
    refine AQ.append (hnb:=rfl) (rows:=az a) (es:=2) (by kernel_rfl) rfl rfl rfl (by rfl) Tryz.s8 Tryz.s6 (by show Option.map _ (aA Tryz.prog 71)=_;rw[Tryz.td];rfl) Tryz.rB (by first|rfl|(simp only[aw,List.length_cons,List.length_nil];done)|(simp only[aw,List.length_cons,List.length_nil];omega)) (by simp only[aw,List.length_cons,List.length_nil];omega) (by simp only[aw,List.length_cons,List.length_nil];omega) ?_
    refine sE @aw ?_
    refine gO ?_
    refine AE.round (a++[u],k,g) ⟨by simp only[List.length_append,List.length_singleton];omega,qH.2.2,by simp only;omega,by simp only;omega,?_⟩ (by simp only;omega) (by simp only[List.length_append,List.length_singleton];exact(sU)) (by simp only[rh];rfl)
    simp only at z5⊢
    rw[z5]
    cases hq:pR s g k with
    |none=>rfl
    |some x=>simp[Dz]
  ·have h2:¬cX s j [44,32]=true:=by simpa using h2
   rw[if_neg h2]at z5
   rw[if_neg h2]
   have VQ:=rI s [41] j z2 hs (by simp)
   refine gO ?_
   refine AQ.bR [(0,0)] (by kernel_rfl) rfl rfl rfl rfl rfl rfl (by exact⟨rfl,trivial⟩) rfl (VQ) ?_;rintro r H1 ⟨rfl,rfl⟩;refine⟨rfl,?_⟩;refine sH ?_
   refine gO ?_
   refine AP.cond rfl rfl (fun h3=>?_) (fun h3=>?_)
   ·have h3:¬cX s j [41]=true:=by simpa using h3
    rw[if_neg h3]at z5
    rw[if_neg h3]
    refine gO ?_;refine xI ?_;refine sI ?_;refine gO ?_;refine AQ.fJ 0 _ rfl (sA _ _) ?_;refine sI ?_;refine AQ.panic rfl ?_
    exact di.out [1] rfl rfl ⟨z5,rfl,rfl⟩
   ·have h3:cX s j [41]=true:=by simpa using h3
    rw[if_pos h3]at z5
    rw[if_pos h3]
    refine gO ?_
    refine AE.freeze 1 (el:=71) (es:=3) (rows:=az a) rfl (by simp only[go_sem,Nat.reduceAdd,Nat.reduceLeDiff,Nat.reduceSub,Int.reduceToNat,reduceCtorEq,aw];first|done|trivial|omega|(simp;done)|(simp;omega)) (by simp only[go_sem,Nat.reduceAdd,Nat.reduceLeDiff,Nat.reduceSub,Int.reduceToNat,reduceCtorEq,aw];first|done|trivial|omega|(simp;done)|(simp;omega)) ?_;simp only[go_sem,Nat.reduceAdd,Nat.reduceLeDiff,Nat.reduceSub,Int.reduceToNat,reduceCtorEq,aw]
    rw[List.take_of_length_le (by rw[aw];exact Nat.le_refl _)]
    exact AE.ret rfl ⟨rfl,trivial⟩ ⟨a,j+1,by rw[z5];simp[Dz],.inl rfl,rfl⟩
theorem PF:∀(l:List UInt8) (acc k:Nat),acc<10^k->l.length+k<=18->(∀c∈l,fP c=true)->Lib.parseUint10 acc l= .ok (l.foldl (fun n c=>10*n+(c.toNat-48)) acc)
 |[],acc,k,_,_,_=>rfl
 |c::r,acc,k,ha,hl,hd=>by
  have hc:=hd c (List.mem_cons_self ..)
  rw[fP,Bool.and_eq_true,decide_eq_true_iff,decide_eq_true_iff]at hc
  have hk:10^k<=10^17:=Nat.pow_le_pow_right (by decide) (by simp only[List.length_cons]at hl;omega)
  have hn:acc*10+(c.toNat-48)<10^(k+1):=by rw[Nat.pow_succ];omega
  have h17:(10:Nat)^17=100000000000000000:=by decide
  rw[Lib.parseUint10,if_pos hc,if_neg (by omega),if_neg (by omega),PF r _ (k+1) hn (by simp only[List.length_cons]at hl;omega) (fun x hx=>hd x (List.mem_cons_of_mem _ hx)),List.foldl_cons,Nat.mul_comm acc 10]
theorem SI {d:List UInt8} (hd:∀c∈d,fP c=true) (h0:d≠[]) (hl:d.length<=18):gT d=((fv d:Int),true):=by
 have hp:=PF d 0 0 (by decide) (by omega) hd
 have ag:fv d<10^18:=by
  have:∀(l:List UInt8) (acc k:Nat),acc<10^k->(∀c∈l,fP c=true)->l.foldl (fun n c=>10*n+(c.toNat-48)) acc<10^(k+l.length):=by
   intro l
   induction l with
   |nil=>intro acc k h _;exact h
   |cons c r ih=>
    intro acc k h hd
    have hc:=hd c (List.mem_cons_self ..)
    rw[fP,Bool.and_eq_true,decide_eq_true_iff,decide_eq_true_iff]at hc
    have:=ih (10*acc+(c.toNat-48)) (k+1) (by rw[Nat.pow_succ];omega) fun x hx=>hd x (List.mem_cons_of_mem _ hx)
    rw[List.foldl_cons,List.length_cons,show k+(r.length+1)=k+1+r.length by omega]
    exact this
  have U:=this d 0 0 (by decide) hd
  rw[Nat.zero_add]at U
  exact Nat.lt_of_lt_of_le U (Nat.pow_le_pow_right (by decide) hl)
 have h18:(10:Nat)^18=1000000000000000000:=by decide
 cases d with
 |nil=>exact absurd rfl h0
 |cons c r=>
  have hc:=hd c (List.mem_cons_self ..)
  rw[fP,Bool.and_eq_true,decide_eq_true_iff,decide_eq_true_iff]at hc
  have UN:¬(c.toNat=43\/c.toNat=45):=by omega
  have L3:¬c.toNat=45:=by omega
  have hA:Lib.atoiAll (c::r)= .ok ((fv (c::r):Nat):Int):=by
   rw[Lib.atoiAll]
   simp only[if_neg UN,Lib.parseMag,if_neg (List.cons_ne_nil c r)]
   rw[hp]
   simp only
   rw[if_neg,if_neg,if_neg L3]
   ·rfl
   ·exact fun h=>L3 h.1
   ·rintro⟨_,h⟩
    have:fv (c::r)<1000000000000000000:=by omega
    unfold fv at this
    omega
  rw[gT,hA]
def wZ (d:List UInt8):Bool:=(gT d).2&&!decide (9<d.length)&&(Lib.itoa (gT d).1==d)
theorem O3 {d:List UInt8} (hd:∀c∈d,fP c=true):wZ d=lU d/\(lU d=true->(gT d).1=(fv d:Int)):=by
 rcases Decidable.em (d=[])with rfl|h0
 ·have:gT []=(0,false):=rfl
  refine⟨by rw[wZ,this];rfl,fun h=>?_⟩
  exact absurd h (by decide)
 ·have GB:1<=d.length:=by cases d with|nil=>exact absurd rfl h0|cons c r=>simp
  by_cases h9:9<d.length
  ·rw[wZ,lU,decide_eq_true h9,decide_eq_false (by omega:¬d.length<=9)]
   simp
  ·have ha:=SI hd h0 (by omega)
   have hi:Lib.itoa (fv d:Int)=Lib.decDigits (fv d):=by rw[Lib.itoa,if_neg (by omega)];rfl
   refine⟨?_,fun _=>by rw[ha]⟩
   rw[wZ,ha,lU,decide_eq_false h9,decide_eq_true GB,decide_eq_true (by omega:d.length<=9)]
   simp only[Bool.true_and,Bool.not_false,hi]
   rw[Bool.eq_iff_iff,beq_iff_eq,Bool.or_eq_true,decide_eq_true_iff,decide_eq_true_iff]
   obtain⟨_,_,_,_,h5,h6⟩:=KD (fv d)
   constructor
   ·intro h
    rw[h]at h5 h6
    by_cases U:d.length=1
    ·exact .inl U
    ·exact .inr (h5 (h6 (by omega)))
   ·intro h
    obtain⟨n,hn⟩:∃n,d.length=n+1:=⟨d.length-1,by omega⟩
    exact(ES n d hn hd (fun U=>by
     rcases h with h|h
     ·omega
     ·exact h)).1
theorem EW:∀l:List UInt8,∀c∈l.take (gX l),fP c=true
 |[],c,h=>by simp at h
 |x::l,c,h=>by
  rw[gX]at h
  by_cases hx:fP x=true
  ·rw[if_pos hx,Nat.add_comm,List.take_succ_cons]at h
   rcases List.mem_cons.1 h with rfl|h
   ·exact hx
   ·exact EW l c h
  ·rw[if_neg hx]at h;simp at h
theorem TS {s:List UInt8} {k:Nat} (h:k<s.length):gX (s.drop k)=if fP (s.getD k 0)then 1+gX (s.drop (k+1))else 0:=by
 rw[LK h,gX]
theorem ZY (s:List UInt8) (hs:s.length<=1000000) (f i:Nat) (hi:i<=s.length)
  (hl:∀i',i<i'->i'<=s.length->dw Tryz.prog 158 [.ob 0 0] (ia s i') (RA s f i') (XA s f i')):
  dw Tryz.prog 159 [.ob 0 0] (ia s i) (RT s (f+1) i) (XT s (f+1) i):=by
 refine dw.told (R:=fun r H'=>∃t j,pT s (f+1) i=some (t,j)/\(r=bf t\/t.xs=[]/\r= .agg [Sv t.nm,Iv t.ix,eO])/\H'=ia s j) ?_ (fun r H' ⟨t,j,U,h2,h3⟩=>⟨_,⟨t,j,U,rfl,h3⟩,by
  rcases h2 with rfl|⟨hx,rfl⟩
  ·exact da.refl _
  ·rw[bf,hx,az];exact(by repeat' (first|with_reducible exact da.refl _|with_reducible exact fp.refl _|exact fp.nil _|with_reducible exact bY.refl _|with_reducible exact kg.refl _|with_reducible exact kj.refl _|refine bY.nT ?_ ?_|refine da.agg ?_|refine da.im ?_|refine fp.sl ?_|refine kj.cons ?_ ?_|refine kg.cons ?_ ?_))⟩)
 have hT:=Pu s f i
 have he:=rI s [63] i hi hs (by simp)
 refine dw.walk [0,2,3,4,5,6,7,10,54,89] [2] Tryz.func159 rfl Tryz.ntmps159 (by kernel_rfl) (by rfl) rfl fun W own I0 aq lay=>?_
 refine gO ?_
 refine AQ.bR [(0,0)] (by kernel_rfl) rfl rfl rfl rfl rfl rfl (by exact⟨rfl,trivial⟩) rfl (he) ?_;rintro r H1 ⟨rfl,rfl⟩;refine⟨rfl,?_⟩;refine sH ?_
 refine gO ?_
 refine AP.cond rfl rfl (fun h=>?_) (fun h=>?_)
 ·have h:cX s i [63]=false:=by simpa using h
  rw[h,if_neg (by decide)]at hT
  rw[h,if_neg (by decide)]
  have hn:=OO s i hi hs
  refine gO ?_
  refine AQ.nR [(0,0)] (by kernel_rfl) rfl rfl rfl rfl rfl rfl (by exact⟨rfl,trivial⟩) rfl (hn) ?_ ?_
  ·rintro r H' ⟨hp,rfl,rfl⟩
   rw[if_pos hp]at hT
   refine⟨rfl,?_⟩;refine sH ?_
   exact di.out [1] rfl rfl ⟨hT,rfl,rfl⟩
  ·rintro r H' ⟨hp,rfl,rfl⟩
   rw[if_neg hp]at hT
   have g_:=Ac true (s.drop i)
   rw[List.length_drop]at g_
   have eB:=hl (i+cM true (s.drop i)) (by omega) (by omega)
   refine⟨rfl,?_⟩;refine sH ?_
   refine AQ.go (by kernel_rfl) ?_
   refine sI ?_
   refine gO ?_
   refine AQ.nR [(0,0)] (by kernel_rfl) rfl rfl rfl rfl rfl rfl (by exact⟨rfl,trivial⟩) rfl (eB) ?_ ?_
   ·rintro r H' ⟨hp,rfl,rfl⟩
    rw[hp]at hT
    refine⟨rfl,?_⟩;refine sH ?_
    exact di.out [1] rfl rfl ⟨hT,rfl,rfl⟩
   ·rintro r H' ⟨l,k,hp,rfl,rfl⟩
    rw[hp]at hT
    refine⟨rfl,?_⟩;refine sH ?_
    refine AQ.go (by kernel_rfl) ?_
    refine sI ?_
    refine gO ?_
    exact AE.bm [1] rfl ⟨⟨rfl,Nat.le_of_ble_eq_true (by kernel_rfl)⟩,trivial⟩ rfl ⟨_,k,hT,.inl rfl,rfl⟩
 ·have h:cX s i [63]=true:=by simpa using h
  have hle:=rz h hi
  simp only[List.length_cons,List.length_nil]at hle
  rw[if_pos h]at hT
  rw[if_pos h]
  refine gO ?_
  refine AP.loop rfl (α:=Nat) (fun k=>[(0,.ob 0 0),(2,.ob 1 0),(4,Iv (i+1:Nat))]) (fun k=>(1,.var 71 [Sv [],Iv 0,eO])::ia s (i+1+k)) (fun k=>i+1+k<=s.length/\gX (s.drop (i+1))=k+gX (s.drop (i+1+k))) (fun k=>s.length-(i+1+k)) 0 ⟨by omega,by simp⟩ (sU) rfl fun k ⟨hk,hm⟩=>?_
  by_cases ag:i+1+k<s.length
  ·have hw:=wr (x:=((i+1+k:Nat):Int)+1) (by omega)
   have hd:decide (((i+1+k:Nat):Int)<(s.length:Int))=true:=decide_eq_true (by omega)
   rw[TS ag]at hm
   refine gE @hd ?_
   refine AP.cond rfl rfl (fun h5=>?_) (fun h5=>?_)
   ·have h5:fP (s.getD (i+1+k) 0)=true:=by
     rw[fP];simp only[Bool.and_eq_true,decide_eq_true_eq]at h5⊢;omega
    rw[if_pos h5]at hm
    refine gE @hw ?_
    refine AE.round (k+1) ⟨by omega,by rw[hm];simp only[Nat.add_assoc]⟩ (by omega) (sU) rfl
   ·have h5:fP (s.getD (i+1+k) 0)=false:=by
     rw[fP,<-Bool.not_eq_true];intro hc;rw[<-Bool.not_eq_true]at h5;apply h5
     simp only[Bool.and_eq_true,decide_eq_true_eq]at hc⊢;omega
    rw[if_neg (by rw[h5];decide)]at hm
    refine gO ?_
    have jv:gX (s.drop (i+1))=k:=hm
    have ek:i+1+k-(i+1)=k:=Nat.add_sub_cancel_left ..
    have tV:=EW (s.drop (i+1))
    rw[jv]at tV
    have hV:pV s (i+1)=_:=pV.eq_def s (i+1)
    rw[jv]at hV
    rw[ek]
    have Ca:((s.drop (i+1)).take k).length<=1000000:=by rw[List.length_take,List.length_drop];omega
    obtain⟨d,lI⟩:∃d,(s.drop (i+1)).take k=d:=⟨_,rfl⟩
    rw[lI]at tV hV Ca⊢
    obtain⟨ei,fN⟩:=O3 tV
    have aP:=JV d (by omega)
    have iF:=JU d
    rw[wZ]at ei
    obtain⟨⟨n,ok⟩,hq⟩:∃q,gT d=q:=⟨_,rfl⟩
    rw[hq]at aP iF ei fN
    simp only at aP iF ei fN
    have hit:=Hh n iF
    cases ok with
    |false=>
     have a6:lU d=false:=by rw[<-ei];rfl
     rw[a6,if_neg (by decide)]at hV
     refine AQ.fn (by kernel_rfl) rfl rfl rfl (aP) rfl ?_
     refine sI ?_
     repeat(first|refine xA ?_|refine xB ?_|refine xC ?_|refine xE ?_|refine xD ?_|refine xK ?_|refine xS ?_|refine xM ?_|refine xT ?_|refine xF ?_|((first|refine xR ?_|refine xW ?_|refine fR ?_);simp only[go_sem,Nat.reduceAdd,Nat.reduceLeDiff,Nat.reduceSub,Int.reduceToNat,reduceCtorEq,mT])|(refine⟨by first|omega|(intros;simp_all;done)|(intros;simp_all;omega),?_⟩;try simp only[go_sem,Nat.reduceAdd,Nat.reduceLeDiff,Nat.reduceSub,Int.reduceToNat,reduceCtorEq,mT]))
     refine xI ?_;refine sI ?_
     refine gO ?_
     refine AQ.fJ 0 _ rfl (sA _ _) ?_
     refine sI ?_
     refine AQ.panic rfl ?_
     exact di.out [1] rfl rfl ⟨by rw[hT,hV],rfl,rfl⟩
    |true=>
     refine AQ.fn (by kernel_rfl) rfl rfl rfl (aP) rfl ?_
     refine sI ?_
     repeat(first|refine xA ?_|refine xB ?_|refine xC ?_|refine xE ?_|refine xD ?_|refine xK ?_|refine xS ?_|refine xM ?_|refine xT ?_|refine xF ?_|((first|refine xR ?_|refine xW ?_|refine fR ?_);simp only[go_sem,Nat.reduceAdd,Nat.reduceLeDiff,Nat.reduceSub,Int.reduceToNat,reduceCtorEq,mT])|(refine⟨by first|omega|(intros;simp_all;done)|(intros;simp_all;omega),?_⟩;try simp only[go_sem,Nat.reduceAdd,Nat.reduceLeDiff,Nat.reduceSub,Int.reduceToNat,reduceCtorEq,mT]))
     refine AQ.rK (by kernel_rfl) rfl rfl (fun h=>by first|(simp[gs,AV.g];done)|(simp[gs,AV.g,cn];done)|(simp[gs,AV.g,cn,bw]at h⊢;done)|(simp[gs,AV.g,cn,bw]at h⊢;exact h)|(simp[gs,AV.g,cn,bw]at h⊢;simp[h];done)|(simp[bw]at h;done)|(simp[gs,AV.g,bw]at h⊢;simp[h];done)|(simp[gs,AV.g,bw]at h⊢;exact h.1)|(simp[gs,AV.g];rfl)|(simp[gs,AV.g,bw]at h⊢;rfl)|(simp[gs,AV.g,bw]at h⊢;simp[h];rfl)|(simp[gs,AV.g,bw]at h⊢;simp_all)) rfl (fun _=>hit) rfl ?_
     refine sI ?_
     refine gO ?_
     refine AP.cond rfl rfl (fun h6=>?_) (fun h6=>?_)
     ·have a6:lU d=false:=by
       rw[<-ei]
       by_cases h7:9<d.length
       ·rw[decide_eq_true h7];rfl
       ·rw[decide_eq_false h7]
        have h8:¬Lib.itoa n=d:=fun e=>by rw[e]at h6;simp at h6;omega
        rw[show(Lib.itoa n==d)=false by simpa using h8];rfl
      rw[a6,if_neg (by decide)]at hV
      refine gO ?_
      refine xI ?_;refine sI ?_
      refine gO ?_
      refine AQ.fJ 0 _ rfl (sA _ _) ?_
      refine sI ?_
      refine AQ.panic rfl ?_
      exact di.out [1] rfl rfl ⟨by rw[hT,hV],rfl,rfl⟩
     ·have zM:lU d=true:=by
       rw[<-ei]
       have h7:¬9<d.length/\Lib.itoa n=d:=by simp at h6;exact⟨by omega,h6.2⟩
       rw[decide_eq_false h7.1,h7.2];simp
      have qC:=fN zM
      rw[zM,if_pos rfl]at hV
      subst qC
      refine gO ?_
      exact AE.bm [1] rfl ⟨⟨rfl,Nat.le_of_ble_eq_true (by kernel_rfl)⟩,trivial⟩ rfl ⟨_,_,by rw[hT,hV],.inr ⟨rfl,rfl⟩,rfl⟩
  ·have hd:decide (((i+1+k:Nat):Int)<(s.length:Int))=false:=decide_eq_false (by omega)
   have hm:gX (s.drop (i+1))=k:=by rw[hm,List.drop_eq_nil_of_le (by omega),gX];rfl
   refine gE @hd ?_
   have jv:gX (s.drop (i+1))=k:=hm
   have ek:i+1+k-(i+1)=k:=Nat.add_sub_cancel_left ..
   have tV:=EW (s.drop (i+1))
   rw[jv]at tV
   have hV:pV s (i+1)=_:=pV.eq_def s (i+1)
   rw[jv]at hV
   rw[ek]
   have Ca:((s.drop (i+1)).take k).length<=1000000:=by rw[List.length_take,List.length_drop];omega
   obtain⟨d,lI⟩:∃d,(s.drop (i+1)).take k=d:=⟨_,rfl⟩
   rw[lI]at tV hV Ca⊢
   obtain⟨ei,fN⟩:=O3 tV
   have aP:=JV d (by omega)
   have iF:=JU d
   rw[wZ]at ei
   obtain⟨⟨n,ok⟩,hq⟩:∃q,gT d=q:=⟨_,rfl⟩
   rw[hq]at aP iF ei fN
   simp only at aP iF ei fN
   have hit:=Hh n iF
   cases ok with
   |false=>
    have a6:lU d=false:=by rw[<-ei];rfl
    rw[a6,if_neg (by decide)]at hV
    refine AQ.fn (by kernel_rfl) rfl rfl rfl (aP) rfl ?_
    refine sI ?_
    repeat(first|refine xA ?_|refine xB ?_|refine xC ?_|refine xE ?_|refine xD ?_|refine xK ?_|refine xS ?_|refine xM ?_|refine xT ?_|refine xF ?_|((first|refine xR ?_|refine xW ?_|refine fR ?_);simp only[go_sem,Nat.reduceAdd,Nat.reduceLeDiff,Nat.reduceSub,Int.reduceToNat,reduceCtorEq,mT])|(refine⟨by first|omega|(intros;simp_all;done)|(intros;simp_all;omega),?_⟩;try simp only[go_sem,Nat.reduceAdd,Nat.reduceLeDiff,Nat.reduceSub,Int.reduceToNat,reduceCtorEq,mT]))
    refine xI ?_;refine sI ?_
    refine gO ?_
    refine AQ.fJ 0 _ rfl (sA _ _) ?_
    refine sI ?_
    refine AQ.panic rfl ?_
    exact di.out [1] rfl rfl ⟨by rw[hT,hV],rfl,rfl⟩
   |true=>
    refine AQ.fn (by kernel_rfl) rfl rfl rfl (aP) rfl ?_
    refine sI ?_
    repeat(first|refine xA ?_|refine xB ?_|refine xC ?_|refine xE ?_|refine xD ?_|refine xK ?_|refine xS ?_|refine xM ?_|refine xT ?_|refine xF ?_|((first|refine xR ?_|refine xW ?_|refine fR ?_);simp only[go_sem,Nat.reduceAdd,Nat.reduceLeDiff,Nat.reduceSub,Int.reduceToNat,reduceCtorEq,mT])|(refine⟨by first|omega|(intros;simp_all;done)|(intros;simp_all;omega),?_⟩;try simp only[go_sem,Nat.reduceAdd,Nat.reduceLeDiff,Nat.reduceSub,Int.reduceToNat,reduceCtorEq,mT]))
    refine AQ.rK (by kernel_rfl) rfl rfl (fun h=>by first|(simp[gs,AV.g];done)|(simp[gs,AV.g,cn];done)|(simp[gs,AV.g,cn,bw]at h⊢;done)|(simp[gs,AV.g,cn,bw]at h⊢;exact h)|(simp[gs,AV.g,cn,bw]at h⊢;simp[h];done)|(simp[bw]at h;done)|(simp[gs,AV.g,bw]at h⊢;simp[h];done)|(simp[gs,AV.g,bw]at h⊢;exact h.1)|(simp[gs,AV.g];rfl)|(simp[gs,AV.g,bw]at h⊢;rfl)|(simp[gs,AV.g,bw]at h⊢;simp[h];rfl)|(simp[gs,AV.g,bw]at h⊢;simp_all)) rfl (fun _=>hit) rfl ?_
    refine sI ?_
    refine gO ?_
    refine AP.cond rfl rfl (fun h6=>?_) (fun h6=>?_)
    ·have a6:lU d=false:=by
      rw[<-ei]
      by_cases h7:9<d.length
      ·rw[decide_eq_true h7];rfl
      ·rw[decide_eq_false h7]
       have h8:¬Lib.itoa n=d:=fun e=>by rw[e]at h6;simp at h6;omega
       rw[show(Lib.itoa n==d)=false by simpa using h8];rfl
     rw[a6,if_neg (by decide)]at hV
     refine gO ?_
     refine xI ?_;refine sI ?_
     refine gO ?_
     refine AQ.fJ 0 _ rfl (sA _ _) ?_
     refine sI ?_
     refine AQ.panic rfl ?_
     exact di.out [1] rfl rfl ⟨by rw[hT,hV],rfl,rfl⟩
    ·have zM:lU d=true:=by
      rw[<-ei]
      have h7:¬9<d.length/\Lib.itoa n=d:=by simp at h6;exact⟨by omega,h6.2⟩
      rw[decide_eq_false h7.1,h7.2];simp
     have qC:=fN zM
     rw[zM,if_pos rfl]at hV
     subst qC
     refine gO ?_
     exact AE.bm [1] rfl ⟨⟨rfl,Nat.le_of_ble_eq_true (by kernel_rfl)⟩,trivial⟩ rfl ⟨_,_,by rw[hT,hV],.inr ⟨rfl,rfl⟩,rfl⟩
theorem An (s:List UInt8) (hs:s.length<=1000000):∀(f i:Nat),i<=s.length->s.length<f+i->dw Tryz.prog 159 [.ob 0 0] (ia s i) (RT s f i) (XT s f i)
 |0,i,hi,hf=>by omega
 |f+1,i,hi,hf=>ZY s hs f i hi fun i' U h2=>PU s hs f i' h2 (by omega) fun f' Xv h3 h4 h5=>An s hs f' Xv h4 h5
termination_by f=>f
decreasing_by omega
theorem ZJ (s:List UInt8) (hs:s.length<=1000000) (f i:Nat) (hi:i<=s.length) (hf:s.length<f+i):dw Tryz.prog 158 [.ob 0 0] (ia s i) (RA s f i) (XA s f i):=
 PU s hs f i hi hf fun f' i' _ h4 h5=>An s hs f' i' h4 h5
def RL (s:List UInt8) (i:Nat) (r:AV) (H':aa):Prop:=∃l j,pL s i=some (l,j)/\r=nB l/\H'=ia s j
def XL (s:List UInt8) (i:Nat) (r:AV) (H':aa):Prop:=pL s i=none/\r=Aa/\H'=DF
theorem PV (s:List UInt8) (hs:s.length<=1000000) (i:Nat) (hi:i<=s.length):dw Tryz.prog 82 [.ob 0 0] (ia s i) (RL s i) (XL s i):=by
 have hL:pL s i=_:=pL.eq_def s i
 have he:=rI s [126] i hi hs (by simp)
 refine dw.walk [0,2,3,4,6,8,19,20,21,22,28,39] [2,4,6] Tryz.func82 rfl Tryz.ntmps82 (by kernel_rfl) (by rfl) rfl fun W own I0 aq lay=>?_
 refine gO ?_
 refine AQ.bR [(0,0)] (by kernel_rfl) rfl rfl rfl rfl rfl rfl (by exact⟨rfl,trivial⟩) rfl (he) ?_;rintro r H1 ⟨rfl,rfl⟩;refine⟨rfl,?_⟩;refine sH ?_
 refine gO ?_
 refine AP.cond rfl rfl (fun h=>?_) (fun h=>?_)
 ·have h:cX s i [126]=true:=by simpa using h
  have hle:=rz h hi
  simp only[List.length_cons,List.length_nil]at hle
  rw[if_pos h]at hL
  rw[if_pos h]
  have hn:=OO s (i+1) (by omega) hs
  refine gO ?_
  refine AQ.nR [(0,0)] (by kernel_rfl) rfl rfl rfl rfl rfl rfl (by exact⟨rfl,trivial⟩) rfl (hn) ?_ ?_
  ·rintro r H' ⟨hp,rfl,rfl⟩
   rw[if_pos hp]at hL
   refine⟨rfl,?_⟩;refine sH ?_
   exact di.out [1] rfl rfl ⟨hL,rfl,rfl⟩
  ·rintro r H' ⟨hp,rfl,rfl⟩
   rw[if_neg hp]at hL
   have g_:=Ac true (s.drop (i+1))
   rw[List.length_drop]at g_
   have eB:=ZJ s hs (s.length+1) (i+1+cM true (s.drop (i+1))) (by omega) (by omega)
   refine⟨rfl,?_⟩;refine sH ?_
   refine AQ.go (by kernel_rfl) ?_
   refine sI ?_
   refine gO ?_
   refine AQ.nR [(0,0)] (by kernel_rfl) rfl rfl rfl rfl rfl rfl (by exact⟨rfl,trivial⟩) rfl (eB) ?_ ?_
   ·rintro r H' ⟨hp,rfl,rfl⟩
    rw[hp]at hL
    refine⟨rfl,?_⟩;refine sH ?_
    exact di.out [1] rfl rfl ⟨hL,rfl,rfl⟩
   ·rintro r H' ⟨l,k,hp,rfl,rfl⟩
    rw[hp]at hL
    refine⟨rfl,?_⟩;refine sH ?_
    refine AQ.go (by kernel_rfl) ?_
    refine sI ?_
    refine gO ?_
    exact AE.bm [1] rfl ⟨⟨rfl,Nat.le_of_ble_eq_true (by kernel_rfl)⟩,trivial⟩ rfl ⟨_,k,hL,rfl,rfl⟩
 ·have h:cX s i [126]=false:=by simpa using h
  rw[h,if_neg (by decide)]at hL
  rw[h,if_neg (by decide)]
  have ht:=An s hs (s.length+1) i hi (by omega)
  refine gO ?_
  refine AQ.nR [(0,0)] (by kernel_rfl) rfl rfl rfl rfl rfl rfl (by exact⟨rfl,trivial⟩) rfl (ht) ?_ ?_
  ·rintro r H' ⟨hp,rfl,rfl⟩
   rw[hp]at hL
   refine⟨rfl,?_⟩;refine sH ?_
   exact di.out [1] rfl rfl ⟨hL,rfl,rfl⟩
  ·rintro r H' ⟨t,j,hp,rfl,rfl⟩
   have qH:=sR hp
   rw[hp]at hL
   simp only at hL
   refine⟨rfl,?_⟩;refine sH ?_
   refine AQ.go (by kernel_rfl) ?_
   refine sI ?_
   refine gO ?_
   have qI:([[IV.v (Value.string (BA [32,61,32])),IV.v (Value.bool false)],[IV.v (Value.string (BA [32,33,61,32])),IV.v (Value.bool true)]]:List (List IV)).getD 0 []=[Si [32,61,32],Bi false]:=rfl
   have zp:([[IV.v (Value.string (BA [32,61,32])),IV.v (Value.bool false)],[IV.v (Value.string (BA [32,33,61,32])),IV.v (Value.bool true)]]:List (List IV)).getD 1 []=[Si [32,33,61,32],Bi true]:=rfl
   refine AP.loop rfl (α:=Nat) (fun k=>[(0,.ob 0 0),(2,.ob 1 0),(4,.ob 2 0),(19,.im (.sl 2 [[.v (.string (BA [32,61,32])),.v (.bool false)],[.v (.string (BA [32,33,61,32])),.v (.bool true)]])),(20,Iv 2),(21,Iv k)]) (fun _=>(2,.var 71 [Sv t.nm,Iv t.ix,.im (.sl 3 (az t.xs))])::(1,.var 119 [Bv false,Sv [],eO])::ia s j) (fun k=>k<=2/\(0<k->cX s j [32,61,32]=false)/\(1<k->cX s j [32,33,61,32]=false)) (fun k=>2-k) 0 ⟨by omega,by omega,by omega⟩ (sU) rfl fun k ⟨hk,k1,k2⟩=>?_
   obtain rfl|rfl|rfl:k=0\/k=1\/k=2:=by omega
   ·have he:=rI s [32,61,32] j qH.2.2 hs (by simp)
    refine gE (an @qI (an @List.length_cons.{0} @List.length_nil.{0})) ?_
    refine AQ.fix 3 rfl rfl ?_
    refine sI ?_
    refine AQ.bR [(0,0)] (by kernel_rfl) rfl rfl rfl rfl rfl rfl (by exact⟨rfl,trivial⟩) rfl (he) ?_;rintro r H1 ⟨rfl,rfl⟩;refine⟨rfl,?_⟩;refine sH ?_
    refine gO ?_
    refine AP.cond rfl rfl (fun U=>?_) (fun U=>?_)
    ·have U:cX s j [32,61,32]=true:=by simpa using U
     have hle:=rz U qH.2.2
     simp only[List.length_cons,List.length_nil]at hle
     rw[if_pos U]at hL
     rw[if_pos U]
     have it:=An s hs (s.length+1) (j+3) (by omega) (by omega)
     refine gO ?_
     refine AP.db 8 (Tree.node [] [0,1,2,3] [4] [Tree.node [0,1,2] [] [5] [Tree.node [0,1] [6] [7] [Tree.node [] [] [] []]]]) (by kernel_rfl) rfl (by kernel_rfl) (by kernel_rfl) ?_
     refine c_ ?_
     refine sI ?_
     refine AQ.nR [(0,0)] (by kernel_rfl) rfl rfl rfl rfl rfl rfl (by exact⟨rfl,trivial⟩) rfl (it) ?_ ?_
     ·rintro r H' ⟨ej,rfl,rfl⟩
      rw[ej]at hL
      refine⟨rfl,?_⟩;refine sH ?_
      exact di.Pp [2,1] rfl rfl rfl ⟨hL,rfl,rfl⟩
     ·rintro r H' ⟨u,k,ej,rfl,rfl⟩
      rw[ej]at hL
      refine⟨rfl,?_⟩;refine sH ?_
      refine AQ.nx rfl ?_
      refine sI ?_
      refine AQ.go (by kernel_rfl) ?_
      refine sI ?_
      refine AQ.nx rfl ?_
      refine sI ?_
      refine AQ.go (by kernel_rfl) ?_
      refine sI ?_
      refine AQ.nx rfl ?_
      refine sI ?_
      refine AQ.done ?_
      refine gO ?_
      exact AE.bm [2,1] rfl ⟨⟨rfl,Nat.le_of_ble_eq_true (by kernel_rfl)⟩,trivial⟩ rfl ⟨_,k,hL,by simp only[nB,az,jJ];rfl,rfl⟩
    ·have U:cX s j [32,61,32]=false:=by simpa using U
     rw[U,if_neg (by decide)]
     refine gO ?_
     exact AE.round 1 ⟨by omega,by omega⟩ (by omega) (sU) rfl
   ·have he:=rI s [32,33,61,32] j qH.2.2 hs (by simp)
    refine gE (an @zp (an @List.length_cons.{0} @List.length_nil.{0})) ?_
    refine AQ.fix 3 rfl rfl ?_
    refine sI ?_
    refine AQ.bR [(0,0)] (by kernel_rfl) rfl rfl rfl rfl rfl rfl (by exact⟨rfl,trivial⟩) rfl (he) ?_;rintro r H1 ⟨rfl,rfl⟩;refine⟨rfl,?_⟩;refine sH ?_
    refine gO ?_
    refine AP.cond rfl rfl (fun U=>?_) (fun U=>?_)
    ·have U:cX s j [32,33,61,32]=true:=by simpa using U
     have hle:=rz U qH.2.2
     simp only[List.length_cons,List.length_nil]at hle
     rw[if_neg (by rw[k1 (by omega)];decide),if_pos U]at hL
     rw[if_pos U]
     have it:=An s hs (s.length+1) (j+4) (by omega) (by omega)
     refine gO ?_
     refine AP.db 8 (Tree.node [] [0,1,2,3] [4] [Tree.node [0,1,2] [] [5] [Tree.node [0,1] [6] [7] [Tree.node [] [] [] []]]]) (by kernel_rfl) rfl (by kernel_rfl) (by kernel_rfl) ?_
     refine c_ ?_
     refine sI ?_
     refine AQ.nR [(0,0)] (by kernel_rfl) rfl rfl rfl rfl rfl rfl (by exact⟨rfl,trivial⟩) rfl (it) ?_ ?_
     ·rintro r H' ⟨ej,rfl,rfl⟩
      rw[ej]at hL
      refine⟨rfl,?_⟩;refine sH ?_
      exact di.Pp [2,1] rfl rfl rfl ⟨hL,rfl,rfl⟩
     ·rintro r H' ⟨u,k,ej,rfl,rfl⟩
      rw[ej]at hL
      refine⟨rfl,?_⟩;refine sH ?_
      refine AQ.nx rfl ?_
      refine sI ?_
      refine AQ.go (by kernel_rfl) ?_
      refine sI ?_
      refine AQ.nx rfl ?_
      refine sI ?_
      refine AQ.go (by kernel_rfl) ?_
      refine sI ?_
      refine AQ.nx rfl ?_
      refine sI ?_
      refine AQ.done ?_
      refine gO ?_
      exact AE.bm [2,1] rfl ⟨⟨rfl,Nat.le_of_ble_eq_true (by kernel_rfl)⟩,trivial⟩ rfl ⟨_,k,hL,by simp only[nB,az,jJ];rfl,rfl⟩
    ·have U:cX s j [32,33,61,32]=false:=by simpa using U
     rw[U,if_neg (by decide)]
     refine gO ?_
     exact AE.round 2 ⟨by omega,fun _=>k1 (by omega)⟩ (by omega) (sU) rfl
   ·rw[if_neg (by rw[k1 (by omega)];decide),if_neg (by rw[k2 (by omega)];decide)]at hL
    refine gO ?_
    refine AP.cond rfl rfl (fun h3=>?_) (fun h3=>?_)
    ·rw[if_pos (by simpa using h3)]at hL
     refine gO ?_;refine xI ?_;refine sI ?_;refine gO ?_;refine AQ.fJ 0 _ rfl (sA _ _) ?_;refine sI ?_;refine AQ.panic rfl ?_
     exact di.out [2,1] rfl rfl ⟨hL,rfl,rfl⟩
    ·rw[if_neg (by simpa using h3)]at hL
     refine gO ?_
     exact AE.bm [2,1] rfl ⟨⟨rfl,Nat.le_of_ble_eq_true (by kernel_rfl)⟩,trivial⟩ rfl ⟨_,j,hL,rfl,rfl⟩
abbrev q4 (a:AV) (e:Int):aa:=[(1,.var 30 [Iv e]),(0,.var 27 [a])]
theorem Iq (x:IV) (e:Int):nL Tryz.prog 81 [.ob 0 0,.ob 1 0] (q4 (.im x) e) none (fun H'=>H'=q4 (.im x) e):=by
 refine nL.walk [0,1,2,3,4,7,14] [3] Tryz.func81 rfl Tryz.ntmps81 ⟨rfl,rfl,rfl⟩ ⟨rfl,rfl,rfl⟩ rfl (by kernel_rfl) (by rfl) rfl fun W own I0 aq lay=>?_
 simp only[go_sem,Nat.reduceAdd,Nat.reduceLeDiff,Nat.reduceSub,Int.reduceToNat,reduceCtorEq,sW]
 refine gO ?_
 exact AE.PQ [] (.inr rfl) rfl rfl trivial rfl rfl
theorem Px (e:Int):nL Tryz.prog 81 [.ob 0 0,.ob 1 0] (q4 .top e) (some Aa) (fun H'=>H'=q4 (.im (.sl 3 [])) 2):=by
 refine nL.walk [0,1,2,3,4,7,14] [3] Tryz.func81 rfl Tryz.ntmps81 ⟨rfl,rfl,rfl⟩ ⟨rfl,rfl,rfl⟩ rfl (by kernel_rfl) (by rfl) rfl fun W own I0 aq lay=>?_
 simp only[go_sem,Nat.reduceAdd,Nat.reduceLeDiff,Nat.reduceSub,Int.reduceToNat,reduceCtorEq,sW]
 refine gO ?_
 refine AQ.SH (by kernel_rfl) rfl rfl ?_;refine sI ?_
 refine gO ?_
 refine AE.fJ 0 [.im (.sl 3 [])] rfl (bY.nil (bY.refl _)) ?_
 refine sI ?_
 exact AE.PQ [2] (.inr rfl) rfl rfl trivial rfl rfl
def vn (s:List UInt8) (g j:Nat):Option (List Lt):=if cX s j [32,124,32]then pS s g (j+3)else if j<s.length then none else some []
def uR (a:List Lt):Option (List Lt)->Option (List Lt)
 |none=>none
 |some l=>some (a++l)
theorem Pt (s:List UInt8) (f i:Nat):pS s (f+1) i=match pL s i with
  |none=>none
  |some (l,j)=>uR [l] (vn s f j):=by
 rw[pS]
 cases pL s i with
 |none=>rfl
 |some x=>
  obtain⟨l,j⟩:=x
  simp only[vn]
  split
  ·cases pS s f (j+3)<;>rfl
  ·split<;>rfl
def w_ (s:List UInt8):Int:=if 40000<s.length then 15 else match pC s with
 |none=>2
 |some c=>bp 4 9 2 3 c
def sS (s:List UInt8):List Lt:=if 40000<s.length then[]else match pC s with
 |none=>[]
 |some c=>if bp 4 9 2 3 c≠0 then[]else c
theorem di.fJ {C:Cx} {r:AV} {K:List PK} {E:Env} {H:aa} (b:Nat) (cs':List AV) {s:Sh} {cs:List AV} (hl:lk H b=some (.var s cs)) (hc:bY cs cs') (h:di C r K E (aN H b (.var s cs'))):di C r K E H:=by
 unfold di at h⊢
 exact fun φ I a w v hs hd=>h _ _ _ _ _ ⟨hs.bD,hs.bA,hs.env,hs.st.fJ hl hc⟩ hd
theorem N9 (a:AV):bY [a] [.top]:=fun w φ I us h=>by
 simp only[AV.ab,AV.den]at h⊢
 obtain⟨u1,rp,rfl,_,rfl⟩:=h
 exact⟨_,_,rfl,trivial,rfl⟩
theorem Zj (s:List UInt8) (hs:s.length<=1000000) (cz:∀c,pC s=some c->ft c):dw Tryz.prog 19 [Sv s] [] (fun r H'=>H'=[]/\r= .aG [b6 (sS s),Iv (w_ s)]) (fun _ _=>False):=by
 have hE:w_ s=_:=w_.eq_def s
 have hR:sS s=_:=sS.eq_def s
 refine dw.abg [0,2,3,4,5,8,10,11,19,31,35] [2,3,4,14,17] Tryz.func19 rfl Tryz.ntmps19 (by kernel_rfl) (by rfl) rfl fun W own I0 aq lay=>?_
 refine gO ?_
 refine AP.cond rfl rfl (fun h=>?_) (fun h=>?_)
 ·rw[if_pos (by simp at h;omega)]at hE hR
  refine gO ?_
  refine AE.fJ 0 [.im (.sl 3 [])] rfl (bY.nil (bY.refl _)) ?_
  refine sI ?_
  exact AE.N_ (.inl rfl) rfl<|LV.bm [1,0] rfl ⟨⟨rfl,Nat.le_of_ble_eq_true (by kernel_rfl)⟩,⟨rfl,Nat.le_of_ble_eq_true (by kernel_rfl)⟩,trivial⟩ rfl ⟨rfl,by rw[hE,hR];rfl⟩
 rw[if_neg (by simp at h;omega)]at hE hR
 refine gO ?_
 refine AP.cond rfl rfl (fun U=>?_) (fun U=>?_)
 ·have U:s=[91,93]:=by simpa using U
  have hC:pC s=some []:=by rw[pC,if_pos U]
  rw[hC]at hE hR
  have e0:bp 4 9 2 3 []=0:=by decide
  simp only[e0]at hE hR
  refine gO ?_
  refine AE.fJ 0 [.im (.sl 3 [])] rfl (bY.nil (bY.refl _)) ?_
  refine sI ?_
  exact AE.N_ (.inl rfl) rfl<|LV.bm [1,0] rfl ⟨⟨rfl,Nat.le_of_ble_eq_true (by kernel_rfl)⟩,⟨rfl,Nat.le_of_ble_eq_true (by kernel_rfl)⟩,trivial⟩ rfl ⟨rfl,by rw[hE,hR];rfl⟩
 ·have U:¬s=[91,93]:=by simpa using U
  have hC:pC s=pS s (s.length+1) 0:=by rw[pC,if_neg U]
  rw[Pt]at hC
  refine sI ?_
  refine xA ?_
  refine AP.ZG rfl rfl ?_
  refine AQ.Uw (by kernel_rfl) rfl rfl ?_ ?_
  ·simp only[go_sem]
   done
  refine sI ?_
  refine AQ.defer rfl rfl rfl fun u=>?_
  refine sI ?_
  refine gO ?_
  refine AQ.nR [(0,2)] (by kernel_rfl) rfl rfl rfl rfl rfl rfl (by exact⟨rfl,trivial⟩) rfl (PV s hs 0 (by omega)) ?_ ?_
  ·rintro r H' ⟨hp,rfl,rfl⟩
   rw[hp]at hC
   rw[hC]at hE hR
   simp only at hE hR
   refine⟨rfl,?_⟩;refine sH ?_
   refine di.fJ 0 _ rfl (N9 _) ?_
   refine sI ?_
   refine di.wL [(1,1),(0,0)] (K':=[_]) (t:=11) (Hc:=q4 .top 0) rfl rfl rfl rfl rfl (by exact⟨rfl,rfl,trivial⟩) rfl (Px _) rfl ?_ rfl
   rintro H1 rfl
   refine⟨rfl,?_⟩
   refine sH ?_
   exact LV.bm [2,1,0] rfl ⟨⟨rfl,Nat.le_of_ble_eq_true (by kernel_rfl)⟩,⟨rfl,Nat.le_of_ble_eq_true (by kernel_rfl)⟩,trivial⟩ rfl ⟨rfl,by rw[hE,hR];rfl⟩
  ·rintro r H' ⟨x,j,hp,rfl,rfl⟩
   rw[hp]at hC
   simp only at hC
   refine⟨rfl,?_⟩;refine sH ?_
   refine AQ.go (by kernel_rfl) ?_
   refine sI ?_
   refine gO ?_
   have MI:=Pr hp
   have Ma:pC s=uR [x] (vn s s.length j):=hC
   refine AP.loop rfl (α:=List Lt×Nat×Nat) (fun z=>[(0,Sv s),(2,.ob 0 0),(3,.ob 1 0),(4,.ob 2 0),(11,.wr (.exact u) (.fn 81 [] [.ob 0 0,.ob 1 0]))]) (fun z=>[(3,.vec 119 3 (cD z.1)),(2,.var 135 [Sv s,Iv z.2.1]),(1,.var 30 [Iv 0]),(0,.var 27 [.os 3 3 0 z.1.length])]) (fun z=>z.1.length<=z.2.1/\z.2.1<=s.length/\s.length<z.2.2+z.2.1/\pC s=uR z.1 (vn s z.2.2 z.2.1)) (fun z=>s.length-z.2.1) ([x],j,s.length) ⟨by simp only[List.length_singleton];omega,by simp only;omega,by simp only;omega,Ma⟩ (sU) rfl fun⟨a,j,g⟩ ⟨z1,z2,z3,z4⟩=>?_
   simp only at z1 z2 z3 z4⊢
   clear hC Ma MI hp
   have he:=rI s [32,124,32] j z2 hs (by simp)
   rw[vn]at z4
   refine gO ?_
   refine AQ.bR [(0,2)] (by kernel_rfl) rfl rfl rfl rfl rfl rfl (by exact⟨rfl,trivial⟩) rfl he ?_
   rintro r H1 ⟨rfl,rfl⟩
   refine⟨rfl,?_⟩
   refine sH ?_
   refine gO ?_
   refine AP.cond rfl rfl (fun h2=>?_) (fun h2=>?_)
   ·have h2:cX s j [32,124,32]=true:=by simpa using h2
    have hle:=rz h2 z2
    simp only[List.length_cons,List.length_nil]at hle
    obtain⟨g,rfl⟩:∃q,g=q+1:=⟨g-1,by omega⟩
    rw[if_pos h2,Pt]at z4
    rw[if_pos h2]
    refine gO ?_
    refine AP.db 6 (Tree.node [] [0,1] [2] [Tree.node [0] [] [3] [Tree.node [0] [] [4] [Tree.node [] [] [5] [Tree.node [] [] [] []]]]]) (by kernel_rfl) rfl (by kernel_rfl) (by kernel_rfl) ?_
    refine c_ ?_
    refine sI ?_
    refine AQ.nR [(0,2)] (by kernel_rfl) rfl rfl rfl rfl rfl rfl (by exact⟨rfl,trivial⟩) rfl (PV s hs (j+3) (by omega)) ?_ ?_
    ·rintro r H' ⟨hp,rfl,rfl⟩
     rw[hp]at z4
     rw[z4]at hE hR
     simp only[uR]at hE hR
     refine⟨rfl,?_⟩;refine sH ?_
     refine di.draw [2,3,11] rfl (by kernel_rfl) ?_
     refine sI ?_
     refine di.fJ 0 _ rfl (N9 _) ?_
     refine sI ?_
     refine di.wL [(1,1),(0,0)] (K':=[_,_,_,_]) (t:=11) (Hc:=q4 .top 0) rfl rfl rfl rfl rfl (by exact⟨rfl,rfl,trivial⟩) rfl (Px _) rfl ?_ rfl
     rintro H1 rfl
     refine⟨rfl,?_⟩
     refine sH ?_
     exact LV.bm [3,2,1,0] rfl ⟨⟨rfl,Nat.le_of_ble_eq_true (by kernel_rfl)⟩,⟨rfl,Nat.le_of_ble_eq_true (by kernel_rfl)⟩,trivial⟩ rfl ⟨rfl,by rw[hE,hR];rfl⟩
    ·rintro r H' ⟨y,k,hp,rfl,rfl⟩
     rw[hp]at z4
     simp only at z4
     have MI:=Pr hp
     refine⟨rfl,?_⟩;refine sH ?_
     refine AQ.nx rfl ?_
     refine sI ?_
     refine AQ.go (by kernel_rfl) ?_
     refine sI ?_
     refine AQ.nx rfl ?_
     refine sI ?_
     refine AQ.kill 3 ?_
     refine sI ?_
     refine AQ.append (hnb:=rfl) (rows:=cD a) (es:=2) (by kernel_rfl) rfl rfl rfl (by rfl) Tryz.D1 Tryz.DY (by show Option.map _ (aA Tryz.prog 119)=_;rw[Tryz.Eh];rfl) Tryz.Bn (by first|rfl|(simp only[bn,List.length_cons,List.length_nil];done)|(simp only[bn,List.length_cons,List.length_nil];omega)) (by simp only[bn,List.length_cons,List.length_nil];omega) (by simp only[bn,List.length_cons,List.length_nil];omega) ?_
     refine sI ?_
     refine AQ.nx rfl ?_
     refine sI ?_
     refine AQ.go (by kernel_rfl) ?_
     refine sI ?_
     refine AQ.nx rfl ?_
     refine sI ?_
     refine AQ.done ?_
     refine gO ?_
     refine AE.round (a++[y],k,g) ⟨by simp only[List.length_append,List.length_singleton];omega,by simp only;omega,by simp only;omega,?_⟩ (by simp only;omega) (sU) ?_
     ·simp only
      rw[z4]
      cases vn s g k with
      |none=>rfl
      |some q=>simp[uR]
     ·simp only[Dh,List.length_append,List.length_singleton,bn]
   ·have h2:¬cX s j [32,124,32]=true:=by simpa using h2
    rw[if_neg h2]at z4
    rw[if_neg h2]
    refine gO ?_
    refine AP.cond rfl rfl (fun h3=>?_) (fun h3=>?_)
    ·rw[if_pos (by simp at h3;omega)]at z4
     rw[z4]at hE hR
     simp only[uR]at hE hR
     refine gO ?_
     refine AE.fJ 0 [.im (.sl 3 [])] rfl (bY.nil (bY.refl _)) ?_
     refine sI ?_
     refine AE.wL [(1,1),(0,0)] (t:=11) (Hc:=q4 (.im (.sl 3 [])) 2) (.inl rfl) rfl rfl rfl rfl rfl (by exact⟨rfl,rfl,trivial⟩) rfl (Iq _ _) ?_
     rintro H1 rfl
     refine⟨rfl,?_⟩
     refine sH ?_
     exact LV.bm [3,2,1,0] rfl ⟨⟨rfl,Nat.le_of_ble_eq_true (by kernel_rfl)⟩,⟨rfl,Nat.le_of_ble_eq_true (by kernel_rfl)⟩,trivial⟩ rfl ⟨rfl,by rw[hE,hR];rfl⟩
    ·rw[if_neg (by simp at h3;omega)]at z4
     rw[z4]at hE hR
     simp only[uR,List.append_nil]at hE hR z4
     have qv:=cz a z4
     refine gO ?_
     refine AQ.freeze 3 (el:=119) (es:=3) (rows:=cD a) rfl (by simp only[go_sem,Nat.reduceAdd,Nat.reduceLeDiff,Nat.reduceSub,Int.reduceToNat,reduceCtorEq,bn];first|done|trivial|omega|(simp;done)|(simp;omega)) (by simp only[go_sem,Nat.reduceAdd,Nat.reduceLeDiff,Nat.reduceSub,Int.reduceToNat,reduceCtorEq,bn];first|done|trivial|omega|(simp;done)|(simp;omega)) ?_;simp only[go_sem,Nat.reduceAdd,Nat.reduceLeDiff,Nat.reduceSub,Int.reduceToNat,reduceCtorEq,bn]
     rw[List.take_of_length_le (by rw[bn];exact Nat.le_refl _)]
     refine AQ.fn (by kernel_rfl) rfl rfl rfl (vt a qv) rfl ?_
     refine sI ?_
     refine gO ?_
     refine AP.cond rfl rfl (fun h4=>?_) (fun h4=>?_)
     ·have h4:bp 4 9 2 3 a≠0:=by simpa using h4
      rw[if_pos h4]at hR
      refine gO ?_
      refine AE.fJ 0 [.im (.sl 3 [])] rfl (bY.nil (bY.refl _)) ?_
      refine sI ?_
      refine AE.wL [(1,1),(0,0)] (t:=11) (Hc:=q4 (.im (.sl 3 [])) (bp 4 9 2 3 a)) (.inl rfl) rfl rfl rfl rfl rfl (by exact⟨rfl,rfl,trivial⟩) rfl (Iq _ _) ?_
      rintro H1 rfl
      refine⟨rfl,?_⟩
      refine sH ?_
      exact LV.bm [2,1,0] rfl ⟨⟨rfl,Nat.le_of_ble_eq_true (by kernel_rfl)⟩,⟨rfl,Nat.le_of_ble_eq_true (by kernel_rfl)⟩,trivial⟩ rfl ⟨rfl,by rw[hE,hR];rfl⟩
     ·have h4:¬bp 4 9 2 3 a≠0:=by simpa using h4
      have h5:bp 4 9 2 3 a=0:=by simpa using h4
      rw[if_neg h4]at hR
      refine gO ?_
      refine AE.wL [(1,1),(0,0)] (t:=11) (Hc:=q4 (.im (.sl 3 (cD a))) 0) (.inl rfl) rfl rfl rfl rfl rfl (by exact⟨rfl,rfl,trivial⟩) rfl (Iq _ _) ?_
      rintro H1 rfl
      refine⟨rfl,?_⟩
      refine sH ?_
      exact LV.bm [2,1,0] rfl ⟨⟨rfl,Nat.le_of_ble_eq_true (by kernel_rfl)⟩,⟨rfl,Nat.le_of_ble_eq_true (by kernel_rfl)⟩,trivial⟩ rfl ⟨rfl,by rw[hE,hR,h5];rfl⟩
theorem IW {l:List UInt8} {n i:Nat} {s:List UInt8} (h:l=s.drop i) (hs:s.length<=1000000):(l.take n).length<=1000000000:=by
 rw[List.length_take,h,List.length_drop];omega
theorem w9 (s:List UInt8) (hs:s.length<=1000000):∀f,(∀i t j,pT s f i=some (t,j)->aR t)/\(∀i l j,pR s f i=some (l,j)->bI l/\l.length+i<=j)
 |0=>⟨fun i t j h=>(by rw[pT]at h;cases h),fun i l j h=>(by rw[pR]at h;cases h)⟩
 |f+1=>by
  obtain⟨NP,NQ⟩:=w9 s hs f
  refine⟨fun i t j h=>?_,fun i l j h=>?_⟩
  ·rw[pT]at h
   split at h
   ·rw[pV]at h
    split at h
    ·cases h;rw[aR,bI];simp
    ·cases h
   ·split at h
    ·cases h
    ·split at h
     ·cases hq:pT s f (i+cM true (s.drop i)+1)with
      |none=>rw[hq]at h;cases h
      |some x=>
       obtain⟨t1,j1⟩:=x
       rw[hq]at h
       simp only at h
       cases hr:pR s f j1 with
       |none=>rw[hr]at h;cases h
       |some y=>
        obtain⟨l1,k1⟩:=y
        rw[hr]at h
        cases h
        have U:=NP _ _ _ hq
        have h2:=NQ _ _ _ hr
        have h3:=Io hr
        rw[aR,bI]
        exact⟨IW rfl hs,by simp only[List.length_cons];omega,U,h2.1⟩
     ·cases h
      rw[aR,bI]
      exact⟨IW rfl hs,by simp,trivial⟩
  ·rw[pR]at h
   split at h
   ·cases hq:pT s f (i+2)with
    |none=>rw[hq]at h;cases h
    |some x=>
     obtain⟨t1,j1⟩:=x
     rw[hq]at h
     simp only at h
     cases hr:pR s f j1 with
     |none=>rw[hr]at h;cases h
     |some y=>
      obtain⟨l1,k1⟩:=y
      rw[hr]at h
      cases h
      have U:=NP _ _ _ hq
      have h2:=NQ _ _ _ hr
      have h3:=sR hq
      rw[bI]
      exact⟨⟨U,h2.1⟩,by simp only[List.length_cons];omega⟩
   ·split at h
    ·cases h;rw[bI];simp
    ·cases h
theorem Zb {s:List UInt8} (hs:s.length<=1000000) {f i j:Nat} {l:List Tm} (h:pA s f i=some (l,j)):bI l/\l.length<=1000000000:=by
 rw[pA]at h
 split at h
 ·cases hq:pT s f (i+1)with
  |none=>rw[hq]at h;cases h
  |some x=>
   obtain⟨t1,j1⟩:=x
   rw[hq]at h
   simp only at h
   cases hr:pR s f j1 with
   |none=>rw[hr]at h;cases h
   |some y=>
    obtain⟨l1,k1⟩:=y
    rw[hr]at h
    cases h
    have U:=(w9 s hs f).1 _ _ _ hq
    have h2:=(w9 s hs f).2 _ _ _ hr
    have h3:=Io hr
    rw[bI]
    exact⟨⟨U,h2.1⟩,by simp only[List.length_cons];omega⟩
 ·cases h;rw[bI];simp
theorem Zd {s:List UInt8} (hs:s.length<=1000000) {i j:Nat} {x:Lt} (h:pL s i=some (x,j)):oB x:=by
 rw[pL]at h
 split at h
 ·split at h
  ·cases h
  ·cases hq:pA s (s.length+1) (i+1+cM true (s.drop (i+1)))with
   |none=>rw[hq]at h;cases h
   |some y=>
    obtain⟨l1,k1⟩:=y
    rw[hq]at h
    cases h
    have:=Zb hs hq
    exact⟨IW rfl hs,this.2,this.1⟩
 ·cases hq:pT s (s.length+1) i with
  |none=>rw[hq]at h;cases h
  |some y=>
   obtain⟨t1,k1⟩:=y
   rw[hq]at h
   simp only at h
   have U:=(w9 s hs _).1 _ _ _ hq
   split at h
   ·cases hr:pT s (s.length+1) (k1+3)with
    |none=>rw[hr]at h;cases h
    |some z=>
     obtain⟨t2,k2⟩:=z
     rw[hr]at h
     cases h
     have h2:=(w9 s hs _).1 _ _ _ hr
     exact⟨by simp,by simp,by rw[bI,bI,bI];exact⟨U,h2,trivial⟩⟩
   ·split at h
    ·cases hr:pT s (s.length+1) (k1+4)with
     |none=>rw[hr]at h;cases h
     |some z=>
      obtain⟨t2,k2⟩:=z
      rw[hr]at h
      cases h
      have h2:=(w9 s hs _).1 _ _ _ hr
      exact⟨by simp,by simp,by rw[bI,bI,bI];exact⟨U,h2,trivial⟩⟩
    ·split at h
     ·cases h
     ·cases h
      have:=ji.1 U
      exact⟨this.1,this.2.1,this.2.2⟩
theorem Ps {s:List UInt8} (hs:s.length<=1000000):∀(f i:Nat) (c:List Lt),pS s f i=some c->c.length<=f/\∀l∈c,oB l
 |0,i,c,h=>by rw[pS]at h;cases h
 |f+1,i,c,h=>by
  rw[pS]at h
  cases hq:pL s i with
  |none=>rw[hq]at h;cases h
  |some y=>
   obtain⟨x,j⟩:=y
   rw[hq]at h
   simp only at h
   have U:=Zd hs hq
   split at h
   ·cases hr:pS s f (j+3)with
    |none=>rw[hr]at h;cases h
    |some r=>
     rw[hr]at h
     cases h
     obtain⟨h2,h3⟩:=Ps hs f _ _ hr
     refine⟨by simp only[List.length_cons];omega,fun l hl=>?_⟩
     rcases List.mem_cons.1 hl with rfl|hl
     ·exact U
     ·exact h3 l hl
   ·split at h
    ·cases h
    ·cases h
     refine⟨by simp,fun l hl=>?_⟩
     rw[List.mem_singleton]at hl
     subst hl;exact U
theorem Pq {s:List UInt8} (hs:s.length<=1000000) {c:List Lt} (h:pC s=some c):ft c:=by
 rw[pC]at h
 split at h
 ·cases h;exact⟨by simp,fun l hl=>by cases hl⟩
 ·obtain⟨U,h2⟩:=Ps hs _ _ _ h
  exact⟨by omega,h2⟩
theorem Zg {s:List UInt8} (hs:s.length<=1000000):ft (sS s):=by
 have h0:ft ([]:List Lt):=⟨by simp,fun l hl=>by cases hl⟩
 rw[sS]
 split
 ·exact h0
 ·cases hq:pC s with
  |none=>exact h0
  |some c=>
   simp only
   split
   ·exact h0
   ·exact Pq hs hq
theorem Zi (s:List UInt8) (hs:s.length<=1000000):bh Tryz.prog 19 [Sv s] (.aG [b6 (sS s),Iv (w_ s)]):=
 (Zj s hs fun c h=>Pq hs h).toA fun _ _ h=>h
def wY (c:List Lt):List Lt:=if bp 4 9 2 3 c≠0 then[]else Dr c
theorem YP (N:Nat) (GQ:∀l:List Lt,l.length<=N->ao Tryz.prog 90 [.os 0 4 0 l.length,.fn 91 [] []] (gk l) (fun r H'=>r= .aG []/\H'=gk (du [] l))) (c:List Lt) (hN:c.length<=N) (hs:ft c):bh Tryz.prog 22 [b6 c] (.aG [b6 (wY c),Iv (bp 4 9 2 3 c)]):=by
 by_cases iZ:bp 4 9 2 3 c=0
 ·rw[wY,if_neg (by simpa using iZ),iZ]
  exact YQ N GQ c hN hs iZ
 ·have hR:wY c=[]:=by rw[wY,if_pos iZ]
  refine ao.Pn ?_
  refine ao.walk [0,2,3,4,5,6,7,8,10,11,15,17,18,19,20,29,44,45,46,47] [7,10,11] Tryz.func22 rfl Tryz.ntmps22 (by kernel_rfl) (by rfl) rfl fun W own I0 aq lay=>?_
  refine gO ?_
  refine AQ.fn (by kernel_rfl) rfl rfl rfl (vt c hs) rfl ?_
  refine sI ?_
  refine gO ?_
  refine AP.cond rfl rfl (fun h=>?_) (fun h=>?_)
  ·refine gO ?_
   exact AE.bz rfl ⟨rfl,rfl,trivial⟩ rfl ⟨rfl,.inr ⟨hR,rfl⟩⟩
  ·exact absurd (by simpa using h) iZ
def vF:List UInt8:=[80,40,63,53,41,32,124,32,126,81,40,63,51,41,32,124,32,80,40,63,53,41]
def rJ:List Lt:=[⟨false,[80],[.mk [] 5 []]⟩,⟨true,[81],[.mk [] 3 []]⟩,⟨false,[80],[.mk [] 5 []]⟩]
def nV:List Lt:=[⟨false,[80],[.mk [] 0 []]⟩,⟨true,[81],[.mk [] 1 []]⟩]
def La:List UInt8:=[80,40,63,48,41,32,124,32,126,81,40,63,49,41]
theorem Ld:pC vF=some rJ:=by kernel_rfl
theorem BK:bp 4 9 2 3 rJ=0:=by kernel_rfl
theorem TX:Dr rJ=nV:=by kernel_rfl
theorem Lc:bp 4 9 2 3 nV=0:=by kernel_rfl
theorem KC {n:Nat} (h:n<10):Lib.itoa n=[UInt8.ofNat (48+n)]:=by
 rw[Lib.itoa,if_neg (by omega),Int.toNat_natCast,Lib.decDigits,dif_pos h]
theorem Le:pW false nV=La:=by
 have h0:Lib.itoa 0=[48]:=KC (n:=0) (by decide)
 have U:Lib.itoa 1=[49]:=KC (n:=1) (by decide)
 simp only[nV,pW,jK,kq,fQ,eT,mI,h0,U]
 rfl
theorem TY:yl (.mk [102] 0 [.mk [] 0 []]) (.mk [] 0 [])=(1,0):=by kernel_rfl
theorem Bk:bh Tryz.prog 12 [] (Bv true):=by
 have hS:vF.length<=40000:=by decide
 have hp:=Zi vF (by decide)
 have M8:sS vF=rJ:=by rw[sS,if_neg (by omega),Ld];simp only[BK];rfl
 have WC:w_ vF=0:=by rw[w_,if_neg (by omega),Ld];exact BK
 rw[M8,WC]at hp
 have cz:ft rJ:=by have:=Zg (s:=vF) (by decide);rw[M8]at this;exact this
 have hn:=YP 20 aal rJ (by decide) cz
 have Wn:wY rJ=nV:=by rw[wY,BK,if_neg (by decide),TX]
 rw[Wn,BK]at hn
 have B8:ft nV:=⟨by decide,fun l hl=>by
  simp only[nV,List.mem_cons,List.not_mem_nil,or_false]at hl
  rcases hl with rfl|rfl<;>exact⟨by decide,by decide,by simp[bI,aR]⟩⟩
 have ht:=aaD nV B8
 have W5:Ax nV=La:=by rw[Ax,Lc,if_neg (by decide),Le,if_neg (by decide)]
 have W4:Aw nV=0:=by rw[Aw,Lc,if_neg (by decide),Le,if_neg (by decide)]
 rw[W5,W4]at ht
 have pv:=RX (.mk [102] 0 [.mk [] 0 []]) (.mk [] 0 []) (by simp[aR,bI]) (by simp[aR,bI])
 rw[TY]at pv
 have mj:bh Tryz.prog 37 [.agg [Sv [102],Iv 0,.im (.sl 3 [[Si [],Ii 0,.sl 3 []]])],.agg [Sv [],Iv 0,.im (.sl 3 [])]] (.aG [Iv 1,Iv 0]):=pv
 have ho:=mj.vp (xs:=[.agg [Sv [102],Iv 0,.im (.sl 3 [[Si [],Ii 0,.v (.slice none 0 0)]])],.agg [Sv [],Iv 0,eO]]) (by repeat' (first|with_reducible exact da.refl _|with_reducible exact fp.refl _|exact fp.nil _|with_reducible exact bY.refl _|with_reducible exact kg.refl _|with_reducible exact kj.refl _|refine bY.nT ?_ ?_|refine da.agg ?_|refine da.im ?_|refine fp.sl ?_|refine kj.cons ?_ ?_|refine kg.cons ?_ ?_))
 have bH:bh Tryz.prog 19 [Sv [80,40,63,53,41,32,124,32,126,81,40,63,51,41,32,124,32,80,40,63,53,41]] (.aG [b6 rJ,Iv 0]):=hp
 have sd:bh Tryz.prog 17 [b6 nV] (.aG [Sv [80,40,63,48,41,32,124,32,126,81,40,63,49,41],Iv 0]):=ht
 refine ao.walk [0,1,2,3,4,5,6,7,8] [] Tryz.func12 rfl Tryz.ntmps12 (by kernel_rfl) (by rfl) rfl fun W own I0 aq lay=>?_
 refine gO ?_
 refine AQ.fn (by kernel_rfl) rfl rfl rfl (bH) rfl ?_
 refine sI ?_
 refine gO ?_
 refine AQ.fn (by kernel_rfl) rfl rfl rfl (hn) rfl ?_
 refine sI ?_
 refine gO ?_
 refine AQ.fn (by kernel_rfl) rfl rfl rfl (sd) rfl ?_
 refine sI ?_
 refine gO ?_
 refine AQ.fn (by kernel_rfl) rfl rfl rfl (ho) rfl ?_
 refine sI ?_
 refine gO ?_
 exact AE.bz rfl ⟨rfl,trivial⟩ rfl ⟨rfl,rfl⟩
def HN (l:Lt):Prop:=l.pd.length<=9223372036854775807/\l.xs.length<=9223372036854775807/\nI l.xs
def yj (c:List Lt):Prop:=c.length<=9223372036854775807/\∀l∈c,HN l
theorem Kt {c:List Lt} {k:Nat} {l:Lt} (h:yj c) (hk:c[k]?=some l):HN l:=h.2 l (List.mem_of_getElem? hk)
theorem Qv (t:Tm) (m:Int) (hs:jj t) (hm:0<=m/\m<=1000000000):bh Tryz.prog 70 [bf t,Iv m] (Iv (lq t m)):=by
 have eW:=QV.1 hs
 refine ao.walk [0,1,2,4,5,7,9,10,11,12,17] [7] Tryz.func70 rfl Tryz.ntmps70 (by kernel_rfl) (by rfl) rfl fun W own I0 aq lay=>?_
 refine gE @aw ?_
 refine AP.loop rfl (α:=Nat) (fun k=>[(1,Iv m),(5,Iv (b5 (t.xs.take k) m 1)),(9,.im (.sl 3 (az t.xs))),(10,Iv t.xs.length),(11,Iv k)]) (fun _=>[]) (fun k=>k<=t.xs.length) (fun k=>t.xs.length-k) 0 (by omega) (by rw[List.take_zero,b5];exact(sU)) rfl fun k hk=>?_
 have hx:=eW.2.1
 have hb:=DZ (t.xs.take k) m 1 hm.1 (by omega) (by omega)
 rcases Nat.eq_or_lt_of_le hk with aM|ag
 ·subst aM
  rw[List.take_length]at hb⊢
  refine gO ?_
  refine cF ?_
  refine gO ?_
  exact AE.bz rfl ⟨rfl,trivial⟩ rfl ⟨rfl,by rw[QP];rfl⟩
 ·obtain⟨u,hu,aX⟩:=fo t.xs k ag
  have hw:=wr (x:=(k:Int)+1) (by omega)
  have bP:=QQ hu m 1
  refine gO ?_
  refine cT ?_
  refine gE @aX ?_
  refine⟨by rw[aw];omega,?_⟩
  refine gO ?_
  refine AP.cond rfl rfl (fun U=>?_) (fun U=>?_)
  ·have U:m<b5 (t.xs.take k) m 1:=by simpa using U
   refine gO ?_
   refine AE.bm [0] rfl ⟨rfl,trivial⟩ rfl ⟨rfl,by rw[QP,aaA k m 1 U];rfl⟩
  ·have U:¬m<b5 (t.xs.take k) m 1:=by simpa using U
   rw[if_neg U]at bP
   generalize hn:b5 (t.xs.take k) m 1=n at*
   have ha:=Au u (m-n) (by omega)
   have cL:=wr (x:=m-n) (by omega)
   have iJ:=wr (x:=n+lq u (m-n)) (by omega)
   refine gE @cL ?_
   refine AQ.fn (by kernel_rfl) rfl rfl rfl (Qv u (m-n) (Az eW.2.2 hu) (by omega)) rfl ?_
   refine sI ?_
   refine gE (an @hw @iJ) ?_
   refine AE.eJ [0] rfl ?_
   refine sI ?_
   exact AE.round (k+1) (by omega) (by omega) (by rw[bP];exact(sU)) rfl
termination_by SizeOf.sizeOf t
decreasing_by exact lX hu
theorem YN (c:List Lt) (m:Int) (hs:yj c) (hm:0<=m/\m<=1000000000):bh Tryz.prog 14 [b6 c,Iv m] (Iv (sL c m)):=by
 have cz:=hs.1
 refine ao.walk [0,1,4,5,7,9,12,13,14,15,19,20,21,22,27] [7,9] Tryz.func14 rfl Tryz.ntmps14 (by kernel_rfl) (by rfl) rfl fun W own I0 aq lay=>?_
 refine gE @bn ?_
 refine AP.loop rfl (α:=Nat) (fun k=>[(1,Iv m),(5,Iv (b5 ((c.take k).flatMap (·.xs)) m c.length)),(12,b6 c),(13,Iv c.length),(14,Iv k)]) (fun _=>[]) (fun k=>k<=c.length) (fun k=>c.length-k) 0 (by omega) (by rw[List.take_zero,List.flatMap_nil,b5];exact(sU)) rfl fun k hk=>?_
 rcases Nat.eq_or_lt_of_le hk with aM|ag
 ·subst aM
  rw[List.take_length]
  refine gO ?_
  refine cF ?_
  refine gO ?_
  exact AE.bz rfl ⟨rfl,trivial⟩ rfl ⟨rfl,rfl⟩
 ·obtain⟨u,hu,aX⟩:=oC c k ag
  have hw:=wr (x:=(k:Int)+1) (by omega)
  have cY:=Kt hs hu
  have zD:=cY.2.1
  have fX:=IU ((c.take k).flatMap (·.xs)) m c.length hm.1 (by omega)
  have t_:=T4 hu
  have fg:=fun j=>T3 (j:=j) hu m c.length
  obtain⟨n0,jb⟩:∃n0,b5 ((c.take k).flatMap (·.xs)) m c.length=n0:=⟨_,rfl⟩
  rw[jb]at fX fg⊢
  refine gO ?_
  refine cT ?_
  refine gE @aX ?_
  refine⟨by rw[bn];omega,?_⟩
  refine gE @aw ?_
  refine AP.loop rfl (α:=Nat) (fun j=>[(1,Iv m),(5,Iv (b5 (u.xs.take j) m n0)),(12,b6 c),(13,Iv c.length),(14,Iv k),(19,.im (.sl 3 (az u.xs))),(20,Iv u.xs.length),(21,Iv j)]) (fun _=>[(0,.var 61 [Bv u.ng,Sv u.pd,.im (.sl 3 (az u.xs))])]) (fun j=>j<=u.xs.length) (fun j=>u.xs.length-j) 0 (by omega) (by rw[List.take_zero,b5];exact(sU)) rfl fun j hj=>?_
  have hb:=IU (u.xs.take j) m n0 hm.1 (by omega)
  rcases Nat.eq_or_lt_of_le hj with iG|od
  ·subst iG
   rw[List.take_length]at hb⊢
   refine gO ?_
   refine cF ?_
   refine gE @hw ?_
   refine AE.eJ [0] rfl ?_
   refine sI ?_
   refine AE.round (k+1) (by omega) (by omega) (by rw[t_,xp,jb];exact(sU)) rfl
  ·obtain⟨v,hv,jd⟩:=fo u.xs j od
   have iJ:=wr (x:=(j:Int)+1) (by omega)
   have bP:=QQ hv m n0
   refine gO ?_
   refine cT ?_
   refine gE @jd ?_
   refine⟨by rw[aw];omega,?_⟩
   refine gO ?_
   refine AP.cond rfl rfl (fun U=>?_) (fun U=>?_)
   ·have U:m<b5 (u.xs.take j) m n0:=by simpa using U
    refine gO ?_
    refine AE.bm [1,0] rfl ⟨rfl,trivial⟩ rfl ⟨rfl,by rw[sL,fg j U];rfl⟩
   ·have U:¬m<b5 (u.xs.take j) m n0:=by simpa using U
    rw[if_neg U]at bP
    clear fg
    generalize hn:b5 (u.xs.take j) m n0=n at*
    have ha:=Au v (m-n) (by omega)
    have G2:=wr (x:=m-n) (by omega)
    have CP:=wr (x:=n+lq v (m-n)) (by omega)
    refine gE @G2 ?_
    refine AQ.fn (by kernel_rfl) rfl rfl rfl (Qv v (m-n) (Az cY.2.2 hv) (by omega)) rfl ?_
    refine sI ?_
    refine gE (an @iJ @CP) ?_
    refine AE.eJ [1] rfl ?_
    refine sI ?_
    exact AE.round (j+1) (by omega) (by omega) (by rw[bP];exact(sU)) rfl
theorem XI (l:List Tm) (hl:l.length<=9223372036854775807) (h:∀(k:Nat) (t:Tm),l[k]?=some t->ao Tryz.prog 67 [bf t,.ob 0 0] gg (fun r H'=>H'=gg/\r=Bv (jE t))):
  ao Tryz.prog 146 [.im (.sl 3 (az l)),.fn 67 [] [.ob 0 0]] gg (fun r H'=>H'=gg/\r=Iv (iN jE l 0)):=by
 refine ao.walk [0,1,4,5,7,8,9,16] [] Tryz.func146 rfl Tryz.ntmps146 (by kernel_rfl) (by rfl) rfl fun W own I0 aq lay=>?_
 refine gE @aw ?_
 refine AP.loop rfl (α:=Nat) (fun k=>[(0,.im (.sl 3 (az l))),(1,.fn 67 [] [.ob 0 0]),(7,Iv l.length),(8,Iv k)]) (fun _=>gg) (fun k=>k<=l.length/\iN jE l 0=iN jE (l.drop k) k) (fun k=>l.length-k) 0 ⟨by omega,rfl⟩ (sU) rfl fun k ⟨hk,hm⟩=>?_
 rcases Nat.eq_or_lt_of_le hk with aM|ag
 ·refine gO ?_
  refine cF ?_
  refine gO ?_
  exact AE.ret rfl ⟨rfl,trivial⟩ ⟨rfl,by rw[hm,aM,List.drop_length,iN];rfl⟩
 ·obtain⟨u,hu,aX⟩:=fo l k ag
  have hw:=wr (x:=(k:Int)+1) (by omega)
  have fZ:=Hi jE hu
  refine gO ?_
  refine cT ?_
  refine gE @aX ?_
  refine⟨by rw[aw];omega,?_⟩
  refine gO ?_
  refine AQ.yg (by kernel_rfl) rfl rfl rfl (h k u hu) ?_
  refine sI ?_
  refine gO ?_
  refine AP.cond rfl rfl (fun U=>?_) (fun U=>?_)
  ·refine gO ?_
   exact AE.ret rfl ⟨rfl,trivial⟩ ⟨rfl,by rw[hm,fZ,if_pos (by simpa using U)];rfl⟩
  ·refine gE @hw ?_
   exact AE.round (k+1) ⟨by omega,by rw[hm,fZ,if_neg (by simpa using U)]⟩ (by omega) (sU) rfl
theorem JP (l:List Tm) (hl:l.length<=9223372036854775807) (h:∀(k:Nat) (t:Tm),l[k]?=some t->ao Tryz.prog 67 [bf t,.ob 0 0] gg (fun r H'=>H'=gg/\r=Bv (jE t))):
  ao Tryz.prog 68 [.im (.sl 3 (az l)),.fn 67 [] [.ob 0 0]] gg (fun r H'=>H'=gg/\r=Bv (l.any jE)):=by
 refine ao.walk [0,1,4] [] Tryz.func68 rfl Tryz.ntmps68 (by kernel_rfl) (by rfl) rfl fun W own I0 aq lay=>?_
 refine gO ?_
 refine AQ.yg (by kernel_rfl) rfl rfl rfl (XI l hl h) ?_
 refine sI ?_
 refine gO ?_
 exact AE.ret rfl ⟨rfl,trivial⟩ ⟨rfl,by rw[<-C1 jE l 0];rfl⟩
theorem Ox (t:Tm) (hs:jj t):ao Tryz.prog 67 [bf t,.ob 0 0] gg (fun r H'=>H'=gg/\r=Bv (jE t)):=by
 have eW:=QV.1 hs
 have ha:=JP t.xs eW.2.1 fun k u hu=>Ox u (Az eW.2.2 hu)
 refine ao.walk [0,1,2,3] [] Tryz.func67 rfl Tryz.ntmps67 (by kernel_rfl) (by rfl) rfl fun W own I0 aq lay=>?_
 refine gO ?_
 refine AQ.Kg (by kernel_rfl) rfl rfl rfl (fun h=>by first|(simp[gs,AV.g];done)|(simp[gs,AV.g,cn];done)|(simp[gs,AV.g,cn,bw]at h⊢;done)|(simp[gs,AV.g,cn,bw]at h⊢;exact h)|(simp[gs,AV.g,cn,bw]at h⊢;simp[h];done)|(simp[bw]at h;done)|(simp[gs,AV.g,bw]at h⊢;simp[h];done)|(simp[gs,AV.g,bw]at h⊢;exact h.1)|(simp[gs,AV.g];rfl)|(simp[gs,AV.g,bw]at h⊢;rfl)|(simp[gs,AV.g,bw]at h⊢;simp[h];rfl)|(simp[gs,AV.g,bw]at h⊢;simp_all)) (fun _=>ha) ?_
 refine sI ?_
 refine gO ?_
 exact AE.ret rfl ⟨rfl,trivial⟩ ⟨rfl,by rw[Yd,show decide (100<t.nm.length)=decide ((100:Int)<t.nm.length) from by rw[decide_eq_decide];omega];rfl⟩
termination_by SizeOf.sizeOf t
decreasing_by exact lX hu
theorem Yn (l:Lt) (hs:HN l):ao Tryz.prog 69 [nB l,.ob 0 0] gg (fun r H'=>H'=gg/\r=Bv (ke l)):=by
 have ha:=JP l.xs hs.2.1 fun k u hu=>Ox u (Az hs.2.2 hu)
 refine ao.walk [0,1,2,3] [] Tryz.func69 rfl Tryz.ntmps69 (by kernel_rfl) (by rfl) rfl fun W own I0 aq lay=>?_
 refine gO ?_
 refine AQ.Kg (by kernel_rfl) rfl rfl rfl (fun h=>by first|(simp[gs,AV.g];done)|(simp[gs,AV.g,cn];done)|(simp[gs,AV.g,cn,bw]at h⊢;done)|(simp[gs,AV.g,cn,bw]at h⊢;exact h)|(simp[gs,AV.g,cn,bw]at h⊢;simp[h];done)|(simp[bw]at h;done)|(simp[gs,AV.g,bw]at h⊢;simp[h];done)|(simp[gs,AV.g,bw]at h⊢;exact h.1)|(simp[gs,AV.g];rfl)|(simp[gs,AV.g,bw]at h⊢;rfl)|(simp[gs,AV.g,bw]at h⊢;simp[h];rfl)|(simp[gs,AV.g,bw]at h⊢;simp_all)) (fun _=>ha) ?_
 refine sI ?_
 refine gO ?_
 exact AE.ret rfl ⟨rfl,trivial⟩ ⟨rfl,by rw[ke,show decide (100<l.pd.length)=decide ((100:Int)<l.pd.length) from by rw[decide_eq_decide];omega];rfl⟩
theorem XG (l:List Lt) (hl:l.length<=9223372036854775807) (h:∀(k:Nat) (t:Lt),l[k]?=some t->ao Tryz.prog 69 [nB t,.ob 0 0] gg (fun r H'=>H'=gg/\r=Bv (ke t))):
  ao Tryz.prog 118 [.im (.sl 3 (cD l)),.fn 69 [] [.ob 0 0]] gg (fun r H'=>H'=gg/\r=Iv (iN ke l 0)):=by
 refine ao.walk [0,1,4,5,7,8,9,16] [] Tryz.func118 rfl Tryz.ntmps118 (by kernel_rfl) (by rfl) rfl fun W own I0 aq lay=>?_
 refine gE @bn ?_
 refine AP.loop rfl (α:=Nat) (fun k=>[(0,.im (.sl 3 (cD l))),(1,.fn 69 [] [.ob 0 0]),(7,Iv l.length),(8,Iv k)]) (fun _=>gg) (fun k=>k<=l.length/\iN ke l 0=iN ke (l.drop k) k) (fun k=>l.length-k) 0 ⟨by omega,rfl⟩ (sU) rfl fun k ⟨hk,hm⟩=>?_
 rcases Nat.eq_or_lt_of_le hk with aM|ag
 ·refine gO ?_
  refine cF ?_
  refine gO ?_
  exact AE.ret rfl ⟨rfl,trivial⟩ ⟨rfl,by rw[hm,aM,List.drop_length,iN];rfl⟩
 ·obtain⟨u,hu,aX⟩:=oC l k ag
  have hw:=wr (x:=(k:Int)+1) (by omega)
  have fZ:=Hi ke hu
  refine gO ?_
  refine cT ?_
  refine gE @aX ?_
  refine⟨by rw[bn];omega,?_⟩
  refine gO ?_
  refine AQ.yg (by kernel_rfl) rfl rfl rfl (h k u hu) ?_
  refine sI ?_
  refine gO ?_
  refine AP.cond rfl rfl (fun U=>?_) (fun U=>?_)
  ·refine gO ?_
   exact AE.ret rfl ⟨rfl,trivial⟩ ⟨rfl,by rw[hm,fZ,if_pos (by simpa using U)];rfl⟩
  ·refine gE @hw ?_
   exact AE.round (k+1) ⟨by omega,by rw[hm,fZ,if_neg (by simpa using U)]⟩ (by omega) (sU) rfl
theorem Sy (l:List Lt) (hl:l.length<=9223372036854775807) (h:∀(k:Nat) (t:Lt),l[k]?=some t->ao Tryz.prog 69 [nB t,.ob 0 0] gg (fun r H'=>H'=gg/\r=Bv (ke t))):
  ao Tryz.prog 46 [.im (.sl 3 (cD l)),.fn 69 [] [.ob 0 0]] gg (fun r H'=>H'=gg/\r=Bv (l.any ke)):=by
 refine ao.walk [0,1,4] [] Tryz.func46 rfl Tryz.ntmps46 (by kernel_rfl) (by rfl) rfl fun W own I0 aq lay=>?_
 refine gO ?_
 refine AQ.yg (by kernel_rfl) rfl rfl rfl (XG l hl h) ?_
 refine sI ?_
 refine gO ?_
 exact AE.ret rfl ⟨rfl,trivial⟩ ⟨rfl,by rw[<-C1 ke l 0];rfl⟩
theorem YE (c:List Lt) (hs:yj c):bh Tryz.prog 11 [b6 c] (Bv (!c.any ke)):=by
 have ha:=Sy c hs.1 fun k u hu=>Yn u (Kt hs hu)
 refine ao.walk [0,2,3] [3] Tryz.func11 rfl Tryz.ntmps11 (by kernel_rfl) (by rfl) rfl fun W own I0 aq lay=>?_
 refine gO ?_
 refine AQ.yg (by kernel_rfl) rfl rfl rfl (ha) ?_
 refine sI ?_
 refine gO ?_
 exact AE.bm [0] rfl ⟨rfl,trivial⟩ rfl ⟨rfl,rfl⟩
theorem Qx (c:List Lt) (m:Int) (hs:yj c) (hm:0<=m/\m<=1000000000):bh Tryz.prog 29 [b6 c,Iv m] (Bv (decide (sL c m<=m)&&!c.any ke)):=by
 refine ao.walk [0,1,4] [] Tryz.func29 rfl Tryz.ntmps29 (by kernel_rfl) (by rfl) rfl fun W own I0 aq lay=>?_
 refine gO ?_
 refine AQ.fn (by kernel_rfl) rfl rfl rfl (YN c m hs hm) rfl ?_
 refine sI ?_
 refine gO ?_
 refine AQ.rK (by kernel_rfl) rfl rfl (fun h=>by first|(simp[gs,AV.g];done)|(simp[gs,AV.g,cn];done)|(simp[gs,AV.g,cn,bw]at h⊢;done)|(simp[gs,AV.g,cn,bw]at h⊢;exact h)|(simp[gs,AV.g,cn,bw]at h⊢;simp[h];done)|(simp[bw]at h;done)|(simp[gs,AV.g,bw]at h⊢;simp[h];done)|(simp[gs,AV.g,bw]at h⊢;exact h.1)|(simp[gs,AV.g];rfl)|(simp[gs,AV.g,bw]at h⊢;rfl)|(simp[gs,AV.g,bw]at h⊢;simp[h];rfl)|(simp[gs,AV.g,bw]at h⊢;simp_all)) rfl (fun _=>YE c hs) rfl ?_
 refine sI ?_
 refine gO ?_
 exact AE.bz rfl ⟨rfl,trivial⟩ rfl ⟨rfl,rfl⟩
def oM (c:List Lt) (m:Int):Bool:=decide (sL c m<=m)&&!c.any ke
mutual
theorem Yc:∀t:Tm,jE t=false->wT t<=1000000->aR t
 | .mk n i xs,h,hw=>by
  rw[jE,Bool.or_eq_false_iff,decide_eq_false_iff_not]at h
  rw[wT]at hw
  have:=Jh xs
  rw[aR]
  exact⟨by omega,by omega,Hw xs h.2 (by omega)⟩
theorem Hw:∀l:List Tm,wN l=false->aK l<=1000000->bI l
 |[],_,_=>by rw[bI];trivial
 |t::l,h,hw=>by
  rw[wN,Bool.or_eq_false_iff]at h
  rw[aK]at hw
  rw[bI]
  exact⟨Yc t h.1 (by omega),Hw l h.2 (by omega)⟩
end
theorem aah {c:List Lt} {m:Int} (hm:0<=m/\m<=1000000) (h:oM c m=true):ft c/\(b8 c:Int)<=m:=by
 rw[oM,Bool.and_eq_true,decide_eq_true_iff,Bool.not_eq_true']at h
 obtain⟨_,h2⟩:=YH c m hm.1
 have hn:(b8 c:Int)<=m:=Int.not_lt.1 fun hc=>by have:=h2 hc;omega
 have hf:=Dl c
 refine⟨⟨by omega,fun l hl=>?_⟩,hn⟩
 have h3:ke l=false:=by
  have:=h.2
  rw[List.any_eq_false]at this
  simpa using this l hl
 rw[ke,Bool.or_eq_false_iff,decide_eq_false_iff_not]at h3
 have h4:=Dm c l hl
 rw[jF]at h4
 have h5:=Jh l.xs
 exact⟨by omega,by omega,Hw l.xs (by rw[Hy];exact h3.2) (by omega)⟩
mutual
theorem aaX {l:Bd} (hl:∀b∈l,aR b.2):∀t:Tm,aR t->aR (uY l t)
 | .mk n i xs,h=>by
  rw[uY]
  split
  ·rw[sB]
   cases hq:aU l i with
   |none=>exact h
   |some x=>exact hl _ (nw hq)
  ·rw[aR]at h⊢
   exact⟨h.1,by rw[AB,List.length_map];exact h.2.1,I7 hl xs h.2.2⟩
theorem I7 {l:Bd} (hl:∀b∈l,aR b.2):∀k:List Tm,bI k->bI (pX l k)
 |[],_=>by rw[pX,bI];trivial
 |t::k,h=>by
  rw[bI]at h
  rw[pX,bI]
  exact⟨aaX hl t h.1,I7 hl k h.2⟩
end
theorem SA {c:List Lt} {l:Bd} (hc:ft c) (hl:iy l):ft (ry c l):=by
 refine⟨by rw[ry,List.length_map];exact hc.1,fun x hx=>?_⟩
 rw[ry]at hx
 obtain⟨y,hy,rfl⟩:=List.mem_map.1 hx
 have h:=hc.2 y hy
 exact⟨h.1,by rw[I6];simp only;rw[AB,List.length_map];exact h.2.1,I7 hl.2 _ h.2.2⟩
theorem EM:ft ([]:List Lt):=⟨by simp,fun l hl=>by cases hl⟩
theorem JX {c:List Lt} {l:Bd} (hc:ft c) (hl:iy l):ft (oU c l):=by
 rw[oU]
 split
 ·exact EM
 ·split
  ·exact EM
  ·rw[vo]
   split
   ·exact SA hc hl
   ·exact EM
def SW (l:Bd):Prop:=l.length<=9223372036854775807/\∀b∈l,jj b.2
theorem X1 (l:Bd) (hs:iy l):bh Tryz.prog 33 [gV l] (gV l):=by
 have hl:=hs.1
 refine ao.walk [0,2,3,5,6,7,8,9] [5] Tryz.func33 rfl Tryz.ntmps33 (by kernel_rfl) (by rfl) rfl fun W own I0 aq lay=>?_
 refine gE @gU ?_
 refine AP.own 3 98 4 rfl ?_
 refine sI ?_
 refine AP.loop rfl (α:=Nat) (fun k=>[(3,.os 0 4 0 k),(6,gV l),(7,Iv l.length),(8,Iv k)]) (fun k=>[(0,.vec 98 4 (fq (l.take k)))]) (fun k=>k<=l.length) (fun k=>l.length-k) 0 (by omega) (sU) rfl fun k hk=>?_
 rcases Nat.eq_or_lt_of_le hk with aM|ag
 ·subst aM
  rw[List.take_length]
  refine gO ?_
  refine cF ?_
  refine gO ?_
  refine AE.freeze 0 (el:=98) (es:=4) (rows:=fq l) rfl (by simp only[go_sem,Nat.reduceAdd,Nat.reduceLeDiff,Nat.reduceSub,Int.reduceToNat,reduceCtorEq,gU];first|done|trivial|omega|(simp;done)|(simp;omega)) (by simp only[go_sem,Nat.reduceAdd,Nat.reduceLeDiff,Nat.reduceSub,Int.reduceToNat,reduceCtorEq,gU];first|done|trivial|omega|(simp;done)|(simp;omega)) ?_;simp only[go_sem,Nat.reduceAdd,Nat.reduceLeDiff,Nat.reduceSub,Int.reduceToNat,reduceCtorEq,gU]
  rw[List.take_of_length_le (by rw[gU];exact Nat.le_refl _)]
  exact AE.bz rfl ⟨rfl,trivial⟩ rfl ⟨rfl,rfl⟩
 ·obtain⟨u,hu,aX⟩:=Ev l k ag
  have hw:=wr (x:=(k:Int)+1) (by omega)
  have bc:=oO (l:=l) (k:=k) (by omega)
  have bP:fq (l.take (k+1))=fq (l.take k)++[x9 u]:=by rw[dX hu,fq,List.map_append];rfl
  have fe:=ym u.2 (hs.2 u (List.mem_of_getElem? hu))
  refine gO ?_
  refine cT ?_
  refine gE (an @aX @gU) ?_
  refine AP.fix 1 rfl rfl ?_
  refine sI ?_
  refine AP.db 9 (Tree.node [] [0,1,2,3,4] [5] [Tree.node [0,1,2] [6] [7] [Tree.node [0] [] [8] [Tree.node [] [] [] []]]]) (by kernel_rfl) rfl (by kernel_rfl) (by kernel_rfl) ?_
  refine c_ ?_
  refine sI ?_
  refine AQ.fn (by kernel_rfl) rfl rfl rfl (fe) rfl ?_
  refine sI ?_
  refine AQ.nx rfl ?_
  refine sI ?_
  refine AQ.go (by kernel_rfl) ?_
  refine sI ?_
  refine AQ.nx rfl ?_
  refine sI ?_
  refine AQ.append (hnb:=rfl) (rows:=fq (l.take k)) (es:=3) (by kernel_rfl) rfl rfl rfl (by rfl) Tryz.QS Tryz.QO (by show Option.map _ (aA Tryz.prog 98)=_;rw[Tryz.RO];rfl) Tryz.Ka (by first|rfl|(simp only[gU,bc,List.length_cons,List.length_nil];done)|(simp only[gU,bc,List.length_cons,List.length_nil];omega)) (by simp only[gU,bc,List.length_cons,List.length_nil];omega) (by simp only[gU,bc,List.length_cons,List.length_nil];omega) ?_
  refine sI ?_
  refine AQ.nx rfl ?_
  refine sI ?_
  refine AQ.done ?_
  refine gE @hw ?_
  refine AE.round (k+1) (by omega) (by omega) (by simp only[gU,bc];exact(sU)) ?_
  rw[bP]
end Go.Proofs.YtpfohmboflcneaaGreatDoor
end
section
namespace Go.Proofs.YtpfohmboflcneaaGreatDoor
open Go Go.AL Go.RowKit
set_option maxRecDepth 100000
theorem Q9 {P:Program} {n:Nat} {t e:TypeId} {xs:List IV} (ht:P.underlying t=some (.slice e)) (h:Typed P n t xs):∃rows m,n=m+1/\xs=[.sl (P.cellsOf e) rows]/\rows.length<=maxLen/\∀r∈rows,Typed P m e r:=by
 cases n with
 |zero=>exact h.elim
 |succ n=>
  simp only[Typed,ht]at h
  obtain⟨rows,U,h2,h3⟩:=h
  exact⟨rows,n,rfl,U,h2,h3⟩
theorem Q_ {P:Program} {n:Nat} {t:TypeId} {fs:Array Field} {xs:List IV} (ht:P.underlying t=some (.struct fs)) (h:Typed P n t xs):
  ∃m,n=m+1/\xs.length=P.cellsOf t/\∀(i:Nat) (f:Field),fs.toList[i]?=some f->Typed P m f.type ((xs.drop f.offset).take (P.cellsOf f.type)):=by
 cases n with
 |zero=>exact h.elim
 |succ n=>
  simp only[Typed,ht]at h
  exact⟨n,rfl,h⟩
theorem aaw {n:Nat} {xs:List IV} (h:Typed Tryz.prog n 9 xs):∃l:List UInt8,xs=[Si l]/\l.length<=9223372036854775807:=by
 obtain⟨s,rfl,hs⟩:=aaV Tryz.underlying9 h
 refine⟨s.data.toList,congrArg (fun x=>[IV.v (Value.string x)]) (RU s),?_⟩
 have e:s.size=s.data.size:=rfl
 have e2:s.data.toList.length=s.data.size:=Array.length_toList
 unfold maxLen at hs
 omega
theorem QZ:∀{l:List Tm},(∀t∈l,jj t)->nI l
 |[],_=>by rw[nI];trivial
 |t::l,h=>by rw[nI];exact⟨h t (List.mem_cons_self ..),QZ fun u hu=>h u (List.mem_cons_of_mem _ hu)⟩
theorem IZ:∀(n:Nat) {xs:List IV},Typed Tryz.prog n 57 xs->∃t:Tm,xs=re t/\jj t:=by
 intro n
 induction n using Nat.strongRecOn with
 |_ n ih=>
 intro xs h
 have hc:Tryz.prog.cellsOf 57=3:=by kernel_rfl
 have VD:Tryz.prog.cellsOf 9=1:=by kernel_rfl
 have FU:Tryz.prog.cellsOf 3=1:=by kernel_rfl
 have VB:Tryz.prog.cellsOf 55=1:=by kernel_rfl
 obtain⟨m,rfl,hlen,hf⟩:=Q_ Tryz.underlying57 h
 rw[hc]at hlen
 match xs,hlen with
 |[a,b,c],_=>
  have f0:=hf 0 _ rfl
  have f1:=hf 1 _ rfl
  have f2:=hf 2 _ rfl
  simp only[VD,FU,VB,List.drop_zero,List.take_succ_cons,List.take_zero,List.drop_succ_cons]at f0 f1 f2
  obtain⟨nm,e0,l0⟩:=aaw f0
  obtain⟨ix,e1,_⟩:=Q8 Tryz.underlying3 f1
  obtain⟨rows,m',rfl,e2,hl,aX⟩:=Q9 Tryz.underlying55 f2
  obtain⟨l,rfl,hp⟩:=IG (p:=jj) (f:=re) rows fun r hr=>ih m' (by omega) (aX r hr)
  cases e0;cases e1;cases e2
  rw[List.length_map]at hl
  unfold maxLen at hl
  exact⟨.mk nm ix l,by rw[re,xr,hc],by rw[jj];exact⟨l0,by omega,QZ hp⟩⟩
theorem SY (n:Nat) {xs:List IV} (h:Typed Tryz.prog n 59 xs):∃b:Int×Tm,xs=x9 b/\jj b.2:=by
 have hc:Tryz.prog.cellsOf 59=4:=by kernel_rfl
 have FU:Tryz.prog.cellsOf 3=1:=by kernel_rfl
 have VC:Tryz.prog.cellsOf 57=3:=by kernel_rfl
 obtain⟨m,rfl,hlen,hf⟩:=Q_ Tryz.underlying59 h
 rw[hc]at hlen
 match xs,hlen with
 |[a,b,c,d],_=>
  have f0:=hf 0 _ rfl
  have f1:=hf 1 _ rfl
  simp only[FU,VC,List.drop_zero,List.take_succ_cons,List.take_zero,List.drop_succ_cons]at f0 f1
  obtain⟨v,e0,_⟩:=Q8 Tryz.underlying3 f0
  obtain⟨t,e1,l1⟩:=IZ m f1
  rw[jJ]at e1
  cases e0;cases e1
  exact⟨(v,t),rfl,l1⟩
theorem SZ (n:Nat) {xs:List IV} (h:Typed Tryz.prog n 52 xs):∃l:Bd,xs=[.sl 4 (fq l)]/\SW l:=by
 have hc:Tryz.prog.cellsOf 59=4:=by kernel_rfl
 obtain⟨rows,m',rfl,rfl,hl,aX⟩:=Q9 Tryz.underlying52 h
 obtain⟨l,rfl,hp⟩:=IG (p:=fun b:Int×Tm=>jj b.2) (f:=x9) rows fun r hr=>SY m' (aX r hr)
 rw[List.length_map]at hl
 unfold maxLen at hl
 exact⟨l,by rw[fq,hc],by omega,hp⟩
theorem Uo:Tryz.prog.globalNamed "strconv.ErrSyntax" =some 1:=by kernel_rfl
theorem Um:Tryz.prog.globalNamed "strconv.ErrRange" =some 2:=by kernel_rfl
theorem Uk:Tryz.prog.globalNamed "internal/strconv.uint64pow10" =some 3:=by kernel_rfl
theorem Up:(Tryz.prog.globals[1]?).map (·.type)=some 236:=by kernel_rfl
theorem Un:(Tryz.prog.globals[2]?).map (·.type)=some 236:=by kernel_rfl
theorem Ul:(Tryz.prog.globals[3]?).map (·.type)=some 350:=by kernel_rfl
theorem P1 (u:TypeId) (h:Tryz.prog.typeName? 3 u=some "*errors.errorString"):u=346:=
 typeName_ptr_named (nm:= "errors.errorString") (by rw[show "*" ++ "errors.errorString" = "*errors.errorString" by decide];kernel_rfl) (by kernel_rfl) (by decide) u (by rw[show "*" ++ "errors.errorString" = "*errors.errorString" by decide];exact h)
theorem Jc {P:Program} {W:World} {n:String} {g:Nat} {cs:Array Value} (hg:P.globalNamed n=some g) (h:W.var? P n=some cs):g<W.heap.size/\∃T fz,W.heap[g]?=some (.cells cs T fz):=by
 unfold World.var? at h
 rw[hg,Option.bind_some]at h
 split at h
 ·rename_i cs' T fz hh
  cases h
  refine⟨?_,T,fz,hh⟩
  rcases Nat.lt_or_ge g W.heap.size with h'|h'
  ·exact h'
  ·rw[Array.getElem?_eq_none h']at hh;cases hh
 ·cases h
theorem abc {W:World} (cK:W.ShapedOpen Tryz.prog) (h:laidMet Tryz.prog [("math/bits.deBruijn32tab",Rows.laid_math_bits_deBruijn32tab),("math/bits.deBruijn64tab",Rows.laid_math_bits_deBruijn64tab),("internal/strconv.uint64pow10",Rows.laid_internal_strconv_uint64pow10),("strconv.ErrRange",Rows.laid_strconv_ErrRange),("strconv.ErrSyntax",Rows.laid_strconv_ErrSyntax)] W):
  VK Tryz.prog W (fun g=>g<W.heap.size):=by
 have h3:=h.tail.tail
 have h4:=h3.tail
 have h5:=h4.tail
 intro x hx g hg
 simp only[uE,List.mem_cons,List.not_mem_nil,or_false]at hx
 rcases hx with rfl|rfl|rfl|rfl
 ·obtain⟨a,s,hv,_⟩:=laid_sentinel h5 Uo Up Tryz.underlying236 P1 Tryz.underlying346 Tryz.underlying348 rfl rfl Tryz.underlying9 (by kernel_rfl) (by kernel_rfl)
  obtain⟨U,T,fz,h2⟩:=Jc hg hv
  exact⟨U,_,h2,_,_,T,fz,rfl⟩
 ·obtain⟨a,s,hv,_⟩:=laid_sentinel h4 Um Un Tryz.underlying236 P1 Tryz.underlying346 Tryz.underlying348 rfl rfl Tryz.underlying9 (by kernel_rfl) (by kernel_rfl)
  obtain⟨U,T,fz,h2⟩:=Jc hg hv
  exact⟨U,_,h2,_,_,T,fz,rfl⟩
 ·have ht:Lib.TabIs Tryz.prog W "internal/strconv.uint64pow10" .u64 Lib.pow10Tab:=Lib.tabIs_of_head (rest:=_) Uk Ul Tryz.underlying350 Tryz.underlying314 (by kernel_rfl) (by kernel_rfl) h3
  obtain⟨U,T,fz,h2⟩:=Jc hg ht
  exact⟨U,_,h2,T,fz,rfl⟩
 ·have e:g=0:=by rw[show Tryz.prog.globalNamed "internal/bytealg.MaxLen" =some 0 by kernel_rfl]at hg;exact(Option.some.inj hg).symm
  subst e
  obtain⟨m,hm⟩:=cell_of_shapedOpen_int (k:= .i64) (g:=0) (t:=3) (zero:=#[.int .i64 0]) cK (of_decide_eq_true (by kernel_rfl)) (by kernel_rfl) rfl (by kernel_rfl) (by kernel_rfl) Tryz.underlying3
  cases hh:W.heap[0]? with
  |none=>simp[World.cell?,hh]at hm
  |some o=>cases o with
   |cells cs T fz=>exact⟨(Array.getElem?_eq_some_iff.1 hh).1,_,rfl,m,cs,T,fz,rfl,by simpa[World.cell?,hh]using hm⟩
   |_=>simp[World.cell?,hh]at hm
def aax:ByteArray:={data:=#[105,110,118,97,108,105,100,32,115,121,110,116,97,120]}
def ZM:ByteArray:={data:=#[118,97,108,117,101,32,111,117,116,32,111,102,32,114,97,110,103,101]}
noncomputable def low:Nat:=(World.holding Tryz.prog default ⟨#[],#[],[]⟩).heap.size
def Hz (d:DataW Unit):Array Value:=match d with
 | .agg l=>(l.map fun x=>match x with
  | .lit (.int k z)=>Value.int k z
  |_=> .nilIface).toArray
 |_=>#[]
def putCells (cs:Array Value):Obj->Obj
 | .cells _ t frozen=> .cells cs t frozen
 |o=>o
noncomputable def Hv (os:Os):World:=
 let w0:=World.holding Tryz.prog os ⟨#[.cells #[.string aax] 348,.cells #[.string ZM] 348],#[],[]⟩
 {w0 with heap:=((((w0.heap.modify 1 (putCells #[.iface 346 (.pointer (some ⟨low,0,none⟩))])).modify 2 (putCells #[.iface 346 (.pointer (some ⟨low+1,0,none⟩))])).modify 3 (putCells (Hz Rows.laid_internal_strconv_uint64pow10))).modify 4 (putCells (Hz Rows.laid_math_bits_deBruijn32tab))).modify 5 (putCells (Hz Rows.laid_math_bits_deBruijn64tab))}
end Go.Proofs.YtpfohmboflcneaaGreatDoor
end
section
namespace Go.Proofs.YtpfohmboflcneaaGreatDoor
open Go Go.AL Go.RowKit
set_option maxRecDepth 10000
set_option maxHeartbeats 4000000
theorem Qp (t:Tm):b6 (aJ t)= .im (.sl 3 [[Bi false,Si [80],.sl 3 [[Si t.nm,Ii t.ix,.sl 3 (az t.xs)]]]]):=by
 rw[b6,cD,aJ,List.map_cons,List.map_nil,pI]
 simp only[az,jJ]
theorem Qo {t:Tm} (hs:jj t):yj (aJ t):=⟨by simp[aJ],fun l hl=>by
 rw[aJ,List.mem_singleton]at hl
 subst hl
 exact⟨by simp,by simp,by rw[nI,nI];exact⟨hs,trivial⟩⟩⟩
theorem Zh (s t:Tm) (hs:jj s) (ht:jj t):bh Tryz.prog 35 [bf s,bf t] (Bv (oM (aJ s) 51&&oM (aJ t) 51)):=by
 have U:=Qx (aJ s) 51 (Qo hs) (by omega)
 have h2:=Qx (aJ t) 51 (Qo ht) (by omega)
 rw[Qp]at U h2
 have e1:(decide (sL (aJ s) 51<=51)&&!(aJ s).any ke)=oM (aJ s) 51:=rfl
 rw[e1]at U
 cases hb:oM (aJ s) 51 with
 |true=>
  rw[hb]at U
  refine ao.walk [0,1,2,3,4] [] Tryz.func35 rfl Tryz.ntmps35 (by kernel_rfl) (by rfl) rfl fun W own I0 aq lay=>?_
  refine gO ?_
  refine AQ.fn (by kernel_rfl) rfl rfl rfl (U) rfl ?_
  refine sI ?_
  refine gO ?_
  refine AQ.Pm ?_
  refine AQ.nW (by simp only[go_sem]) ?_
  refine sI ?_
  refine AQ.go (by kernel_rfl) ?_
  refine sI ?_
  refine AQ.Pm ?_
  refine AQ.nW (by simp only[go_sem]) ?_
  refine sI ?_
  refine AQ.go (by kernel_rfl) ?_
  refine sI ?_
  refine AQ.nW (by simp only[go_sem]) ?_
  refine sI ?_
  refine AQ.fn (by kernel_rfl) rfl rfl rfl (h2) rfl ?_
  refine sI ?_
  refine gO ?_
  exact AE.bz rfl ⟨rfl,trivial⟩ rfl ⟨rfl,rfl⟩
 |false=>
  rw[hb]at U
  refine ao.walk [0,1,2,3,4] [] Tryz.func35 rfl Tryz.ntmps35 (by kernel_rfl) (by rfl) rfl fun W own I0 aq lay=>?_
  refine gO ?_
  refine AQ.fn (by kernel_rfl) rfl rfl rfl (U) rfl ?_
  refine sI ?_
  refine gO ?_
  exact AE.bz rfl ⟨rfl,trivial⟩ rfl ⟨rfl,rfl⟩
def dR (l:Bd) (x:Tm):Tm:=if dE (aJ x) l=0 then al (aV l) x else .mk [] 0 []
theorem JY {l:Bd} {x:Tm} (h:dE (aJ x) l=0):oU (aJ x) l=[⟨false,[80],[al (aV l) x]⟩]/\c7 x=true:=by
 have hE:dE (aJ x) l=_:=dE.eq_def (aJ x) l
 by_cases U:bp 4 9 2 3 (aJ x)≠0
 ·rw[if_pos U,h]at hE;exact absurd hE.symm U
 ·rw[if_neg U]at hE
  by_cases h2:fT [] l≠0
  ·rw[if_pos h2,h]at hE;exact absurd hE.symm h2
  ·rw[if_neg h2,h]at hE
   have h0:bp 4 9 2 3 (aJ x)=0:=by simpa using U
   obtain⟨_,_,_,h4⟩:=vu h0
   refine⟨?_,(rC h0).1⟩
   rw[oU,if_neg U,if_neg h2,vo,<-hE,if_pos rfl,Et h4]
   rw[aJ,cU,List.map_cons,List.map_nil,fK,bK,bK]
theorem u6 (x:Tm) (l:Bd) (hx:aR x) (hl:iy l):bh Tryz.prog 41 [bf x,gV l] (.aG [bf (dR l x),Bv (dE (aJ x) l==0)]):=by
 refine ao.told (R:=fun r H'=>H'=[]/\(r= .aG [bf (dR l x),Bv (dE (aJ x) l==0)]\/dR l x= .mk [] 0 []/\r= .aG [.agg [Sv [],Iv 0,eO],Bv (dE (aJ x) l==0)])) ?_ (fun r H' ⟨hH,hr⟩=>⟨_,⟨hH,rfl⟩,by
  rcases hr with rfl|⟨hc,rfl⟩
  ·exact fun _ _ _ _ h=>h
  ·rw[hc]
   exact(show da (.aG [.agg [Sv [],Iv 0,eO],Bv (dE (aJ x) l==0)]) (.aG [.agg [Sv [],Iv 0,.im (.sl 3 [])],Bv (dE (aJ x) l==0)]) from da.aG (bY.nT (by repeat' (first|with_reducible exact da.refl _|with_reducible exact fp.refl _|exact fp.nil _|with_reducible exact bY.refl _|with_reducible exact kg.refl _|with_reducible exact kj.refl _|refine bY.nT ?_ ?_|refine da.agg ?_|refine da.im ?_|refine fp.sl ?_|refine kj.cons ?_ ?_|refine kg.cons ?_ ?_)) (bY.refl _)))⟩)
 have hP:=SF (aJ x) l (DU hx) hl
 rw[Qp]at hP
 by_cases h0:dE (aJ x) l=0
 ·obtain⟨U,h2⟩:=JY h0
  have hu:dR l x=al (aV l) x:=by rw[dR,if_pos h0]
  have hL:aR (al (aV l) x):=by
   have h3:=(JX (DU hx) hl).2
   rw[U]at h3
   have h4:=(h3 _ (List.mem_singleton.2 rfl)).2.2
   rw[bI]at h4
   exact h4.1
  have aX:cD (oU (aJ x) l)=[[Bi false,Si [80],.sl 3 [[Si (al (aV l) x).nm,Ii (al (aV l) x).ix,.sl 3 (az (al (aV l) x).xs)]]]]:=by
   rw[U,cD,List.map_cons,List.map_nil,pI];simp only[az,jJ]
  have hb:=J4 (al (aV l) x) hL
  rw[hu,h0]
  rw[b6,aX,h0]at hP
  refine ao.walk [0,1,2,4,5,6,7,31] [4] Tryz.func41 rfl Tryz.ntmps41 (by kernel_rfl) (by rfl) rfl fun W own I0 aq lay=>?_
  refine gO ?_
  refine AQ.fn (by kernel_rfl) rfl rfl rfl (hP) rfl ?_
  refine sI ?_
  refine gE (an @List.length_cons.{0} (an @List.length_nil.{0} @List.getD_cons_zero.{0})) ?_
  refine AQ.fn (by kernel_rfl) rfl rfl rfl (hb) rfl ?_
  refine sI ?_
  refine gO ?_
  exact AE.bm [0] rfl ⟨⟨rfl,Nat.le_of_ble_eq_true (by kernel_rfl)⟩,rfl,trivial⟩ rfl ⟨rfl,.inl (by cases(al (aV l) x);rfl)⟩
 ·have hu:dR l x= .mk [] 0 []:=by rw[dR,if_neg h0]
  have aX:oU (aJ x) l=[]:=by
   rw[oU];rw[dE]at h0
   by_cases U:bp 4 9 2 3 (aJ x)≠0
   ·rw[if_pos U]
   ·rw[if_neg U]at h0⊢
    by_cases h2:fT [] l≠0
    ·rw[if_pos h2]
    ·rw[if_neg h2]at h0⊢
     rw[vo,if_neg h0]
  rw[b6,aX]at hP
  rw[cD,List.map_nil]at hP
  refine ao.walk [0,1,2,4,5,6,7,31] [4] Tryz.func41 rfl Tryz.ntmps41 (by kernel_rfl) (by rfl) rfl fun W own I0 aq lay=>?_
  refine gO ?_
  refine AQ.fn (by kernel_rfl) rfl rfl rfl (hP) rfl ?_
  refine sI ?_
  repeat(first|refine xA ?_|refine xB ?_|refine xC ?_|refine xE ?_|refine xD ?_|refine xK ?_|refine xS ?_|refine xM ?_|refine xT ?_|refine xF ?_|((first|refine xR ?_|refine xW ?_|refine fR ?_);simp only[go_sem,Nat.reduceAdd,Nat.reduceLeDiff,Nat.reduceSub,Int.reduceToNat,reduceCtorEq,show(dE (aJ x) l !=0)=true from by simpa using h0])|(refine⟨by first|omega|(intros;simp_all;done)|(intros;simp_all;omega),?_⟩;try simp only[go_sem,Nat.reduceAdd,Nat.reduceLeDiff,Nat.reduceSub,Int.reduceToNat,reduceCtorEq,show(dE (aJ x) l !=0)=true from by simpa using h0]))
  exact AE.bm [0] rfl ⟨⟨rfl,Nat.le_of_ble_eq_true (by kernel_rfl)⟩,rfl,trivial⟩ rfl ⟨rfl,.inr ⟨hu,by rw[beq_eq_false_iff_ne.2 h0];rfl⟩⟩
  done
def fl (l:List Int):List (List IV):=l.map fun v=>[Ii v]
theorem qP (l:List Int):(fl l).length=l.length:=by simp[fl]
theorem XB (l:List Int) (j:Nat) (h:j<l.length):(fl l).getD j []=[Ii (l.getD j 0)]:=by
 simp[fl,List.getD_eq_getElem?_getD,h]
theorem Xz (l m:List Int):fl l++fl m=fl (l++m):=by simp[fl]
theorem XC (s:Int):[[Ii s]]=fl [s]:=rfl
theorem Tu {t:Tm} (U:c7 t=true) (h2:wT t<=3999) (h3:cd t<=100):bp 4 9 2 3 (aJ t)=0:=by
 rw[EK (by decide) (by decide) (by decide) (by decide)]
 refine⟨by simp[aJ],?_,?_,?_⟩
 ·simp only[aJ,b8,jF,List.map_cons,List.map_nil,List.sum_cons,List.sum_nil,aK];omega
 ·simp only[aJ,fw,dj];omega
 ·rw[List.all_eq_true]
  intro l hl
  rw[aJ,List.mem_singleton]at hl
  subst hl
  rw[iQ,if_neg (show¬([80]:List UInt8)=[61] from by decide),cB,cB,U,show fI (Lt.mk false [80] [t]).pd=true from(show fI [80]=true from by decide)]
  rfl
theorem Qw {t:Tm} (h:oM (aJ t) 51=true):aR t/\wT t<=51:=by
 obtain⟨U,h2⟩:=aah (by omega) h
 have h3:=U.2 ⟨false,[80],[t]⟩ (by rw[aJ];exact List.mem_singleton.2 rfl)
 have h4:=h3.2.2
 rw[bI]at h4
 refine⟨h4.1,?_⟩
 simp only[aJ,b8,jF,List.map_cons,List.map_nil,List.sum_cons,List.sum_nil,aK]at h2
 omega
theorem I5 {x:Tm} {l:Bd} (hx:aR x) (hl:iy l):aR (dR l x):=by
 rw[dR]
 split
 ·rename_i h
  have h3:=(JX (DU hx) hl).2
  rw[(JY h).1]at h3
  have h4:=(h3 _ (List.mem_singleton.2 rfl)).2.2
  rw[bI]at h4
  exact h4.1
 ·rw[aR,bI];exact⟨by simp,by simp,trivial⟩
end Go.Proofs.YtpfohmboflcneaaGreatDoor
end
section
namespace Go.Proofs.YtpfohmboflcneaaGreatDoor
open Go Go.AL Go.RowKit
theorem J3 (l:List UInt8):(BA l).size=l.length:=by simp[BA,ByteArray.size]
theorem aaf (l:List UInt8):IV.sw (Si l)=l.length+1:=by
 show(BA l).size+1=_
 rw[J3]
theorem NU (i:Int):IV.sw (Ii i)=1:=rfl
mutual
theorem QW:∀(t:Tm),IV.eY (re t)<=1048576->aR t
 | .mk nm ix xs,h=>by
  rw[re]at h
  simp only[IV.eY,NU,IV.sw,J3]at h
  obtain⟨U,h2⟩:=QU xs (by omega)
  rw[aR]
  exact⟨by omega,by omega,h2⟩
theorem QU:∀(l:List Tm),IV.iM (az l)<=1048576->l.length<=IV.iM (az l)/\bI l
 |[],_=>by rw[bI];exact⟨by simp,trivial⟩
 |t::l,h=>by
  rw[az,IV.iM]at h
  obtain⟨U,h2⟩:=QU l (by omega)
  have h3:=QW t (by omega)
  have h4:1<=IV.eY (re t):=by
   rw[jJ];simp only[IV.eY,aaf];omega
  rw[bI,az,IV.iM,List.length_cons]
  exact⟨by omega,h3,h2⟩
end
theorem J5:∀(l:Bd),IV.iM (fq l)<=1048576->l.length<=IV.iM (fq l)/\∀b∈l,aR b.2
 |[],_=>⟨by simp,fun b hb=>by cases hb⟩
 |b::l,h=>by
  have e:fq (b::l)=[Ii b.1,Si b.2.nm,Ii b.2.ix,.sl 3 (az b.2.xs)]::fq l:=rfl
  rw[e,IV.iM]at h⊢
  obtain⟨U,h2⟩:=J5 l (by omega)
  have h3:=QW b.2 (by
   rw[jJ]
   simp only[IV.eY]at h⊢
   omega)
  refine⟨by rw[List.length_cons];simp only[IV.eY,NU];omega,fun x hx=>?_⟩
  rcases List.mem_cons.1 hx with rfl|hx
  ·exact h3
  ·exact h2 x hx
theorem SX {l:Bd} (h:IV.iM (fq l)<=1048576):iy l:=by
 obtain⟨U,h2⟩:=J5 l h
 exact⟨by omega,h2⟩
end Go.Proofs.YtpfohmboflcneaaGreatDoor
end
section
namespace Go.Proofs.YtpfohmboflcneaaGreatDoor
open Go Go.AL Go.RowKit
set_option maxRecDepth 10000
set_option maxHeartbeats 4000000













def nwB (m m':Bd):List Int:=(m'.drop m.length).map (·.1)
def fiB (x y:Lt) (m:Bd):Bd×Bool:=if Sw x y then HX x.xs y.xs m else(m,false)











end Go.Proofs.YtpfohmboflcneaaGreatDoor
end
section
namespace Go.Proofs
open Go.Shelf
def Tryz.X5:Go.Shelf.Ren:=⟨fun|189=>181|125=>216|257=>215|128=>239|129=>240|294=>230|295=>231|296=>232|297=>233|298=>234|299=>235|216=>236|300=>237|301=>238|328=>251|329=>252|330=>253|331=>254|332=>255|215=>229|343=>263|n=>n,fun|28=>46|3=>3|46=>295|0=>0|51=>312|53=>314|4=>4|183=>305|182=>304|131=>75|5=>5|9=>9|218=>326|222=>330|228=>342|229=>343|n=>n,fun|n=>n⟩
theorem Tryz.N7:Go.Proofs.Lays.n189 Tryz.prog Tryz.X5:={
 mixed:=by kernel_rfl
 f125:=Tryz.func216.trans (congrArg some (by kernel_rfl))
 f128:=Tryz.func239.trans (congrArg some (by kernel_rfl))
 f129:=Tryz.func240.trans (congrArg some (by kernel_rfl))
 f189:=Tryz.func181.trans (congrArg some (by kernel_rfl))
 f215:=Tryz.func229.trans (congrArg some (by kernel_rfl))
 f216:=Tryz.func236.trans (congrArg some (by kernel_rfl))
 f257:=Tryz.func215.trans (congrArg some (by kernel_rfl))
 f294:=Tryz.func230.trans (congrArg some (by kernel_rfl))
 f295:=Tryz.func231.trans (congrArg some (by kernel_rfl))
 f296:=Tryz.func232.trans (congrArg some (by kernel_rfl))
 f297:=Tryz.func233.trans (congrArg some (by kernel_rfl))
 f298:=Tryz.func234.trans (congrArg some (by kernel_rfl))
 f299:=Tryz.func235.trans (congrArg some (by kernel_rfl))
 f300:=Tryz.func237.trans (congrArg some (by kernel_rfl))
 f301:=Tryz.func238.trans (congrArg some (by kernel_rfl))
 f328:=Tryz.func251.trans (congrArg some (by kernel_rfl))
 f329:=Tryz.func252.trans (congrArg some (by kernel_rfl))
 f330:=Tryz.func253.trans (congrArg some (by kernel_rfl))
 f331:=Tryz.func254.trans (congrArg some (by kernel_rfl))
 f332:=Tryz.func255.trans (congrArg some (by kernel_rfl))
 f343:=Tryz.func263.trans (congrArg some (by kernel_rfl))
 t0:=Tryz.underlying0
 a0:=Tryz.isAgg0
 z0:=Tryz.sizeOf0
 v0:=Tryz.zeroValue0
 t3:=Tryz.underlying3
 a3:=Tryz.isAgg3
 z3:=Tryz.sizeOf3
 v3:=Tryz.zeroValue3
 t4:=Tryz.underlying4
 a4:=Tryz.isAgg4
 z4:=Tryz.sizeOf4
 v4:=Tryz.zeroValue4
 t5:=Tryz.underlying5
 a5:=Tryz.isAgg5
 z5:=Tryz.sizeOf5
 v5:=Tryz.zeroValue5
 t9:=Tryz.underlying9
 a9:=Tryz.isAgg9
 z9:=Tryz.sizeOf9
 v9:=Tryz.zeroValue9
 t28:=Tryz.underlying46
 a28:=Tryz.isAgg46
 z28:=Tryz.sizeOf46
 v28:=Tryz.zeroValue46
 t46:=Tryz.underlying295
 a46:=Tryz.isAgg295
 z46:=Tryz.sizeOf295
 v46:=Tryz.zeroValue295
 t51:=Tryz.underlying312
 a51:=Tryz.isAgg312
 z51:=Tryz.sizeOf312
 v51:=Tryz.zeroValue312
 t53:=Tryz.underlying314
 a53:=Tryz.isAgg314
 z53:=Tryz.sizeOf314
 v53:=Tryz.zeroValue314
 t131:=Tryz.underlying75
 a131:=Tryz.isAgg75
 z131:=Tryz.sizeOf75
 v131:=Tryz.zeroValue75
 t182:=Tryz.underlying304
 a182:=Tryz.isAgg304
 z182:=Tryz.sizeOf304
 v182:=Tryz.zeroValue304
 t183:=Tryz.underlying305
 a183:=Tryz.isAgg305
 z183:=Tryz.sizeOf305
 v183:=Tryz.zeroValue305
 t218:=Tryz.underlying326
 a218:=Tryz.isAgg326
 z218:=Tryz.sizeOf326
 v218:=Tryz.zeroValue326
 t222:=Tryz.underlying330
 a222:=Tryz.isAgg330
 z222:=Tryz.sizeOf330
 v222:=Tryz.zeroValue330
 t228:=Tryz.underlying342
 a228:=Tryz.isAgg342
 z228:=Tryz.sizeOf342
 v228:=Tryz.zeroValue342
 t229:=Tryz.underlying343
 a229:=Tryz.isAgg343
 z229:=Tryz.sizeOf343
 v229:=Tryz.zeroValue343}
open Go.Sort Go.RowKit in
theorem Tryz.slices_Sort_int (dZ off cap:Nat) (zs:List Int) (w:World) (hH:Holds (Value.int .i64) w dZ off zs.toArray) (Vz:dZ<w.heap.size) (aO:zs.length<4611686018427387904):
  Calls Tryz.prog 181 #[.slice (some ⟨dZ,off,none⟩) zs.length cap] w fun e w'=>
   e= .returned (.tuple #[])/\∃n os,w'=grow (putRow (Value.int .i64) (Sort.ahead w n) dZ off (zs.mergeSort fun x y=>decide (x<=y)).toArray) os:=Any.slices_Sort_int Tryz.N7 dZ off cap zs w hH Vz aO
#check @Go.Proofs.Any.slices_Sort_int
end Go.Proofs
end
section
namespace Go.Proofs
open Go.Shelf
open Go.RowKit Go.Sort in
theorem Tryz.slices_Sort_int_none (p:Option Addr) (cap:Nat) (w:World):
  Calls Tryz.prog 181 #[.slice p 0 cap] w fun e w'=>e= .returned (.tuple #[])/\w'=w:=Any.slices_Sort_int_none Tryz.N7 p cap w
end Go.Proofs
namespace Go.Proofs.YtpfohmboflcneaaGreatDoor
open Go Go.AL Go.RowKit Go.Shelf Go.Sort
set_option maxRecDepth 10000
set_option maxHeartbeats 4000000
abbrev dD (l:List Int):List Int:=l.mergeSort fun x y=>decide (x<=y)
theorem IQ (l:List Int):(dD l).length=l.length:=List.length_mergeSort l
theorem encI:AK (fun z:Int=>Value.int .i64 z) (fun z:Int=>Ii z):=⟨fun h=>h.1,⟨rfl,rfl⟩⟩
theorem ZR {w:World} {φ:ai} {I:Nat->Prop} {el:TypeId} {l:List Int} (hR:Real w φ I [(0,.vec el 1 (fl l))]) {g:Nat} (hg:φ 0=some (some g)):Sort.Holds (Value.int .i64) w g 0 l.toArray/\g<w.heap.size:=by
 have aP:=hR.own 0 _ (some g) rfl hg
 simp only[Ob.at]at aP
 rcases aP with⟨U,_⟩|⟨g',ae,rest,e,hh,hd,_⟩
 ·cases U
 cases e
 have dO:=Fj encI l ae hd
 rw[dO]at hh
 refine⟨fun j hj=>?_,(hR.off 0 g hg).2⟩
 have hj:j<l.length:=by simpa using hj
 rw[Nat.zero_add]
 constructor
 ·rw[World.cell?,hh]
  show((l.map fun z=>Value.int .i64 z)++rest).toArray[j]?=_
  rw[List.getElem?_toArray,List.getElem?_append_left (by simpa using hj),List.getElem?_map,List.getElem?_eq_getElem hj]
  simp[hj]
 ·simp[World.frozen?,hh]
theorem aaj (l:List Int) (hl:l.length<4611686018427387904):ao Tryz.prog 181 [.os 0 1 0 l.length] [(0,.vec 3 1 (fl l))] (fun r H'=>r= .aG []/\H'=[(0,.vec 3 1 (fl (dD l)))]):=by
 refine⟨by rfl,fun w φ I vs hd hR hV=>?_⟩
 simp only[AV.ab,AV.den]at hd
 obtain⟨u,us,rfl,h,rfl⟩:=hd
 rcases h with⟨ax,_,hn,rfl⟩|⟨g,c,ax,rfl,_⟩
 ·have om:=List.eq_nil_of_length_eq_zero hn
  subst om
  refine(Tryz.slices_Sort_int_none none 0 w).mono fun e w' ⟨he,hw⟩=>?_
  subst hw
  exact⟨.aG [],_,φ,I,_,⟨rfl,rfl⟩,he,⟨[],rfl,rfl⟩,by rw[show dD []=[] by simp[dD]];exact sV hR _⟩
 ·obtain⟨hH,ag⟩:=ZR hR ax
  rw[Nat.zero_mul]
  refine(Tryz.slices_Sort_int g 0 c l w hH ag hl).mono fun e w' ⟨he,n,os,hw⟩=>?_
  subst hw
  exact⟨.aG [],_,φ,I,_,⟨rfl,rfl⟩,he,⟨[],rfl,rfl⟩,St.Zx encI hR ax (IQ l) n os⟩
end Go.Proofs.YtpfohmboflcneaaGreatDoor
end
section
namespace Go.Proofs.YtpfohmboflcneaaGreatDoor
open Go Go.AL Go.RowKit
set_option maxRecDepth 10000
set_option maxHeartbeats 4000000
noncomputable def qf (l:Nat) (st:iq):Ob:= .lp l 13 st Tryz.f214 [0,1,0,1] [7] [(2,.ob 2 0)]
end Go.Proofs.YtpfohmboflcneaaGreatDoor
end
section
namespace Go.Proofs.YtpfohmboflcneaaGreatDoor
open Go

end Go.Proofs.YtpfohmboflcneaaGreatDoor
end
section
namespace Go.Proofs
open Go.Shelf
end Go.Proofs
namespace Go.Proofs.YtpfohmboflcneaaGreatDoor
open Go Go.AL Go.RowKit
set_option maxRecDepth 10000
set_option maxHeartbeats 4000000
end Go.Proofs.YtpfohmboflcneaaGreatDoor
end
section
namespace Go.Proofs.YtpfohmboflcneaaGreatDoor
open Go Go.AL Go.RowKit
set_option maxRecDepth 10000
set_option maxHeartbeats 4000000
theorem IY (f:Int->Tm) (hf:∀v,aR (f v)):∀t:Tm,aR t->aR (al f t)
 | .mk n i xs,h=>by
  have h0:=ji.1 h
  rw[al]
  split
  ·exact hf i
  ·rw[aR]
   have hl:(bK f xs).length=xs.length:=by rw[kH,List.length_map]
   refine⟨h0.1,by rw[hl];exact h0.2.1,?_⟩
   have U:bI xs:=h0.2.2
   exact QX f hf xs U
where
 QX (f:Int->Tm) (hf:∀v,aR (f v)):∀l:List Tm,bI l->bI (bK f l)
 |[],_=>by rw[bK,bI];trivial
 |t::l,h=>by
  rw[bI]at h
  rw[bK,bI]
  exact⟨IY f hf t h.1,QX f hf l h.2⟩



theorem Tt (s t:Tm):iC [s,t]=gW s t:=by
 rw[iC,iC,iC,gW]
 by_cases h:bp 4 9 2 3 (aJ s)≠0
 ·rw[if_pos h,if_pos h]
 ·rw[if_neg h,if_neg h]
  by_cases k:bp 4 9 2 3 (aJ t)≠0
  ·rw[if_pos k]
  ·rw[if_neg k];exact(Classical.not_not.1 k).symm
theorem Tq {s t:Tm} (h:gW s t=0):bp 4 9 2 3 (aJ s)=0/\bp 4 9 2 3 (aJ t)=0:=by
 rw[gW]at h
 by_cases k:bp 4 9 2 3 (aJ s)≠0
 ·rw[if_pos k]at h;exact absurd h k
 ·rw[if_neg k]at h;exact⟨Classical.not_not.1 k,h⟩
def El (l:Bd):Prop:=∀b∈l,c7 b.2=true/\aR b.2/\(b.2.nm=[]->b.2.ix<b.1)


def AN (l:Bd):Prop:=(l.map (·.1)).Nodup/\∀b∈l,0<=b.1/\b.1<1000
theorem Dq:∀(n:Nat) (l:List Int),l.Nodup->(∀x∈l,0<=x/\x<n)->l.length<=n
 |0,l,_,h=>by
  cases l with
  |nil=>simp
  |cons x r=>have:=h x (List.mem_cons_self ..);omega
 |n+1,l,hn,h=>by
  have U:=Dq n (l.erase (n:Int)) (hn.erase _) (fun x hx=>by
   have h2:=h x (List.mem_of_mem_erase hx)
   have h3:x≠(n:Int):=fun e=>by
    subst e
    exact(List.Nodup.mem_erase_iff hn).1 hx|>.1 rfl
   omega)
  have h4:=List.length_erase (a:=(n:Int)) (l:=l)
  split at h4<;>omega
theorem AN.len {l:Bd} (h:AN l):l.length<=1000:=by
 have:=Dq 1000 (l.map (·.1)) h.1 (fun x hx=>by
  obtain⟨b,hb,rfl⟩:=List.mem_map.1 hx
  exact h.2 b hb)
 simpa using this
theorem El.bd {l:Bd} (h:El l) (k:AN l):iy l:=⟨by have:=k.len;omega,fun b hb=>(h b hb).2.1⟩
structure xO (l:Bd) (f:Int->Tm):Prop where
 r:l8 l f
 t:El l
 k:AN l
 l:∀v,aR (f v)
theorem aaJ {v:Int} {t:Tm} (h:aR t) (w:Int):aR (lV v t w):=by
 rw[lV]
 split
 ·exact h
 ·rw[bg,aR,bI];simp
theorem xO.put {l:Bd} {f:Int->Tm} (h:xO l f) {v:Int} {t:Tm} (hv:f v=bg v) (se:0<=v/\v<1000) (CM:c7 t=true) (mq:aR t) (ho:v∉dm (al f t))
  (hr:(al f t).nm=[]->(al f t).ix<v) (Ni:t.nm=[]->t.ix<v):xO (l++[(v,t)]) (fun w=>al (lV v (al f t)) (f w)):=by
 have a6:∀x,(v,x)∉l:=fun x hx=>((h.r.b v).2 ⟨x,hx⟩) hv
 have yU:aR (al f t):=IY f h.l t mq
 refine⟨h.r.bind hv (Pc CM) ho hr,fun b hb=>?_,⟨?_,fun b hb=>?_⟩,fun w=>IY _ (aaJ yU) _ (h.l w)⟩
 ·rcases List.mem_append.1 hb with hb|hb
  ·exact h.t b hb
  ·rw[List.mem_singleton.1 hb];exact⟨CM,mq,Ni⟩
 ·rw[List.map_append,List.nodup_append]
  refine⟨h.k.1,by simp,fun a ha b hb=>?_⟩
  simp only[List.map_cons,List.map_nil,List.mem_singleton]at hb
  subst hb
  obtain⟨c,hc,rfl⟩:=List.mem_map.1 ha
  intro e
  exact a6 c.2 (by rw[<-e];exact hc)
 ·rcases List.mem_append.1 hb with hb|hb
  ·exact h.k.2 b hb
  ·rw[List.mem_singleton.1 hb];exact se
theorem Y4 {u:Tm} (h:c7 u=true) (hn:u.nm=[]):u=bg u.ix/\0<=u.ix/\u.ix<1000:=by
 rw[sQ,if_pos hn]at h
 simp only[Bool.and_eq_true,List.isEmpty_iff,decide_eq_true_eq]at h
 refine⟨?_,h.2⟩
 cases u with
 |mk a b c=>cases hn;cases h.1;rfl
theorem xO.nil:xO [] bg:=⟨l8.nil,fun b hb=>(nomatch hb),⟨List.nodup_nil,fun b hb=>(nomatch hb)⟩,fun v=>by rw[bg,aR,bI];simp⟩
abbrev oF:AV:= .im (.v (.pointer none))
def oQ:Option Nat->AV
 |none=>oF
 |some d=> .ob d 0
def gH (up:Nat->Option Nat):Nat->Nat->Nat
 |0,c=>c
 |n+1,c=>match up c with|none=>c|some d=>gH up n d
theorem P7 {up:Nat->Option Nat} {rk:Nat->Nat} {P:Nat->Prop} (hG:∀c,P c->∀d,up c=some d->P d/\rk d<rk c):∀(n m c:Nat),P c->rk c<=n->rk c<=m->gH up n c=gH up m c
 |n,m,c,hc,U,h2=>by
  cases je:up c with
  |none=>
   have e:∀k,gH up k c=c:=fun k=>by cases k with
    |zero=>rfl
    |succ k=>rw[gH,je]
   rw[e,e]
  |some d=>
   obtain⟨h3,h4⟩:=hG c hc d je
   cases n with
   |zero=>omega
   |succ n=>
    cases m with
    |zero=>omega
    |succ m=>
     rw[gH,je,gH,je]
     exact P7 hG n m d h3 (by omega) (by omega)
theorem ZX {up:Nat->Option Nat} {rk:Nat->Nat} {P:Nat->Prop} (hG:∀c,P c->∀d,up c=some d->P d/\rk d<rk c) {c d:Nat} (hc:P c) (h:up c=some d):gH up (rk c) c=gH up (rk d) d:=by
 obtain⟨h3,h4⟩:=hG c hc d h
 obtain⟨k,hk⟩:∃k,rk c=k+1:=⟨rk c-1,by omega⟩
 rw[hk,gH,h]
 exact P7 hG _ _ d h3 (by omega) (Nat.le_refl _)
theorem ZO (nb:Nat) (H:aa) (up:Nat->Option Nat) (rk:Nat->Nat) (P:Nat->Prop) (A:Nat->List AV)
  (hA:∀c,P c->∃x y z,A c=[oQ (up c),x,y,z])
  (hG:∀c,P c->lk H c=some (.var 192 (A c))/\∀d,up c=some d->P d/\rk d<rk c) (c:Nat) (hc:P c):
  dv Tryz.prog nb 122 [.ob c 0] H (fun r H'=>H'=H/\r= .ob (gH up (rk c) c) 0):=by
 refine dv.walk [0,2,7] [] Tryz.func122 rfl Tryz.ntmps122 (by kernel_rfl) (by rfl) fun W own I0 aq lay=>?_
 refine gO ?_
 refine AP.loop rfl (α:=Nat) (fun d=>[(0,.ob d 0)]) (fun _=>H) (fun d=>P d/\gH up (rk d) d=gH up (rk c) c) (fun d=>rk d) c ⟨hc,rfl⟩ (sU) rfl fun d ⟨hd,he⟩=>?_
 obtain⟨x,y,z,ea⟩:=hA d hd
 obtain⟨hl,hu⟩:=hG d hd
 rw[ea]at hl
 cases je:up d with
 |none=>
  rw[je,oQ]at hl
  refine gE @hl ?_
  have U:gH up (rk d) d=d:=by
   cases rk d with
   |zero=>rfl
   |succ k=>rw[gH,je]
  exact AE.ret rfl ⟨rfl,trivial⟩ ⟨rfl,by rw[<-he,U];rfl⟩
 |some e=>
  rw[je,oQ]at hl
  refine gE @hl ?_
  obtain⟨h2,h3⟩:=hu e je
  refine AE.round e ⟨h2,?_⟩ h3 (sU) rfl
  rw[<-he]
  exact(ZX (fun c hc=>(hG c hc).2) hd je).symm
end Go.Proofs.YtpfohmboflcneaaGreatDoor
end
section
namespace Go.Proofs.YtpfohmboflcneaaGreatDoor
open Go
set_option maxHeartbeats 1000000
structure Rt (L:List Nat) (up:Nat->Option Nat) (rt:Nat->Nat) (rk:Nat->Nat):Prop where
 out:∀c,c∉L->rt c=c
 nil:∀c∈L,up c=none->rt c=c
 go:∀c∈L,∀d,up c=some d->d∈L/\rk d<rk c/\rt c=rt d
theorem Rt.DN {L:List Nat} {up:Nat->Option Nat} {rt rk:Nat->Nat} (h:Rt L up rt rk):∀(n:Nat) (c:Nat),rk c<=n->c∈L->rt c∈L/\up (rt c)=none/\rt (rt c)=rt c
 |n,c,hn,hc=>by
  cases hu:up c with
  |none=>have:=h.nil c hc hu;rw[this];exact⟨hc,hu,this⟩
  |some d=>
   obtain⟨U,h2,h3⟩:=h.go c hc d hu
   cases n with
   |zero=>omega
   |succ n=>rw[h3];exact h.DN n d (by omega) U
theorem Rt.mem {L:List Nat} {up:Nat->Option Nat} {rt rk:Nat->Nat} (h:Rt L up rt rk) {c:Nat} (hc:c∈L):rt c∈L:=(h.DN _ c (Nat.le_refl _) hc).1
theorem Rt.none {L:List Nat} {up:Nat->Option Nat} {rt rk:Nat->Nat} (h:Rt L up rt rk) {c:Nat} (hc:c∈L):up (rt c)=none:=(h.DN _ c (Nat.le_refl _) hc).2.1
theorem Rt.idem {L:List Nat} {up:Nat->Option Nat} {rt rk:Nat->Nat} (h:Rt L up rt rk) (c:Nat):rt (rt c)=rt c:=by
 by_cases hc:c∈L
 ·exact(h.DN _ c (Nat.le_refl _) hc).2.2
 ·rw[h.out c hc,h.out c hc]
theorem Rt.root {L:List Nat} {up:Nat->Option Nat} {rt rk:Nat->Nat} (h:Rt L up rt rk) {c:Nat} (hc:c∈L):up c=Option.none↔rt c=c:=by
 refine⟨h.nil c hc,fun e=>?_⟩
 have:=h.none hc
 rw[e]at this
 exact this
theorem Rt.id (L:List Nat):Rt L (fun _=>Option.none) (fun c=>c) (fun _=>0):=⟨fun _ _=>rfl,fun _ _ _=>rfl,fun _ _ _ h=>(nomatch h)⟩
def mK (up:Nat->Option Nat) (y x:Nat) (c:Nat):Option Nat:=if c=y then some x else up c
theorem Rt.put {L:List Nat} {up:Nat->Option Nat} {rt rk:Nat->Nat} (h:Rt L up rt rk) {x y:Nat} (hx:x∈L) (hy:y∈L) (ex:rt x=x) (ey:rt y=y) (hn:x≠y):
  Rt L (mK up y x) (cw rt y x) (fun c=>if rt c=y then rk c+rk x+1 else rk c):=by
 refine⟨fun c hc=>?_,fun c hc hu=>?_,fun c hc d hu=>?_⟩
 ·have:=h.out c hc
  rw[cw,this,if_neg (fun e:c=y=>hc (e▸hy))]
 ·unfold mK at hu
  by_cases e:c=y
  ·rw[if_pos e]at hu;cases hu
  ·rw[if_neg e]at hu
   have:=h.nil c hc hu
   rw[cw,this,if_neg e]
 ·unfold mK at hu
  by_cases e:c=y
  ·rw[if_pos e]at hu
   cases hu
   subst e
   refine⟨hx,?_,?_⟩
   ·rw[ex,ey,if_pos rfl,if_neg hn];omega
   ·rw[cw,cw,ey,if_pos rfl,ex,if_neg hn]
  ·rw[if_neg e]at hu
   obtain⟨U,h2,h3⟩:=h.go c hc d hu
   refine⟨U,?_,uK h3⟩
   rw[h3]
   by_cases e2:rt d=y
   ·rw[if_pos e2,if_pos e2];omega
   ·rw[if_neg e2,if_neg e2];exact h2
def sY (L:List Nat) (up:Nat->Option Nat):Nat:=(L.filter fun c=>(up c).isNone).length
theorem filter_lt {α:Type} {p q:α->Bool}:∀{L:List α} {y:α},(∀c∈L,q c=true->p c=true)->y∈L->p y=true->q y=false->(L.filter q).length<(L.filter p).length
 |[],y,_,hy,_,_=>by cases hy
 |c::L,y,h,hy,U,h2=>by
  have hle:∀{L:List α},(∀c∈L,q c=true->p c=true)->(L.filter q).length<=(L.filter p).length:=fun{L} h=>by
   induction L with
   |nil=>simp
   |cons c L ih=>
    have i:=ih fun c hc=>h c (List.mem_cons_of_mem _ hc)
    have hc:=h c (List.mem_cons_self ..)
    rw[List.filter_cons,List.filter_cons]
    cases hq:q c with
    |true=>rw[hc hq];simpa using i
    |false=>
     simp only[Bool.false_eq_true,if_false]
     split
     ·simp;omega
     ·exact i
  rw[List.filter_cons,List.filter_cons]
  rcases List.mem_cons.1 hy with rfl|hy
  ·rw[U,h2]
   have:=hle fun c hc=>h c (List.mem_cons_of_mem _ hc)
   simp;omega
  ·have:=filter_lt (fun c hc=>h c (List.mem_cons_of_mem _ hc)) hy U h2
   have hc:=h c (List.mem_cons_self ..)
   cases hq:q c with
   |true=>rw[hc hq];simpa using this
   |false=>
    simp only[Bool.false_eq_true,if_false]
    split
    ·simp;omega
    ·exact this
theorem II {L:List Nat} {up:Nat->Option Nat} {x y:Nat} (hy:y∈L) (hu:up y=none):sY L (mK up y x)<sY L up:=by
 refine filter_lt (fun c _ h=>?_) hy (by rw[hu];rfl) (by rw[mK,if_pos rfl];rfl)
 unfold mK at h
 by_cases e:c=y
 ·rw[if_pos e]at h;cases h
 ·rw[if_neg e]at h;exact h
theorem Ji {l:List Tm} {a:Tm} (h:a∈l):wT a<=aK l:=by
 induction l with
 |nil=>cases h
 |cons t l ih=>
  rw[aK]
  rcases List.mem_cons.1 h with rfl|h
  ·omega
  ·have:=ih h;omega
theorem Dn.SG {cl:Nat->Nd} {d:Nat->Tm} (hd:Dn cl d) {c k:Nat} (hn:(cl c).nm≠[]) (hk:k∈(cl c).ks) (g:Int->Tm):wT (al g (d k))<wT (al g (d c)):=by
 rw[hd.fn hn g,wT]
 have:=Ji (List.mem_map.2 ⟨k,hk,rfl⟩:al g (d k)∈(cl c).ks.map fun x=>al g (d x))
 omega
abbrev Kn:=List (Nat×Option Tm)
structure il (k k':Kn):Prop where
 f:∀c t,(c,some t)∈k->(c,some t)∈k'
 b:∀c,(c,(none:Option Tm))∈k'↔(c,none)∈k
theorem il.refl (k:Kn):il k k:=⟨fun _ _ h=>h,fun _=>Iff.rfl⟩
theorem il.trans {k k' N5:Kn} (h:il k k') (h':il k' N5):il k N5:=⟨fun c t hc=>h'.f c t (h.f c t hc),fun c=>(h'.b c).trans (h.b c)⟩
structure gM (cl:Nat->Nd) (rt:Nat->Nat) (L:List Nat) (k:Kn):Prop where
 nd:(k.map (·.1)).Nodup
 ro:∀p∈k,p.1∈L/\rt p.1=p.1
 tc:∀c t,(c,some t)∈k->Tc cl rt c t
 ks:∀c t,(c,some t)∈k->∀x∈(cl c).ks,∃u,(rt x,some u)∈k
def Em (d:Nat->Tm) (g:Int->Tm) (k:Kn) (c:Nat):Prop:=∀r,(r,(none:Option Tm))∈k->wT (al g (d c))<wT (al g (d r))
theorem gM.nil (cl:Nat->Nd) (rt:Nat->Nat) (L:List Nat):gM cl rt L []:=⟨List.nodup_nil,fun _ h=>(nomatch h),fun _ _ h=>(nomatch h),fun _ _ h=>(nomatch h)⟩
def pG (L:List Nat) (k:Kn):Nat:=(L.filter fun c=>!(k.map (·.1)).contains c).length
theorem XY {L:List Nat} {k k':Kn} {r:Nat} (hr:r∈L) (hn:r∉k.map (·.1)) (hk:r∈k'.map (·.1)) (hs:∀c,c∈k.map (·.1)->c∈k'.map (·.1)):pG L k'<pG L k:=by
 refine filter_lt (y:=r) (fun c _ h=>?_) hr (by simpa using hn) (by simpa using hk)
 simp only[Bool.not_eq_true',List.contains_eq_mem,decide_eq_false_iff_not]at h⊢
 exact fun h'=>h (hs c h')
theorem il.keys {k k':Kn} (h:il k k') {c:Nat} (hc:c∈k.map (·.1)):c∈k'.map (·.1):=by
 obtain⟨⟨c',o⟩,hp,rfl⟩:=List.mem_map.1 hc
 cases o with
 |none=>exact List.mem_map.2 ⟨_,(h.b _).2 hp,rfl⟩
 |some t=>exact List.mem_map.2 ⟨_,h.f _ _ hp,rfl⟩
inductive nM (cl:Nat->Nd):Nat->Nat->Prop
 |refl (c:Nat):nM cl c c
 |arg {a k c:Nat}:k∈(cl a).ks->nM cl k c->nM cl a c
theorem nM.mono {cl Ks:Nat->Nd} {P:Nat->Prop} (hP:∀c,P c->Ks c=cl c/\∀k∈(cl c).ks,P k) {a b:Nat} (h:nM cl a b) (ha:P a):nM Ks a b:=by
 induction h with
 |refl c=>exact .refl c
 |arg U _ ih=>exact .arg (by rw[(hP _ ha).1];exact U) (ih ((hP _ ha).2 _ U))
theorem gM.uS {cl:Nat->Nd} {rt:Nat->Nat} {L:List Nat} {k:Kn} (hG:Good cl rt []) (hK:gM cl rt L k) {a c:Nat} (h:nM cl a c) (hv:∀x,(cl x).nm=[]->(cl x).ks=[]):(∃t,(rt a,some t)∈k)->∃t,(rt c,some t)∈k:=by
 induction h with
 |refl c=>exact id
 |@arg a x c U _ ih=>
  rintro⟨t,ht⟩
  refine ih ?_
  have MW:(cl a).nm≠[]:=fun e=>by rw[hv a e]at U;cases U
  have po:(cl (rt a)).nm≠[]:=fun e=>MW (hG.v a e).1
  have hf:=(hG.f a (rt a) (by rw[hG.i]) MW po).2.nil
  obtain⟨i,hi⟩:=List.getElem?_of_mem U
  have h2:((cl a).ks.map rt)[i]?=some (rt x):=by rw[List.getElem?_map,hi];rfl
  rw[hf,List.getElem?_map]at h2
  cases h3:(cl (rt a)).ks[i]? with
  |none=>rw[h3]at h2;cases h2
  |some y=>
   rw[h3]at h2
   simp only[Option.map_some,Option.some.injEq]at h2
   rw[<-h2]
   exact hK.ks (rt a) t ht y (List.mem_of_getElem? h3)
theorem Tc.is {cl:Nat->Nd} {rt:Nat->Nat} {d:Nat->Tm} (hG:Good cl rt []) (hd:Dn cl d) {f:Int->Tm} (hf:∀c,(cl c).nm=[]->∀t,Tc cl rt c t->f (cl c).num=t) {c:Nat} {t:Tm} (h:Tc cl rt c t):∀c',rt c'=rt c->al f (d c')=t:=by
 induction h with
 |@var c hv=>
  intro c' e
  have U:=hG.v c' (by rw[e];exact hv)
  have:=hf c' U.1 _ (.var (by rw[e];exact hv))
  rw[hd c',if_pos U.1,bg,al,if_pos rfl,this,e]
 |@fn c ts hn hl hk ih=>
  intro c' e
  by_cases hc:(cl c').nm=[]
  ·rw[hd c',if_pos hc,bg,al,if_pos rfl]
   have U:Tc cl rt c' (.mk (cl (rt c')).nm 0 ts):=by rw[<-e]at hn hl hk;exact .fn hn hl hk
   rw[hf c' hc _ U,e]
  ·obtain⟨U,h2⟩:=hG.f c' (rt c) (by rw[hG.i];exact e) hc hn
   have h2:=h2.nil
   rw[hd.fn hc f,Tm.mk.injEq]
   refine⟨U,rfl,List.ext_getElem? fun i=>?_⟩
   have hlen:(cl c').ks.length=ts.length:=by have:=congrArg List.length h2;simp at this;omega
   rw[List.getElem?_map]
   rcases Nat.lt_or_ge i ts.length with hi|hi
   ·have g1:ts[i]?=some ts[i]:=List.getElem?_eq_getElem hi
    have g2:(cl (rt c)).ks[i]?=some (cl (rt c)).ks[i]:=List.getElem?_eq_getElem (by omega)
    have g3:(cl c').ks[i]?=some (cl c').ks[i]:=List.getElem?_eq_getElem (by omega)
    rw[g1,g3]
    have g4:rt (cl c').ks[i]=rt (cl (rt c)).ks[i]:=by
     have:=congrArg (fun l=>l[i]?) h2
     simp only[List.getElem?_map,g2,g3,Option.map_some,Option.some.injEq]at this
     exact this
    simp only[Option.map_some]
    rw[ih i _ _ g2 g1 _ g4]
   ·rw[List.getElem?_eq_none hi,List.getElem?_eq_none (by omega)];rfl
theorem Tc.same {cl:Nat->Nd} {rt:Nat->Nat} {c c':Nat} {t:Tm} (k:Tc cl rt c t) (e:rt c'=rt c):Tc cl rt c' t:=by
 cases k with
 |var hv=>rw[<-e]at hv⊢;exact .var hv
 |fn hn hl hk=>rw[<-e]at hn hl hk⊢;exact .fn hn hl hk
theorem UC {cl:Nat->Nd} {rt:Nat->Nat} {d:Nat->Tm} {vs:List (Int×Nat)} {a b:Nat} {f:Int->Tm} (hG:Good cl rt []) (hd:Dn cl d) (he:rt a=rt b)
  (hs:∀g,l_ (d a) (d b) g->kE d rt g) (W6:∃t,Tc cl rt a t)
  (dr:∀p∈vs,(cl p.2).nm=[]/\(cl p.2).num=p.1/\Tc cl rt p.2 (f p.1)) (Nx:∀c t,(cl c).nm=[]->Tc cl rt c t->f (cl c).num=t)
  (a6:∀v,v∉vs.map (·.1)->f v=bg v):vj (d a) (d b) f:=by
 obtain⟨t,ht⟩:=W6
 refine⟨?_,fun g hg v=>?_,fun v hv=>?_,fun v=>?_⟩
 ·show al f (d a)=al f (d b)
  rw[Tc.is hG hd (fun c hc t h=>Nx c t hc h) ht a rfl,Tc.is hG hd (fun c hc t h=>Nx c t hc h) ht b he.symm]
 ·by_cases hv:v∈vs.map (·.1)
  ·obtain⟨p,hp,rfl⟩:=List.mem_map.1 hv
   obtain⟨U,h2,h3⟩:=dr p hp
   rw[h3.nF hd (hs g hg),hd p.2,if_pos U,h2,bg,al,if_pos rfl]
  ·rw[a6 v hv,bg,al,if_pos rfl]
 ·by_cases hm:v∈vs.map (·.1)
  ·obtain⟨p,hp,rfl⟩:=List.mem_map.1 hm
   obtain⟨U,h2,h3⟩:=dr p hp
   generalize f p.1=u at hv h3
   cases h3 with
   |var hx=>
    have:=(hG.v p.2 hx).2
    rw[h2]at this
    exact this
   |fn hn _ _=>exact absurd hv hn
  ·rw[a6 v hm];exact Int.le_refl _
 ·by_cases hm:v∈vs.map (·.1)
  ·obtain⟨p,hp,rfl⟩:=List.mem_map.1 hm
   exact(dr p hp).2.2.lf
  ·rw[a6 v hm];exact AT v
end Go.Proofs.YtpfohmboflcneaaGreatDoor
end
section
namespace Go.Proofs.YtpfohmboflcneaaGreatDoor
open Go
set_option maxHeartbeats 1000000
structure gp (cl:Nat->Nd) (d:Nat->Tm) (rt rt':Nat->Nat) (a b:Nat) (ok:Bool):Prop where
 qo:ok=true->∀D,Good cl rt ((a,b)::D)->Good cl rt' D
 nF:∀g,kE d rt g->al g (d a)=al g (d b)->ok=true/\kE d rt' g
 mono:∀x y,rt x=rt y->rt' x=rt' y
 eq:ok=true->rt' a=rt' b
structure p9 (cl:Nat->Nd) (d:Nat->Tm) (rt rt':Nat->Nat) (zs rest:List (Nat×Nat)):Prop where
 qo:∀D,Good cl rt (zs++D)->Good cl rt' (rest++D)
 nF:∀g,kE d rt g->(∀p∈zs,al g (d p.1)=al g (d p.2))->kE d rt' g
 mono:∀x y,rt x=rt y->rt' x=rt' y
variable {cl:Nat->Nd} {d:Nat->Tm} {rt rt' DM:Nat->Nat} {a b:Nat}
theorem gp.same (e:rt a=rt b):gp cl d rt rt a b true:=⟨fun _ D h=>h.same e,fun g h _=>⟨rfl,h⟩,fun _ _ h=>h,fun _=>e⟩
theorem gp.aa_ (hn:rt a≠rt b) (hb:(cl (rt b)).nm=[]) (ho:(cl (rt a)).nm=[]->(cl (rt a)).num<=(cl (rt b)).num):gp cl d rt (cw rt (rt b) (rt a)) a b true:=
 ⟨fun _ D h=>h.var hn hb ho,fun g h e=>⟨rfl,h.cw e⟩,fun _ _ h=>uK h,fun _=>by rw[cw,cw,if_neg hn,if_pos rfl]⟩
theorem gp.aa9 (hn:rt a≠rt b) (ha:(cl (rt a)).nm=[]) (ho:(cl (rt b)).nm=[]->(cl (rt b)).num<=(cl (rt a)).num):gp cl d rt (cw rt (rt a) (rt b)) a b true:=
 ⟨fun _ D h=>h.swap.var (fun e=>hn e.symm) ha ho,fun g h e=>⟨rfl,h.cw e.symm⟩,fun _ _ h=>uK h,fun _=>by rw[cw,cw,if_pos rfl,if_neg (fun e=>hn e.symm)]⟩
theorem gp.no (hd:Dn cl d) (ha:(cl (rt a)).nm≠[]) (hb:(cl (rt b)).nm≠[]) (h:¬((cl (rt a)).nm=(cl (rt b)).nm/\(cl (rt a)).ks.length=(cl (rt b)).ks.length)):gp cl d rt rt a b false:=
 ⟨fun h=>(nomatch h),fun g hs e=>absurd ⟨(hs.args hd e ha hb).1,(hs.args hd e ha hb).2.1⟩ h,fun _ _ h=>h,fun h=>(nomatch h)⟩
theorem p9.refl (zs:List (Nat×Nat)):p9 cl d rt rt zs zs:=⟨fun _ h=>h,fun _ h _=>h,fun _ _ h=>h⟩
theorem p9.step {zs rest:List (Nat×Nat)} {p:Nat×Nat} (h:p9 cl d rt rt' zs (p::rest)) (hp:p∈zs) (k:gp cl d rt' DM p.1 p.2 true):p9 cl d rt DM zs rest:=
 ⟨fun D g=>k.qo rfl _ (h.qo D g),fun g hs hz=>(k.nF g (h.nF g hs hz) (hz p hp)).2,fun x y e=>k.mono x y (h.mono x y e)⟩
theorem gp.fn (hd:Dn cl d) (hn:rt a≠rt b) (ha:(cl (rt a)).nm≠[]) (hb:(cl (rt b)).nm≠[]) (hm:(cl (rt a)).nm=(cl (rt b)).nm) (hl:(cl (rt a)).ks.length=(cl (rt b)).ks.length)
  (h:p9 cl d (cw rt (rt b) (rt a)) rt' ((cl (rt a)).ks.zip (cl (rt b)).ks) []):gp cl d rt rt' a b true:=
 ⟨fun _ D g=>h.qo D (g.fn hn ha hb hm hl),fun g hs e=>⟨rfl,h.nF g (hs.cw e) (hs.args hd e ha hb).2.2⟩,fun x y e=>h.mono x y (uK e),fun _=>h.mono _ _ (by rw[cw,cw,if_neg hn,if_pos rfl])⟩
theorem gp.stop (hd:Dn cl d) (ha:(cl (rt a)).nm≠[]) (hb:(cl (rt b)).nm≠[]) {rest:List (Nat×Nat)} {p:Nat×Nat}
  (h:p9 cl d (cw rt (rt b) (rt a)) rt' ((cl (rt a)).ks.zip (cl (rt b)).ks) (p::rest)) (hp:p∈(cl (rt a)).ks.zip (cl (rt b)).ks) (k:gp cl d rt' DM p.1 p.2 false):gp cl d rt DM a b false:=
 ⟨fun h=>(nomatch h),fun g hs e=>by
  have U:=hs.args hd e ha hb
  exact absurd (k.nF g (h.nF g (hs.cw e) U.2.2) (U.2.2 p hp)).1 (by simp),fun x y e=>k.mono x y (h.mono x y (uK e)),fun h=>(nomatch h)⟩
end Go.Proofs.YtpfohmboflcneaaGreatDoor
end
section
namespace Go.Proofs.YtpfohmboflcneaaGreatDoor
open Go Go.AL Go.RowKit
set_option maxRecDepth 10000
set_option maxHeartbeats 4000000
structure Gs where
 L:List Nat
 cl:Nat->Nd
 c8:Nat->Nat
 d:Nat->Tm
 vs:List (Int×Nat)
def jh (ks:List Nat):Ob:=lW 187 (ks.map fun k=> .ob k 0)
def cA (g:Gs) (up:Nat->Option Nat) (c:Nat):List AV:=[oQ (up c),Sv (g.cl c).nm,Iv (g.cl c).num,.os (g.c8 c) 1 0 (g.cl c).ks.length]
structure GH (g:Gs) (up:Nat->Option Nat) (H:aa):Prop where
 cell:∀c∈g.L,lk H c=some (.var 192 (cA g up c))
 row:∀c∈g.L,lk H (g.c8 c)=some (jh (g.cl c).ks)
structure Gr (g:Gs):Prop where
 kids:∀c∈g.L,∀k∈(g.cl c).ks,k∈g.L
 out:∀c,c∉g.L->g.cl c=⟨[],-1,[]⟩
 dn:Dn g.cl g.d
 vk:∀c,(g.cl c).nm=[]->(g.cl c).ks=[]
 nd:eE g.vs
 vs:∀p∈g.vs,p.2∈g.L/\(g.cl p.2).nm=[]/\(g.cl p.2).num=p.1/\0<=p.1/\p.1<1000
 sv:∀c∈g.L,(g.cl c).nm=[]->((g.cl c).num,c)∈g.vs
 len:∀c,(g.cl c).ks.length<=1000000000/\(g.cl c).nm.length<=1000000000
structure gL (nb:Nat) (g g':Gs):Prop where
 b_:∀c∈g.L,c∈g'.L/\g'.cl c=g.cl c/\g'.c8 c=g.c8 c/\g'.d c=g.d c
 new:∀c∈g'.L,c∉g.L->nb<=c/\nb<=g'.c8 c
 vs:∀p∈g.vs,p∈g'.vs
theorem gL.refl (nb:Nat) (g:Gs):gL nb g g:=⟨fun _ h=>⟨h,rfl,rfl,rfl⟩,fun _ h h'=>absurd h h',fun _ h=>h⟩
theorem gL.trans {nb sK:Nat} {g g' LI:Gs} (h:gL nb g g') (h':gL sK g' LI) (hn:nb<=sK):gL nb g LI:=by
 refine⟨fun c hc=>?_,fun c hc fN=>?_,fun p hp=>h'.vs p (h.vs p hp)⟩
 ·obtain⟨a1,a2,a3,a4⟩:=h.b_ c hc
  obtain⟨b1,b2,b3,b4⟩:=h'.b_ c a1
  exact⟨b1,b2.trans a2,b3.trans a3,b4.trans a4⟩
 ·by_cases hm:c∈g'.L
  ·have U:=h.new c hm fN
   have h2:=(h'.b_ c hm).2.2.1
   rw[h2];exact U
  ·have:=h'.new c hc hm;omega
theorem gL.XO {nb:Nat} {g g':Gs} (h:gL nb g g') {ks:List Nat} (hk:∀k∈ks,k∈g.L):(∀k∈ks,k∈g'.L)/\ks.map g'.d=ks.map g.d:=⟨fun k m_=>(h.b_ k (hk k m_)).1,List.map_congr_left fun k m_=>(h.b_ k (hk k m_)).2.2.2⟩
def cJ {α:Type} (f:Nat->α) (a:Nat) (b:α) (x:Nat):α:=if x=a then b else f x
theorem iS {α:Type} (f:Nat->α) (a:Nat) (b:α):cJ f a b a=b:=if_pos rfl
theorem kz {α:Type} (f:Nat->α) {a:Nat} (b:α) {x:Nat} (h:x≠a):cJ f a b x=f x:=if_neg h
theorem xG {α:Type} (f:Nat->α) {a:Nat} (b:α) {L:List Nat} (hc:a∉L) {x:Nat} (h:x∈L):cJ f a b x=f x:=if_neg fun e:x=a=>hc (e▸h)
def Gs.put (g:Gs) (c r:Nat) (n:Nd) (t:Tm) (vs:List (Int×Nat)):Gs:=⟨c::g.L,cJ g.cl c n,cJ g.c8 c r,cJ g.d c t,vs⟩
theorem Gr.PJ {g:Gs} {c r:Nat} {n:Nd} {t:Tm} {vs:List (Int×Nat)} (hc:c∉g.L) {x:Nat} (hx:x∈g.L):(g.put c r n t vs).cl x=g.cl x/\(g.put c r n t vs).c8 x=g.c8 x/\(g.put c r n t vs).d x=g.d x:=by
 have:x≠c:=fun e=>hc (e▸hx)
 exact⟨kz _ _ this,kz _ _ this,kz _ _ this⟩
theorem gL.put {nb:Nat} {g:Gs} {c r:Nat} {n:Nd} {t:Tm} {vs:List (Int×Nat)} (hc:c∉g.L) (U:nb<=c) (h2:nb<=r) (hv:∀p∈g.vs,p∈vs):gL nb g (g.put c r n t vs):=by
 refine⟨fun x hx=>⟨List.mem_cons_of_mem _ hx,Gr.PJ hc hx⟩,fun x hx hn=>?_,hv⟩
 rcases List.mem_cons.1 hx with rfl|hx
 ·exact⟨U,by show nb<=cJ _ _ _ _;rw[iS];exact h2⟩
 ·exact absurd hx hn
theorem Gr.KW {g:Gs} (h:Gr g) {c r:Nat} {n:Nd} {t:Tm} {vs:List (Int×Nat)} (hc:c∉g.L) (hk:∀k∈n.ks,k∈g.L) (ht:t=if n.nm=[]then bg n.num else .mk n.nm 0 (n.ks.map g.d)):Dn (g.put c r n t vs).cl (g.put c r n t vs).d:=by
 intro x
 show cJ g.d c t x=if(cJ g.cl c n x).nm=[]then bg (cJ g.cl c n x).num else .mk (cJ g.cl c n x).nm 0 ((cJ g.cl c n x).ks.map (cJ g.d c t))
 have hm:∀ks:List Nat,(∀k∈ks,k∈g.L)->ks.map (cJ g.d c t)=ks.map g.d:=fun ks fi=>List.map_congr_left fun k m_=>kz _ _ fun e=>hc (e▸fi k m_)
 by_cases hx:x=c
 ·subst hx
  rw[iS,iS,hm _ hk]
  exact ht
 ·rw[kz _ _ hx,kz _ _ hx,h.dn x]
  by_cases qN:x∈g.L
  ·rw[hm _ (h.kids x qN)]
  ·rw[h.out x qN];rfl
theorem Gr.ZB {g:Gs} (h:Gr g) {c r:Nat} {i:Int} (hc:c∉g.L) (hi:0<=i/\i<1000) (hn:i∉g.vs.map (·.1)):Gr (g.put c r ⟨[],i,[]⟩ (bg i) (g.vs++[(i,c)])):=by
 refine⟨fun x hx k hk=>?_,fun x hx=>?_,h.KW hc (fun k hk=>by cases hk) (if_pos rfl).symm,fun x hx=>?_,?_,fun p hp=>?_,fun x hx e_=>?_,fun x=>?_⟩
 ·have hx:x∈c::g.L:=hx
  have hk:k∈(cJ g.cl c _ x).ks:=hk
  rcases List.mem_cons.1 hx with rfl|hx
  ·rw[iS]at hk;cases hk
  ·rw[xG _ _ hc hx]at hk
   exact List.mem_cons_of_mem _ (h.kids x hx k hk)
 ·have hx:x∉c::g.L:=hx
  rw[List.mem_cons,not_or]at hx
  show cJ _ _ _ _=_
  rw[kz _ _ hx.1];exact h.out x hx.2
 ·show(cJ (α:=Nd) _ _ _ _).ks=_
  have hx:(cJ g.cl c _ x).nm=[]:=hx
  by_cases e:x=c
  ·rw[e,iS]
  ·rw[kz _ _ e]at hx⊢;exact h.vk x hx
 ·show((g.vs++[(i,c)]).map (·.1)).Nodup
  rw[List.map_append,List.nodup_append]
  refine⟨h.nd,by simp,fun a ha b hb=>?_⟩
  simp only[List.map_cons,List.map_nil,List.mem_singleton]at hb
  subst hb
  exact fun e=>hn (e▸ha)
 ·have hp:p∈g.vs++[(i,c)]:=hp
  show p.2∈c::g.L/\(cJ (α:=Nd) _ _ _ _).nm=[]/\(cJ (α:=Nd) _ _ _ _).num=_/\_
  rcases List.mem_append.1 hp with hp|hp
  ·obtain⟨U,h2⟩:=h.vs p hp
   rw[xG _ _ hc U]
   exact⟨List.mem_cons_of_mem _ U,h2⟩
  ·rw[List.mem_singleton.1 hp,iS]
   exact⟨List.mem_cons_self ..,rfl,rfl,hi⟩
 ·have hx:x∈c::g.L:=hx
  have e_:(cJ g.cl c _ x).nm=[]:=e_
  show((cJ g.cl c _ x).num,x)∈g.vs++[(i,c)]
  rcases List.mem_cons.1 hx with rfl|hx
  ·rw[iS];simp
  ·rw[xG _ _ hc hx]at e_⊢
   exact List.mem_append_left _ (h.sv x hx e_)
 ·show(cJ (α:=Nd) _ _ _ _).ks.length<=_/\(cJ (α:=Nd) _ _ _ _).nm.length<=_
  by_cases e:x=c
  ·rw[e,iS];exact⟨Nat.zero_le _,Nat.zero_le _⟩
  ·rw[kz _ _ e];exact h.len x
theorem Gr.Zw {g:Gs} (h:Gr g) {c r:Nat} {nm:List UInt8} {ks:List Nat} (hc:c∉g.L) (e_:nm≠[]) (hk:∀k∈ks,k∈g.L) (hl:ks.length<=1000000000) (rX:nm.length<=1000000000):Gr (g.put c r ⟨nm,0,ks⟩ (.mk nm 0 (ks.map g.d)) g.vs):=by
 refine⟨fun x hx k m_=>?_,fun x hx=>?_,h.KW hc hk (if_neg e_).symm,fun x hx=>?_,h.nd,fun p hp=>?_,fun x hx wm=>?_,fun x=>?_⟩
 ·have hx:x∈c::g.L:=hx
  have m_:k∈(cJ g.cl c _ x).ks:=m_
  rcases List.mem_cons.1 hx with rfl|hx
  ·rw[iS]at m_;exact List.mem_cons_of_mem _ (hk k m_)
  ·rw[xG _ _ hc hx]at m_
   exact List.mem_cons_of_mem _ (h.kids x hx k m_)
 ·have hx:x∉c::g.L:=hx
  rw[List.mem_cons,not_or]at hx
  show cJ _ _ _ _=_
  rw[kz _ _ hx.1];exact h.out x hx.2
 ·show(cJ (α:=Nd) _ _ _ _).ks=_
  have hx:(cJ g.cl c _ x).nm=[]:=hx
  by_cases e:x=c
  ·rw[e,iS]at hx;exact absurd hx e_
  ·rw[kz _ _ e]at hx⊢;exact h.vk x hx
 ·have hp:p∈g.vs:=hp
  show p.2∈c::g.L/\(cJ (α:=Nd) _ _ _ _).nm=[]/\(cJ (α:=Nd) _ _ _ _).num=_/\_
  obtain⟨U,h2⟩:=h.vs p hp
  rw[xG _ _ hc U]
  exact⟨List.mem_cons_of_mem _ U,h2⟩
 ·have hx:x∈c::g.L:=hx
  have wm:(cJ g.cl c _ x).nm=[]:=wm
  show((cJ g.cl c _ x).num,x)∈g.vs
  rcases List.mem_cons.1 hx with rfl|hx
  ·rw[iS]at wm;exact absurd wm e_
  ·rw[xG _ _ hc hx]at wm⊢
   exact h.sv x hx wm
 ·show(cJ (α:=Nd) _ _ _ _).ks.length<=_/\(cJ (α:=Nd) _ _ _ _).nm.length<=_
  by_cases e:x=c
  ·rw[e,iS];exact⟨hl,rX⟩
  ·rw[kz _ _ e];exact h.len x
theorem GH.put {g:Gs} {H H':aa} {up:Nat->Option Nat} (h:GH g up H) {c r:Nat} {n:Nd} {t:Tm} {vs:List (Int×Nat)} (hc:c∉g.L) (hu:up c=none) (cH:∀b∈g.L,lk H' b=lk H b/\lk H' (g.c8 b)=lk H (g.c8 b))
  (U:lk H' c=some (.var 192 [oF,Sv n.nm,Iv n.num,.os r 1 0 n.ks.length])) (h2:lk H' r=some (jh n.ks)):GH (g.put c r n t vs) up H':=by
 refine⟨fun x hx=>?_,fun x hx=>?_⟩
 ·show _=some (Ob.var _ [oQ (up x),Sv (cJ (α:=Nd) _ _ _ _).nm,Iv (cJ (α:=Nd) _ _ _ _).num,.os (cJ _ _ _ _) 1 0 (cJ (α:=Nd) _ _ _ _).ks.length])
  have hx:x∈c::g.L:=hx
  rcases List.mem_cons.1 hx with rfl|hx
  ·rw[iS,iS,hu];exact U
  ·have e:x≠c:=fun e=>hc (e▸hx)
   rw[kz _ _ e,kz _ _ e,(cH x hx).1];exact h.cell x hx
 ·show lk H' (cJ _ _ _ _)=some (jh (cJ (α:=Nd) _ _ _ _).ks)
  have hx:x∈c::g.L:=hx
  rcases List.mem_cons.1 hx with rfl|hx
  ·rw[iS,iS];exact h2
  ·have e:x≠c:=fun e=>hc (e▸hx)
   rw[kz _ _ e,kz _ _ e,(cH x hx).2];exact h.row x hx
def vC (vs:List (Int×Nat)):List AV:=vs.map fun p=> .ob p.2 0
theorem Rg {m:List (Int×Nat)} {j:Nat} {p:Int×Nat} (h:m[j]?=some p):(vC m)[j]?=some (.ob p.2 0):=by rw[vC,List.getElem?_map,h];rfl
theorem AA:Tryz.prog.underlying 186=some (.map 3 187):=by kernel_rfl
theorem GH.lt {g:Gs} {up:Nat->Option Nat} {H:aa} (h:GH g up H) {nb:Nat} (hn:bB H<=nb):∀c∈g.L,c<nb/\g.c8 c<nb:=fun c hc=>⟨Nat.lt_of_lt_of_le (bU H c _ (h.cell c hc)) hn,Nat.lt_of_lt_of_le (bU H _ _ (h.row c hc)) hn⟩
theorem GH.ne {g:Gs} {up:Nat->Option Nat} {H:aa} (h:GH g up H) {m:Nat} {ks:List Value} {cs:List AV} (hm:lk H m=some (.var (.map ks) cs)):∀c∈g.L,c≠m/\g.c8 c≠m:=by
 refine fun c hc=>⟨fun e=>?_,fun e=>?_⟩
 ·have:=h.cell c hc;rw[e,hm]at this;cases this
 ·have:=h.row c hc;rw[e,hm]at this
  unfold jh lW at this
  split at this<;>cases this
theorem DJ {b:Nat} {ks:List Nat} (h:b∉ks):(jh ks).men b=false:=by
 have:∀ks:List Nat,b∉ks->AV.mens b (ks.map fun k=> .ob k 0)=false:=fun ks=>by
  induction ks with
  |nil=>intro _;rfl
  |cons k ks ih=>
   intro h
   rw[List.mem_cons,not_or]at h
   simp only[List.map_cons,AV.mens,AV.men,Bool.or_eq_false_iff]
   exact⟨Bool.eq_false_iff.2 fun e=>h.1 (Nat.eq_of_beq_eq_true e).symm,ih h.2⟩
 unfold jh
 cases ks with
 |nil=>rfl
 |cons k ks=>exact this _ h
theorem D7 {b:Nat}:∀{vs:List (Int×Nat)},(∀p∈vs,p.2≠b)->AV.mens b (vC vs)=false
 |[],_=>rfl
 |p::vs,h=>by
  simp only[vC,List.map_cons,AV.mens,AV.men,Bool.or_eq_false_iff]
  exact⟨Bool.eq_false_iff.2 fun e=>h p (by simp) (Nat.eq_of_beq_eq_true e),D7 fun q hq=>h q (by simp[hq])⟩
end Go.Proofs.YtpfohmboflcneaaGreatDoor
end
section
namespace Go.Proofs.YtpfohmboflcneaaGreatDoor
open Go
set_option maxHeartbeats 1000000
variable {cl:Nat->Nd} {rt:Nat->Nat} {L:List Nat}
def mF (k:Kn):Nat:=(k.filter fun p=>p.2.isSome).length
def oS (k:Kn):Prop:=∀c t,(c,some t)∈k->cd t<=mF k
theorem YC {k:Kn} (h:gM cl rt L k):mF k<=L.length:=by
 have U:(k.map (·.1)).length<=L.length:=List.Nodup.length_le_of_subset h.nd fun c hc=>by
  obtain⟨p,hp,rfl⟩:=List.mem_map.1 hc
  exact(h.ro p hp).1
 have h2:=List.length_filter_le (fun p:Nat×Option Tm=>p.2.isSome) k
 rw[List.length_map]at U
 unfold mF
 omega
theorem gM.opened {k:Kn} (h:gM cl rt L k) {r:Nat} (hr:r∈L) (uw:rt r=r) (hn:r∉k.map (·.1)):gM cl rt L (k++[(r,none)]):=by
 refine⟨?_,fun p hp=>?_,fun c t hc=>?_,fun c t hc x hx=>?_⟩
 ·rw[List.map_append,List.nodup_append]
  refine⟨h.nd,by simp,fun a ha b hb=>?_⟩
  simp only[List.map_cons,List.map_nil,List.mem_singleton]at hb
  subst hb
  exact fun e=>hn (e▸ha)
 ·rcases List.mem_append.1 hp with hp|hp
  ·exact h.ro p hp
  ·rw[List.mem_singleton.1 hp];exact⟨hr,uw⟩
 ·rcases List.mem_append.1 hc with hc|hc
  ·exact h.tc c t hc
  ·cases List.mem_singleton.1 hc
 ·rcases List.mem_append.1 hc with hc|hc
  ·obtain⟨u,hu⟩:=h.ks c t hc x hx
   exact⟨u,List.mem_append_left _ hu⟩
  ·cases List.mem_singleton.1 hc
theorem YD (k:Kn) (r:Nat):mF (k++[(r,none)])=mF k:=by
 unfold mF
 rw[List.filter_append]
 simp
theorem oS.opened {k:Kn} (h:oS k) (r:Nat):oS (k++[(r,none)]):=fun c t hc=>by
 rw[YD]
 rcases List.mem_append.1 hc with hc|hc
 ·exact h c t hc
 ·cases List.mem_singleton.1 hc
theorem DT {k:Kn} {j:Nat} {r:Nat} {o o':Option Tm} (bS:(k.map (·.1)).Nodup) (hj:k[j]?=some (r,o)) (p:Nat×Option Tm):p∈k.set j (r,o')↔p=(r,o')\/p∈k/\p.1≠r:=by
 have ag:=(List.getElem?_eq_some_iff.1 hj).1
 constructor
 ·intro hp
  obtain⟨i,hi,e⟩:=List.getElem_of_mem hp
  rw[List.length_set]at hi
  rw[List.getElem_set]at e
  by_cases fC:j=i
  ·rw[if_pos fC]at e;exact .inl e.symm
  ·rw[if_neg fC]at e
   refine .inr ⟨e▸List.getElem_mem _,fun e2=>fC ?_⟩
   have U:(k.map (·.1))[j]?=some r:=by rw[List.getElem?_map,hj];rfl
   have h2:(k.map (·.1))[i]?=some r:=by rw[List.getElem?_map,List.getElem?_eq_getElem hi,e,<-e2];rfl
   exact(List.getElem?_inj (by rw[List.length_map];exact ag) bS).1 (U.trans h2.symm)
 ·rintro(rfl|⟨hp,aC⟩)
  ·exact List.mem_set ag _
  ·obtain⟨i,hi,e⟩:=List.getElem_of_mem hp
   have fC:j≠i:=fun h=>by
    subst h
    rw[List.getElem?_eq_getElem hi,e]at hj
    cases hj
    exact aC rfl
   have:(k.set j (r,o'))[i]?=some p:=by rw[List.getElem?_set_ne fC,List.getElem?_eq_getElem hi,e]
   exact List.mem_of_getElem? this
theorem Qn {k:Kn} {j:Nat} {r:Nat} {o o':Option Tm} (hj:k[j]?=some (r,o)):(k.set j (r,o')).map (·.1)=k.map (·.1):=by
 rw[List.map_set]
 refine List.ext_getElem? fun i=>?_
 rw[List.getElem?_set]
 split
 ·rename_i fC
  subst fC
  split
  ·rw[List.getElem?_map,hj];rfl
  ·rename_i hl
   rw[List.getElem?_eq_none (by omega)]
 ·rfl
theorem ON {t:Tm} {r:Nat}:∀{k:Kn} {j:Nat},k[j]?=some (r,none)->mF (k.set j (r,some t))=mF k+1
 |[],_,h=>by simp at h
 |p::k,0,h=>by
  simp at h;subst h
  unfold mF
  simp
 |p::k,j+1,h=>by
  have ih:=ON (t:=t) (k:=k) (j:=j) (by simpa using h)
  unfold mF at ih⊢
  rw[List.set_cons_succ,List.filter_cons,List.filter_cons]
  split
  ·rw[List.length_cons,List.length_cons,ih]
  ·exact ih
theorem gM.closed {k:Kn} (h:gM cl rt L k) {r j:Nat} {t:Tm} (hj:k[j]?=some (r,none)) (ht:Tc cl rt r t) (hk:∀x∈(cl r).ks,∃u,(rt x,some u)∈k):gM cl rt L (k.set j (r,some t)):=by
 have qA:=fun p=>DT (o':=some t) h.nd hj p
 have hr:=h.ro _ (List.mem_of_getElem? hj)
 have je:∀c u,(c,some u)∈k->(c,some u)∈k.set j (r,some t):=fun c u hc=>(qA _).2 (.inr ⟨hc,fun e=>by
  have U:=List.mem_of_getElem? hj
  obtain⟨a,ha,ea⟩:=List.getElem_of_mem hc
  obtain⟨b,hb,eb⟩:=List.getElem_of_mem U
  have g1:(k.map (·.1))[a]?=some c:=by rw[List.getElem?_map,List.getElem?_eq_getElem ha,ea];rfl
  have g2:(k.map (·.1))[b]?=some r:=by rw[List.getElem?_map,List.getElem?_eq_getElem hb,eb];rfl
  have e2:c=r:=e
  rw[e2]at g1
  have:=(List.getElem?_inj (by rw[List.length_map];exact ha) h.nd).1 (g1.trans g2.symm)
  subst this
  rw[ea]at eb
  cases eb⟩)
 refine⟨by rw[Qn hj];exact h.nd,fun p hp=>?_,fun c u hc=>?_,fun c u hc x hx=>?_⟩
 ·rcases(qA p).1 hp with rfl|⟨hp,_⟩
  ·exact hr
  ·exact h.ro p hp
 ·rcases(qA _).1 hc with e|⟨hc,_⟩
  ·cases e;exact ht
  ·exact h.tc c u hc
 ·rcases(qA _).1 hc with e|⟨hc,_⟩
  ·cases e
   obtain⟨u,hu⟩:=hk x hx
   exact⟨u,je _ _ hu⟩
  ·obtain⟨u,hu⟩:=h.ks c u hc x hx
   exact⟨u,je _ _ hu⟩
theorem oS.closed {k:Kn} (h:oS k) (hK:gM cl rt L k) {r j:Nat} {t:Tm} (hj:k[j]?=some (r,none)) (ht:cd t<=mF k+1):oS (k.set j (r,some t)):=fun c u hc=>by
 rw[ON hj]
 rcases(DT hK.nd hj _).1 hc with e|⟨hc,_⟩
 ·cases e;exact ht
 ·have:=h c u hc;omega
theorem il.opened (k:Kn) (r:Nat):∀c t,(c,some t)∈k->(c,some t)∈k++[(r,(none:Option Tm))]:=fun _ _ h=>List.mem_append_left _ h
theorem il.closed {k k':Kn} {r j:Nat} {t:Tm} (h:il (k++[(r,none)]) k') (hK:gM cl rt L k') (hn:r∉k.map (·.1)) (hj:k'[j]?=some (r,none)):il k (k'.set j (r,some t)):=by
 have qA:=fun p=>DT (o':=some t) hK.nd hj p
 have aC:∀c o,(c,o)∈k->c≠r:=fun c o hc e=>hn (List.mem_map.2 ⟨_,hc,e⟩)
 refine⟨fun c u hc=>(qA _).2 (.inr ⟨h.f c u (List.mem_append_left _ hc),aC c _ hc⟩),fun c=>?_⟩
 rw[qA]
 constructor
 ·rintro(e|⟨U,h2⟩)
  ·cases e
  ·rcases List.mem_append.1 ((h.b c).1 U)with h3|h3
   ·exact h3
   ·cases List.mem_singleton.1 h3;exact absurd rfl h2
 ·intro hc
  exact .inr ⟨(h.b c).2 (List.mem_append_left _ hc),aC c _ hc⟩
theorem Jk:∀(l:List Tm) (t:Tm),aK (l++[t])=aK l+wT t
 |[],t=>by rw[List.nil_append,aK,aK,aK];omega
 |u::l,t=>by rw[List.cons_append,aK,aK,Jk l t];omega
theorem KY:∀(l:List Tm) (t:Tm),dj (l++[t])=max (dj l) (cd t)
 |[],t=>by rw[List.nil_append,dj,dj,dj];omega
 |u::l,t=>by rw[List.cons_append,dj,dj,KY l t];omega
theorem KX:∀(l:List Tm) (n:Nat),(∀t∈l,cd t<=n)->dj l<=n
 |[],n,_=>by rw[dj];omega
 |u::l,n,h=>by
  rw[dj]
  have U:=h u (by simp)
  have h2:=KX l n fun t ht=>h t (by simp[ht])
  omega
end Go.Proofs.YtpfohmboflcneaaGreatDoor
end
