import Derived.Test.YtpfohmboflcneaaGreatDoorW1
import Derived.Lib.Strings
import Derived.Lib.Walk
import Derived.Lib.BufferWrite
import Derived.Lib.UnsafeStr
import Derived.Lib.Hide
import Derived.Laws.MakeOwn
import Derived.Lib.Builder
import Derived.Shelf.LaysM
import Derived.Shelf.Strconv.Itoa3
import Derived.Shelf.LaysC
import Derived.Shelf.Strconv.AtoiAll
import Derived.Shelf.Strconv.ErrVarAll
import Derived.Shelf.Strings.Prefix
import Derived.Lib.AtoiErrMem
import Derived.Test.YtpfohmboflcneaaGreatDoorCards
import Derived.Test.YtpfohmboflcneaaGreatDoorTie
import Derived.Stop.LaidErr
import Derived.Lib.LaidTab
import Derived.Shelf.Vars
set_option linter.unusedSimpArgs false
set_option linter.unusedVariables false
set_option linter.unnecessarySimpa false
section
namespace Go.Proofs.YtpfohmboflcneaaGreatDoor
open Go Go.AL Go.RowKit
set_option maxRecDepth 10000
set_option maxHeartbeats 4000000
theorem z164:(Tryz.prog.info? 164).bind (·.zero)=some (.agg #[.int .i64 0,.int .i64 0]):=by kernel_rfl
theorem UG (w:World) (φ:al) (I:Nat->Prop):AV.den w φ I (.agg [Iv 0,Iv 0]) (.agg #[.int .i64 0,.int .i64 0]):=by
 simp only[AV.den,AV.ab,IV.den]
 exact⟨[_,_],⟨_,_,rfl,⟨rfl,rfl⟩,_,_,rfl,⟨rfl,rfl⟩,rfl⟩,rfl,by simp[Value.oneCell']⟩
abbrev Bm (m:List (Int×Int×Int)):aa:=[(0,.var (.map (kI m)) (vZ m))]
theorem GX (w:Int->Nat) (t:Tm):jT w t=if t.nm=[]then w t.ix else fP w 1 t.xs:=by cases t;rw[jT];rfl
theorem OF (w:Int->Nat) (t:Tm):jS w t=if t.nm=[]then w t.ix else fO w 1 t.xs:=by cases t;rw[jS];rfl
theorem GY (w:Int->Nat):∀(l m:List Tm) (a:Nat),fP w a (l++m)=fP w (fP w a l) m
 |[],m,a=>by rw[List.nil_append,fP]
 |t::l,m,a=>by rw[List.cons_append,fP,fP,GY w l m]
theorem GS (w:Int->Nat):∀(l m:List Tm) (a:Nat),fO w a (l++m)=fO w (fO w a l) m
 |[],m,a=>by rw[List.nil_append,fO]
 |t::l,m,a=>by rw[List.cons_append,fO,fO,GS w l m]
theorem OH (w:Int->Nat) {l:List Tm} {k:Nat} {u:Tm} (h:l[k]?=some u) (a:Nat):fP w a (l.take (k+1))=min (fP w a (l.take k)+jT w u) 4001:=by rw[c7 h,GY,fP,fP]
theorem OG (w:Int->Nat) {l:List Tm} {k:Nat} {u:Tm} (h:l[k]?=some u) (a:Nat):fO w a (l.take (k+1))=max (fO w a (l.take k)) (jS w u+1):=by rw[c7 h,GS,fO,fO]
theorem Bk (w:Int->Nat):∀(l:List Tm) (a:Nat),a<=4001->fP w a l<=4001
 |[],a,h=>by rw[fP];exact h
 |t::l,a,h=>by rw[fP];exact Bk w l _ (by omega)
theorem GV (w:Int->Nat) (hw:∀v,w v<=4001) (t:Tm):jT w t<=4001:=by
 rw[GX]
 split
 ·exact hw _
 ·exact Bk w _ 1 (by omega)
mutual
theorem GQ (w:Int->Nat) (D:Nat) (hw:∀v,w v<=D):∀t:Tm,jS w t<=D+wT t
 | .mk n i xs=>by
  rw[jS,wT]
  split
  ·have:=hw i;omega
  ·have:=Bj w D hw xs 1;omega
theorem Bj (w:Int->Nat) (D:Nat) (hw:∀v,w v<=D):∀(l:List Tm) (a:Nat),fO w a l<=max a (D+1+aw l)
 |[],a=>by rw[fO];omega
 |t::l,a=>by
  have U:=GQ w D hw t
  have h2:=Bj w D hw l (max a (jS w t+1))
  rw[fO,aw];omega
end
theorem rA:∀(l:List Tm) (k:Nat),aw (l.take k)<=aw l
 |[],k=>by rw[List.take_nil];exact Nat.le_refl _
 |t::l,0=>by rw[List.take_zero,aw];omega
 |t::l,k+1=>by rw[List.take_succ_cons,aw,aw];have:=rA l k;omega
theorem G0 (m:List (Int×Int×Int)) (wf df:Int->Nat) (bg:cN m) (hm:∀v,(bh m v).getD (1,1)=((wf v:Int),(df v:Int))) (sB:∀v,wf v<=4001) (BO:∀v,df v<=4001) (x:Tm) (hs:aU x) (QG:wT x<=1000000):
  aj Tryz.prog 106 [bp x,.mp 0] (Bm m) (fun r H'=>r= .agg [Iv (jT wf x),Iv (jS df x)]/\H'=Bm m):=by
 have cM:=eU.1 hs
 have hN:=GX wf x
 have hD:=OF df x
 refine aj.walk [0,1,2,4,5,6,7,9,10,13,21,26,27,28,29] [4,5,7,9,10] Tryz.func106 rfl Tryz.ntmps106 (by kernel_rfl) (by rfl) rfl fun W own I0 aq lay=>?_
 refine gO ?_
 refine AP.cond rfl rfl (fun h=>?_) (fun h=>?_)
 ·have h:x.nm=[]:=by simpa using h
  rw[if_pos h]at hN hD
  have uZ:=hm x.ix
  refine gO ?_
  cases hq:de m x.ix with
  |none=>
   rw[(kK hq).1,Option.getD_none]at uZ
   have e1:((wf x.ix:Nat):Int)=1:=(Prod.mk.inj uZ).1.symm
   have e2:((df x.ix:Nat):Int)=1:=(Prod.mk.inj uZ).2.symm
   refine AQ.zk (.agg [Iv 0,Iv 0]) (by kernel_rfl) rfl rfl rfl Ea u3 (ft _) rfl (lx hq) z164 UG ?_
   refine sI ?_
   refine gO ?_
   exact AE.aX [2,1] rfl ⟨⟨rfl,Nat.le_of_ble_eq_true (by kernel_rfl)⟩,trivial⟩ (by simp only[go_sem,Nat.reduceAdd,Nat.reduceLeDiff,Nat.reduceSub,Int.reduceToNat,reduceCtorEq,ba,noMen,AV.mens,AV.men,cp,gK,Bool.or_false];first|done|rfl) ⟨by rw[hN,hD,e1,e2];rfl,rfl⟩
  |some j=>
   obtain⟨y,U,h2⟩:=l_ hq
   rw[h2,Option.getD_some]at uZ
   subst uZ
   refine AQ.pI j (by kernel_rfl) rfl rfl rfl Ea u3 (ft _) rfl (List.mem_of_getElem? (show(kI m)[j]?=some (.int .i64 x.ix) from ma U)) (fun i hi=>mb bg U hi) (Uf U) ?_
   refine sI ?_
   refine gO ?_
   exact AE.aX [2,1] rfl ⟨⟨rfl,Nat.le_of_ble_eq_true (by kernel_rfl)⟩,trivial⟩ (by simp only[go_sem,Nat.reduceAdd,Nat.reduceLeDiff,Nat.reduceSub,Int.reduceToNat,reduceCtorEq,ba,noMen,AV.mens,AV.men,cp,gK,Bool.or_false];first|done|rfl) ⟨by rw[hN,hD];rfl,rfl⟩
 ·have h:¬x.nm=[]:=by simpa using h
  rw[if_neg h]at hN hD
  refine gE @ah ?_
  refine AP.loop rfl (α:=Nat) (fun k=>[(1,.mp 0),(4,.ob 1 0),(7,.ob 2 0),(26,.im (.sl 3 (ax x.xs))),(27,Iv x.xs.length),(28,Iv k)]) (fun k=>(2,.var 164 [Iv (fP wf 1 (x.xs.take k)),Iv (fO df 1 (x.xs.take k))])::(1,.var 164 [Iv 0,Iv 0])::Bm m) (fun k=>k<=x.xs.length) (fun k=>x.xs.length-k) 0 (by omega) (sU) rfl fun k hk=>?_
  rcases Nat.eq_or_lt_of_le hk with aC|ag
  ·subst aC
   rw[List.take_length]
   refine gO ?_
   refine cF ?_
   refine gO ?_
   exact AE.aX [2,1] rfl ⟨⟨rfl,Nat.le_of_ble_eq_true (by kernel_rfl)⟩,trivial⟩ (by simp only[go_sem,Nat.reduceAdd,Nat.reduceLeDiff,Nat.reduceSub,Int.reduceToNat,reduceCtorEq,ba,noMen,AV.mens,AV.men,cp,gK,Bool.or_false];first|done|rfl) ⟨by rw[hN,hD];rfl,rfl⟩
  ·obtain⟨u,hu,aF⟩:=cz x.xs k ag
   have Qu:wT u<wT x:=Ac (List.mem_of_getElem? hu)
   have hw:=wr (x:=(k:Int)+1) (by omega)
   have ih:=G0 m wf df bg hm sB BO u (cA cM.2.2 hu) (by omega)
   have gm:=OH wf hu 1
   have jk:=OG df hu 1
   have eX:=Bk wf (x.xs.take k) 1 (by omega)
   have jV:=GV wf sB u
   have Wm:=Bj df 4001 BO (x.xs.take k) 1
   have Wn:=GQ df 4001 BO u
   have Wo:aw (x.xs.take k)<=wT x:=by rw[tv];have:=rA x.xs k;omega
   generalize fP wf 1 (x.xs.take k)=n1 at*
   generalize fO df 1 (x.xs.take k)=d1 at*
   generalize jT wf u=n2 at*
   generalize jS df u=d2 at*
   have b8:=wr (x:=(n1:Int)+n2) (by omega)
   have eH:=wr (x:=(d2:Int)+1) (by omega)
   refine gO ?_
   refine cT ?_
   refine gE (an @aF @ah) ?_
   refine AQ.fix 3 rfl rfl ?_
   refine sI ?_
   refine AQ.bz [(0,0)] (by kernel_rfl) rfl rfl rfl rfl rfl rfl (by refine⟨?_,trivial⟩;rw[cH,DS];rfl) rfl ih fun r' H' ⟨e1,e2⟩=>?_
   subst e1;subst e2
   refine sH ?_
   refine gO ?_
   refine AP.cu 16 (Tree.node [] [0,1,2,3,4,5,6,7,8,9,10,11,12] [13] [Tree.node [8,9,10,11] [14] [15] [Tree.node [] [] [] []]]) (by kernel_rfl) rfl (by kernel_rfl) (by kernel_rfl) ?_
   refine cr ?_
   refine sI ?_
   refine AQ.go (by kernel_rfl) ?_
   refine sI ?_
   refine AQ.nx rfl ?_
   refine sI ?_
   refine AQ.go (by kernel_rfl) ?_
   refine sI ?_
   refine AQ.nx rfl ?_
   refine sI ?_
   refine AQ.done ?_
   refine gE @hw ?_
   refine AE.dq [3] (by simp only[go_sem,Nat.reduceAdd,Nat.reduceLeDiff,Nat.reduceSub,Int.reduceToNat,reduceCtorEq,ba,noMen,AV.mens,AV.men,cp,gK,Bool.or_false];first|done|rfl) ?_
   refine sI ?_
   refine AE.round (k+1) (by omega) (by omega) (sU) ?_
   have e1:(if(4001:Int)<(n1:Int)+n2 then 4001 else(n1:Int)+n2)=((min (n1+n2) 4001:Nat):Int):=by split<;>omega
   have e2:(if(d1:Int)<(d2:Int)+1 then(d2:Int)+1 else(d1:Int))=((max d1 (d2+1):Nat):Int):=by split<;>omega
   rw[b8,eH,e1,e2,gm,jk]
termination_by SizeOf.sizeOf x
decreasing_by exact iF hu
def dM (l:Bd) (v:Int):Tm:=match bh l v with
 |some t=>aB cQ t
 |none=>cQ v
abbrev nF (l:Bd):aa:=[(1,.var 158 [.mp 0]),(0,.var (.map (kI l)) (vT l))]
theorem MN (l:Bd) (bg:cN l) (hs:je l) (v:Int):aj Tryz.prog 107 [Iv v,.ob 1 0] (nF l) (fun r H'=>r=bp (dM l v)/\H'=nF l):=by
 refine aj.walk [0,1,3,4,5,12] [3,4] Tryz.func107 rfl Tryz.ntmps107 (by kernel_rfl) (by rfl) rfl fun W own I0 aq lay=>?_
 refine gO ?_
 cases hq:de l v with
 |none=>
  have he:dM l v=cQ v:=by rw[dM,(kK hq).1]
  refine AQ.zk (.agg [Sv [],Iv 0,eL]) (by kernel_rfl) rfl rfl rfl kS u3 (ft _) rfl (lx hq) Ex Ey ?_
  refine sI ?_
  refine gO ?_
  refine AQ.fn (by kernel_rfl) rfl rfl rfl (z_ v) rfl ?_
  refine sI ?_
  refine gO ?_
  exact AE.aX [3,2] rfl ⟨⟨rfl,Nat.le_of_ble_eq_true (by kernel_rfl)⟩,trivial⟩ (by simp only[go_sem,Nat.reduceAdd,Nat.reduceLeDiff,Nat.reduceSub,Int.reduceToNat,reduceCtorEq,ba,noMen,AV.mens,AV.men,cp,gK,Bool.or_false];first|done|rfl) ⟨by rw[he];rfl,rfl⟩
 |some j=>
  obtain⟨y,U,h2⟩:=l_ hq
  have he:dM l v=aB cQ y:=by rw[dM,h2]
  refine AQ.pI j (by kernel_rfl) rfl rfl rfl kS u3 (ft _) rfl (List.mem_of_getElem? (show(kI l)[j]?=some (.int .i64 v) from ma U)) (fun i hi=>mb bg U hi) (wP U) ?_
  refine sI ?_
  refine gO ?_
  refine AQ.fn (by kernel_rfl) rfl rfl rfl (FF y (hs.2 _ (List.mem_of_getElem? U))) rfl ?_
  refine sI ?_
  refine gO ?_
  exact AE.aX [3,2] rfl ⟨⟨rfl,Nat.le_of_ble_eq_true (by kernel_rfl)⟩,trivial⟩ (by simp only[go_sem,Nat.reduceAdd,Nat.reduceLeDiff,Nat.reduceSub,Int.reduceToNat,reduceCtorEq,ba,noMen,AV.mens,AV.men,cp,gK,Bool.or_false];first|done|rfl) ⟨by rw[he];rfl,rfl⟩
theorem Fu (l:Bd) (bg:cN l) (hl:je l) (x:Tm) (hs:aU x):aj Tryz.prog 140 [bp x,.fn 107 [] [.ob 1 0]] (nF l) (fun r H'=>r=bp (aB (dM l) x)/\H'=nF l):=by
 have cM:=eU.1 hs
 have hc:=nJ (dM l) x
 refine aj.walk [0,1,2,4,5,7,10,19,20,21,22] [4,5,7] Tryz.func140 rfl Tryz.ntmps140 (by kernel_rfl) (by rfl) rfl fun W own I0 aq lay=>?_
 refine gO ?_
 refine AP.cond rfl rfl (fun h=>?_) (fun h=>?_)
 ·rw[if_pos (by simpa using h)]at hc
  refine gO ?_
  refine AQ.bz [(1,1),(0,0)] (by kernel_rfl) rfl rfl rfl rfl rfl rfl (by refine⟨?_,?_,trivial⟩<;>(simp only[cH,AV.cd,AV.rn,jH];rfl)) rfl (MN l bg hl x.ix) fun r' H' ⟨e1,e2⟩=>?_
  subst e1;subst e2
  refine sH ?_
  refine gO ?_
  exact AE.aX [2] rfl ⟨⟨rfl,Nat.le_of_ble_eq_true (by kernel_rfl)⟩,trivial⟩ (by simp only[go_sem,Nat.reduceAdd,Nat.reduceLeDiff,Nat.reduceSub,Int.reduceToNat,reduceCtorEq,ba,noMen,AV.mens,AV.men,cp,gK,Bool.or_false];first|done|rfl) ⟨by rw[hc];rfl,rfl⟩
 rw[if_neg (by simpa using h)]at hc
 refine gE @ah ?_
 rw[h_]at hc
 refine AP.hO 3 2 71 3 rfl rfl ?_
 refine sI ?_
 refine AP.loop rfl (α:=Nat) (fun k=>[(1,.fn 107 [] [.ob 1 0]),(4,.ob 2 0),(5,.ob 3 0),(19,.im (.sl 3 (ax x.xs))),(20,Iv x.xs.length),(21,Iv k)]) (fun k=>(4,.vec 71 3 (ax ((x.xs.take k).map (aB (dM l)))))::(3,.var 71 [Sv x.nm,Iv 0,.os 4 3 0 k])::(2,.var 71 [Sv [],Iv 0,eL])::nF l) (fun k=>k<=x.xs.length) (fun k=>x.xs.length-k) 0 (by omega) (sU) rfl fun k hk=>?_
 rcases Nat.eq_or_lt_of_le hk with aC|ag
 ·subst aC
  rw[List.take_length]
  refine gE @ah ?_
  refine cF ?_
  refine gO ?_
  refine AE.freeze 4 (el:=71) (es:=3) (rows:=ax (x.xs.map (aB (dM l)))) rfl (by simp only[go_sem,Nat.reduceAdd,Nat.reduceLeDiff,Nat.reduceSub,Int.reduceToNat,reduceCtorEq,ah,List.length_map];first|done|trivial|omega|(simp;done)|(simp;omega)) (by simp only[go_sem,Nat.reduceAdd,Nat.reduceLeDiff,Nat.reduceSub,Int.reduceToNat,reduceCtorEq,ah,List.length_map];first|done|trivial|omega|(simp;done)|(simp;omega)) ?_;simp only[go_sem,Nat.reduceAdd,Nat.reduceLeDiff,Nat.reduceSub,Int.reduceToNat,reduceCtorEq,ah,List.length_map]
  rw[List.take_of_length_le (by rw[ah,List.length_map];omega)]
  exact AE.aX [3,2] rfl ⟨⟨rfl,Nat.le_of_ble_eq_true (by kernel_rfl)⟩,trivial⟩ (by simp only[go_sem,Nat.reduceAdd,Nat.reduceLeDiff,Nat.reduceSub,Int.reduceToNat,reduceCtorEq,ba,noMen,AV.mens,AV.men,cp,gK,Bool.or_false];first|done|rfl) ⟨by rw[hc];rfl,rfl⟩
 ·obtain⟨u,hu,aF⟩:=cz x.xs k ag
  have hw:=wr (x:=(k:Int)+1) (by omega)
  have aY:=gP (l:=x.xs) (k:=k) (by omega)
  have ih:=Fu l bg hl u (cA cM.2.2 hu)
  have bc:=q5 (aB (dM l)) hu
  obtain⟨w,oh⟩:∃w,aB (dM l) u=w:=⟨_,rfl⟩
  rw[oh]at ih bc
  refine gE @ah ?_
  refine cT ?_
  refine gE @aF ?_
  refine⟨by rw[ah];omega,?_⟩
  refine gO ?_
  refine AP.cu 9 (Tree.node [] [0,1,2,3] [4] [Tree.node [0,1] [] [5] [Tree.node [0,1] [] [6] [Tree.node [] [7] [8] [Tree.node [] [] [] []]]]]) (by kernel_rfl) rfl (by kernel_rfl) (by kernel_rfl) ?_
  refine cr ?_
  refine sI ?_
  refine AQ.bz [(1,1),(0,0)] (by kernel_rfl) rfl rfl rfl rfl rfl rfl (by refine⟨?_,?_,trivial⟩<;>(simp only[cH,AV.cd,AV.rn,jH];rfl)) rfl ih fun r' H' ⟨e1,e2⟩=>?_
  subst e1;subst e2
  refine sH ?_
  refine AQ.nx rfl ?_
  refine sI ?_
  refine AQ.go (by kernel_rfl) ?_
  refine sI ?_
  refine AQ.nx rfl ?_
  refine sI ?_
  refine AQ.kill 4 ?_
  refine sI ?_
  refine AQ.append (hnb:=rfl) (rows:=ax ((x.xs.take k).map (aB (dM l)))) (es:=2) (by kernel_rfl) rfl rfl rfl (by first|(simp only[go_sem,noMen,AV.mens,AV.men,Bool.or_false];done)|(simp only[go_sem,noMen,AV.mens,AV.men,Bool.or_false];rfl)) Tryz.p8 Tryz.p7 (by show Option.map _ (az Tryz.prog 71)=_;rw[Tryz.qb];rfl) Tryz.oY (by first|rfl|(simp only[ah,List.length_map,aY,List.length_cons,List.length_nil];done)|(simp only[ah,List.length_map,aY,List.length_cons,List.length_nil];omega)) (by simp only[ah,List.length_map,aY,List.length_cons,List.length_nil];omega) (by simp only[ah,List.length_map,aY,List.length_cons,List.length_nil];omega) ?_
  refine sI ?_
  refine AQ.nx rfl ?_
  refine sI ?_
  refine AQ.go (by kernel_rfl) ?_
  refine sI ?_
  refine AQ.nx rfl ?_
  refine sI ?_
  refine AQ.done ?_
  refine gE @hw ?_
  refine AE.dq [5] (by simp only[go_sem,Nat.reduceAdd,Nat.reduceLeDiff,Nat.reduceSub,Int.reduceToNat,reduceCtorEq,ba,noMen,AV.mens,AV.men,cp,gK,Bool.or_false];first|done|rfl) ?_
  refine sI ?_
  refine AE.round (k+1) (by omega) (by omega) (sU) ?_
  rw[bc,ni,ah,List.length_map,aY];rfl
termination_by SizeOf.sizeOf x
decreasing_by exact iF hu
theorem Nt (l:Bd) (bg:cN l) (hl:je l) (c:List Lt) (hs:cC c):aj Tryz.prog 93 [aK c,.fn 107 [] [.ob 1 0]] (nF l) (fun r H'=>r=aK (ct (dM l) c)/\H'=nF l):=by
 have b5:=hs.1
 refine aj.walk [0,1,4,5,7,8,10,11,12,13,14,23,24,25,26] [7,8,10] Tryz.func93 rfl Tryz.ntmps93 (by kernel_rfl) (by rfl) rfl fun W own I0 aq lay=>?_
 refine gE @aA ?_
 refine AP.own 5 119 3 rfl ?_
 refine sI ?_
 refine AP.loop rfl (α:=Nat) (fun k=>[(1,.fn 107 [] [.ob 1 0]),(5,.os 2 3 0 k),(11,aK c),(12,Iv c.length),(13,Iv k)]) (fun k=>(2,.vec 119 3 (bP ((c.take k).map (ec (dM l)))))::nF l) (fun k=>k<=c.length) (fun k=>c.length-k) 0 (by omega) (sU) rfl fun k hk=>?_
 rcases Nat.eq_or_lt_of_le hk with aC|ag
 ·subst aC
  rw[List.take_length]
  refine gE @aA ?_
  refine cF ?_
  refine gO ?_
  refine AE.freeze 2 (el:=119) (es:=3) (rows:=bP (c.map (ec (dM l)))) rfl (by simp only[go_sem,Nat.reduceAdd,Nat.reduceLeDiff,Nat.reduceSub,Int.reduceToNat,reduceCtorEq,aA,List.length_map];first|done|trivial|omega|(simp;done)|(simp;omega)) (by simp only[go_sem,Nat.reduceAdd,Nat.reduceLeDiff,Nat.reduceSub,Int.reduceToNat,reduceCtorEq,aA,List.length_map];first|done|trivial|omega|(simp;done)|(simp;omega)) ?_;simp only[go_sem,Nat.reduceAdd,Nat.reduceLeDiff,Nat.reduceSub,Int.reduceToNat,reduceCtorEq,aA,List.length_map]
  rw[List.take_of_length_le (by rw[aA,List.length_map];omega)]
  exact AE.aX [] rfl ⟨rfl,trivial⟩ rfl ⟨rfl,rfl⟩
 ·obtain⟨u,hu,aF⟩:=fT c k ag
  have hw:=wr (x:=(k:Int)+1) (by omega)
  have aY:=gP (l:=c) (k:=k) (by omega)
  have bH:=kZ hs hu
  have mV:=bH.2.1
  have bc:=q5 (ec (dM l)) hu
  refine gE @aA ?_
  refine cT ?_
  refine gE @aF ?_
  refine⟨by rw[aA];omega,?_⟩
  refine gE @ah ?_
  refine AP.hO 4 2 71 3 rfl rfl ?_
  refine sI ?_
  have yk:ec (dM l) u=⟨u.ng,u.pd,u.xs.map (aB (dM l))⟩:=by rw[ec,h_]
  refine AP.loop rfl (α:=Nat) (fun j=>[(1,.fn 107 [] [.ob 1 0]),(5,.os 2 3 0 k),(8,.ob 4 0),(11,aK c),(12,Iv c.length),(13,Iv k),(23,.im (.sl 3 (ax u.xs))),(24,Iv u.xs.length),(25,Iv j)]) (fun j=>(5,.vec 71 3 (ax ((u.xs.take j).map (aB (dM l)))))::(4,.var 119 [Bv u.ng,Sv u.pd,.os 5 3 0 j])::(3,.var 119 [Bv u.ng,Sv u.pd,.im (.sl 3 (ax u.xs))])::(2,.vec 119 3 (bP ((c.take k).map (ec (dM l)))))::nF l) (fun j=>j<=u.xs.length) (fun j=>u.xs.length-j) 0 (by omega) (sU) rfl fun j hj=>?_
  rcases Nat.eq_or_lt_of_le hj with dV|fQ
  ·subst dV
   rw[List.take_length]
   refine gE @ah ?_
   refine cF ?_
   refine sI ?_
   refine AP.freeze 5 (el:=71) (es:=3) (rows:=ax (u.xs.map (aB (dM l)))) rfl (by simp only[go_sem,Nat.reduceAdd,Nat.reduceLeDiff,Nat.reduceSub,Int.reduceToNat,reduceCtorEq,ah,List.length_map];first|done|trivial|omega|(simp;done)|(simp;omega)) (by simp only[go_sem,Nat.reduceAdd,Nat.reduceLeDiff,Nat.reduceSub,Int.reduceToNat,reduceCtorEq,ah,List.length_map];first|done|trivial|omega|(simp;done)|(simp;omega)) ?_;simp only[go_sem,Nat.reduceAdd,Nat.reduceLeDiff,Nat.reduceSub,Int.reduceToNat,reduceCtorEq,ah,List.length_map]
   rw[show List.take u.xs.length (ax (u.xs.map (aB (dM l))))=ax (u.xs.map (aB (dM l))) from List.take_of_length_le (by rw[ah,List.length_map];omega)]
   refine gO ?_
   refine AQ.append (hnb:=rfl) (rows:=bP ((c.take k).map (ec (dM l)))) (es:=2) (by kernel_rfl) rfl rfl rfl (by first|(simp only[go_sem,noMen,AV.mens,AV.men,Bool.or_false];done)|(simp only[go_sem,noMen,AV.mens,AV.men,Bool.or_false];rfl)) Tryz.wK Tryz.wE (by show Option.map _ (az Tryz.prog 119)=_;rw[Tryz.wW];rfl) Tryz.tS (by first|rfl|(simp only[aA,List.length_map,aY,List.length_cons,List.length_nil];done)|(simp only[aA,List.length_map,aY,List.length_cons,List.length_nil];omega)) (by simp only[aA,List.length_map,aY,List.length_cons,List.length_nil];omega) (by simp only[aA,List.length_map,aY,List.length_cons,List.length_nil];omega) ?_
   refine sI ?_
   refine gE @hw ?_
   refine AE.dq [4,3] (by simp only[go_sem,Nat.reduceAdd,Nat.reduceLeDiff,Nat.reduceSub,Int.reduceToNat,reduceCtorEq,ba,noMen,AV.mens,AV.men,cp,gK,Bool.or_false];first|done|rfl) ?_
   refine sE (an @aA (an @List.length_map.{0,0} @aY)) ?_
   refine AE.round (k+1) (by omega) (by omega) (sU) ?_
   rw[bc,sT,yk];rfl
  ·obtain⟨v,hv,cg⟩:=cz u.xs j fQ
   have eH:=wr (x:=(j:Int)+1) (by have:=bH.2.1;omega)
   have fm:=gP (l:=u.xs) (k:=j) (by omega)
   have ih:=Fu l bg hl v (cA bH.2.2 hv)
   have gY:=q5 (aB (dM l)) hv
   obtain⟨w,oh⟩:∃w,aB (dM l) v=w:=⟨_,rfl⟩
   rw[oh]at ih gY
   refine gE @ah ?_
   refine cT ?_
   refine gE @cg ?_
   refine⟨by rw[ah];omega,?_⟩
   refine gO ?_
   refine AP.cu 9 (Tree.node [] [0,1,2,3] [4] [Tree.node [0,1] [] [5] [Tree.node [0,1] [] [6] [Tree.node [] [7] [8] [Tree.node [] [] [] []]]]]) (by kernel_rfl) rfl (by kernel_rfl) (by kernel_rfl) ?_
   refine cr ?_
   refine sI ?_
   refine AQ.bz [(1,1),(0,0)] (by kernel_rfl) rfl rfl rfl rfl rfl rfl (by refine⟨?_,?_,trivial⟩<;>(simp only[cH,AV.cd,AV.rn,jH];rfl)) rfl ih fun r' H' ⟨e1,e2⟩=>?_
   subst e1;subst e2
   refine sH ?_
   refine AQ.nx rfl ?_
   refine sI ?_
   refine AQ.go (by kernel_rfl) ?_
   refine sI ?_
   refine AQ.nx rfl ?_
   refine sI ?_
   refine AQ.kill 5 ?_
   refine sI ?_
   refine AQ.append (hnb:=rfl) (rows:=ax ((u.xs.take j).map (aB (dM l)))) (es:=2) (by kernel_rfl) rfl rfl rfl (by first|(simp only[go_sem,noMen,AV.mens,AV.men,Bool.or_false];done)|(simp only[go_sem,noMen,AV.mens,AV.men,Bool.or_false];rfl)) Tryz.p8 Tryz.p7 (by show Option.map _ (az Tryz.prog 71)=_;rw[Tryz.qb];rfl) Tryz.oY (by first|rfl|(simp only[ah,List.length_map,fm,List.length_cons,List.length_nil];done)|(simp only[ah,List.length_map,fm,List.length_cons,List.length_nil];omega)) (by simp only[ah,List.length_map,fm,List.length_cons,List.length_nil];omega) (by simp only[ah,List.length_map,fm,List.length_cons,List.length_nil];omega) ?_
   refine sI ?_
   refine AQ.nx rfl ?_
   refine sI ?_
   refine AQ.go (by kernel_rfl) ?_
   refine sI ?_
   refine AQ.nx rfl ?_
   refine sI ?_
   refine AQ.done ?_
   refine gE @eH ?_
   refine AE.dq [6] (by simp only[go_sem,Nat.reduceAdd,Nat.reduceLeDiff,Nat.reduceSub,Int.reduceToNat,reduceCtorEq,ba,noMen,AV.mens,AV.men,cp,gK,Bool.or_false];first|done|rfl) ?_
   refine sI ?_
   refine AE.round (j+1) (by omega) (by omega) (sU) ?_
   rw[gY,ni,ah,List.length_map,fm];rfl
def mX (w d:Int->Nat):List Tm->Nat->Option Nat
 |[],n=>some n
 |t::l,n=>if 4000<n+jT w t\/100<jS d t then none else mX w d l (n+jT w t)
def me (w d:Int->Nat):List Lt->Nat->Option Nat
 |[],n=>some n
 |x::c,n=>match mX w d x.xs (n+1)with
  |some m=>me w d c m
  |none=>none
theorem Je (f:Int->Tm) (w d:Int->Nat) (hw:∀v,w v=wT (f v)/\w v<=4001) (hd:∀v,d v=cG (f v)):∀(ts:List Tm) (n:Nat),
  (∀m,mX w d ts n=some m->m=n+aw (bf f ts)/\dm (bf f ts)<=100)/\(mX w d ts n=none->4000<n+aw (bf f ts)\/100<dm (bf f ts))
 |[],n=>by
  rw[mX,bf,aw,dm]
  exact⟨fun m h=>by cases h;omega,fun h=>by cases h⟩
 |t::l,n=>by
  have U:=GW f w t fun v _=>hw v
  have h2:=GR f d t fun v _=>hd v
  obtain⟨h3,h4⟩:=Je f w d hw hd l (n+jT w t)
  rw[mX,bf,aw,dm]
  by_cases h:4000<n+jT w t\/100<jS d t
  ·rw[if_pos h]
   exact⟨fun m h=>(by cases h),fun _=>by omega⟩
  ·rw[if_neg h]
   refine⟨fun m hm=>?_,fun hn=>?_⟩
   ·have:=h3 m hm;omega
   ·have:=h4 hn;omega
theorem Jd (f:Int->Tm) (w d:Int->Nat) (hw:∀v,w v=wT (f v)/\w v<=4001) (hd:∀v,d v=cG (f v)):∀(c:List Lt) (n:Nat),
  (∀m,me w d c n=some m->m=n+bC (ct f c)/\cW (ct f c)<=100)/\(me w d c n=none->4000<n+bC (ct f c)\/100<cW (ct f c))
 |[],n=>by
  rw[me]
  exact⟨fun m h=>by cases h;exact⟨rfl,by show cW []<=100;rw[cW];omega⟩,fun h=>by cases h⟩
 |x::c,n=>by
  obtain⟨U,h2⟩:=Je f w d hw hd x.xs (n+1)
  have e:ct f (x::c)=ec f x::ct f c:=rfl
  rw[me,e,iB,cW]
  have e2:(ec f x).xs=bf f x.xs:=rfl
  rw[e2]
  cases hq:mX w d x.xs (n+1)with
  |none=>
   refine⟨fun m h=>(by cases h),fun _=>?_⟩
   have:=h2 hq;omega
  |some k=>
   obtain⟨h3,h4⟩:=Jd f w d hw hd c k
   have h5:=U k hq
   refine⟨fun m h=>?_,fun h=>?_⟩
   ·have:=h3 m h;omega
   ·have:=h4 h;omega
theorem Sk {l:List Tm} (h:cf l=true):∀a∈l,Lf a:=fun a ha=>Sj (oD h a ha)
theorem q9 {l:Lt} (h:ej l=true):cf l.xs=true:=by
 rw[ej]at h
 split at h<;>exact(Bool.and_eq_true _ _▸h).2
theorem jO {c:List Lt} (h:aW 4 9 2 3 c=0):c.length<=40/\bC c<=4000/\cW c<=100/\∀l∈c,ej l=true:=by
 rw[xN (by decide) (by decide) (by decide) (by decide)]at h
 exact⟨h.1,h.2.1,h.2.2.1,List.all_eq_true.1 h.2.2.2⟩
theorem AG {t:Tm} (h:aW 4 9 2 3 (dw t)=0):dE t=true/\wT t<=3999/\cG t<=100:=by
 obtain⟨_,U,h2,h3⟩:=jO h
 have h4:=q9 (h3 _ (List.mem_singleton.2 rfl))
 simp only[dw,bC,jE,List.map_cons,List.map_nil,List.sum_cons,List.sum_nil,aw]at U
 simp only[dw,cW,dm]at h2
 exact⟨oD h4 t (List.mem_singleton.2 rfl),by omega,by omega⟩
theorem xH:∀(l p:Bd),fJ p l=0->∀b∈l,0<=b.1/\b.1<1000/\aW 4 9 2 3 (dw b.2)=0
 |[],p,_,b,hb=>by cases hb
 |x::l,p,h,b,hb=>by
  rw[fJ]at h
  by_cases U:x.1<0\/999<x.1
  ·rw[if_pos U]at h;exact absurd h (by decide)
  ·rw[if_neg U]at h
   by_cases h2:(dh p x.1).isSome=true
   ·rw[if_pos h2]at h;exact absurd h (by decide)
   ·rw[if_neg h2]at h
    by_cases h3:aW 4 9 2 3 (dw x.2)≠0
    ·rw[if_pos h3]at h;exact absurd h h3
    ·rw[if_neg h3]at h
     rcases List.mem_cons.1 hb with rfl|hb
     ·exact⟨by omega,by omega,by simpa using h3⟩
     ·exact xH l _ h b hb
theorem S9 {l:Bd} (h:fJ [] l=0) (v:Int):dM l v=bo l v:=by
 rw[dM,bo,q4]
 cases hq:bh l v with
 |none=>rfl
 |some t=>
  have:=AG (xH l [] h _ (vO hq)).2.2
  exact AB _ _ this.1 fun v _=>rfl
theorem S_ {l:Bd} (h:fJ [] l=0) (v:Int):wT (bo l v)<=3999/\cG (bo l v)<=100:=by
 rw[bo,q4]
 cases hq:bh l v with
 |none=>rw[Option.getD_none,cQ,wT,aw,cG,dm];omega
 |some t=>exact(AG (xH l [] h _ (vO hq)).2.2).2
theorem ER (l:Bd):∀(ts:List Tm) (n:Int),cf ts=true->nE l ts n<=n+aw (bf (bo l) ts)
 |[],n,_=>by rw[nE,bf,aw];omega
 |t::k,n,h=>by
  rw[cf,Bool.and_eq_true]at h
  have U:=DX l t h.1
  rw[nE,bf,aw]
  by_cases hc:4000<n+oI l t
  ·rw[if_pos hc];omega
  ·rw[if_neg hc];have:=ER l k (n+oI l t) h.2;omega
theorem JT:∀l m:List Tm,cf (l++m)=(cf l&&cf m)
 |[],m=>by rw[cf];rfl
 |t::l,m=>by rw[List.cons_append,cf,cf,JT l m,Bool.and_assoc]
theorem N_ (t:Tm):dp 2 3 t=0\/dp 2 3 t=2\/dp 2 3 t=3:=by
 rw[dp]
 repeat' split
 all_goals decide
mutual
theorem Oe:∀t,gF 2 3 t=0\/gF 2 3 t=2\/gF 2 3 t=3
 | .mk n i xs=>by
  rw[gF]
  split
  ·exact N_ _
  ·exact Bc xs
theorem Bc:∀l,cY 2 3 l=0\/cY 2 3 l=2\/cY 2 3 l=3
 |[]=>by rw[cY];exact .inl rfl
 |t::l=>by
  rw[cY]
  split
  ·exact Oe t
  ·exact Bc l
end
theorem Gw:∀c,fM 2 3 c=0\/fM 2 3 c=2\/fM 2 3 c=3
 |[]=>by rw[fM];exact .inl rfl
 |l::c=>by
  rw[Ba]
  split
  ·exact .inr (.inl rfl)
  ·split
   ·exact Bc _
   ·exact Gw c
theorem JU:∀c:List Lt,(∀l∈c,ej l=true)->cf (c.flatMap (·.xs))=true
 |[],_=>by rw[List.flatMap_nil,cf]
 |l::c,h=>by
  rw[List.flatMap_cons,JT,q9 (h l (List.mem_cons_self ..)),JU c fun x hx=>h x (List.mem_cons_of_mem _ hx)];rfl
theorem EY (f:Int->Tm):∀c:List Lt,(ct f c).flatMap (·.xs)=bf f (c.flatMap (·.xs))
 |[]=>by rw[List.flatMap_nil,bf];rfl
 |l::c=>by rw[show ct f (l::c)=ec f l::ct f c from rfl,List.flatMap_cons,List.flatMap_cons,EY f c,h_,h_,ec,h_,List.map_append]
theorem Am {c:List Lt} {l:Bd} (h:∀x∈c,ej x=true):nG c l=ct (bo l) c:=by
 rw[nG,ct]
 refine List.map_congr_left fun x hx=>?_
 have U:=Sk (q9 (h x hx))
 rw[Eb,ec,wN,h_]
 congr 1
 exact List.map_congr_left fun t ht=>T_ l (U t ht)
theorem MH {c:List Lt} {l:Bd} (hc:aW 4 9 2 3 c=0):rI c l=if lL (ct (bo l) c)then 15 else 0:=by
 obtain⟨U,h2,h3,h4⟩:=jO hc
 have hlen:(ct (bo l) c).length=c.length:=by rw[ct,List.length_map]
 have ha:=ER l (c.flatMap (·.xs)) c.length (JU c h4)
 have hn:=zp (ct (bo l) c)
 rw[EY,hlen]at hn
 have hk:(aW 4 9 2 3 (ct (bo l) c)=4\/aW 4 9 2 3 (ct (bo l) c)=9)↔lL (ct (bo l) c)=true:=by
  rw[aW,if_neg (by omega:¬40<(ct (bo l) c).length),lL,Bool.or_eq_true,decide_eq_true_iff,decide_eq_true_iff]
  by_cases g1:4000<bC (ct (bo l) c)
  ·rw[if_pos g1];exact⟨fun _=> .inl g1,fun _=> .inl rfl⟩
  ·rw[if_neg g1]
   by_cases g2:100<cW (ct (bo l) c)
   ·rw[if_pos g2];exact⟨fun _=> .inr g2,fun _=> .inr rfl⟩
   ·rw[if_neg g2]
    have hf:fM 2 3 (ct (bo l) c)=0\/fM 2 3 (ct (bo l) c)=2\/fM 2 3 (ct (bo l) c)=3:=Gw _
    exact⟨fun h=>by omega,fun h=>by omega⟩
 rw[rI,Am h4]
 by_cases hb:lL (ct (bo l) c)=true
 ·rw[if_pos hb]
  split
  ·rfl
  ·rw[if_pos (hk.2 hb)]
 ·rw[if_neg hb,if_neg,if_neg (fun h=>hb (hk.1 h))]
  intro hc
  refine hb ?_
  rw[lL,Bool.or_eq_true,decide_eq_true_iff];left;omega
theorem aj.JW {P:Program} {f:FuncId} {xs:List AV} {H:aa} {c:List Lt} {e:AV} {H0:aa} (h:aj P f xs H (fun r H'=>H'=H0/\(r= .aM [aK c,e]\/c=[]/\r= .aM [eL,e]))):aj P f xs H (fun r H'=>H'=H0/\r= .aM [aK c,e]):=
 aj.told h fun r H' ⟨hH,hr⟩=>⟨_,⟨hH,rfl⟩,by
  rcases hr with rfl|⟨hc,rfl⟩
  ·exact fun _ _ _ _ h=>h
  ·subst hc;exact Nz _⟩
@[go_sem] theorem Tk (k:Nat):∀m:List (Int×Tm),AV.jJ k (vT m)=vT m
 |[]=>rfl
 |_::m=>by rw[vT,List.map_cons,AV.jJ,<-vT,Tk k m];rfl
theorem MO (c:List Lt) (l:Bd) (hs:cC c) (hl:je l):aP Tryz.prog 32 [aK c,cE l] (.aM [aK (oW c l),Iv (tN c l)]):=by
 have hE:tN c l=_:=tN.eq_def c l
 have hR:oW c l=_:=oW.eq_def c l
 have b5:=hs.1
 refine aj.JW ?_
 refine aj.walk [0,1,4,5,6,7,8,9,10,12,14,15,19,27,31,32,33,34,40,41,42,43,59,63] [7,12,14,15] Tryz.func32 rfl Tryz.ntmps32 (by kernel_rfl) (by rfl) rfl fun W own I0 aq lay=>?_
 refine gO ?_
 refine AQ.fn (by kernel_rfl) rfl rfl rfl (oZ c hs) rfl ?_
 refine sI ?_
 refine gO ?_
 refine AP.cond rfl rfl (fun U=>?_) (fun U=>?_)
 ·have U:aW 4 9 2 3 c≠0:=by simpa using U
  rw[if_pos U]at hE hR
  refine gO ?_
  exact AE.aG rfl ⟨rfl,rfl,trivial⟩ rfl ⟨rfl,.inr ⟨hR,by rw[hE];rfl⟩⟩
 have U:aW 4 9 2 3 c=0:=by simpa using U
 rw[if_neg (by simpa using U)]at hE hR
 have fA:=M4 l hl
 refine gO ?_
 refine AQ.Ax (by kernel_rfl) rfl rfl rfl fA fun r' H' l8=>?_
 rcases l8 with⟨h2,bg,e1,e2⟩|⟨h2,e1,e2⟩
 ·subst e1;subst e2
  rw[if_neg (by simpa using h2)]at hE hR
  have QF:=Ur l bg hl fun p hp=>by have:=(AG (xH l [] h2 p hp).2.2).2.1;omega
  refine sI ?_
  refine gO ?_
  refine AQ.bz [(0,0)] (by kernel_rfl) rfl rfl rfl rfl rfl rfl (by refine⟨?_,trivial⟩;simp only[cH,AV.cd,AV.rn,jH];rfl) rfl QF fun r' H' ⟨m,lh,cZ,e1,e2⟩=>?_
  subst e1;subst e2
  refine sH ?_
  have PC:∀v,(bh m v).getD (1,1)=((wT (bo l v):Int),(cG (bo l v):Int)):=fun v=>by
   rw[cZ v,bo,q4]
   cases bh l v with
   |none=>rw[Option.map_none,Option.getD_none,Option.getD_none,cQ,wT,aw,cG,dm];rfl
   |some t=>rfl
  have aO:=S_ h2
  obtain⟨eC,eP⟩:=Jd (bo l) (fun v=>wT (bo l v)) (fun v=>cG (bo l v)) (fun v=>⟨rfl,by have:=aO v;omega⟩) (fun v=>rfl) c 0
  have He:=MH (l:=l) U
  obtain⟨ku,l6,lb,uS⟩:=jO U
  have ai:tL c l=if lL (ct (bo l) c)then[]else ct (bo l) c:=by
   rw[tL,He,Am uS]
   by_cases hb:lL (ct (bo l) c)=true
   ·rw[if_pos hb,if_pos hb];rfl
   ·rw[if_neg hb,if_neg hb];rfl
  rw[He]at hE
  rw[ai]at hR
  have Hd:∀n:Nat,4000<n+bC (ct (bo l) c)-n\/100<cW (ct (bo l) c)->lL (ct (bo l) c)=true:=fun n h=>by
   rw[lL,Bool.or_eq_true,decide_eq_true_iff,decide_eq_true_iff];omega
  refine gE @aA ?_
  refine AP.loop rfl (α:=Nat×Nat) (fun s=>[(0,aK c),(7,.ob 1 0),(9,.mp 3),(10,Iv s.2),(31,aK c),(32,Iv c.length),(33,Iv s.1)]) (fun _=>[(3,.var (.map (kI m)) (vZ m)),(1,.var 158 [.mp 0]),(0,.var (.map (kI l)) (vT l))]) (fun s=>s.1<=c.length/\s.2<=4000+s.1/\me (fun v=>wT (bo l v)) (fun v=>cG (bo l v)) c 0=me (fun v=>wT (bo l v)) (fun v=>cG (bo l v)) (c.drop s.1) s.2) (fun s=>c.length-s.1) (0,0) ⟨by simp,by simp,rfl⟩ (sU) rfl fun⟨k,n⟩ ⟨hk,hn,hm⟩=>?_
  simp only at hk hn hm⊢
  rcases Nat.eq_or_lt_of_le hk with aC|ag
  ·rw[aC,List.drop_length,me]at hm
   obtain⟨Wy,Wz⟩:=eC n hm
   subst aC
   refine gO ?_
   refine cF ?_
   refine gO ?_
   refine AP.cond rfl rfl (fun h5=>?_) (fun h5=>?_)
   ·rw[Hd 0 (by simp at h5;omega)]at hE hR
    refine gO ?_
    exact AE.aX [3,1,0] rfl ⟨rfl,rfl,trivial⟩ (by simp only[go_sem,Nat.reduceAdd,Nat.reduceLeDiff,Nat.reduceSub,Int.reduceToNat,reduceCtorEq,ba,noMen,AV.mens,AV.men,cp,gK,Bool.or_false];first|done|rfl) ⟨rfl,.inr ⟨hR,by rw[hE];rfl⟩⟩
   ·have hb:¬lL (ct (bo l) c)=true:=by
     rw[lL,Bool.or_eq_true,decide_eq_true_iff,decide_eq_true_iff];simp at h5;omega
    rw[if_neg hb]at hE hR
    have k8:=Nt l bg hl c hs
    have Qi:ct (dM l) c=ct (bo l) c:=by
     rw[show dM l=bo l from funext fun v=>S9 h2 v]
    rw[Qi]at k8
    refine gO ?_
    refine AQ.bz [(1,1),(0,0)] (by kernel_rfl) rfl rfl rfl rfl rfl rfl (by refine⟨?_,?_,trivial⟩<;>(simp only[cH,AV.cd,AV.rn,jH];rfl)) rfl k8 fun r' H' ⟨e1,e2⟩=>?_
    subst e1;subst e2
    refine sH ?_
    refine gO ?_
    exact AE.aX [3,1,0] rfl ⟨rfl,rfl,trivial⟩ (by simp only[go_sem,Nat.reduceAdd,Nat.reduceLeDiff,Nat.reduceSub,Int.reduceToNat,reduceCtorEq,ba,noMen,AV.mens,AV.men,cp,gK,Bool.or_false];first|done|rfl) ⟨rfl,.inl (by rw[hE,hR];rfl)⟩
  ·obtain⟨u,hu,aF⟩:=fT c k ag
   have hw:=wr (x:=(k:Int)+1) (by omega)
   have b8:=wr (x:=(n:Int)+1) (by omega)
   have bH:=kZ hs hu
   have mV:=bH.2.1
   rw[drop_cons hu,me]at hm
   refine gE @aA ?_
   refine cT ?_
   refine gE (an @aF @b8) ?_
   refine⟨by rw[aA];omega,?_⟩
   refine gE (an @ah @b8) ?_
   refine AP.fix 4 rfl rfl ?_
   refine sI ?_
   refine AP.loop rfl (α:=Nat×Nat) (fun s=>[(0,aK c),(7,.ob 1 0),(9,.mp 3),(10,Iv s.2),(31,aK c),(32,Iv c.length),(33,Iv k),(40,.im (.sl 3 (ax u.xs))),(41,Iv u.xs.length),(42,Iv s.1)]) (fun _=>[(3,.var (.map (kI m)) (vZ m)),(1,.var 158 [.mp 0]),(0,.var (.map (kI l)) (vT l))]) (fun s=>s.1<=u.xs.length/\s.2<=4000+(k+1)/\me (fun v=>wT (bo l v)) (fun v=>cG (bo l v)) c 0=match mX (fun v=>wT (bo l v)) (fun v=>cG (bo l v)) (u.xs.drop s.1) s.2 with
    |some m=>me (fun v=>wT (bo l v)) (fun v=>cG (bo l v)) (c.drop (k+1)) m
    |none=>none) (fun s=>u.xs.length-s.1) (0,n+1) ⟨by simp,by simp only;omega,hm⟩ (sU) rfl fun⟨j,q⟩ ⟨hj,hq,cZ⟩=>?_
   simp only at hj hq cZ⊢
   rcases Nat.eq_or_lt_of_le hj with dV|fQ
   ·rw[dV,List.drop_length,mX]at cZ
    refine gO ?_
    refine cF ?_
    refine gE @hw ?_
    exact AE.round (k+1,q) ⟨by simp only;omega,by simp only;omega,cZ⟩ (by simp only;omega) (sU) rfl
   ·obtain⟨v,hv,cg⟩:=cz u.xs j fQ
    have eH:=wr (x:=(j:Int)+1) (by omega)
    have fo:=cA bH.2.2 hv
    have Qz:wT v<=1000000:=by
     have h6:=zq c u (List.mem_of_getElem? hu)
     have h7:=wR u.xs v (List.mem_of_getElem? hv)
     rw[jE]at h6;omega
    have PD:=G0 m (fun v=>wT (bo l v)) (fun v=>cG (bo l v)) lh PC (fun v=>by have:=aO v;omega) (fun v=>by have:=aO v;omega) v fo Qz
    have jV:=GV (fun v=>wT (bo l v)) (fun v=>by have:=aO v;omega) v
    rw[drop_cons hv,mX]at cZ
    generalize jT (fun v=>wT (bo l v)) v=n2 at*
    generalize jS (fun v=>cG (bo l v)) v=d2 at*
    have vw:=wr (x:=(q:Int)+n2) (by omega)
    refine gO ?_
    refine cT ?_
    refine gE @cg ?_
    refine⟨by rw[ah];omega,?_⟩
    refine gO ?_
    refine AQ.fix 4 rfl rfl ?_
    refine sI ?_
    refine AQ.bz [(0,3)] (by kernel_rfl) rfl rfl rfl rfl rfl rfl (by refine⟨?_,trivial⟩;simp only[cH,AV.cd,AV.rn,DS];rfl) rfl PD fun r' H' ⟨e1,e2⟩=>?_
    subst e1;subst e2
    refine sH ?_
    refine gE @vw ?_
    refine AP.cond rfl rfl (fun h6=>?_) (fun h6=>?_)
    ·have h6:4000<q+n2\/100<d2:=by simp at h6;omega
     rw[if_pos h6]at cZ
     have hb:=eP cZ
     rw[Hd 0 (by omega)]at hE hR
     refine gO ?_
     exact AE.aX [4,3,1,0] rfl ⟨rfl,rfl,trivial⟩ (by simp only[go_sem,Nat.reduceAdd,Nat.reduceLeDiff,Nat.reduceSub,Int.reduceToNat,reduceCtorEq,ba,noMen,AV.mens,AV.men,cp,gK,Bool.or_false];first|done|rfl) ⟨rfl,.inr ⟨hR,by rw[hE];rfl⟩⟩
    ·have h6:¬(4000<q+n2\/100<d2):=by simp at h6;omega
     rw[if_neg h6]at cZ
     refine gE @eH ?_
     refine AE.dq [4] (by simp only[go_sem,Nat.reduceAdd,Nat.reduceLeDiff,Nat.reduceSub,Int.reduceToNat,reduceCtorEq,ba,noMen,AV.mens,AV.men,cp,gK,Bool.or_false];first|done|rfl) ?_
     refine sI ?_
     exact AE.round (j+1,q+n2) ⟨by simp only;omega,by simp only;omega,cZ⟩ (by simp only;omega) (sU) rfl
 ·subst e1;subst e2
  rw[if_pos h2]at hE hR
  refine sI ?_
  refine gO ?_
  refine AP.cond rfl rfl (fun h3=>?_) (fun h3=>?_)
  ·refine gO ?_
   exact AE.aX [0] rfl ⟨rfl,rfl,trivial⟩ (by simp only[go_sem,Nat.reduceAdd,Nat.reduceLeDiff,Nat.reduceSub,Int.reduceToNat,reduceCtorEq,ba,noMen,AV.mens,AV.men,cp,gK,Bool.or_false];first|done|rfl) ⟨rfl,.inr ⟨hR,by rw[hE];rfl⟩⟩
  ·exact absurd (by simpa using h3) h2
end Go.Proofs.YtpfohmboflcneaaGreatDoor
end
section
namespace Go.Proofs.YtpfohmboflcneaaGreatDoor
open Go Go.AL Go.RowKit
set_option maxRecDepth 10000
set_option linter.unusedSimpArgs false
set_option maxHeartbeats 4000000 in
set_option maxRecDepth 100000 in
theorem Nf (l:List UInt8) (h0:l≠[]) (b g cap:Nat) (p sv:Value) (rest:List Value) (w:World) (own:Nat->Prop) (br:own g)
  (ic:w.heap[b]?=some (.cells #[p,.slice (some ⟨g,0,none⟩) l.length cap,sv] 234 (0,0))) (hg:w.heap[g]?=some (.cells (Lib.byteCells l++rest).toArray 5 (0,0)))
  (qJ:l.length<=cap) (Hi:cap<=maxLen):
  Calls Tryz.prog 154 #[.pointer (some ⟨b,0,none⟩)] w fun e w'=>e= .returned (.string ⟨l.toArray⟩)/\Ext own w w':=by
 have i5:(Tryz.prog.info? 5).map (fun i=>(i.zero,i.size,i.bytes))=some (some (Value.int IntKind.u8 0),1,1):=by kernel_rfl
 obtain⟨i0,hi,WH,jw,vD⟩:=info_parts i5
 have Pg:Tryz.prog.cellsOf 5=1:=by simp[Program.cellsOf,hi,jw]
 have l7:l.length≠0:=by simpa using h0
 have c1:w.drew.cell? ⟨b,1,none⟩=some (.slice (some ⟨g,0,none⟩) l.length cap):=by
  have:w.drew.heap[b]?=some (.cells #[p,.slice (some ⟨g,0,none⟩) l.length cap,sv] 234 (0,0)):=ic
  rw[Lib.cell_of_heap this];rfl
 have pe:(Builtin.unsafeSliceData_ #[230] 278 #[.slice (some ⟨g,0,none⟩) l.length cap]).run Tryz.prog w.drew= .ok (.pointer (some ⟨g,0,none⟩)) w.drew:=
  Lib.run_unsafeSliceData_row _ _ _ _ _ _ (by omega)
 have BB:(Builtin.unsafeString_ #[278,3] 9 #[.pointer (some ⟨g,0,none⟩),.int .i64 l.length]).run Tryz.prog w.drew= .ok (.string ⟨l.toArray⟩) (w.drew.freeze ⟨g,0,none⟩ l.length):=by
  have cm:w.drew.heap[g]?=some (.cells (Lib.byteCells l++rest).toArray 5 (0,0)):=hg
  refine Lib.run_unsafeString_row w.drew 278 3 9 5 Tryz.underlying278 Pg g (Lib.byteCells l++rest).toArray.size (by simp[World.shape?,cm]) l h0 (by simp[Lib.byteCells_length]) (by unfold maxLen at Hi;omega) ?_
  intro j x hx
  have ag:j<l.length:=by
   rcases Nat.lt_or_ge j l.length with h|h
   ·exact h
   ·rw[List.getElem?_eq_none h]at hx;cases hx
  have e1:(⟨g,0,none⟩:Addr).add j=⟨g,j,none⟩:=by unfold Addr.add;by_cases hj:j=0<;>simp[hj]
  rw[e1,Lib.cell_of_heap cm,List.getElem?_toArray,List.getElem?_append_left (by rw[Lib.byteCells_length];exact ag)]
  simp[Lib.byteCells,hx]
 go_enter Tryz.func154,Tryz.ntmps154
 go_wp2
 go_region
 all_goals(go_wp2;go_ret;exact⟨rfl,(A3 w).trans (N5 w.drew ⟨g,0,none⟩ l.length br) (fun _ h=> .inl h)⟩)
set_option maxHeartbeats 4000000 in
set_option maxRecDepth 100000 in
theorem Na (b:Nat) (p sv:Value) (w:World) (own:Nat->Prop) (ic:w.heap[b]?=some (.cells #[p,.slice none 0 0,sv] 234 (0,0))):
  Calls Tryz.prog 154 #[.pointer (some ⟨b,0,none⟩)] w fun e w'=>e= .returned (.string ⟨#[]⟩)/\Ext own w w':=by
 have BB:∀(W:World) (q:Option Addr),(Builtin.unsafeString_ #[278,3] 9 #[.pointer q,.int .i64 0]).run Tryz.prog W= .ok (.string .empty) W:=fun W q=>Lib.run_unsafeString_none W _ _ _ q
 have c1:w.drew.cell? ⟨b,1,none⟩=some (.slice none 0 0):=by
  have:w.drew.heap[b]?=some (.cells #[p,.slice none 0 0,sv] 234 (0,0)):=ic
  rw[Lib.cell_of_heap this];rfl
 have pe:(Builtin.unsafeSliceData_ #[230] 278 #[.slice none 0 0]).run Tryz.prog w.drew= .ok (.pointer none) w.drew:=rfl
 go_enter Tryz.func154,Tryz.ntmps154
 go_wp2
 go_region
 all_goals(go_wp2;go_ret;exact⟨rfl,A3 w⟩)
set_option maxHeartbeats 4000000 in
set_option maxRecDepth 100000 in
theorem Nb (b g:Nat) (p sv:Value) (cur:Array Value) (w:World) (own:Nat->Prop) (ic:w.heap[b]?=some (.cells #[p,.slice (some ⟨g,0,none⟩) 0 0,sv] 234 (0,0))) (hg:w.heap[g]?=some (.cells cur 5 (0,0))):
  Calls Tryz.prog 154 #[.pointer (some ⟨b,0,none⟩)] w fun e w'=>e= .returned (.string ⟨#[]⟩)/\Ext own w w':=by
 have BB:∀(W:World) (q:Option Addr),(Builtin.unsafeString_ #[278,3] 9 #[.pointer q,.int .i64 0]).run Tryz.prog W= .ok (.string .empty) W:=fun W q=>Lib.run_unsafeString_none W _ _ _ q
 have ag:b<w.heap.size:=by
  rcases Nat.lt_or_ge b w.heap.size with h'|h'
  ·exact h'
  ·simp[Array.getElem?_eq_none h']at ic
 have c1:w.drew.cell? ⟨b,1,none⟩=some (.slice (some ⟨g,0,none⟩) 0 0):=by
  have:w.drew.heap[b]?=some (.cells #[p,.slice (some ⟨g,0,none⟩) 0 0,sv] 234 (0,0)):=ic
  rw[Lib.cell_of_heap this];rfl
 have pe:(Builtin.unsafeSliceData_ #[230] 278 #[.slice (some ⟨g,0,none⟩) 0 0]).run Tryz.prog w.drew= .ok (.pointer (some ⟨w.drew.heap.size,0,none⟩)) (w.drew.alloc (.view ⟨g,0,none⟩ 5)):=
  Lib.run_unsafeSliceData_zero w.drew _ _ 5 Tryz.underlying278 ⟨g,0,none⟩ 0 (5,cur.size) (by have cm:w.drew.heap[g]?=some (.cells cur 5 (0,0)):=hg;simp[World.shape?,cm])
 have c2:(w.drew.alloc (.view ⟨g,0,none⟩ 5)).cell? ⟨b,1,none⟩=some (.slice (some ⟨g,0,none⟩) 0 0):=by
  have:(w.drew.alloc (.view ⟨g,0,none⟩ 5)).heap[b]?=_:=(Lib.alloc_old w.drew _ b ag).trans ic
  rw[Lib.cell_of_heap this];rfl
 have c3:(w.alloc (.view ⟨g,0,none⟩ 5)).drew.cell? ⟨b,1,none⟩=some (.slice (some ⟨g,0,none⟩) 0 0):=c2
 have c0:w.cell? ⟨b,1,none⟩=some (.slice (some ⟨g,0,none⟩) 0 0):=c1
 go_enter Tryz.func154,Tryz.ntmps154
 go_wp2
 go_region
 all_goals(go_wp2;go_ret;exact⟨rfl,ui (w:=w) _⟩)
set_option maxHeartbeats 4000000 in
set_option maxRecDepth 100000 in
theorem Nc (b g cap:Nat) (p sv:Value) (w:World) (own:Nat->Prop) (qE:cap≠0) (ic:w.heap[b]?=some (.cells #[p,.slice (some ⟨g,0,none⟩) 0 cap,sv] 234 (0,0))):
  Calls Tryz.prog 154 #[.pointer (some ⟨b,0,none⟩)] w fun e w'=>e= .returned (.string ⟨#[]⟩)/\Ext own w w':=by
 have BB:∀(W:World) (q:Option Addr),(Builtin.unsafeString_ #[278,3] 9 #[.pointer q,.int .i64 0]).run Tryz.prog W= .ok (.string .empty) W:=fun W q=>Lib.run_unsafeString_none W _ _ _ q
 have c1:w.drew.cell? ⟨b,1,none⟩=some (.slice (some ⟨g,0,none⟩) 0 cap):=by
  have:w.drew.heap[b]?=some (.cells #[p,.slice (some ⟨g,0,none⟩) 0 cap,sv] 234 (0,0)):=ic
  rw[Lib.cell_of_heap this];rfl
 have pe:(Builtin.unsafeSliceData_ #[230] 278 #[.slice (some ⟨g,0,none⟩) 0 cap]).run Tryz.prog w.drew= .ok (.pointer (some ⟨g,0,none⟩)) w.drew:=
  Lib.run_unsafeSliceData_row _ _ _ _ _ _ qE
 clear qE
 go_enter Tryz.func154,Tryz.ntmps154
 go_wp2
 go_region
 all_goals(go_wp2;go_ret;exact⟨rfl,A3 w⟩)
theorem Ff {w:World} {I:Nat->Prop}:∀(l:List UInt8) (ae:List (List Value)),IV.aH w I (di l) ae->ae.flatten=Lib.byteCells l
 |[],ae,h=>by simp only[di,List.map_nil,IV.aH]at h;subst h;rfl
 |x::l,ae,h=>by
  simp only[di,List.map_cons,IV.aH,IV.ab,IV.den]at h
  obtain⟨u,ao,rfl,⟨v,vs,rfl,⟨rfl,_⟩,rfl⟩,h2⟩:=h
  have:=Ff l ao h2
  simp[Lib.byteCells,this]
theorem Ng (l:List UInt8) (p:AV) (sh:Bool):aj Tryz.prog 154 [.ob 0 0] [(0,.var 234 [p,.os 1 1 0 l.length,Bv sh]),(1,.vec 5 1 (di l))] (fun r H'=>H'=[]/\r=Sv l):=by
 refine aj.drop (r:=Sv l) (by rfl) rfl ⟨rfl,rfl⟩ fun w φ I vs hd hR _=>?_
 simp only[AV.ab,AV.den]at hd
 obtain⟨u,us,rfl,⟨b,hb,rfl⟩,rfl⟩:=hd
 have h0:=hR.own 0 _ _ rfl hb
 simp only[Ob.at,Sh.has,AV.ab,AV.den]at h0
 obtain⟨b',us,BE,ic,⟨u,p_,rfl,_,v,Eh,rfl,hv,sv,Ud,rfl,_,rfl⟩,_⟩:=h0
 cases BE
 have key:Calls Tryz.prog 154 #[.pointer (some ⟨b,0,none⟩)] w fun e' w'=>e'= .returned (.string ⟨l.toArray⟩)/\Ext (cP φ) w w':=by
  rcases hv with⟨_,_,hl,rfl⟩|⟨g,c,hg,rfl,h2,h3,h4⟩
  ·have:l=[]:=List.eq_nil_of_length_eq_zero hl
   subst this
   exact Na b u sv w _ ic
  ·have U:=hR.own 1 _ _ rfl hg
   simp only[Ob.at]at U
   rcases U with⟨U,_⟩|⟨g',ae,rest,fB,BY,hr,_⟩
   ·cases U
   cases fB
   have dA:=Ff l ae hr
   rw[dA]at BY
   simp only[Nat.zero_mul]at ic
   by_cases hl:l=[]
   ·subst hl
    by_cases hc:c=0
    ·subst hc
     exact Nb b g u sv _ w _ ic BY
    ·exact Nc b g c u sv w _ hc ic
   ·exact Nf l hl b g c u sv rest w _ ⟨1,hg⟩ ic BY h2 h3
 refine key.mono fun e w' ⟨he,hx⟩=>⟨_,he,?_,hx⟩
 rw[kg]
 rfl
theorem Fb:∃j,Tryz.prog.info? 232=some j/\j.size≠0:=by
 have h:(Tryz.prog.info? 232).map (·.size)=some 2:=by kernel_rfl
 obtain⟨j,hj,hs⟩:=Option.map_eq_some_iff.1 h
 exact⟨j,hj,by rw[hs];decide⟩
theorem Nh:liesAt Tryz.prog Tryz.prog.depth 234 (3/Tryz.prog.cellsOf 234) 0 232 1=true:=by kernel_rfl
theorem KK {w:World} {φ:al} {I:Nat->Prop} {H:aa} {b g:Nat} {p q:AV} {sh:Bool} (hR:Real w φ I H) (hl:lk H b=some (.var 234 [p,q,Bv sh])) (hb:φ b=some (some g)):w.shape? g=some (234,3):=by
 have h0:=hR.own b _ _ hl hb
 simp only[Ob.at,Sh.has,AV.ab]at h0
 obtain⟨b',us,BE,ic,⟨u,p_,rfl,_,v,Eh,rfl,hv,sv,Ud,rfl,_,rfl⟩,_⟩:=h0
 cases BE
 simp[World.shape?,ic]
theorem DE {C:Cx} {φ:al} {I:Nat->Prop} {E:Env} {H:aa} {a:Act} {w:World} (hs:bn C φ I E H a w) {t:Nat} (ht:lk E t=some (.ob 0 0)):∃g,φ 0=some (some g)/\a.eval (.tmp t)= .pointer (some ⟨g,0,none⟩):=by
 obtain⟨u,hu,hd⟩:=hs.env _ _ ht
 simp only[AV.den]at hd
 obtain⟨g,hg,rfl⟩:=hd
 exact⟨g,hg,by simp only[Act.eval,Array.getD_eq_getD_getElem?,hu,Option.getD_some]⟩
set_option maxRecDepth 10000
set_option maxHeartbeats 1000000
theorem FG (q:AV) (sh:Bool) (rows:List (List IV)):aj Tryz.prog 196 [.ob 0 0] [(0,.var 234 [.im (.v (.pointer none)),q,Bv sh]),(1,.vec 5 1 rows)] (fun r H'=>H'=[(0,.var 234 [.ob 0 0,q,Bv sh]),(1,.vec 5 1 rows)]/\r= .aM []):=by
 obtain⟨j,hj,uR⟩:=Fb
 refine aj.walk [0,6,19] [] Tryz.func196 rfl Tryz.ntmps196 (by kernel_rfl) (by rfl) rfl fun W own I0 aq lay=>?_
 refine gO ?_
 refine AQ.val (.ob 0 0) (by kernel_rfl) rfl (fun φ I a w hs=>?_) ?_
 ·obtain⟨g,hg,k9⟩:=DE (t:=8) hs rfl
  have dB:=KK hs.st.real rfl hg
  refine⟨_,?_,by simp only[AV.den];exact⟨g,hg,rfl⟩⟩
  simp only[execOp,k9,Sem.run_bind]
  rw[Lib.run_to_unsafe w ⟨g,0,none⟩ Tryz.underlying229 Tryz.underlying300 hj uR dB (Nat.zero_lt_succ _)]
  rfl
 refine gO ?_
 refine AQ.val (.ob 0 0) (by kernel_rfl) rfl (fun φ I a w hs=>?_) ?_
 ·obtain⟨g,hg,k9⟩:=DE (t:=9) hs rfl
  refine⟨_,?_,by simp only[AV.den];exact⟨g,hg,rfl⟩⟩
  simp only[execOp,Sem.run_bind,resolve,invoke,Sem.run_pure,Result.andThen_ok,List.map_toArray,List.map_cons,List.map_nil,k9]
  have hf:a.eval (Operand.func 224)= .func (.func 224) #[] #[]:=rfl
  simp only[hf,Deferred.ofValue,Sem.run_pure,Result.andThen_ok,Array.append_empty,Array.empty_append]
  rw[run_callFunc_extern Tryz.func224 (by kernel_rfl) (by kernel_rfl) (by kernel_rfl) (e:=Extern.AbiNoEscape.same) (by kernel_rfl)]
  rw[Lib.run_noEscape]
  rfl
 refine gO ?_
 refine AQ.val (.ob 0 0) (by kernel_rfl) rfl (fun φ I a w hs=>?_) ?_
 ·obtain⟨g,hg,k9⟩:=DE (t:=10) hs rfl
  have dB:=KK hs.st.real rfl hg
  refine⟨_,?_,by simp only[AV.den];exact⟨g,hg,rfl⟩⟩
  simp only[execOp,k9,Sem.run_bind]
  rw[Lib.run_from_unsafe w ⟨g,0,none⟩ Tryz.underlying300 Tryz.underlying229 hj dB Nh]
  rfl
 refine gO ?_
 exact AE.iL rfl trivial ⟨rfl,rfl⟩
theorem FH (q:AV) (sh:Bool) (rows:List (List IV)):aj Tryz.prog 196 [.ob 0 0] [(0,.var 234 [.ob 0 0,q,Bv sh]),(1,.vec 5 1 rows)] (fun r H'=>H'=[(0,.var 234 [.ob 0 0,q,Bv sh]),(1,.vec 5 1 rows)]/\r= .aM []):=by
 obtain⟨j,hj,uR⟩:=Fb
 refine aj.walk [0,6,19] [] Tryz.func196 rfl Tryz.ntmps196 (by kernel_rfl) (by rfl) rfl fun W own I0 aq lay=>?_
 refine gO ?_
 exact AE.iL rfl trivial ⟨rfl,rfl⟩
theorem UB (p:AV) (hp:p= .im (.v (.pointer none))\/p= .ob 0 0) (sh:Bool) (l m:List UInt8) (n:Nat) (hn:n=l.length) (hb:l.length+m.length<=1000000000):
  aj Tryz.prog 152 [.ob 0 0,Sv m] [(0,.var 234 [p,.os 1 1 0 n,Bv sh]),(1,.vec 5 1 (di l))]
   (fun r H'=>H'=[(0,.var 234 [.ob 0 0,.os 2 1 0 (n+m.length),Bv sh]),(2,.vec 5 1 (di (l++m)))]/\r= .aM [Iv m.length,.im (.v .nilIface)]):=by
 subst hn
 have ig:aj Tryz.prog 196 [.ob 0 0] [(0,.var 234 [p,.os 1 1 0 l.length,Bv sh]),(1,.vec 5 1 (di l))] (fun r H'=>H'=[(0,.var 234 [.ob 0 0,.os 1 1 0 l.length,Bv sh]),(1,.vec 5 1 (di l))]/\r= .aM []):=by
  rcases hp with rfl|rfl
  ·exact FG _ _ _
  ·exact FH _ _ _
 have Cg:jG (bm [(0,0),(1,1)] 2) [(0,.var 234 [p,.os 1 1 0 l.length,Bv sh]),(1,.vec 5 1 (di l))] [(0,.var 234 [p,.os 1 1 0 l.length,Bv sh]),(1,.vec 5 1 (di l))]:=by
  rcases hp with rfl|rfl
  ·exact⟨rfl,rfl,trivial⟩
  ·exact⟨rfl,rfl,trivial⟩
 refine aj.walk [0,1,4,5] [] Tryz.func152 rfl Tryz.ntmps152 (by kernel_rfl) (by rfl) rfl fun W own I0 aq lay=>?_
 refine gO ?_
 refine AQ.bz [(0,0),(1,1)] (by kernel_rfl) rfl rfl rfl rfl rfl rfl Cg rfl ig ?_
 rintro r H1 ⟨rfl,rfl⟩
 refine⟨rfl,?_⟩
 refine gO ?_
 refine AQ.rename 1 2 rfl rfl rfl ?_
 refine sI ?_
 refine AQ.kill 2 ?_
 refine sI ?_
 refine AQ.MJ (hnb:=rfl) (l:=m) (by kernel_rfl) rfl rfl rfl rfl (by kernel_rfl) (by kernel_rfl) (by kernel_rfl) (by kernel_rfl) (by kernel_rfl) (mC l).symm (by rw[mC];omega) ?_
 refine gO ?_
 exact AE.ret rfl ⟨rfl,rfl,trivial⟩ ⟨by rw[mC,show di (l++m)=di l++di m by simp[di]],rfl⟩
end Go.Proofs.YtpfohmboflcneaaGreatDoor
end
section
namespace Go.Proofs
open Go.Shelf
def Tryz.Rh:Go.Shelf.Ren:=⟨fun|171=>202|243=>227|246=>249|283=>259|284=>260|285=>261|286=>262|129=>240|317=>266|318=>267|319=>268|320=>269|337=>270|338=>271|n=>n,fun|3=>3|9=>9|2=>2|4=>4|171=>338|0=>0|53=>314|37=>230|5=>5|173=>340|212=>350|51=>312|20=>20|213=>351|46=>295|232=>352|233=>353|n=>n,fun|17=>3|18=>4|19=>5|n=>n⟩
theorem Tryz.Rg:Go.Proofs.LaysM.n171 Tryz.prog Tryz.Rh:={
 mixed:=by kernel_rfl
 f129:=Tryz.func240.trans (congrArg some (by kernel_rfl))
 f171:=Tryz.func202.trans (congrArg some (by kernel_rfl))
 f243:=Tryz.func227.trans (congrArg some (by kernel_rfl))
 f246:=Tryz.func249.trans (congrArg some (by kernel_rfl))
 f283:=Tryz.func259.trans (congrArg some (by kernel_rfl))
 f284:=Tryz.func260.trans (congrArg some (by kernel_rfl))
 f285:=Tryz.func261.trans (congrArg some (by kernel_rfl))
 f286:=Tryz.func262.trans (congrArg some (by kernel_rfl))
 f317:=Tryz.func266.trans (congrArg some (by kernel_rfl))
 f318:=Tryz.func267.trans (congrArg some (by kernel_rfl))
 f319:=Tryz.func268.trans (congrArg some (by kernel_rfl))
 f320:=Tryz.func269.trans (congrArg some (by kernel_rfl))
 f337:=Tryz.func270.trans (congrArg some (by kernel_rfl))
 f338:=Tryz.func271.trans (congrArg some (by kernel_rfl))
 t0:=Tryz.underlying0
 a0:=Tryz.isAgg0
 z0:=Tryz.sizeOf0
 v0:=Tryz.zeroValue0
 t2:=Tryz.underlying2
 a2:=Tryz.isAgg2
 z2:=Tryz.sizeOf2
 v2:=Tryz.zeroValue2
 t3:=Tryz.underlying3
 a3:=Tryz.isAgg3
 z3:=Tryz.sizeOf3
 v3:=Tryz.zeroValue3
 t4:=Tryz.underlying4
 a4:=Tryz.isAgg4
 z4:=Tryz.sizeOf4
 v4:=Tryz.zeroValue4
 t5:=Tryz.underlying5
 a5:=Tryz.isAgg5
 z5:=Tryz.sizeOf5
 v5:=Tryz.zeroValue5
 t9:=Tryz.underlying9
 a9:=Tryz.isAgg9
 z9:=Tryz.sizeOf9
 v9:=Tryz.zeroValue9
 t20:=Tryz.underlying20
 a20:=Tryz.isAgg20
 z20:=Tryz.sizeOf20
 v20:=Tryz.zeroValue20
 t37:=Tryz.underlying230
 a37:=Tryz.isAgg230
 z37:=Tryz.sizeOf230
 v37:=Tryz.zeroValue230
 t46:=Tryz.underlying295
 a46:=Tryz.isAgg295
 z46:=Tryz.sizeOf295
 v46:=Tryz.zeroValue295
 t51:=Tryz.underlying312
 a51:=Tryz.isAgg312
 z51:=Tryz.sizeOf312
 v51:=Tryz.zeroValue312
 t53:=Tryz.underlying314
 a53:=Tryz.isAgg314
 z53:=Tryz.sizeOf314
 v53:=Tryz.zeroValue314
 t171:=Tryz.underlying338
 a171:=Tryz.isAgg338
 z171:=Tryz.sizeOf338
 v171:=Tryz.zeroValue338
 t173:=Tryz.underlying340
 a173:=Tryz.isAgg340
 z173:=Tryz.sizeOf340
 v173:=Tryz.zeroValue340
 t212:=Tryz.underlying350
 a212:=Tryz.isAgg350
 z212:=Tryz.sizeOf350
 v212:=Tryz.zeroValue350
 t213:=Tryz.underlying351
 a213:=Tryz.isAgg351
 z213:=Tryz.sizeOf351
 t232:=Tryz.underlying352
 a232:=Tryz.isAgg352
 z232:=Tryz.sizeOf352
 v232:=Tryz.zeroValue352
 t233:=Tryz.underlying353
 a233:=Tryz.isAgg353
 z233:=Tryz.sizeOf353
 v233:=Tryz.zeroValue353
 g17:=by kernel_rfl
 g18:=by kernel_rfl
 g19:=by kernel_rfl
 i0:=by kernel_rfl
 i2:=by kernel_rfl
 i3:=by kernel_rfl
 i4:=by kernel_rfl
 i5:=by kernel_rfl
 i9:=by kernel_rfl
 i20:=by kernel_rfl
 i37:=by kernel_rfl
 i46:=by kernel_rfl
 i51:=by kernel_rfl
 i53:=by kernel_rfl
 i171:=by kernel_rfl
 i173:=by kernel_rfl
 i212:=by kernel_rfl
 i232:=by kernel_rfl
 i233:=by kernel_rfl
 m17:=by kernel_rfl
 m18:=by kernel_rfl
 m19:=by kernel_rfl}
open Go.RowKit Go.Sort Go.Lib in
theorem Tryz.strconv_Itoa (n:Int) (h0:-9223372036854775808<=n) (U:n<=9223372036854775807) (w:World) (Qp:Lib.TabIs Tryz.prog w "internal/strconv.uint64pow10" .u64 Lib.pow10Tab):
  Calls Tryz.prog 202 #[.int .i64 n] w fun e w'=>e= .returned (.string ⟨(Lib.itoa n).toArray⟩)/\∃k os,w'=grow (w.drewN k) os:=Any.strconv_Itoa Tryz.Rg n h0 U w Qp
def Tryz.Rf:Go.Shelf.Ren:=⟨fun|172=>201|244=>225|245=>226|247=>244|279=>245|280=>246|281=>247|282=>248|287=>256|316=>257|171=>202|205=>258|321=>264|322=>265|243=>227|246=>249|283=>259|284=>260|285=>261|286=>262|129=>240|317=>266|318=>267|319=>268|320=>269|337=>270|338=>271|n=>n,fun|9=>9|3=>3|75=>236|76=>237|4=>4|5=>5|167=>319|37=>230|0=>0|85=>320|2=>2|168=>322|53=>314|175=>332|46=>295|210=>336|127=>278|145=>348|143=>346|21=>21|171=>338|173=>340|212=>350|51=>312|20=>20|213=>351|232=>352|233=>353|80=>240|n=>n,fun|15=>1|16=>2|17=>3|18=>4|19=>5|n=>n⟩
theorem Tryz.zb:Go.Proofs.LaysC.n172 Tryz.prog Tryz.Rf:={
 mixed:=by kernel_rfl
 f129:=Tryz.func240.trans (congrArg some (by kernel_rfl))
 f171:=Tryz.func202.trans (congrArg some (by kernel_rfl))
 f172:=Tryz.func201.trans (congrArg some (by kernel_rfl))
 f205:=Tryz.func258.trans (congrArg some (by kernel_rfl))
 f243:=Tryz.func227.trans (congrArg some (by kernel_rfl))
 f244:=Tryz.func225.trans (congrArg some (by kernel_rfl))
 f245:=Tryz.func226.trans (congrArg some (by kernel_rfl))
 f246:=Tryz.func249.trans (congrArg some (by kernel_rfl))
 f247:=Tryz.func244.trans (congrArg some (by kernel_rfl))
 f279:=Tryz.func245.trans (congrArg some (by kernel_rfl))
 f280:=Tryz.func246.trans (congrArg some (by kernel_rfl))
 f281:=Tryz.func247.trans (congrArg some (by kernel_rfl))
 f282:=Tryz.func248.trans (congrArg some (by kernel_rfl))
 f283:=Tryz.func259.trans (congrArg some (by kernel_rfl))
 f284:=Tryz.func260.trans (congrArg some (by kernel_rfl))
 f285:=Tryz.func261.trans (congrArg some (by kernel_rfl))
 f286:=Tryz.func262.trans (congrArg some (by kernel_rfl))
 f287:=Tryz.func256.trans (congrArg some (by kernel_rfl))
 f316:=Tryz.func257.trans (congrArg some (by kernel_rfl))
 f317:=Tryz.func266.trans (congrArg some (by kernel_rfl))
 f318:=Tryz.func267.trans (congrArg some (by kernel_rfl))
 f319:=Tryz.func268.trans (congrArg some (by kernel_rfl))
 f320:=Tryz.func269.trans (congrArg some (by kernel_rfl))
 f321:=Tryz.func264.trans (congrArg some (by kernel_rfl))
 f322:=Tryz.func265.trans (congrArg some (by kernel_rfl))
 f337:=Tryz.func270.trans (congrArg some (by kernel_rfl))
 f338:=Tryz.func271.trans (congrArg some (by kernel_rfl))
 t0:=Tryz.underlying0
 a0:=Tryz.isAgg0
 z0:=Tryz.sizeOf0
 v0:=Tryz.zeroValue0
 t2:=Tryz.underlying2
 a2:=Tryz.isAgg2
 z2:=Tryz.sizeOf2
 v2:=Tryz.zeroValue2
 t3:=Tryz.underlying3
 a3:=Tryz.isAgg3
 z3:=Tryz.sizeOf3
 v3:=Tryz.zeroValue3
 t4:=Tryz.underlying4
 a4:=Tryz.isAgg4
 z4:=Tryz.sizeOf4
 v4:=Tryz.zeroValue4
 t5:=Tryz.underlying5
 a5:=Tryz.isAgg5
 z5:=Tryz.sizeOf5
 v5:=Tryz.zeroValue5
 t9:=Tryz.underlying9
 a9:=Tryz.isAgg9
 z9:=Tryz.sizeOf9
 v9:=Tryz.zeroValue9
 t20:=Tryz.underlying20
 a20:=Tryz.isAgg20
 z20:=Tryz.sizeOf20
 v20:=Tryz.zeroValue20
 t21:=Tryz.underlying21
 a21:=Tryz.isAgg21
 z21:=Tryz.sizeOf21
 v21:=Tryz.zeroValue21
 t37:=Tryz.underlying230
 a37:=Tryz.isAgg230
 z37:=Tryz.sizeOf230
 v37:=Tryz.zeroValue230
 t46:=Tryz.underlying295
 a46:=Tryz.isAgg295
 z46:=Tryz.sizeOf295
 v46:=Tryz.zeroValue295
 t51:=Tryz.underlying312
 a51:=Tryz.isAgg312
 z51:=Tryz.sizeOf312
 v51:=Tryz.zeroValue312
 t53:=Tryz.underlying314
 a53:=Tryz.isAgg314
 z53:=Tryz.sizeOf314
 v53:=Tryz.zeroValue314
 t75:=Tryz.underlying236
 a75:=Tryz.isAgg236
 z75:=Tryz.sizeOf236
 v75:=Tryz.zeroValue236
 t76:=Tryz.underlying237
 a76:=Tryz.isAgg237
 z76:=Tryz.sizeOf237
 v76:=Tryz.zeroValue237
 t85:=Tryz.underlying320
 a85:=Tryz.isAgg320
 z85:=Tryz.sizeOf320
 v85:=Tryz.zeroValue320
 t127:=Tryz.underlying278
 a127:=Tryz.isAgg278
 z127:=Tryz.sizeOf278
 v127:=Tryz.zeroValue278
 t143:=Tryz.underlying346
 a143:=Tryz.isAgg346
 z143:=Tryz.sizeOf346
 v143:=Tryz.zeroValue346
 t145:=Tryz.underlying348
 a145:=Tryz.isAgg348
 z145:=Tryz.sizeOf348
 v145:=Tryz.zeroValue348
 t167:=Tryz.underlying319
 a167:=Tryz.isAgg319
 z167:=Tryz.sizeOf319
 v167:=Tryz.zeroValue319
 t168:=Tryz.underlying322
 a168:=Tryz.isAgg322
 z168:=Tryz.sizeOf322
 v168:=Tryz.zeroValue322
 t171:=Tryz.underlying338
 a171:=Tryz.isAgg338
 z171:=Tryz.sizeOf338
 v171:=Tryz.zeroValue338
 t173:=Tryz.underlying340
 a173:=Tryz.isAgg340
 z173:=Tryz.sizeOf340
 v173:=Tryz.zeroValue340
 t175:=Tryz.underlying332
 a175:=Tryz.isAgg332
 z175:=Tryz.sizeOf332
 v175:=Tryz.zeroValue332
 t210:=Tryz.underlying336
 a210:=Tryz.isAgg336
 z210:=Tryz.sizeOf336
 v210:=Tryz.zeroValue336
 t212:=Tryz.underlying350
 a212:=Tryz.isAgg350
 z212:=Tryz.sizeOf350
 v212:=Tryz.zeroValue350
 t213:=Tryz.underlying351
 a213:=Tryz.isAgg351
 z213:=Tryz.sizeOf351
 t232:=Tryz.underlying352
 a232:=Tryz.isAgg352
 z232:=Tryz.sizeOf352
 v232:=Tryz.zeroValue352
 t233:=Tryz.underlying353
 a233:=Tryz.isAgg353
 z233:=Tryz.sizeOf353
 v233:=Tryz.zeroValue353
 g15:=by kernel_rfl
 g16:=by kernel_rfl
 g17:=by kernel_rfl
 g18:=by kernel_rfl
 g19:=by kernel_rfl
 t80:=Tryz.underlying240
 a80:=Tryz.isAgg240
 z80:=Tryz.sizeOf240
 v80:=Tryz.zeroValue240
 i0:=by kernel_rfl
 i2:=by kernel_rfl
 i3:=by kernel_rfl
 i4:=by kernel_rfl
 i5:=by kernel_rfl
 i9:=by kernel_rfl
 i20:=by kernel_rfl
 i21:=by kernel_rfl
 i37:=by kernel_rfl
 i46:=by kernel_rfl
 i51:=by kernel_rfl
 i53:=by kernel_rfl
 i75:=by kernel_rfl
 i76:=by kernel_rfl
 i80:=by kernel_rfl
 i85:=by kernel_rfl
 i127:=by kernel_rfl
 i143:=by kernel_rfl
 i145:=by kernel_rfl
 i167:=by kernel_rfl
 i168:=by kernel_rfl
 i171:=by kernel_rfl
 i173:=by kernel_rfl
 i175:=by kernel_rfl
 i210:=by kernel_rfl
 i212:=by kernel_rfl
 i232:=by kernel_rfl
 i233:=by kernel_rfl
 m15:=by kernel_rfl
 m16:=by kernel_rfl
 m17:=by kernel_rfl
 m18:=by kernel_rfl
 m19:=by kernel_rfl
 c0:=by kernel_rfl
 c2:=by kernel_rfl
 c3:=by kernel_rfl
 c4:=by kernel_rfl
 c5:=by kernel_rfl
 c9:=by kernel_rfl
 c20:=by kernel_rfl
 c21:=by kernel_rfl
 c37:=by kernel_rfl
 c46:=by kernel_rfl
 c51:=by kernel_rfl
 c53:=by kernel_rfl
 c75:=by kernel_rfl
 c76:=by kernel_rfl
 c80:=by kernel_rfl
 c85:=by kernel_rfl
 c127:=by kernel_rfl
 c143:=by kernel_rfl
 c145:=by kernel_rfl
 c167:=by kernel_rfl
 c168:=by kernel_rfl
 c171:=by kernel_rfl
 c173:=by kernel_rfl
 c175:=by kernel_rfl
 c210:=by kernel_rfl
 c212:=by kernel_rfl
 c213:=by kernel_rfl
 c232:=by kernel_rfl
 c233:=by kernel_rfl}
open Go.RowKit in
theorem Tryz.strconv_Atoi_ok (s:ByteArray) (PR:s.size<=9223372036854775806) (v:Int) (h:Lib.atoiAll s.data.toList= .ok v) (w:World):
  Calls Tryz.prog 201 #[.string s] w fun e w'=>e= .returned (.tuple #[.int .i64 v,.nilIface])/\(w'=w\/∃t,w'=Lib.bytesWorld w 5 t):=Any.strconv_Atoi_ok Tryz.zb s PR v h w
open Go.RowKit in
theorem Tryz.strconv_Atoi_syntax_var (s:ByteArray) (B3:s.size<=281474976710656) (h:Lib.atoiAll s.data.toList= .«syntax») (tp:TypeId) (p:Value) (w:World) (sA:w.var? Tryz.prog "strconv.ErrSyntax" =some #[.iface tp p]):
  Calls Tryz.prog 201 #[.string s] w fun e w'=>∃N,e= .returned (.tuple #[.int .i64 0,.iface 322 (.pointer (some ⟨N,0,none⟩))])/\w.heap.size<=N/\w'.heap[N]?=some (.cells #[.string ⟨#[65,116,111,105]⟩,.string s,.iface tp p] 336 (0,0))/\Below w.heap.size w w':=Any.strconv_Atoi_syntax_var Tryz.zb s B3 h tp p w sA
open Go.RowKit in
theorem Tryz.strconv_Atoi_range_var (s:ByteArray) (B3:s.size<=281474976710656) (h:Lib.atoiAll s.data.toList= .range) (tp:TypeId) (p:Value) (w:World) (sA:w.var? Tryz.prog "strconv.ErrRange" =some #[.iface tp p]):
  Calls Tryz.prog 201 #[.string s] w fun e w'=>∃N,e= .returned (.tuple #[.int .i64 (Lib.atoiSat s.data.toList),.iface 322 (.pointer (some ⟨N,0,none⟩))])/\w.heap.size<=N/\w'.heap[N]?=some (.cells #[.string ⟨#[65,116,111,105]⟩,.string s,.iface tp p] 336 (0,0))/\Below w.heap.size w w':=Any.strconv_Atoi_range_var Tryz.zb s B3 h tp p w sA
def Tryz.Re:Go.Shelf.Ren:=⟨fun|99=>160|206=>203|n=>n,fun|9=>9|4=>4|3=>3|n=>n,fun|n=>n⟩
theorem Tryz.Rc:Go.Proofs.Lays.n99 Tryz.prog Tryz.Re:={
 mixed:=by kernel_rfl
 f99:=Tryz.func160.trans (congrArg some (by kernel_rfl))
 f206:=Tryz.func203.trans (congrArg some (by kernel_rfl))
 t3:=Tryz.underlying3
 a3:=Tryz.isAgg3
 z3:=Tryz.sizeOf3
 v3:=Tryz.zeroValue3
 t4:=Tryz.underlying4
 a4:=Tryz.isAgg4
 z4:=Tryz.sizeOf4
 v4:=Tryz.zeroValue4
 t9:=Tryz.underlying9
 a9:=Tryz.isAgg9
 z9:=Tryz.sizeOf9
 v9:=Tryz.zeroValue9}
open Go.RowKit Go.Lib in
theorem Tryz.strings_HasPrefix (s p:ByteArray) (w:World):
  Calls Tryz.prog 160 #[.string s,.string p] w fun e w'=>e= .returned (.bool (Lib.hasPrefix s.data.toList p.data.toList))/\w'=w:=Any.strings_HasPrefix Tryz.Rc s p w
end Go.Proofs
end
section
namespace Go.Proofs.YtpfohmboflcneaaGreatDoor
open Go Go.AL Go.RowKit
set_option maxRecDepth 10000
set_option maxHeartbeats 4000000
def gb (l:List UInt8):Int×Bool:=match Lib.atoiAll l with
 | .ok v=>(v,true)
 | .range=>(Lib.atoiSat l,false)
 |_=>(0,false)
def k4 (b:Bool):AV:=bif b then .im (.v .nilIface)else .wr (.iface 322) .top
theorem Ek {P:Program} {w:World} {I:Nat->Prop} {n:String} {Q:Obj->Prop} (hV:VK P w I) (hm:(n,Q)∈q0) (hs:(P.globalNamed n).isSome=true):∃g o,P.globalNamed n=some g/\w.heap[g]?=some o/\Q o:=by
 obtain⟨g,hg⟩:=Option.isSome_iff_exists.1 hs
 obtain⟨_,o,U,h2⟩:=hV _ hm g hg
 exact⟨g,o,hg,U,h2⟩
theorem E2 (l:List UInt8) (hl:l.length<=1000000000):aP Tryz.prog 201 [Sv l] (.aM [Iv (gb l).1,k4 (gb l).2]):=by
 refine aP.DF (by rfl) (by cases(gb l).2<;>rfl) fun w φ I vs hd hI hV=>?_
 simp only[AV.ab]at hd
 obtain⟨u,us,rfl,hu,rfl⟩:=hd
 rw[kg]at hu
 subst hu
 have hb:(BA l).data.toList=l:=rD l
 have aO:(BA l).size=l.length:=rfl
 cases h:Lib.atoiAll l with
 |ok v=>
  have e:gb l=(v,true):=by simp[gb,h]
  rw[e]
  refine(Tryz.strconv_Atoi_ok (BA l) (by omega) v (by rw[hb];exact h) w).mono fun e w' ⟨he,hw⟩=>⟨_,he,?_,?_⟩
  ·simp only[AV.den,AV.ab,IV.den,k4,cond_true]
   exact⟨_,⟨_,_,rfl,⟨rfl,rfl⟩,_,_,rfl,⟨rfl,rfl⟩,rfl⟩,rfl⟩
  ·rcases hw with rfl|⟨t,rfl⟩
   ·exact Below.refl _ _
   ·exact Lib.bytesWorld_below _ _ _
 |range=>
  have e:gb l=(Lib.atoiSat l,false):=by simp[gb,h]
  rw[e]
  obtain⟨g,o,hg,ho,tp,p,T,fz,rfl⟩:=Ek (n:= "strconv.ErrRange") hV (by simp only[q0,List.mem_cons];exact .inr (.inl rfl)) (by rfl)
  refine(Tryz.strconv_Atoi_range_var (BA l) (by omega) (by rw[hb];exact h) tp p w (by simp only[World.var?,hg,Option.bind_some,ho])).mono fun e w' ⟨N,he,_,_,hw⟩=>⟨_,he,?_,hw⟩
  rw[hb]
  simp only[AV.den,AV.ab,IV.den,k4,cond_false,WK.rel]
  exact⟨_,⟨_,_,rfl,⟨rfl,rfl⟩,_,_,rfl,⟨_,rfl,trivial⟩,rfl⟩,rfl⟩
 |_=>
  have e:gb l=(0,false):=by simp[gb,h]
  rw[e]
  obtain⟨g,o,hg,ho,tp,p,T,fz,rfl⟩:=Ek (n:= "strconv.ErrSyntax") hV (by simp only[q0,List.mem_cons];exact .inl rfl) (by rfl)
  refine(Any.strconv_Atoi_syntax_var Tryz.zb (BA l) (by omega) (by rw[hb];exact h) tp p w (by simp only[World.var?,hg,Option.bind_some,ho])).mono fun e w' ⟨N,he,_,_,hw⟩=>⟨_,he,?_,hw⟩
  simp only[AV.den,AV.ab,IV.den,k4,cond_false,WK.rel]
  exact⟨_,⟨_,_,rfl,⟨rfl,rfl⟩,_,_,rfl,⟨_,rfl,trivial⟩,rfl⟩,rfl⟩
theorem E0 (l:List UInt8):-9223372036854775808<=(gb l).1/\(gb l).1<=9223372036854775807:=by
 unfold gb
 split
 ·rename_i v h;exact Lib.atoiAll_bounds h
 ·exact Lib.atoiSat_bounds l
 ·simp
theorem CS (n:Int) (h:-9223372036854775808<=n/\n<=9223372036854775807):aP Tryz.prog 202 [Iv n] (Sv (Lib.itoa n)):=by
 refine aP.DF (by rfl) rfl fun w φ I vs hd hI hV=>?_
 simp only[AV.ab]at hd
 obtain⟨u,us,rfl,hu,rfl⟩:=hd
 rw[fw]at hu
 subst hu
 obtain⟨g,o,hg,ho,T,fz,rfl⟩:=Ek (n:= "internal/strconv.uint64pow10") hV (by simp only[q0,List.mem_cons];exact .inr (.inr (.inl rfl))) (by rfl)
 refine(Tryz.strconv_Itoa n h.1 h.2 w (by simp only[Lib.TabIs,World.var?,hg,Option.bind_some,ho];rfl)).mono fun e w' ⟨he,k,os,hw⟩=>⟨_,he,by rw[kg];rfl,?_⟩
 subst hw
 refine⟨rfl,rfl,rfl,?_,fun j hj=>?_⟩
 ·show w.heap.size<=(w.heap++os).size;rw[Array.size_append];exact Nat.le_add_right _ _
 ·show(w.heap++os)[j]?=_
  rw[Array.getElem?_append_left hj]
theorem O_ (l m:List UInt8):aP Tryz.prog 160 [Sv l,Sv m] (Bv (Lib.hasPrefix l m)):=by
 refine aP.DF (by rfl) rfl fun w φ I vs hd hI hV=>?_
 simp only[AV.ab]at hd
 obtain⟨u,us,rfl,hu,u2,Eh,rfl,vo,rfl⟩:=hd
 rw[kg]at hu vo
 subst hu;subst vo
 refine(Tryz.strings_HasPrefix (BA l) (BA m) w).mono fun e w' ⟨he,hw⟩=>⟨_,he,?_,?_⟩
 ·have U:(BA l).data.toList=l:=rD l
  have h2:(BA m).data.toList=m:=rD m
  rw[U,h2]
  simp only[AV.den,IV.den]
  exact⟨trivial,rfl⟩
 ·subst hw;exact Below.refl _ _
theorem UA (p:AV) (hp:p= .im (.v (.pointer none))\/p= .ob 0 0) (sh:Bool) (l:List UInt8) (m:UInt8) (n:Nat) (hn:n=l.length) (hb:l.length+1<=1000000000):
  aj Tryz.prog 198 [.ob 0 0,Uv m] [(0,.var 234 [p,.os 1 1 0 n,Bv sh]),(1,.vec 5 1 (di l))]
   (fun r H'=>H'=[(0,.var 234 [.ob 0 0,.os 2 1 0 (n+1),Bv sh]),(2,.vec 5 1 (di (l++[m])))]/\r= .im (.v .nilIface)):=by
 subst hn
 have ig:aj Tryz.prog 196 [.ob 0 0] [(0,.var 234 [p,.os 1 1 0 l.length,Bv sh]),(1,.vec 5 1 (di l))] (fun r H'=>H'=[(0,.var 234 [.ob 0 0,.os 1 1 0 l.length,Bv sh]),(1,.vec 5 1 (di l))]/\r= .aM []):=by
  rcases hp with rfl|rfl
  ·exact FG _ _ _
  ·exact FH _ _ _
 have Cg:jG (bm [(0,0),(1,1)] 2) [(0,.var 234 [p,.os 1 1 0 l.length,Bv sh]),(1,.vec 5 1 (di l))] [(0,.var 234 [p,.os 1 1 0 l.length,Bv sh]),(1,.vec 5 1 (di l))]:=by
  rcases hp with rfl|rfl
  ·exact⟨rfl,rfl,trivial⟩
  ·exact⟨rfl,rfl,trivial⟩
 refine aj.walk [0,1,4] [] Tryz.func198 rfl Tryz.ntmps198 (by kernel_rfl) (by rfl) rfl fun W own I0 aq lay=>?_
 refine gO ?_
 refine AQ.bz [(0,0),(1,1)] (by kernel_rfl) rfl rfl rfl rfl rfl rfl Cg rfl ig ?_
 rintro r H1 ⟨rfl,rfl⟩
 refine⟨rfl,?_⟩
 refine gO ?_
 refine AQ.rename 1 2 rfl rfl rfl ?_
 refine sI ?_
 refine AQ.kill 2 ?_
 refine sI ?_
 refine AQ.append (hnb:=rfl) (rows:=di l) (es:=0) (by kernel_rfl) rfl rfl rfl (by rfl) Tryz.TR Tryz.TI (by show Option.map _ (az Tryz.prog 5)=_;rw[Tryz.UJ];rfl) Tryz.Nj (by first|rfl|(simp only[mC,List.length_cons,List.length_nil];done)|(simp only[mC,List.length_cons,List.length_nil];omega)) (by simp only[mC,List.length_cons,List.length_nil];omega) (by simp only[mC,List.length_cons,List.length_nil];omega) ?_
 refine sI ?_
 refine gO ?_
 exact AE.ret rfl ⟨rfl,trivial⟩ ⟨by rw[mC,show di (l++[m])=di l++[[.v (.int .u8 m.toNat)]] by simp[di]],rfl⟩
abbrev en (sh:Bool) (p:AV) (i:Nat) (l:List UInt8):aa:=[(0,.var 234 [p,.os i 1 0 l.length,Bv sh]),(i,.vec 5 1 (di l))]
def oC (p:AV):Prop:=p= .im (.v (.pointer none))\/p= .ob 0 0
theorem rB {p:AV} (hp:oC p) (sh:Bool) (l m:List UInt8) (hb:l.length+m.length<=1000000000):
  aj Tryz.prog 152 [.ob 0 0,Sv m] (en sh p 1 l) (fun r H'=>H'=en sh (.ob 0 0) 2 (l++m)/\r= .aM [Iv m.length,.im (.v .nilIface)]):=by
 have:=UB p hp sh l m l.length rfl hb
 rw[show l.length+m.length=(l++m).length by simp]at this
 exact this
theorem Ae {p:AV} (hp:oC p) (sh:Bool) (l:List UInt8) (m:UInt8) (hb:l.length+1<=1000000000):
  aj Tryz.prog 198 [.ob 0 0,Uv m] (en sh p 1 l) (fun r H'=>H'=en sh (.ob 0 0) 2 (l++[m])/\r= .im (.v .nilIface)):=by
 have:=UA p hp sh l m l.length rfl hb
 rw[show l.length+1=(l++[m]).length by simp]at this
 exact this
theorem J7 {p:AV} (hp:oC p) (sh:Bool) (l:List UInt8) (n:Nat):jG (bm [(0,0),(1,4)] n) (en sh p 4 l) (en sh p 1 l):=by
 rcases hp with rfl|rfl
 ·exact⟨rfl,rfl,trivial⟩
 ·exact⟨rfl,rfl,trivial⟩
theorem Tx {C:Cx} {K:List PK} {q:List Nat} {t:Tm} {p:AV} (hp:oC p) {sh:Bool} {l:List UInt8} (hnb:C.B.nb=2) (h:AP C q K [(0,.ob 0 0),(1,bp t)] (en sh p 4 l)):AP C q K [(0,.ob 0 0),(1,bp t)] (en sh p 1 l):=by
 have hb:Nat.ble C.B.nb 4=true:=by rw[hnb];rfl
 rcases hp with rfl|rfl
 ·exact AP.rename 1 4 rfl rfl hb h
 ·exact AP.rename 1 4 rfl rfl hb h
theorem Tw {C:Cx} {K:List PK} {q:List Nat} {t:Lt} {p:AV} (hp:oC p) {sh:Bool} {l:List UInt8} (hnb:C.B.nb=2) (h:AP C q K [(0,.ob 0 0),(1,jC t)] (en sh p 4 l)):AP C q K [(0,.ob 0 0),(1,jC t)] (en sh p 1 l):=by
 have hb:Nat.ble C.B.nb 4=true:=by rw[hnb];rfl
 rcases hp with rfl|rfl
 ·exact AP.rename 1 4 rfl rfl hb h
 ·exact AP.rename 1 4 rfl rfl hb h
theorem T4 (sh:Bool) (t:Tm):er sh t=if t.nm=[]then 63::(if sh then[]else Lib.itoa t.ix)else t.nm++fv sh t.xs:=by cases t;rw[er];rfl
theorem SF (sh:Bool) (t:Tm) (hs:aU t) (ho:dE t=true) (p:AV) (hp:oC p) (l:List UInt8) (hb:l.length+(er sh t).length<=1000000000)
  (hl:t.nm≠[]->∀l:List UInt8,l.length+(fv sh t.xs).length<=1000000000->aj Tryz.prog 199 [.ob 0 0,.im (.sl 3 (ax t.xs))] (en sh (.ob 0 0) 1 l) (fun r H'=>H'=en sh (.ob 0 0) 2 (l++fv sh t.xs)/\r= .aM [])):
  aj Tryz.prog 197 [.ob 0 0,bp t] (en sh p 1 l) (fun r H'=>H'=en sh (.ob 0 0) 2 (l++er sh t)/\r= .aM []):=by
 have hT:=T4 sh t
 have ai:=s6 t
 rw[ho]at ai
 have qR:=J7 hp sh l
 refine aj.walk [0,1,3,6,15] [] Tryz.func197 rfl Tryz.ntmps197 (by kernel_rfl) (by rfl) rfl fun W own I0 aq lay=>?_
 refine Tx hp rfl ?_
 refine gO ?_
 refine AP.cond rfl rfl (fun h=>?_) (fun h=>?_)
 ·have h:t.nm=[]:=by simpa using h
  rw[if_pos h]at hT ai
  rw[hT]at hb
  have og:=Ae hp sh l 63 (by simp at hb;omega)
  refine gO ?_
  refine AQ.bz [(0,0),(1,4)] (by kernel_rfl) rfl rfl rfl rfl rfl rfl (qR _) rfl (og) ?_
  rintro r H1 ⟨rfl,rfl⟩;refine⟨rfl,?_⟩;refine sH ?_;refine AQ.rename 7 4 rfl rfl rfl ?_;refine sI ?_;refine AQ.order [0,4] rfl ?_;refine sI ?_
  cases sh with
  |true=>
   refine gO ?_
   refine AE.rename 4 2 rfl rfl rfl ?_;refine sI ?_
   exact AE.ret rfl trivial ⟨by rw[hT];rfl,rfl⟩
  |false=>
   have ai:=ai.symm
   rw[Bool.and_eq_true,Bool.and_eq_true,decide_eq_true_iff,decide_eq_true_iff]at ai
   have hit:=CS t.ix (by omega)
   have hT:er false t=63::Lib.itoa t.ix:=hT
   have CC:=rB (.inr rfl) false (l++[63]) (Lib.itoa t.ix) (by simp at hb⊢;omega)
   refine gO ?_
   refine AP.cu 7 (Tree.node [] [0,1,2,3,4] [5] [Tree.node [0,1,2] [] [6] [Tree.node [] [] [] []]]) (by kernel_rfl) rfl (by kernel_rfl) (by kernel_rfl) ?_
   refine cr ?_
   refine sI ?_
   refine AQ.fn (by kernel_rfl) rfl rfl rfl (hit) rfl ?_
   refine sI ?_
   refine AQ.nx rfl ?_
   refine sI ?_
   refine AQ.bz [(0,0),(1,4)] (by kernel_rfl) rfl rfl rfl rfl rfl rfl (by exact⟨rfl,rfl,trivial⟩) rfl (CC) ?_
   rintro r H1 ⟨rfl,rfl⟩;refine⟨rfl,?_⟩;refine sH ?_;refine AQ.rename 7 4 rfl rfl rfl ?_;refine sI ?_;refine AQ.order [0,4] rfl ?_;refine sI ?_
   refine AQ.nx rfl ?_
   refine sI ?_
   refine AQ.done ?_
   refine gO ?_
   refine AE.rename 4 2 rfl rfl rfl ?_;refine sI ?_
   exact AE.ret rfl trivial ⟨by rw[hT,show l++63::Lib.itoa t.ix=l++[63]++Lib.itoa t.ix by simp];rfl,rfl⟩
 ·have h:¬t.nm=[]:=by simpa using h
  rw[if_neg h]at hT
  rw[hT,List.length_append]at hb
  have vy:=rB hp sh l t.nm (by omega)
  have fk:=hl h (l++t.nm) (by rw[List.length_append];omega)
  refine gO ?_
  refine AP.cu 6 (Tree.node [] [0,1,2,3,4] [5] [Tree.node [] [] [] []]) (by kernel_rfl) rfl (by kernel_rfl) (by kernel_rfl) ?_
  refine cr ?_
  refine sI ?_
  refine AQ.bz [(0,0),(1,4)] (by kernel_rfl) rfl rfl rfl rfl rfl rfl (qR _) rfl (vy) ?_
  rintro r H1 ⟨rfl,rfl⟩;refine⟨rfl,?_⟩;refine sH ?_;refine AQ.rename 7 4 rfl rfl rfl ?_;refine sI ?_;refine AQ.order [0,4] rfl ?_;refine sI ?_
  refine AQ.nx rfl ?_
  refine sI ?_
  refine AQ.done ?_
  refine gO ?_
  refine AQ.bz [(0,0),(1,4)] (by kernel_rfl) rfl rfl rfl rfl rfl rfl (by exact⟨rfl,rfl,trivial⟩) rfl (fk) ?_
  rintro r H1 ⟨rfl,rfl⟩;refine⟨rfl,?_⟩;refine sH ?_;refine AQ.rename 7 4 rfl rfl rfl ?_;refine sI ?_;refine AQ.order [0,4] rfl ?_;refine sI ?_
  refine gO ?_
  refine AE.rename 4 2 rfl rfl rfl ?_;refine sI ?_
  exact AE.iL rfl trivial ⟨by rw[hT,<-List.append_assoc];rfl,rfl⟩
def oP (sh:Bool) (l:List Tm):List UInt8:=l.flatMap fun t=>44::32::er sh t
def gw (sh:Bool):List Tm->List UInt8
 |[]=>[]
 |t::l=>40::(er sh t++oP sh l)
theorem Ly (sh:Bool):∀l,kR sh l=oP sh l++[41]
 |[]=>by rw[kR];rfl
 |t::l=>by rw[kR,Ly sh l,oP,oP,List.flatMap_cons];simp
theorem Lv (sh:Bool) {l:List Tm} (h:l≠[]):fv sh l=gw sh l++[41]:=by
 cases l with
 |nil=>exact absurd rfl h
 |cons t l=>rw[fv,Ly,gw];simp
theorem T1 (sh:Bool) {l:List Tm} {k:Nat} {u:Tm} (h:l[k]?=some u):gw sh (l.take (k+1))=gw sh (l.take k)++((if k=0 then[40]else[44,32])++er sh u):=by
 rw[c7 h]
 cases l with
 |nil=>simp at h
 |cons t l=>
  cases k with
  |zero=>simp[gw,oP]
  |succ k=>rw[List.take_succ_cons,List.cons_append,gw,gw];simp[oP]
theorem T0 (sh:Bool) (l:List Tm) (k:Nat):∃r,gw sh l=gw sh (l.take k)++r:=by
 cases l with
 |nil=>exact⟨[],by rw[List.take_nil];rfl⟩
 |cons t l=>
  cases k with
  |zero=>exact⟨_,rfl⟩
  |succ k=>exact⟨oP sh (l.drop k),by
    rw[List.take_succ_cons,gw,gw]
    conv=>lhs;rw[<-List.take_append_drop k l,oP,List.flatMap_append]
    simp[oP]⟩
theorem TZ (sh:Bool) (l:List Tm) (k:Nat):(gw sh (l.take k)).length<=(gw sh l).length:=by
 obtain⟨r,h⟩:=T0 sh l k
 rw[h,List.length_append];omega
theorem Ka (sh:Bool) (xs:List Tm) (lu:xs.length<=1000000000) (l:List UInt8) (hb:l.length+(fv sh xs).length<=1000000000)
  (ih:∀(k:Nat) (t:Tm) (l:List UInt8),xs[k]?=some t->l.length+(er sh t).length<=1000000000->aj Tryz.prog 197 [.ob 0 0,bp t] (en sh (.ob 0 0) 1 l) (fun r H'=>H'=en sh (.ob 0 0) 2 (l++er sh t)/\r= .aM [])):
  aj Tryz.prog 199 [.ob 0 0,.im (.sl 3 (ax xs))] (en sh (.ob 0 0) 1 l) (fun r H'=>H'=en sh (.ob 0 0) 2 (l++fv sh xs)/\r= .aM []):=by
 refine aj.walk [0,1,4,5,8,9,10,11,12,17] [5] Tryz.func199 rfl Tryz.ntmps199 (by kernel_rfl) (by rfl) rfl fun W own I0 aq lay=>?_
 refine AP.rename 1 4 rfl rfl rfl ?_
 refine sI ?_
 refine gE @ah ?_
 refine AP.cond rfl rfl (fun h=>?_) (fun h=>?_)
 ·have h:xs=[]:=by cases xs with|nil=>rfl|cons a b=>simp at h;omega
  subst h
  refine gO ?_
  refine AE.rename 4 2 rfl rfl rfl ?_;refine sI ?_
  exact AE.ret rfl trivial ⟨by rw[fv,List.append_nil];rfl,rfl⟩
 have h:xs≠[]:=fun e=>by subst e;simp at h
 rw[Lv sh h,List.length_append,List.length_singleton]at hb
 refine gE @ah ?_
 refine AP.loop rfl (α:=Nat) (fun k=>[(0,.ob 0 0),(9,.im (.sl 3 (ax xs))),(10,Iv xs.length),(11,Iv k)]) (fun k=>en sh (.ob 0 0) 4 (l++gw sh (xs.take k))) (fun k=>k<=xs.length) (fun k=>xs.length-k) 0 (by omega) (sU) (by rw[List.take_zero,gw,List.append_nil];rfl) fun k hk=>?_
 rcases Nat.eq_or_lt_of_le hk with aC|ag
 ·subst aC
  rw[List.take_length]
  have og:=Ae (.inr rfl) sh (l++gw sh xs) 41 (by rw[List.length_append];omega)
  refine gO ?_
  refine cF ?_
  refine gO ?_
  refine AQ.bz [(0,0),(1,4)] (by kernel_rfl) rfl rfl rfl rfl rfl rfl (by exact⟨rfl,rfl,trivial⟩) rfl (og) ?_
  rintro r H1 ⟨rfl,rfl⟩;refine⟨rfl,?_⟩;refine sH ?_;refine AQ.rename 7 4 rfl rfl rfl ?_;refine sI ?_;refine AQ.order [0,4] rfl ?_;refine sI ?_
  refine gO ?_
  refine AE.rename 4 2 rfl rfl rfl ?_;refine sI ?_
  exact AE.iL rfl trivial ⟨by rw[Lv sh h,<-List.append_assoc];rfl,rfl⟩
 ·obtain⟨u,hu,aF⟩:=cz xs k ag
  have hw:=wr (x:=(k:Int)+1) (by omega)
  have bc:=T1 sh hu
  have hle:=TZ sh xs (k+1)
  rw[bc,List.length_append,List.length_append]at hle
  refine gO ?_
  refine cT ?_
  refine gE @aF ?_
  refine⟨by rw[ah];omega,?_⟩
  refine gO ?_
  refine AP.fix 5 rfl rfl ?_
  refine sI ?_
  by_cases ku:k=0
  ·subst ku
   rw[if_pos rfl]at bc hle
   have og:=Ae (.inr rfl) sh (l++gw sh (xs.take 0)) 40 (by simp at hle⊢;omega)
   have hit:=ih 0 u (l++gw sh (xs.take 0)++[40]) hu (by simp at hle⊢;omega)
   refine cT ?_
   refine gO ?_
   refine AQ.bz [(0,0),(1,4)] (by kernel_rfl) rfl rfl rfl rfl rfl rfl (by exact⟨rfl,rfl,trivial⟩) rfl (og) ?_
   rintro r H1 ⟨rfl,rfl⟩;refine⟨rfl,?_⟩;refine sH ?_;refine AQ.rename 7 4 rfl rfl rfl ?_;refine sI ?_;refine AQ.order [0,4] rfl ?_;refine sI ?_
   refine gO ?_
   refine AQ.bz [(0,0),(1,4)] (by kernel_rfl) rfl rfl rfl rfl rfl rfl (by exact⟨rfl,rfl,trivial⟩) rfl (hit) ?_
   rintro r H1 ⟨rfl,rfl⟩;refine⟨rfl,?_⟩;refine sH ?_;refine AQ.rename 7 4 rfl rfl rfl ?_;refine sI ?_;refine AQ.order [0,4] rfl ?_;refine sI ?_
   refine gO ?_
   refine AE.round 1 (by omega) (by omega) (sU) ?_
   rw[bc];simp only[List.append_assoc];rfl
  ·rw[if_neg ku]at bc hle
   have og:=rB (.inr rfl) sh (l++gw sh (xs.take k)) [44,32] (by simp at hle⊢;omega)
   have hit:=ih k u (l++gw sh (xs.take k)++[44,32]) hu (by simp at hle⊢;omega)
   refine cF ?_
   refine gO ?_
   refine AQ.bz [(0,0),(1,4)] (by kernel_rfl) rfl rfl rfl rfl rfl rfl (by exact⟨rfl,rfl,trivial⟩) rfl (og) ?_
   rintro r H1 ⟨rfl,rfl⟩;refine⟨rfl,?_⟩;refine sH ?_;refine AQ.rename 7 4 rfl rfl rfl ?_;refine sI ?_;refine AQ.order [0,4] rfl ?_;refine sI ?_
   refine gO ?_
   refine AQ.bz [(0,0),(1,4)] (by kernel_rfl) rfl rfl rfl rfl rfl rfl (by exact⟨rfl,rfl,trivial⟩) rfl (hit) ?_
   rintro r H1 ⟨rfl,rfl⟩;refine⟨rfl,?_⟩;refine sH ?_;refine AQ.rename 7 4 rfl rfl rfl ?_;refine sI ?_;refine AQ.order [0,4] rfl ?_;refine sI ?_
   refine gE @hw ?_
   refine AE.round (k+1) (by omega) (by omega) (sU) ?_
   rw[bc];simp only[List.append_assoc];rfl
theorem JS {t:Tm} (h:dE t=true) (hn:t.nm≠[]):cf t.xs=true:=by
 rw[s6,if_neg hn,Bool.and_eq_true]at h;exact h.2
theorem zD (sh:Bool) (t:Tm) (hs:aU t) (ho:dE t=true) (p:AV) (hp:oC p) (l:List UInt8) (hb:l.length+(er sh t).length<=1000000000):
  aj Tryz.prog 197 [.ob 0 0,bp t] (en sh p 1 l) (fun r H'=>H'=en sh (.ob 0 0) 2 (l++er sh t)/\r= .aM []):=
 SF sh t hs ho p hp l hb fun hn l hb=>Ka sh t.xs (eU.1 hs).2.1 l hb fun k u l hu hb=>
  zD sh u (cA (eU.1 hs).2.2 hu) (oD (JS ho hn) u (List.mem_of_getElem? hu)) _ (.inr rfl) l hb
termination_by SizeOf.sizeOf t
decreasing_by exact iF hu
theorem J_ (sh:Bool) (xs:List Tm) (lu:xs.length<=1000000000) (hs:cq xs) (ho:cf xs=true) (l:List UInt8) (hb:l.length+(fv sh xs).length<=1000000000):
  aj Tryz.prog 199 [.ob 0 0,.im (.sl 3 (ax xs))] (en sh (.ob 0 0) 1 l) (fun r H'=>H'=en sh (.ob 0 0) 2 (l++fv sh xs)/\r= .aM []):=
 Ka sh xs lu l hb fun k u l hu hb=>zD sh u (cA hs hu) (oD ho u (List.mem_of_getElem? hu)) _ (.inr rfl) l hb
theorem Kb (sh:Bool) (x:Lt) (hs:iZ x) (ho:ej x=true) (p:AV) (hp:oC p) (l:List UInt8) (hb:l.length+(iG sh x).length<=1000000000):
  aj Tryz.prog 153 [.ob 0 0,jC x] (en sh p 1 l) (fun r H'=>H'=en sh (.ob 0 0) 2 (l++iG sh x)/\r= .aM []):=by
 have ai:=q9 ho
 have hT:iG sh x=_:=iG.eq_def sh x
 have qR:=J7 hp sh l
 rw[hT]at hb
 refine aj.walk [0,1,3,6,14,30] [] Tryz.func153 rfl Tryz.ntmps153 (by kernel_rfl) (by rfl) rfl fun W own I0 aq lay=>?_
 refine Tw hp rfl ?_
 refine gO ?_
 refine AP.cond rfl rfl (fun h=>?_) (fun h=>?_)
 ·have h:x.pd=[61]:=by simpa using h
  rw[ej,if_pos h,Bool.and_eq_true,decide_eq_true_iff]at ho
  rw[if_pos h]at hb hT
  obtain⟨a,b,yj⟩:∃a b,x.xs=[a,b]:=by
   have:=ho.1
   match x.xs,this with
   |[a,b],_=>exact⟨a,b,rfl⟩
  have yP:=hs.2.2
  rw[yj]at ai yP hb hT
  simp only[List.getD_cons_zero,List.getD_cons_succ]at hb hT
  rw[cf,cf,Bool.and_eq_true,Bool.and_eq_true]at ai
  rw[cq,cq]at yP
  have aF:ax x.xs=[p9 a,p9 b]:=by rw[yj];simp only[ax,oN]
  have e0:[p9 a,p9 b].getD 0 []=[Si a.nm,Ii a.ix,.sl 3 (ax a.xs)]:=rfl
  have e1:[p9 a,p9 b].getD 1 []=[Si b.nm,Ii b.ix,.sl 3 (ax b.xs)]:=rfl
  have ha:=zD sh a yP.1 ai.1 p hp l (by simp only[List.length_append]at hb;omega)
  have hw:=rB (.inr rfl) sh (l++er sh a) (qv x.ng) (by simp only[List.length_append]at hb⊢;omega)
  have ak:=zD sh b yP.2.1 ai.2.1 (.ob 0 0) (.inr rfl) (l++er sh a++qv x.ng) (by simp only[List.length_append]at hb⊢;omega)
  rw[aF]
  refine gE (an @e0 (an @List.length_cons.{0} @List.length_nil.{0})) ?_
  refine AQ.bz [(0,0),(1,4)] (by kernel_rfl) rfl rfl rfl rfl rfl rfl (qR _) rfl (ha) ?_
  rintro r H1 ⟨rfl,rfl⟩;refine⟨rfl,?_⟩;refine sH ?_;refine AQ.rename 7 4 rfl rfl rfl ?_;refine sI ?_;refine AQ.order [0,4] rfl ?_;refine sI ?_
  refine gO ?_
  cases u5:x.ng with
  |true=>
   rw[u5]at hw ak hT
   refine gO ?_
   refine AQ.bz [(0,0),(1,4)] (by kernel_rfl) rfl rfl rfl rfl rfl rfl (by exact⟨rfl,rfl,trivial⟩) rfl (hw) ?_
   rintro r H1 ⟨rfl,rfl⟩;refine⟨rfl,?_⟩;refine sH ?_;refine AQ.rename 7 4 rfl rfl rfl ?_;refine sI ?_;refine AQ.order [0,4] rfl ?_;refine sI ?_
   refine gE (an @e1 (an @List.length_cons.{0} @List.length_nil.{0})) ?_
   refine AQ.bz [(0,0),(1,4)] (by kernel_rfl) rfl rfl rfl rfl rfl rfl (by exact⟨rfl,rfl,trivial⟩) rfl (ak) ?_
   rintro r H1 ⟨rfl,rfl⟩;refine⟨rfl,?_⟩;refine sH ?_;refine AQ.rename 7 4 rfl rfl rfl ?_;refine sI ?_;refine AQ.order [0,4] rfl ?_;refine sI ?_
   refine gO ?_
   refine AE.rename 4 2 rfl rfl rfl ?_;refine sI ?_
   exact AE.ret rfl trivial ⟨by rw[hT];simp only[List.append_assoc];rfl,rfl⟩
  |false=>
   rw[u5]at hw ak hT
   refine gO ?_
   refine AQ.bz [(0,0),(1,4)] (by kernel_rfl) rfl rfl rfl rfl rfl rfl (by exact⟨rfl,rfl,trivial⟩) rfl (hw) ?_
   rintro r H1 ⟨rfl,rfl⟩;refine⟨rfl,?_⟩;refine sH ?_;refine AQ.rename 7 4 rfl rfl rfl ?_;refine sI ?_;refine AQ.order [0,4] rfl ?_;refine sI ?_
   refine gE (an @e1 (an @List.length_cons.{0} @List.length_nil.{0})) ?_
   refine AQ.bz [(0,0),(1,4)] (by kernel_rfl) rfl rfl rfl rfl rfl rfl (by exact⟨rfl,rfl,trivial⟩) rfl (ak) ?_
   rintro r H1 ⟨rfl,rfl⟩;refine⟨rfl,?_⟩;refine sH ?_;refine AQ.rename 7 4 rfl rfl rfl ?_;refine sI ?_;refine AQ.order [0,4] rfl ?_;refine sI ?_
   refine gO ?_
   refine AE.rename 4 2 rfl rfl rfl ?_;refine sI ?_
   exact AE.ret rfl trivial ⟨by rw[hT];simp only[List.append_assoc];rfl,rfl⟩
 ·have h:¬x.pd=[61]:=by simpa using h
  rw[if_neg h]at hb hT
  cases u5:x.ng with
  |true=>
   rw[u5,if_pos rfl]at hb hT
   have og:=Ae hp sh l 126 (by simp only[List.length_append,List.length_singleton]at hb;omega)
   have vy:=rB (.inr rfl) sh (l++[126]) x.pd (by simp only[List.length_append,List.length_singleton]at hb⊢;omega)
   have fk:=J_ sh x.xs hs.2.1 hs.2.2 ai (l++[126]++x.pd) (by simp only[List.length_append,List.length_singleton]at hb⊢;omega)
   refine gO ?_
   refine AQ.bz [(0,0),(1,4)] (by kernel_rfl) rfl rfl rfl rfl rfl rfl (qR _) rfl (og) ?_
   rintro r H1 ⟨rfl,rfl⟩;refine⟨rfl,?_⟩;refine sH ?_;refine AQ.rename 7 4 rfl rfl rfl ?_;refine sI ?_;refine AQ.order [0,4] rfl ?_;refine sI ?_
   refine gO ?_
   refine AP.cu 6 (Tree.node [] [0,1,2,3,4] [5] [Tree.node [] [] [] []]) (by kernel_rfl) rfl (by kernel_rfl) (by kernel_rfl) ?_
   refine cr ?_
   refine sI ?_
   refine AQ.bz [(0,0),(1,4)] (by kernel_rfl) rfl rfl rfl rfl rfl rfl (by exact⟨rfl,rfl,trivial⟩) rfl (vy) ?_
   rintro r H1 ⟨rfl,rfl⟩;refine⟨rfl,?_⟩;refine sH ?_;refine AQ.rename 7 4 rfl rfl rfl ?_;refine sI ?_;refine AQ.order [0,4] rfl ?_;refine sI ?_
   refine AQ.nx rfl ?_
   refine sI ?_
   refine AQ.done ?_
   refine gO ?_
   refine AQ.bz [(0,0),(1,4)] (by kernel_rfl) rfl rfl rfl rfl rfl rfl (by exact⟨rfl,rfl,trivial⟩) rfl (fk) ?_
   rintro r H1 ⟨rfl,rfl⟩;refine⟨rfl,?_⟩;refine sH ?_;refine AQ.rename 7 4 rfl rfl rfl ?_;refine sI ?_;refine AQ.order [0,4] rfl ?_;refine sI ?_
   refine gO ?_
   refine AE.rename 4 2 rfl rfl rfl ?_;refine sI ?_
   exact AE.iL rfl trivial ⟨by rw[hT];simp only[List.append_assoc];rfl,rfl⟩
  |false=>
   rw[u5,if_neg (by decide),List.nil_append]at hb hT
   have vy:=rB hp sh l x.pd (by simp only[List.length_append]at hb⊢;omega)
   have fk:=J_ sh x.xs hs.2.1 hs.2.2 ai (l++x.pd) (by simp only[List.length_append]at hb⊢;omega)
   refine gO ?_
   refine AP.cu 6 (Tree.node [] [0,1,2,3,4] [5] [Tree.node [] [] [] []]) (by kernel_rfl) rfl (by kernel_rfl) (by kernel_rfl) ?_
   refine cr ?_
   refine sI ?_
   refine AQ.bz [(0,0),(1,4)] (by kernel_rfl) rfl rfl rfl rfl rfl rfl (qR _) rfl (vy) ?_
   rintro r H1 ⟨rfl,rfl⟩;refine⟨rfl,?_⟩;refine sH ?_;refine AQ.rename 7 4 rfl rfl rfl ?_;refine sI ?_;refine AQ.order [0,4] rfl ?_;refine sI ?_
   refine AQ.nx rfl ?_
   refine sI ?_
   refine AQ.done ?_
   refine gO ?_
   refine AQ.bz [(0,0),(1,4)] (by kernel_rfl) rfl rfl rfl rfl rfl rfl (by exact⟨rfl,rfl,trivial⟩) rfl (fk) ?_
   rintro r H1 ⟨rfl,rfl⟩;refine⟨rfl,?_⟩;refine sH ?_;refine AQ.rename 7 4 rfl rfl rfl ?_;refine sI ?_;refine AQ.order [0,4] rfl ?_;refine sI ?_
   refine gO ?_
   refine AE.rename 4 2 rfl rfl rfl ?_;refine sI ?_
   exact AE.iL rfl trivial ⟨by rw[hT];simp only[List.append_assoc];rfl,rfl⟩
theorem JC {n:List UInt8} (h:dW n=true):n.length<=60:=by
 rw[dW,Bool.and_eq_true,Bool.and_eq_true,decide_eq_true_iff,decide_eq_true_iff]at h;exact h.1.2
theorem QW {n:Int} (h:0<=n/\n<1000):(Lib.itoa n).length<=3:=by
 rw[Lib.itoa,if_neg (by omega)]
 exact(FN n.toNat).2.2.2.1 3 (by omega) (by omega)
mutual
theorem z6 (sh:Bool):∀t:Tm,dE t=true->(er sh t).length+2<=70*wT t
 | .mk n i xs,h=>by
  rw[dE]at h
  rw[er,wT]
  by_cases hn:n=[]
  ·rw[if_pos hn,Bool.and_eq_true,Bool.and_eq_true,decide_eq_true_iff,decide_eq_true_iff]at h
   rw[if_pos hn]
   have:=QW h.2
   cases sh<;>simp<;>omega
  ·rw[if_neg hn,Bool.and_eq_true,Bool.and_eq_true]at h
   rw[if_neg hn,List.length_append]
   have U:=JC h.1.1
   have h2:=Lw sh xs h.2
   omega
theorem Lw (sh:Bool):∀l:List Tm,cf l=true->(fv sh l).length<=2+70*aw l
 |[],_=>by rw[fv];simp
 |t::l,h=>by
  rw[cf,Bool.and_eq_true]at h
  have U:=z6 sh t h.1
  have h2:=Lz sh l h.2
  rw[fv,aw,List.length_cons,List.length_append];omega
theorem Lz (sh:Bool):∀l:List Tm,cf l=true->(kR sh l).length<=1+70*aw l
 |[],_=>by rw[kR];simp
 |t::l,h=>by
  rw[cf,Bool.and_eq_true]at h
  have U:=z6 sh t h.1
  have h2:=Lz sh l h.2
  rw[kR,aw,List.length_cons,List.length_cons,List.length_append];omega
end
theorem Lx (sh:Bool) {x:Lt} (h:ej x=true):(iG sh x).length<=70*jE x:=by
 have ai:=q9 h
 rw[ej]at h
 rw[iG,jE]
 by_cases hp:x.pd=[61]
 ·rw[if_pos hp,Bool.and_eq_true,decide_eq_true_iff]at h
  rw[if_pos hp]
  obtain⟨a,b,yj⟩:∃a b,x.xs=[a,b]:=by
   have:=h.1
   match x.xs,this with
   |[a,b],_=>exact⟨a,b,rfl⟩
  rw[yj]at ai⊢
  rw[cf,cf,Bool.and_eq_true,Bool.and_eq_true]at ai
  have U:=z6 sh a ai.1
  have h2:=z6 sh b ai.2.1
  simp only[List.getD_cons_zero,List.getD_cons_succ,List.length_append,aw]
  have:(qv x.ng).length<=4:=by cases x.ng<;>simp[qv]
  omega
 ·rw[if_neg hp,Bool.and_eq_true]at h
  rw[if_neg hp]
  have U:=JC h.1
  have h2:=Lw sh x.xs ai
  simp only[List.length_append]
  cases x.ng<;>simp<;>omega
def jK (sh:Bool):List Lt->List UInt8
 |[]=>[]
 |l::r=>iG sh l++jb sh r
theorem LB (sh:Bool):∀c:List Lt,(∀l∈c,ej l=true)->(jb sh c).length<=3*c.length+70*bC c
 |[],_=>by rw[jb];simp
 |l::c,h=>by
  have U:=Lx sh (h l (List.mem_cons_self ..))
  have h2:=LB sh c fun x hx=>h x (List.mem_cons_of_mem _ hx)
  have e:bC (l::c)=jE l+bC c:=by rw[iB,jE]
  rw[jb,e]
  simp only[List.length_cons,List.length_append];omega
theorem T2 (sh:Bool) {c:List Lt} (h:∀l∈c,ej l=true):(jK sh c).length<=3*c.length+70*bC c:=by
 cases c with
 |nil=>simp[jK]
 |cons l c=>
  have U:=Lx sh (h l (List.mem_cons_self ..))
  have h2:=LB sh c fun x hx=>h x (List.mem_cons_of_mem _ hx)
  have e:bC (l::c)=jE l+bC c:=by rw[iB,jE]
  rw[jK,e]
  simp only[List.length_cons,List.length_append];omega
theorem LA (sh:Bool):∀a b:List Lt,jb sh (a++b)=jb sh a++jb sh b
 |[],b=>by rw[jb];rfl
 |l::a,b=>by rw[List.cons_append,jb,jb,LA sh a b];simp
theorem T3 (sh:Bool) {c:List Lt} {k:Nat} {u:Lt} (h:c[k]?=some u):jK sh (c.take (k+1))=jK sh (c.take k)++((if k=0 then[]else[32,124,32])++iG sh u):=by
 rw[c7 h]
 cases c with
 |nil=>simp at h
 |cons l c=>
  cases k with
  |zero=>simp[jK,jb]
  |succ k=>rw[List.take_succ_cons,List.cons_append,jK,jK,LA];simp[jb]
theorem R1 (c:List Lt) (k:Nat):bC (c.take k)<=bC c:=Jv (List.take_sublist k c)
def lA (k:Nat):AV:=if k=0 then .im (.v (.pointer none))else .ob 0 0
theorem JR (k:Nat):oC (lA k):=by
 rw[lA]
 split
 ·exact .inl rfl
 ·exact .inr rfl
theorem SC (k:Nat) (sh:Bool) (l:List UInt8) (n:Nat):jG (bm [(0,0),(1,1)] n) (en sh (lA k) 1 l) (en sh (lA k) 1 l):=by
 rcases JR k with h|h<;>rw[h]<;>exact⟨rfl,rfl,trivial⟩
theorem L1 (c:List Lt) (sh:Bool) (hs:cC c) (ye:c.length<=4000) (bg:bC c<=8000) (ai:∀l∈c,ej l=true):aP Tryz.prog 79 [aK c,Bv sh] (Sv (nj sh c)):=by
 refine aj.walk [0,1,4,5,6,7,10,14,15,16,17,22] [5,7,13] Tryz.func79 rfl Tryz.ntmps79 (by kernel_rfl) (by rfl) rfl fun W own I0 aq lay=>?_
 refine gE @aA ?_
 refine AP.cond rfl rfl (fun h=>?_) (fun h=>?_)
 ·have h:c=[]:=by cases c with|nil=>rfl|cons a b=>simp at h;omega
  subst h
  refine gO ?_
  exact AE.aG rfl ⟨rfl,trivial⟩ rfl ⟨rfl,rfl⟩
 have h:c≠[]:=fun e=>by subst e;simp at h
 have hE:nj sh c=jK sh c:=by
  cases c with
  |nil=>exact absurd rfl h
  |cons l r=>rfl
 refine gE @aA ?_
 refine AP.hO 0 1 5 1 rfl rfl ?_
 refine sI ?_
 refine AP.order [0,1] rfl ?_
 refine sI ?_
 refine AP.loop rfl (α:=Nat) (fun k=>[(5,.ob 0 0),(14,aK c),(15,Iv c.length),(16,Iv k)]) (fun k=>en sh (lA k) 1 (jK sh (c.take k))) (fun k=>k<=c.length) (fun k=>c.length-k) 0 (by omega) (sU) rfl fun k hk=>?_
 have qR:=SC k sh (jK sh (c.take k))
 have WA:=JR k
 rcases Nat.eq_or_lt_of_le hk with aC|ag
 ·subst aC
  have eC:lA c.length= .ob 0 0:=by rw[lA,if_neg (by cases c with|nil=>exact absurd rfl h|cons a b=>simp)]
  rw[List.take_length,eC,<-hE]
  refine gO ?_
  refine cF ?_
  refine gO ?_
  refine AQ.bz [(0,0),(1,1)] (by kernel_rfl) rfl rfl rfl rfl rfl rfl (by exact⟨rfl,rfl,trivial⟩) rfl (Ng (nj sh c) (.ob 0 0) sh) ?_
  rintro r H1 ⟨rfl,rfl⟩;refine⟨rfl,?_⟩;refine sH ?_
  refine gO ?_
  exact AE.aG rfl ⟨rfl,trivial⟩ rfl ⟨rfl,rfl⟩
 ·obtain⟨u,hu,aF⟩:=fT c k ag
  have hw:=wr (x:=(k:Int)+1) (by omega)
  have bH:=kZ hs hu
  have yT:=ai u (List.mem_of_getElem? hu)
  have bc:=T3 sh hu
  have hle:=T2 sh (c:=c.take (k+1)) fun l hl=>ai l (List.mem_of_mem_take hl)
  have gm:=R1 c (k+1)
  have e8:(c.take (k+1)).length<=c.length:=by rw[List.length_take];omega
  rw[bc,List.length_append,List.length_append]at hle
  have HQ:lA (k+1)= .ob 0 0:=by rw[lA,if_neg (by omega)]
  by_cases ku:k=0
  ·subst ku
   rw[if_pos rfl,List.nil_append]at bc
   have fk:=Kb sh u bH yT _ (.inl rfl) (jK sh (c.take 0)) (by simp only[List.take_zero,jK,List.length_nil]at hle⊢;omega)
   rw[show lA 0= .im (.v (.pointer none)) from rfl]
   refine gO ?_
   refine cT ?_
   refine gE @aF ?_
   refine⟨by rw[aA];omega,?_⟩
   refine gO ?_
   refine AQ.fix 2 rfl rfl ?_
   refine sI ?_
   refine AQ.bz [(0,0),(1,1)] (by kernel_rfl) rfl rfl rfl rfl rfl rfl (by exact⟨rfl,rfl,trivial⟩) rfl (fk) ?_
   rintro r H1 ⟨rfl,rfl⟩;refine⟨rfl,?_⟩;refine sH ?_;refine AQ.rename 4 1 rfl rfl rfl ?_;refine sI ?_;refine AQ.order [0,1] rfl ?_;refine sI ?_
   refine gO ?_
   refine AE.round 1 (by omega) (by omega) (sU) ?_
   rw[bc,HQ];rfl
  ·rw[if_neg ku]at bc hle
   rw[show lA k= .ob 0 0 by rw[lA,if_neg ku]]
   have QE:=rB (.inr rfl) sh (jK sh (c.take k)) [32,124,32] (by simp at hle⊢;omega)
   have fk:=Kb sh u bH yT _ (.inr rfl) (jK sh (c.take k)++[32,124,32]) (by simp at hle⊢;omega)
   refine gO ?_
   refine cT ?_
   refine gE @aF ?_
   refine⟨by rw[aA];omega,?_⟩
   refine gO ?_
   refine AP.fix 2 rfl rfl ?_
   refine sI ?_
   refine cT ?_
   refine gO ?_
   refine AQ.bz [(0,0),(1,1)] (by kernel_rfl) rfl rfl rfl rfl rfl rfl (by exact⟨rfl,rfl,trivial⟩) rfl (QE) ?_
   rintro r H1 ⟨rfl,rfl⟩;refine⟨rfl,?_⟩;refine sH ?_;refine AQ.rename 4 1 rfl rfl rfl ?_;refine sI ?_;refine AQ.order [0,1] rfl ?_;refine sI ?_
   refine gO ?_
   refine AQ.bz [(0,0),(1,1)] (by kernel_rfl) rfl rfl rfl rfl rfl rfl (by exact⟨rfl,rfl,trivial⟩) rfl (fk) ?_
   rintro r H1 ⟨rfl,rfl⟩;refine⟨rfl,?_⟩;refine sH ?_;refine AQ.rename 4 1 rfl rfl rfl ?_;refine sI ?_;refine AQ.order [0,1] rfl ?_;refine sI ?_
   refine gE @hw ?_
   refine AE.round (k+1) (by omega) (by omega) (sU) ?_
   rw[bc,HQ];simp only[List.append_assoc];rfl
def wJ (c:List Lt):List UInt8:=if aW 4 9 2 3 c≠0 then[]else if 40000<(nj false c).length then[]else nj false c
def wI (c:List Lt):Int:=if aW 4 9 2 3 c≠0 then aW 4 9 2 3 c else if 40000<(nj false c).length then 15 else 0
theorem TO (c:List Lt) (hs:cC c):aP Tryz.prog 17 [aK c] (.aM [Sv (wJ c),Iv (wI c)]):=by
 have hS:wJ c=_:=wJ.eq_def c
 have hE:wI c=_:=wI.eq_def c
 refine aj.walk [0,2,3,4,5,9,15] [] Tryz.func17 rfl Tryz.ntmps17 (by kernel_rfl) (by rfl) rfl fun W own I0 aq lay=>?_
 refine gO ?_
 refine AQ.fn (by kernel_rfl) rfl rfl rfl (oZ c hs) rfl ?_
 refine sI ?_
 refine gO ?_
 refine AP.cond rfl rfl (fun h=>?_) (fun h=>?_)
 ·rw[if_pos (by simpa using h)]at hS hE
  refine gO ?_
  exact AE.aG rfl ⟨rfl,rfl,trivial⟩ rfl ⟨rfl,by rw[hS,hE];rfl⟩
 have h:aW 4 9 2 3 c=0:=by simpa using h
 rw[if_neg (by simpa using h)]at hS hE
 obtain⟨U,h2,h3,h4⟩:=jO h
 refine gO ?_
 refine AQ.fn (by kernel_rfl) rfl rfl rfl (L1 c false hs (by omega) (by omega) h4) rfl ?_
 refine sI ?_
 refine gO ?_
 refine AP.cond rfl rfl (fun h5=>?_) (fun h5=>?_)
 ·rw[if_pos (by simp at h5;omega)]at hS hE
  refine gO ?_
  exact AE.aG rfl ⟨rfl,rfl,trivial⟩ rfl ⟨rfl,by rw[hS,hE];rfl⟩
 ·rw[if_neg (by simp at h5;omega)]at hS hE
  refine gO ?_
  exact AE.aG rfl ⟨rfl,rfl,trivial⟩ rfl ⟨rfl,by rw[hS,hE];rfl⟩
abbrev KR (l:Lt):List IV:=[Bi l.ng,Si l.pd,.sl 3 (ax l.xs),Si (dD l)]
abbrev KS (l:Lt):AV:= .agg [Bv l.ng,Sv l.pd,.im (.sl 3 (ax l.xs)),Sv (dD l)]
def fW (c:List Lt):List (List IV):=c.map KR
theorem oJ (l:List Lt):(fW l).length=l.length:=by rw[fW,List.length_map]
theorem zT {l:List Lt} {k:Nat} {x:Lt} (h:l[k]?=some x):(fW l).getD k []=[Bi x.ng,Si x.pd,.sl 3 (ax x.xs),Si (dD x)]:=by
 rw[List.getD_eq_getElem?_getD,fW,List.getElem?_map,h];rfl
theorem KQ (l:List Lt) (k:Nat) (x:Lt):(fW l).set k (KR x)=fW (l.set k x):=by simp only[fW,List.map_set]
theorem NC (a b:Lt):aP Tryz.prog 91 [KS a,KS b] (Iv (k0 (dD a) (dD b))):=by
 refine aj.walk [0,1,2,3,4] [] Tryz.func91 rfl Tryz.ntmps91 (by kernel_rfl) (by rfl) rfl fun W own I0 aq lay=>?_
 refine gO ?_
 refine AQ.fn (by kernel_rfl) rfl rfl rfl (FC (dD a) (dD b)) rfl ?_
 refine sI ?_
 refine gO ?_
 exact AE.aG rfl ⟨rfl,trivial⟩ rfl ⟨rfl,rfl⟩
abbrev fG (l:List Lt):aa:=[(0,.vec 145 4 (fW l))]
theorem Iy (pre mid post:List Lt) (hn:(pre++mid++post).length<=1000000):
  aj Tryz.prog 205 [.os 0 4 0 (pre++mid++post).length,Iv pre.length,Iv (pre.length+mid.length),.fn 91 [] []] (fG (pre++mid++post)) (fun r H'=>r= .aM []/\H'=fG (pre++c_ [] mid++post)):=by
 obtain⟨n,n7⟩:∃n,(pre++mid++post).length=n:=⟨_,rfl⟩
 have hlen:pre.length+mid.length+post.length=n:=by rw[<-n7];simp only[List.length_append]
 rw[n7]at hn⊢
 have CB:=wr (x:=(pre.length:Int)+1) (by omega)
 refine aj.walk [0,1,2,3,8,9,14,34] [] Tryz.func205 rfl Tryz.ntmps205 (by kernel_rfl) (by rfl) rfl fun W own I0 aq lay=>?_
 refine gE @CB ?_
 refine AP.loop rfl (α:=Nat) (fun k=>[(0,.os 0 4 0 n),(1,Iv pre.length),(2,Iv (pre.length+mid.length)),(3,.fn 91 [] []),(8,Iv (pre.length+k))]) (fun k=>fG (pre++c_ [] (mid.take k)++(mid.drop k++post))) (fun k=>1<=k/\k<=mid.length+1) (fun k=>mid.length+1-k) 1 (by omega) (sU) (by
  cases mid with
  |nil=>simp[c_]
  |cons x r=>simp[c_,j7]) fun k ⟨l6,hk⟩=>?_
 by_cases ag:k<mid.length
 ·have hw:=wr (x:=(pre.length:Int)+k+1) (by omega)
  obtain⟨x,hx⟩:∃x,mid[k]?=some x:=⟨_,List.getElem?_eq_getElem ag⟩
  have hP:(c_ [] (mid.take k)).length=k:=by rw[(rj _ _).length_eq];simp;omega
  have yh:(c_ [] (mid.take k)).Pairwise kM:=KZ _ _ List.Pairwise.nil
  have bc:c_ [] (mid.take (k+1))=j7 x (c_ [] (mid.take k)):=by rw[c7 hx,KY]
  have cK:=drop_cons hx
  refine gO ?_
  refine cT ?_
  refine gO ?_
  refine AP.loop rfl (α:=List Lt×List Lt) (fun s=>[(0,.os 0 4 0 n),(1,Iv pre.length),(2,Iv (pre.length+mid.length)),(3,.fn 91 [] []),(8,Iv (pre.length+k)),(9,Iv (pre.length+s.1.length))]) (fun s=>fG (pre++s.1++x::(s.2++(mid.drop (k+1)++post)))) (fun s=>s.1++s.2=c_ [] (mid.take k)/\∀y∈s.2,dD x<dD y) (fun s=>s.1.length) (c_ [] (mid.take k),[]) ⟨List.append_nil _,fun y hy=>by cases hy⟩ (by rw[hP];exact(sU)) (by rw[cK];rfl) fun⟨o1,o2⟩ ⟨ho,j2⟩=>?_
  simp only at ho j2⊢
  rcases List.eq_nil_or_concat o1 with rfl|⟨W,y,rfl⟩
  ·have e9:(pre.length:Int)+(([]:List Lt).length:Nat)=(pre.length:Int):=by simp
   have hd:decide ((pre.length:Int)<(pre.length:Int))=false:=decide_eq_false (by omega)
   rw[e9]
   refine gO ?_
   refine AP.cu 17 (Tree.node [] [0,1,2,3,4,5,6,7,8,9,10,11,12,13] [14] [Tree.node [] [15,16] [] []]) (by kernel_rfl) rfl (by kernel_rfl) (by kernel_rfl) ?_
   refine cr ?_
   refine sE @hd ?_
   refine⟨fun h=>h.elim,fun h=>h.elim,fun h=>h.elim,fun h=>h.elim,?_⟩
   refine AQ.skip (by kernel_rfl) rfl ?_
   refine sI ?_
   refine AQ.nx rfl ?_
   refine sI ?_
   refine AQ.done ?_
   refine gE @hw ?_
   rw[List.nil_append]at ho
   refine AE.round (k+1) ⟨by omega,by omega⟩ (by omega) (sU) ?_
   have cL:j7 x (c_ [] (mid.take k))=x::o2:=by
    rw[<-ho]
    exact CM [] o2 x (by rw[List.nil_append,ho];exact yh) j2 (fun y hy=>by cases hy)
   rw[bc,cL];simp
  ·rw[List.concat_eq_append]at ho⊢
   obtain⟨q,hq⟩:∃q,pre.length+W.length=q:=⟨_,rfl⟩
   have e9:(pre.length:Int)+((W++[y]).length:Nat)=((q+1:Nat):Int):=by simp;omega
   obtain⟨T,hT⟩:∃T,o2++(mid.drop (k+1)++post)=T:=⟨_,rfl⟩
   obtain⟨Z,hZ⟩:∃Z,pre++W=Z:=⟨_,rfl⟩
   have uy:Z.length=q:=by rw[<-hZ,List.length_append];exact hq
   have eR:pre++(W++[y])++x::(o2++(mid.drop (k+1)++post))=Z++y::x::T:=by rw[hT,<-hZ];simp
   have lZ:(fW (Z++y::x::T)).getD q []=[Bi y.ng,Si y.pd,.sl 3 (ax y.xs),Si (dD y)]:=zT (by rw[List.getElem?_append_right (by omega),uy,Nat.sub_self];rfl)
   have uL:(fW (Z++y::x::T)).getD (q+1) []=[Bi x.ng,Si x.pd,.sl 3 (ax x.xs),Si (dD x)]:=zT (by rw[List.getElem?_append_right (by omega),uy,Nat.add_sub_cancel_left];rfl)
   have fl:W.length+1+o2.length=k:=by
    have:=congrArg List.length ho
    rw[hP]at this;simp only[List.length_append,List.length_singleton]at this;exact this
   have yK:q+1<n:=by omega
   have uv:(fW (Z++y::x::T)).length=n:=by
    rw[oJ,<-hT];simp only[List.length_append,List.length_cons,List.length_drop];omega
   have hd:decide ((pre.length:Int)<((q+1:Nat):Int))=true:=decide_eq_true (by omega)
   have b8:IntKind.i64.wrap (((q+1:Nat):Int)-1)=(q:Int):=by rw[wr (by omega)];omega
   rw[e9,eR]
   refine gE (an @hd @b8) ?_
   refine AP.cu 17 (Tree.node [] [0,1,2,3,4,5,6,7,8,9,10,11,12,13] [14] [Tree.node [] [15,16] [] []]) (by kernel_rfl) rfl (by kernel_rfl) (by kernel_rfl) ?_
   refine cr ?_
   refine sE (an @hd (an @b8 (an @lZ (an @uL (an @Int.toNat_natCast @uv))))) ?_
   refine⟨⟨by omega,by omega⟩,yK,⟨by omega,by omega⟩,by omega,?_⟩
   refine AQ.opt 22 rfl ?_
   refine AQ.pa (by simp only[go_sem]) ?_
   refine AQ.rK [] (by kernel_rfl) rfl rfl rfl rfl rfl rfl (fun k=>by exact trivial) (fun k=>rfl) (fun k=>rfl) (NC x y) ?_
   refine sI ?_
   refine AQ.nx rfl ?_
   refine sI ?_
   refine AQ.done ?_
   refine gO ?_
   refine AP.cond rfl rfl (fun h5=>?_) (fun h5=>?_)
   ·have h5:dD x<dD y:=by
     have:k0 (dD x) (dD y)<0:=by simpa using h5
     rw[k0]at this
     by_cases h6:dD x<dD y
     ·exact h6
     ·rw[if_neg h6]at this;split at this<;>omega
    refine gE @b8 ?_
    refine AP.cu 18 (Tree.node [] [0,1,2,3,4,5,6,7,8,9,10,11,12,13,14] [15] [Tree.node [2,3,4] [16] [17] [Tree.node [] [] [] []]]) (by kernel_rfl) rfl (by kernel_rfl) (by kernel_rfl) ?_
    refine cr ?_
    refine sE (an @b8 (an @lZ (an @uL (an @Int.toNat_natCast @uv)))) ?_
    refine⟨⟨by omega,by omega⟩,by omega,⟨by omega,by omega⟩,yK,⟨by omega,by omega⟩,?_⟩
    refine AQ.go (by kernel_rfl) ?_
    refine sE @uv ?_
    have iu:(fW (Z++y::x::T)).set (q+1) (Bi y.ng::Si y.pd::IV.sl 3 (ax y.xs)::Si (dD y)::List.drop 4 ((fW (Z++y::x::T)).getD (q+1) []))=fW (Z++y::y::T):=by
     rw[uL]
     refine(KQ _ _ y).trans ?_
     rw[List.set_append_right _ _ (by omega),<-uy,Nat.add_sub_cancel_left];rfl
    have iV:(fW (Z++y::y::T)).set q (Bi x.ng::Si x.pd::IV.sl 3 (ax x.xs)::Si (dD x)::List.drop 4 ((fW (Z++y::y::T)).getD q []))=fW (Z++x::y::T):=by
     have PA:(fW (Z++y::y::T)).getD q []=[Bi y.ng,Si y.pd,.sl 3 (ax y.xs),Si (dD y)]:=zT (by rw[List.getElem?_append_right (by omega),uy,Nat.sub_self];rfl)
     rw[PA]
     refine(KQ _ _ x).trans ?_
     rw[List.set_append_right _ _ (by omega),<-uy,Nat.sub_self];rfl
    have G8:(fW (Z++y::y::T)).length=n:=by rw[oJ]at uv⊢;rw[<-uv];simp
    rw[iu]
    refine⟨yK,?_⟩
    refine AQ.nx rfl ?_
    refine sE (an @b8 (an @Int.toNat_natCast @G8)) ?_
    refine⟨⟨by omega,by omega⟩,?_⟩
    refine AQ.go (by kernel_rfl) ?_
    refine sE @G8 ?_
    rw[iV]
    refine⟨by omega,?_⟩
    refine AQ.nx rfl ?_
    refine sI ?_
    refine AQ.done ?_
    refine gE @b8 ?_
    refine AE.round (W,y::o2) ⟨by rw[<-ho];simp,fun z hz=>?_⟩ (by simp) (by rw[<-hq];exact(sU)) (by rw[<-hZ,<-hT];simp)
    rcases List.mem_cons.1 hz with rfl|hz
    ·exact h5
    ·exact j2 z hz
   ·have h5:¬dD x<dD y:=fun h6=>by
     rw[k0,if_pos h6]at h5;simp at h5
    refine gE @hw ?_
    refine AE.round (k+1) ⟨by omega,by omega⟩ (by omega) (sU) ?_
    have cL:j7 x (c_ [] (mid.take k))=W++[y]++x::o2:=by
     have:=CM (W++[y]) o2 x (by rw[ho];exact yh) j2 (fun z hz=>by rw[List.getLast?_concat]at hz;cases hz;exact h5)
     rw[ho]at this;exact this
    rw[bc,cL,<-hZ,<-hT];simp
 ·have aC:mid.take k=mid:=List.take_of_length_le (by omega)
  have PM:mid.drop k=[]:=List.drop_eq_nil_of_le (by omega)
  rw[aC,PM,List.nil_append]
  refine gO ?_
  refine cF ?_
  refine gO ?_
  exact AE.iL rfl trivial ⟨rfl,rfl⟩
theorem Ty (l:List Lt) (h:l.length<=20):aj Tryz.prog 164 [.os 0 4 0 l.length,Iv l.length,.fn 91 [] []] (fG l) (fun r H'=>r= .aM []/\H'=fG (c_ [] l)):=by
 have h0:=Iy [] l [] (by simp;omega)
 simp only[List.nil_append,List.append_nil,List.length_nil]at h0
 rw[show((0:Nat):Int)+(l.length:Int)=l.length by omega]at h0
 have U:=Iy (c_ [] l) [] [] (by simp[(rj _ _).length_eq];omega)
 simp only[List.append_nil,List.length_nil]at U
 have mU:(c_ [] l).length=l.length:=by rw[(rj _ _).length_eq];rfl
 rw[mU,show((l.length:Nat):Int)+((0:Nat):Int)=l.length by omega,show c_ [] []=[] from rfl,List.append_nil]at U
 refine aj.walk [0,1,2,6,7,8,9,13,30,35,54] [] Tryz.func164 rfl Tryz.ntmps164 (by kernel_rfl) (by rfl) rfl fun W own I0 aq lay=>?_
 refine gO ?_
 refine AP.loop rfl (α:=Bool) (fun b=>[(0,.os 0 4 0 l.length),(1,Iv l.length),(2,.fn 91 [] []),(6,Iv 20),(7,Iv (if b then 20 else 0)),(8,Iv (if b then 40 else 20))]) (fun b=>fG (if b then c_ [] l else l)) (fun b=>b=true->l.length=20) (fun b=>if b then 0 else 1) false (by simp) (by exact(sU)) rfl fun b hb=>?_
 cases b with
 |false=>
  simp only[Bool.false_eq_true,if_false]
  by_cases ur:l.length=20
  ·rw[ur]at h0
   have G1:aj Tryz.prog 205 [.os 0 4 0 20,Iv 0,Iv 20,.fn 91 [] []] (fG l) (fun r H'=>r= .aM []/\H'=fG (c_ [] l)):=h0
   rw[ur]
   refine gO ?_
   refine AQ.bz [(0,0)] (by kernel_rfl) rfl rfl rfl rfl rfl rfl (by exact⟨rfl,trivial⟩) rfl (G1) ?_;rintro r H1 ⟨rfl,rfl⟩;refine⟨rfl,?_⟩;refine sH ?_
   have QB:IntKind.i64.wrap (20+20)=40:=by rw[wr (by omega)];rfl
   refine gE @QB ?_
   exact AE.round true (by simp) (by simp) (sU) rfl
  ·refine gO ?_
   refine cF ?_
   refine gO ?_
   refine AQ.bz [(0,0)] (by kernel_rfl) rfl rfl rfl rfl rfl rfl (by exact⟨rfl,trivial⟩) rfl (h0) ?_;rintro r H1 ⟨rfl,rfl⟩;refine⟨rfl,?_⟩;refine sH ?_
   refine gO ?_
   refine AP.loop rfl (α:=Unit) (fun _=>[(1,Iv l.length),(6,Iv 20)]) (fun _=>fG (c_ [] l)) (fun _=>True) (fun _=>0) () trivial (sU) rfl fun _ _=>?_
   refine gO ?_
   refine cF ?_
   refine gO ?_
   exact AE.iL rfl trivial ⟨rfl,rfl⟩
 |true=>
  simp only[if_true]
  have ur:=hb rfl
  rw[ur]at U
  have r5:aj Tryz.prog 205 [.os 0 4 0 20,Iv 20,Iv 20,.fn 91 [] []] (fG (c_ [] l)) (fun r H'=>r= .aM []/\H'=fG (c_ [] l)):=U
  rw[ur]
  refine gO ?_
  refine AQ.bz [(0,0)] (by kernel_rfl) rfl rfl rfl rfl rfl rfl (by exact⟨rfl,trivial⟩) rfl (r5) ?_;rintro r H1 ⟨rfl,rfl⟩;refine⟨rfl,?_⟩;refine sH ?_
  refine gO ?_
  refine AP.loop rfl (α:=Unit) (fun _=>[(1,Iv 20),(6,Iv 20)]) (fun _=>fG (c_ [] l)) (fun _=>True) (fun _=>0) () trivial (sU) rfl fun _ _=>?_
  refine gO ?_
  exact AE.iL rfl trivial ⟨rfl,rfl⟩
theorem Tp (l:List Lt) (h:l.length<=20):aj Tryz.prog 90 [.os 0 4 0 l.length,.fn 91 [] []] (fG l) (fun r H'=>r= .aM []/\H'=fG (c_ [] l)):=by
 refine aj.walk [0,1] [] Tryz.func90 rfl Tryz.ntmps90 (by kernel_rfl) (by rfl) rfl fun W own I0 aq lay=>?_
 refine gO ?_
 refine AQ.bz [(0,0)] (by kernel_rfl) rfl rfl rfl rfl rfl rfl (by exact⟨rfl,trivial⟩) rfl (Ty l h) ?_;rintro r H1 ⟨rfl,rfl⟩;refine⟨rfl,?_⟩;refine sH ?_
 refine gO ?_
 exact AE.iL rfl trivial ⟨rfl,rfl⟩
def fi (k:Nat):List Int->List (Int×Int)
 |[]=>[]
 |v::o=>(v,(k:Int))::fi (k+1) o
theorem RG (o:List Int) (k:Nat):(fi k o).length=o.length:=by
 induction o generalizing k with
 |nil=>rfl
 |cons v o ih=>rw[fi,List.length_cons,List.length_cons,ih]
theorem RF (o:List Int) (k:Nat):(fi k o).map (·.1)=o:=by
 induction o generalizing k with
 |nil=>rfl
 |cons v o ih=>rw[fi,List.map_cons,ih]
theorem RH (o:List Int) (v:Int) (k:Nat):fi k (o++[v])=fi k o++[(v,((k+o.length:Nat):Int))]:=by
 induction o generalizing k with
 |nil=>simp[fi]
 |cons w o ih=>
  rw[List.cons_append,fi,fi,ih,List.cons_append]
  simp only[List.length_cons]
  rw[show k+1+o.length=k+(o.length+1) by omega]
theorem Ji (o:List Int) (v:Int) (k:Nat):(v∈o->bh (fi k o) v=some ((k+o.idxOf v:Nat):Int))/\(v∉o->de (fi k o) v=none):=by
 induction o generalizing k with
 |nil=>exact⟨fun h=>(by cases h),fun _=>rfl⟩
 |cons w o ih=>
  rw[fi,bh,de,List.idxOf_cons]
  by_cases h:w=v
  ·subst h
   rw[if_pos rfl,if_pos rfl]
   exact⟨fun _=>by simp,fun h=>absurd (List.mem_cons_self ..) h⟩
  ·rw[if_neg h,if_neg h,show(w==v)=false by simpa using h]
   obtain⟨U,h2⟩:=ih (k+1)
   refine⟨fun hv=>?_,fun hv=>?_⟩
   ·rcases List.mem_cons.1 hv with e|hv
    ·exact absurd e.symm h
    ·rw[U hv,cond_false];congr 1;omega
   ·rw[h2 (fun h3=>hv (List.mem_cons_of_mem _ h3))];rfl
def ei (F:List Int) (v:Int):Tm:=cQ (F.idxOf v:Nat)
abbrev oA (o:List Int):aa:=[(1,.var 149 [.mp 0]),(0,.var (.map (kI (fi 0 o))) (vN (fi 0 o)))]
theorem Ik {o r:List Int} {v:Int} (h:v∈o):(o++r).idxOf v=o.idxOf v:=by rw[List.idxOf_append,if_pos h]
theorem Sd (o F r:List Int) (v:Int) (hF:F=cO o [v]++r) (bg:o.Nodup) (hlen:o.length<=1000000):aj Tryz.prog 94 [Iv v,.ob 1 0] (oA o) (fun r H'=>r=bp (ei F v)/\H'=oA (cO o [v])):=by
 have hm:cN (fi 0 o):=by rw[cN,RF];exact bg
 have so:cO o [v]=if v∈o then o else o++[v]:=rfl
 refine aj.walk [0,1,3,4,5,13] [3] Tryz.func94 rfl Tryz.ntmps94 (by kernel_rfl) (by rfl) rfl fun W own I0 aq lay=>?_
 refine gO ?_
 by_cases hv:v∈o
 ·rw[if_pos hv]at so
  have hl:=(Ji o v 0).1 hv
  rw[Nat.zero_add]at hl
  obtain⟨j,hj,hg⟩:=C5 hl
  have he:ei F v=cQ (o.idxOf v:Nat):=by rw[ei,hF,so,Ik hv]
  refine AQ.pI j (by kernel_rfl) rfl rfl rfl my u3 (ft _) rfl (List.mem_of_getElem? (show(kI (fi 0 o))[j]?=some (.int .i64 v) from ma hg)) (fun i hi=>mb hm hg hi) (z8 hg) ?_
  refine sI ?_
  refine gO ?_
  refine AQ.fn (by kernel_rfl) rfl rfl rfl (z_ (o.idxOf v:Nat)) rfl ?_
  refine sI ?_
  refine gO ?_
  exact AE.aX [2] rfl ⟨⟨rfl,Nat.le_of_ble_eq_true (by kernel_rfl)⟩,trivial⟩ (by simp only[go_sem,Nat.reduceAdd,Nat.reduceLeDiff,Nat.reduceSub,Int.reduceToNat,reduceCtorEq,ba,noMen,AV.mens,AV.men,gr,Bool.or_false];first|done|rfl) ⟨by rw[he];rfl,by rw[so];rfl⟩
 ·rw[if_neg hv]at so
  have hl:=(Ji o v 0).2 hv
  have he:ei F v=cQ (o.length:Nat):=by
   rw[ei,hF,so,Ik (by simp),List.idxOf_append,if_neg hv];simp
  refine AQ.Df (by kernel_rfl) rfl rfl rfl my u3 (ft _) rfl (lx hl) rfl rfl ?_
  refine sI ?_
  refine gO ?_
  refine AQ.RP (by kernel_rfl) rfl rfl my ?_
  have HB:(kI (fi 0 o)).length=o.length:=by rw[sL,RG]
  rw[HB]
  refine sI ?_
  refine gO ?_
  refine AQ.v7 (by kernel_rfl) rfl rfl rfl rfl my u3 (ft _) rfl (lx hl) ?_
  refine sI ?_
  refine gO ?_
  have e0:fi 0 (o++[v])=fi 0 o++[(v,((o.length:Nat):Int))]:=by rw[RH,Nat.zero_add]
  have e1:vN (fi 0 o)++[Iv (o.length:Nat)]=vN (fi 0 (o++[v])):=by rw[e0];simp only[vN,List.map_append];rfl
  have e2:kI (fi 0 o)++[.int .i64 v]=kI (fi 0 (o++[v])):=by rw[e0];simp only[kI,List.map_append];rfl
  rw[e1,e2]
  refine AQ.fn (by kernel_rfl) rfl rfl rfl (z_ (o.length:Nat)) rfl ?_
  refine sI ?_
  refine gO ?_
  exact AE.aX [2] rfl ⟨⟨rfl,Nat.le_of_ble_eq_true (by kernel_rfl)⟩,trivial⟩ (by simp only[go_sem,Nat.reduceAdd,Nat.reduceLeDiff,Nat.reduceSub,Int.reduceToNat,reduceCtorEq,ba,noMen,AV.mens,AV.men,gr,Bool.or_false];first|done|rfl) ⟨by rw[he];rfl,by rw[so];rfl⟩
theorem oB (o:List Int):∀(l m:List Int),cO o (l++m)=cO (cO o l) m
 |[],m=>rfl
 |v::l,m=>by rw[List.cons_append,cO,cO,oB _ l m]
theorem LQ {l:List Tm} {k:Nat} {u:Tm} (h:l[k]?=some u):bM (l.take (k+1))=bM (l.take k)++dG u:=by
 rw[c7 h]
 have:∀a:List Tm,bM (a++[u])=bM a++dG u:=fun a=>by
  induction a with
  |nil=>rw[List.nil_append,bM,bM,bM];simp
  |cons b a ih=>rw[List.cons_append,bM,bM,ih,List.append_assoc]
 exact this _
theorem LO {l:List Tm} {k:Nat} {u:Tm} (h:l[k]?=some u):bM l=bM (l.take k)++(dG u++bM (l.drop (k+1))):=by
 have BD:∀a b:List Tm,bM (a++b)=bM a++bM b:=fun a b=>by
  induction a with
  |nil=>rw[List.nil_append,bM];rfl
  |cons c a ih=>rw[List.cons_append,bM,bM,ih,List.append_assoc]
 conv=>lhs;rw[<-List.take_append_drop k l,drop_cons h]
 rw[BD,bM]
theorem DD:∀(l o:List Int),(cO o l).length<=o.length+l.length
 |[],o=>by rw[cO];simp
 |v::l,o=>by
  rw[cO]
  have:=DD l (if v∈o then o else o++[v])
  by_cases h:v∈o
  ·rw[if_pos h]at this⊢;simp only[List.length_cons];omega
  ·rw[if_neg h]at this⊢;simp only[List.length_cons,List.length_append,List.length_nil]at this⊢;omega
theorem JN {o F r a b c:List Int} (h:F=cO o (a++(b++c))++r):∃r',F=cO (cO o a) b++r':=by
 rw[oB,oB]at h
 obtain⟨q,hq⟩:=JM c (cO (cO o a) b)
 exact⟨q++r,by rw[h,hq,List.append_assoc]⟩
theorem Fv (F:List Int) (x:Tm) (o r:List Int) (hF:F=cO o (dG x)++r) (bg:o.Nodup) (hlen:o.length+(dG x).length<=1000000) (hs:aU x) (ai:dE x=true):aj Tryz.prog 140 [bp x,.fn 94 [] [.ob 1 0]] (oA o) (fun r H'=>r=bp (aB (ei F) x)/\H'=oA (cO o (dG x))):=by
 have cM:=eU.1 hs
 have hc:=nJ (ei F) x
 have dC:=Um x
 have yH:=s6 x
 rw[ai]at yH
 refine aj.walk [0,1,2,4,5,7,10,19,20,21,22] [4,5,7] Tryz.func140 rfl Tryz.ntmps140 (by kernel_rfl) (by rfl) rfl fun W own I0 aq lay=>?_
 refine gO ?_
 refine AP.cond rfl rfl (fun h=>?_) (fun h=>?_)
 ·have h:x.nm=[]:=by simpa using h
  rw[if_pos h]at hc yH dC
  have py:x.xs=[]:=by
   have:=yH.symm
   rw[Bool.and_eq_true,List.isEmpty_iff]at this;exact this.1
  rw[py,bM,List.append_nil]at dC
  rw[dC]at hF hlen⊢
  have P0:=Sd o F r x.ix hF bg (by omega)
  refine gO ?_
  refine AQ.bz [(1,1),(0,0)] (by kernel_rfl) rfl rfl rfl rfl rfl rfl (by refine⟨?_,?_,trivial⟩<;>(simp only[cH,AV.cd,AV.rn,wq];rfl)) rfl P0 fun r' H' ⟨e1,e2⟩=>?_
  subst e1;subst e2
  refine sH ?_
  refine gO ?_
  exact AE.aX [2] rfl ⟨⟨rfl,Nat.le_of_ble_eq_true (by kernel_rfl)⟩,trivial⟩ (by simp only[go_sem,Nat.reduceAdd,Nat.reduceLeDiff,Nat.reduceSub,Int.reduceToNat,reduceCtorEq,ba,noMen,AV.mens,AV.men,gr,Bool.or_false];first|done|rfl) ⟨by rw[hc];rfl,rfl⟩
 have h:¬x.nm=[]:=by simpa using h
 rw[if_neg h,List.nil_append]at dC
 rw[if_neg h]at hc
 rw[dC]at hF hlen⊢
 have P4:=JS ai h
 refine gE @ah ?_
 rw[h_]at hc
 refine AP.hO 3 2 71 3 rfl rfl ?_
 refine sI ?_
 refine AP.loop rfl (α:=Nat) (fun k=>[(1,.fn 94 [] [.ob 1 0]),(4,.ob 2 0),(5,.ob 3 0),(19,.im (.sl 3 (ax x.xs))),(20,Iv x.xs.length),(21,Iv k)]) (fun k=>(4,.vec 71 3 (ax ((x.xs.take k).map (aB (ei F)))))::(3,.var 71 [Sv x.nm,Iv 0,.os 4 3 0 k])::(2,.var 71 [Sv [],Iv 0,eL])::oA (cO o (bM (x.xs.take k)))) (fun k=>k<=x.xs.length) (fun k=>x.xs.length-k) 0 (by omega) (sU) (by rw[List.take_zero,bM];rfl) fun k hk=>?_
 rcases Nat.eq_or_lt_of_le hk with aC|ag
 ·subst aC
  rw[List.take_length]
  refine gE @ah ?_
  refine cF ?_
  refine gO ?_
  refine AE.freeze 4 (el:=71) (es:=3) (rows:=ax (x.xs.map (aB (ei F)))) rfl (by simp only[go_sem,Nat.reduceAdd,Nat.reduceLeDiff,Nat.reduceSub,Int.reduceToNat,reduceCtorEq,ah,List.length_map];first|done|trivial|omega|(simp;done)|(simp;omega)) (by simp only[go_sem,Nat.reduceAdd,Nat.reduceLeDiff,Nat.reduceSub,Int.reduceToNat,reduceCtorEq,ah,List.length_map];first|done|trivial|omega|(simp;done)|(simp;omega)) ?_;simp only[go_sem,Nat.reduceAdd,Nat.reduceLeDiff,Nat.reduceSub,Int.reduceToNat,reduceCtorEq,ah,List.length_map]
  rw[List.take_of_length_le (by rw[ah,List.length_map];omega)]
  exact AE.aX [3,2] rfl ⟨⟨rfl,Nat.le_of_ble_eq_true (by kernel_rfl)⟩,trivial⟩ (by simp only[go_sem,Nat.reduceAdd,Nat.reduceLeDiff,Nat.reduceSub,Int.reduceToNat,reduceCtorEq,ba,noMen,AV.mens,AV.men,gr,Bool.or_false];first|done|rfl) ⟨by rw[hc];rfl,rfl⟩
 ·obtain⟨u,hu,aF⟩:=cz x.xs k ag
  have hw:=wr (x:=(k:Int)+1) (by omega)
  have aY:=gP (l:=x.xs) (k:=k) (by omega)
  have Cz:=LQ hu
  have Cw:=LO hu
  obtain⟨r',nU⟩:=JN (Cw▸hF)
  have mN:(bM x.xs).length=(bM (x.xs.take k)).length+((dG u).length+(bM (x.xs.drop (k+1))).length):=by rw[Cw,List.length_append,List.length_append]
  have gn:=DD (bM (x.xs.take k)) o
  have ih:=Fv F u (cO o (bM (x.xs.take k))) r' nU (zx _ _ bg) (by omega) (cA cM.2.2 hu) (oD P4 u (List.mem_of_getElem? hu))
  rw[<-oB,<-Cz]at ih
  have bc:=q5 (aB (ei F)) hu
  obtain⟨w,oh⟩:∃w,aB (ei F) u=w:=⟨_,rfl⟩
  rw[oh]at ih bc
  clear Cw nU mN gn hF hc dC yH
  refine gE @ah ?_
  refine cT ?_
  refine gE @aF ?_
  refine⟨by rw[ah];omega,?_⟩
  refine gO ?_
  refine AP.cu 9 (Tree.node [] [0,1,2,3] [4] [Tree.node [0,1] [] [5] [Tree.node [0,1] [] [6] [Tree.node [] [7] [8] [Tree.node [] [] [] []]]]]) (by kernel_rfl) rfl (by kernel_rfl) (by kernel_rfl) ?_
  refine cr ?_
  refine sI ?_
  refine AQ.bz [(1,1),(0,0)] (by kernel_rfl) rfl rfl rfl rfl rfl rfl (by refine⟨?_,?_,trivial⟩<;>(simp only[cH,AV.cd,AV.rn,wq];rfl)) rfl ih fun r' H' ⟨e1,e2⟩=>?_
  subst e1;subst e2
  refine sH ?_
  refine AQ.nx rfl ?_
  refine sI ?_
  refine AQ.go (by kernel_rfl) ?_
  refine sI ?_
  refine AQ.nx rfl ?_
  refine sI ?_
  refine AQ.kill 4 ?_
  refine sI ?_
  refine AQ.append (hnb:=rfl) (rows:=ax ((x.xs.take k).map (aB (ei F)))) (es:=2) (by kernel_rfl) rfl rfl rfl (by first|(simp only[go_sem,noMen,AV.mens,AV.men,Bool.or_false];done)|(simp only[go_sem,noMen,AV.mens,AV.men,Bool.or_false];rfl)) Tryz.p8 Tryz.p7 (by show Option.map _ (az Tryz.prog 71)=_;rw[Tryz.qb];rfl) Tryz.oY (by first|rfl|(simp only[ah,List.length_map,aY,List.length_cons,List.length_nil];done)|(simp only[ah,List.length_map,aY,List.length_cons,List.length_nil];omega)) (by simp only[ah,List.length_map,aY,List.length_cons,List.length_nil];omega) (by simp only[ah,List.length_map,aY,List.length_cons,List.length_nil];omega) ?_
  refine sI ?_
  refine AQ.nx rfl ?_
  refine sI ?_
  refine AQ.go (by kernel_rfl) ?_
  refine sI ?_
  refine AQ.nx rfl ?_
  refine sI ?_
  refine AQ.done ?_
  refine gE @hw ?_
  refine AE.dq [5] (by simp only[go_sem,Nat.reduceAdd,Nat.reduceLeDiff,Nat.reduceSub,Int.reduceToNat,reduceCtorEq,ba,noMen,AV.mens,AV.men,gr,Bool.or_false];first|done|rfl) ?_
  refine sI ?_
  refine AE.round (k+1) (by omega) (by omega) (sU) ?_
  rw[bc,ni,ah,List.length_map,aY];rfl
termination_by SizeOf.sizeOf x
decreasing_by exact iF hu
theorem LL:∀a b:List Lt,dN (a++b)=dN a++dN b:=fun a b=>by rw[dN,List.flatMap_append];rfl
theorem Ul {c:List Lt} {k:Nat} {u:Lt} (h:c[k]?=some u):dN (c.take (k+1))=dN (c.take k)++bM u.xs:=by
 rw[c7 h,LL];simp[dN]
theorem Uk {c:List Lt} {k j:Nat} {u:Lt} {v:Tm} (h:c[k]?=some u) (hv:u.xs[j]?=some v):∃q,dN c=(dN (c.take k)++bM (u.xs.take j))++(dG v++q):=by
 have U:dN c=dN (c.take k)++(bM u.xs++dN (c.drop (k+1))):=by
  conv=>lhs;rw[<-List.take_append_drop k c,drop_cons h]
  rw[LL,LM]
 rw[U,LO hv]
 exact⟨bM (u.xs.drop (j+1))++dN (c.drop (k+1)),by simp only[List.append_assoc]⟩
theorem Nu (F:List Int) (c:List Lt) (hF:F=cO [] (dN c)) (hlen:(dN c).length<=1000000) (hs:cC c) (ai:∀l∈c,ej l=true):aj Tryz.prog 93 [aK c,.fn 94 [] [.ob 1 0]] (oA []) (fun r H'=>r=aK (ct (ei F) c)/\H'=oA F):=by
 have b5:=hs.1
 refine aj.walk [0,1,4,5,7,8,10,11,12,13,14,23,24,25,26] [7,8,10] Tryz.func93 rfl Tryz.ntmps93 (by kernel_rfl) (by rfl) rfl fun W own I0 aq lay=>?_
 refine gE @aA ?_
 refine AP.own 5 119 3 rfl ?_
 refine sI ?_
 refine AP.loop rfl (α:=Nat) (fun k=>[(1,.fn 94 [] [.ob 1 0]),(5,.os 2 3 0 k),(11,aK c),(12,Iv c.length),(13,Iv k)]) (fun k=>(2,.vec 119 3 (bP ((c.take k).map (ec (ei F)))))::oA (cO [] (dN (c.take k)))) (fun k=>k<=c.length) (fun k=>c.length-k) 0 (by omega) (sU) rfl fun k hk=>?_
 rcases Nat.eq_or_lt_of_le hk with aC|ag
 ·subst aC
  rw[List.take_length]
  refine gE @aA ?_
  refine cF ?_
  refine gO ?_
  refine AE.freeze 2 (el:=119) (es:=3) (rows:=bP (c.map (ec (ei F)))) rfl (by simp only[go_sem,Nat.reduceAdd,Nat.reduceLeDiff,Nat.reduceSub,Int.reduceToNat,reduceCtorEq,aA,List.length_map];first|done|trivial|omega|(simp;done)|(simp;omega)) (by simp only[go_sem,Nat.reduceAdd,Nat.reduceLeDiff,Nat.reduceSub,Int.reduceToNat,reduceCtorEq,aA,List.length_map];first|done|trivial|omega|(simp;done)|(simp;omega)) ?_;simp only[go_sem,Nat.reduceAdd,Nat.reduceLeDiff,Nat.reduceSub,Int.reduceToNat,reduceCtorEq,aA,List.length_map]
  rw[List.take_of_length_le (by rw[aA,List.length_map];omega)]
  exact AE.aX [] rfl ⟨rfl,trivial⟩ rfl ⟨rfl,by rw[hF];rfl⟩
 ·obtain⟨u,hu,aF⟩:=fT c k ag
  have hw:=wr (x:=(k:Int)+1) (by omega)
  have aY:=gP (l:=c) (k:=k) (by omega)
  have bH:=kZ hs hu
  have mV:=bH.2.1
  have bc:=q5 (ec (ei F)) hu
  refine gE @aA ?_
  refine cT ?_
  refine gE @aF ?_
  refine⟨by rw[aA];omega,?_⟩
  refine gE @ah ?_
  refine AP.hO 4 2 71 3 rfl rfl ?_
  refine sI ?_
  have yk:ec (ei F) u=⟨u.ng,u.pd,u.xs.map (aB (ei F))⟩:=by rw[ec,h_]
  refine AP.loop rfl (α:=Nat) (fun j=>[(1,.fn 94 [] [.ob 1 0]),(5,.os 2 3 0 k),(8,.ob 4 0),(11,aK c),(12,Iv c.length),(13,Iv k),(23,.im (.sl 3 (ax u.xs))),(24,Iv u.xs.length),(25,Iv j)]) (fun j=>(5,.vec 71 3 (ax ((u.xs.take j).map (aB (ei F)))))::(4,.var 119 [Bv u.ng,Sv u.pd,.os 5 3 0 j])::(3,.var 119 [Bv u.ng,Sv u.pd,.im (.sl 3 (ax u.xs))])::(2,.vec 119 3 (bP ((c.take k).map (ec (ei F)))))::oA (cO (cO [] (dN (c.take k))) (bM (u.xs.take j)))) (fun j=>j<=u.xs.length) (fun j=>u.xs.length-j) 0 (by omega) (sU) (by rw[List.take_zero (l:=u.xs),bM];rfl) fun j hj=>?_
  rcases Nat.eq_or_lt_of_le hj with dV|fQ
  ·subst dV
   rw[List.take_length]
   refine gE @ah ?_
   refine cF ?_
   refine sI ?_
   refine AP.freeze 5 (el:=71) (es:=3) (rows:=ax (u.xs.map (aB (ei F)))) rfl (by simp only[go_sem,Nat.reduceAdd,Nat.reduceLeDiff,Nat.reduceSub,Int.reduceToNat,reduceCtorEq,ah,List.length_map];first|done|trivial|omega|(simp;done)|(simp;omega)) (by simp only[go_sem,Nat.reduceAdd,Nat.reduceLeDiff,Nat.reduceSub,Int.reduceToNat,reduceCtorEq,ah,List.length_map];first|done|trivial|omega|(simp;done)|(simp;omega)) ?_;simp only[go_sem,Nat.reduceAdd,Nat.reduceLeDiff,Nat.reduceSub,Int.reduceToNat,reduceCtorEq,ah,List.length_map]
   rw[show List.take u.xs.length (ax (u.xs.map (aB (ei F))))=ax (u.xs.map (aB (ei F))) from List.take_of_length_le (by rw[ah,List.length_map];omega)]
   refine gO ?_
   refine AQ.append (hnb:=rfl) (rows:=bP ((c.take k).map (ec (ei F)))) (es:=2) (by kernel_rfl) rfl rfl rfl (by first|(simp only[go_sem,noMen,AV.mens,AV.men,Bool.or_false];done)|(simp only[go_sem,noMen,AV.mens,AV.men,Bool.or_false];rfl)) Tryz.wK Tryz.wE (by show Option.map _ (az Tryz.prog 119)=_;rw[Tryz.wW];rfl) Tryz.tS (by first|rfl|(simp only[aA,List.length_map,aY,List.length_cons,List.length_nil];done)|(simp only[aA,List.length_map,aY,List.length_cons,List.length_nil];omega)) (by simp only[aA,List.length_map,aY,List.length_cons,List.length_nil];omega) (by simp only[aA,List.length_map,aY,List.length_cons,List.length_nil];omega) ?_
   refine sI ?_
   refine gE @hw ?_
   refine AE.dq [4,3] (by simp only[go_sem,Nat.reduceAdd,Nat.reduceLeDiff,Nat.reduceSub,Int.reduceToNat,reduceCtorEq,ba,noMen,AV.mens,AV.men,gr,Bool.or_false];first|done|rfl) ?_
   refine sE (an @aA (an @List.length_map.{0,0} @aY)) ?_
   refine AE.round (k+1) (by omega) (by omega) (sU) ?_
   rw[bc,sT,yk,Ul hu,oB];rfl
  ·obtain⟨v,hv,cg⟩:=cz u.xs j fQ
   have eH:=wr (x:=(j:Int)+1) (by have:=bH.2.1;omega)
   have fm:=gP (l:=u.xs) (k:=j) (by omega)
   obtain⟨q,hq⟩:=Uk hu hv
   have Cz:=LQ hv
   have G6:F=cO (cO (cO [] (dN (c.take k))) (bM (u.xs.take j))) (dG v++q)++[]:=by rw[hF,hq,oB _ (_++_),oB _ (dN _),List.append_nil]
   obtain⟨r',nU⟩:=JN (a:=[]) G6
   have mN:=congrArg List.length hq
   simp only[List.length_append]at mN
   have gn:=DD (dN (c.take k)++bM (u.xs.take j)) []
   rw[oB,List.length_append,List.length_nil]at gn
   have ih:=Fv F v (cO (cO [] (dN (c.take k))) (bM (u.xs.take j))) r' nU (zx _ _ (zx _ _ List.nodup_nil)) (by omega) (cA bH.2.2 hv) (oD (q9 (ai u (List.mem_of_getElem? hu))) v (List.mem_of_getElem? hv))
   rw[<-oB (cO [] (dN (c.take k))),<-Cz]at ih
   clear G6 nU mN gn hq
   have gY:=q5 (aB (ei F)) hv
   obtain⟨w,oh⟩:∃w,aB (ei F) v=w:=⟨_,rfl⟩
   rw[oh]at ih gY
   refine gE @ah ?_
   refine cT ?_
   refine gE @cg ?_
   refine⟨by rw[ah];omega,?_⟩
   refine gO ?_
   refine AP.cu 9 (Tree.node [] [0,1,2,3] [4] [Tree.node [0,1] [] [5] [Tree.node [0,1] [] [6] [Tree.node [] [7] [8] [Tree.node [] [] [] []]]]]) (by kernel_rfl) rfl (by kernel_rfl) (by kernel_rfl) ?_
   refine cr ?_
   refine sI ?_
   refine AQ.bz [(1,1),(0,0)] (by kernel_rfl) rfl rfl rfl rfl rfl rfl (by refine⟨?_,?_,trivial⟩<;>(simp only[cH,AV.cd,AV.rn,wq];rfl)) rfl ih fun r' H' ⟨e1,e2⟩=>?_
   subst e1;subst e2
   refine sH ?_
   refine AQ.nx rfl ?_
   refine sI ?_
   refine AQ.go (by kernel_rfl) ?_
   refine sI ?_
   refine AQ.nx rfl ?_
   refine sI ?_
   refine AQ.kill 5 ?_
   refine sI ?_
   refine AQ.append (hnb:=rfl) (rows:=ax ((u.xs.take j).map (aB (ei F)))) (es:=2) (by kernel_rfl) rfl rfl rfl (by first|(simp only[go_sem,noMen,AV.mens,AV.men,Bool.or_false];done)|(simp only[go_sem,noMen,AV.mens,AV.men,Bool.or_false];rfl)) Tryz.p8 Tryz.p7 (by show Option.map _ (az Tryz.prog 71)=_;rw[Tryz.qb];rfl) Tryz.oY (by first|rfl|(simp only[ah,List.length_map,fm,List.length_cons,List.length_nil];done)|(simp only[ah,List.length_map,fm,List.length_cons,List.length_nil];omega)) (by simp only[ah,List.length_map,fm,List.length_cons,List.length_nil];omega) (by simp only[ah,List.length_map,fm,List.length_cons,List.length_nil];omega) ?_
   refine sI ?_
   refine AQ.nx rfl ?_
   refine sI ?_
   refine AQ.go (by kernel_rfl) ?_
   refine sI ?_
   refine AQ.nx rfl ?_
   refine sI ?_
   refine AQ.done ?_
   refine gE @eH ?_
   refine AE.dq [6] (by simp only[go_sem,Nat.reduceAdd,Nat.reduceLeDiff,Nat.reduceSub,Int.reduceToNat,reduceCtorEq,ba,noMen,AV.mens,AV.men,gr,Bool.or_false];first|done|rfl) ?_
   refine sI ?_
   refine AE.round (j+1) (by omega) (by omega) (sU) ?_
   rw[gY,ni,ah,List.length_map,fm];rfl
theorem R5 (x y:Lt) (hs:iZ x):aP Tryz.prog 88 [jC y,.im (sS x)] (Bv (dX x y)):=by
 refine aj.walk [0,1,2,3] [] Tryz.func88 rfl Tryz.ntmps88 (by kernel_rfl) (by rfl) rfl fun W own I0 aq lay=>?_
 refine gO ?_
 refine AQ.fn (by kernel_rfl) rfl rfl rfl (S8 x y hs) rfl ?_
 refine sI ?_
 refine gO ?_
 exact AE.aG rfl ⟨rfl,trivial⟩ rfl ⟨rfl,rfl⟩
theorem Q0 (l:List Lt) (x:Lt) (hl:l.length<=1000000000) (hs:iZ x):
  aP Tryz.prog 162 [aK l,.fn 88 [] [.im (sS x)]] (Iv (dK (dX x) l 0)):=by
 refine aj.walk [0,1,4,5,7,8,9,16] [] Tryz.func162 rfl Tryz.ntmps162 (by kernel_rfl) (by rfl) rfl fun W own I0 aq lay=>?_
 refine gE @aA ?_
 refine AP.loop rfl (α:=Nat) (fun k=>[(0,aK l),(1,.fn 88 [] [.im (sS x)]),(7,Iv l.length),(8,Iv k)]) (fun _=>[]) (fun k=>k<=l.length/\dK (dX x) l 0=dK (dX x) (l.drop k) k) (fun k=>l.length-k) 0 ⟨by omega,rfl⟩ (sU) rfl fun k ⟨hk,hm⟩=>?_
 rcases Nat.eq_or_lt_of_le hk with aC|ag
 ·refine gO ?_
  refine cF ?_
  refine gO ?_
  exact AE.aG rfl ⟨rfl,trivial⟩ rfl ⟨rfl,by rw[hm,aC,List.drop_length,dK];rfl⟩
 ·obtain⟨u,hu,aF⟩:=fT l k ag
  have hw:=wr (x:=(k:Int)+1) (by omega)
  have cK:=vK (dX x) hu
  refine gO ?_
  refine cT ?_
  refine gE @aF ?_
  refine⟨by rw[aA];omega,?_⟩
  refine gO ?_
  refine AQ.rK [] (by kernel_rfl) rfl rfl rfl rfl rfl rfl (fun k=>by exact trivial) (fun k=>rfl) (fun k=>rfl) (R5 x u hs) ?_
  refine sI ?_
  refine gO ?_
  refine AP.cond rfl rfl (fun U=>?_) (fun U=>?_)
  ·refine gO ?_
   exact AE.aG rfl ⟨rfl,trivial⟩ rfl ⟨rfl,by rw[hm,cK,if_pos (by simpa using U)];rfl⟩
  ·refine gE @hw ?_
   exact AE.round (k+1) ⟨by omega,by rw[hm,cK,if_neg (by simpa using U)]⟩ (by omega) (sU) rfl
theorem MF (l:List Lt) (x:Lt) (hl:l.length<=1000000000) (hs:iZ x):aP Tryz.prog 87 [aK l,.fn 88 [] [.im (sS x)]] (Bv (l.any (dX x))):=by
 refine aj.walk [0,1,4] [] Tryz.func87 rfl Tryz.ntmps87 (by kernel_rfl) (by rfl) rfl fun W own I0 aq lay=>?_
 refine gO ?_
 refine AQ.fn (by kernel_rfl) rfl rfl rfl (Q0 l x hl hs) rfl ?_
 refine sI ?_
 refine gO ?_
 exact AE.aG rfl ⟨rfl,trivial⟩ rfl ⟨rfl,by rw[<-vJ (dX x) l 0];rfl⟩
mutual
theorem Un:∀t:Tm,(dG t).length<=wT t
 | .mk n i xs=>by
  rw[dG,wT,List.length_append]
  have:=Eo xs
  split<;>simp<;>omega
theorem Eo:∀l:List Tm,(bM l).length<=aw l
 |[]=>by rw[bM,aw];simp
 |t::l=>by rw[bM,aw,List.length_append];have:=Un t;have:=Eo l;omega
end
theorem LN:∀c:List Lt,(dN c).length<=bC c
 |[]=>by simp[dN]
 |l::c=>by rw[LM,List.length_append,iB];have:=Eo l.xs;have:=LN c;omega
theorem R7 (N:Nat) (vm:∀l:List Lt,l.length<=N->aj Tryz.prog 90 [.os 0 4 0 l.length,.fn 91 [] []] (fG l) (fun r H'=>r= .aM []/\H'=fG (c_ [] l))) (c:List Lt) (hN:c.length<=N) (hs:cC c) (dU:aW 4 9 2 3 c=0):
  aP Tryz.prog 22 [aK c] (.aM [aK (zu c),Iv 0]):=by
 obtain⟨U,h2,h3,h4⟩:=jO dU
 refine aj.walk [0,2,3,4,5,6,7,8,10,11,15,17,18,19,20,29,44,45,46,47] [7,10,11] Tryz.func22 rfl Tryz.ntmps22 (by kernel_rfl) (by rfl) rfl fun W own I0 aq lay=>?_
 refine gO ?_
 refine AQ.fn (by kernel_rfl) rfl rfl rfl (oZ c hs) rfl ?_
 refine sE @dU ?_
 refine gE (an @dU @aA) ?_
 refine AP.own 5 145 4 rfl ?_
 refine sI ?_
 refine AP.loop rfl (α:=Nat) (fun k=>[(0,aK c),(5,.os 0 4 0 (eO [] (c.take k)).length),(17,aK c),(18,Iv c.length),(19,Iv k)]) (fun k=>fG (eO [] (c.take k))) (fun k=>k<=c.length) (fun k=>c.length-k) 0 (by omega) (sU) rfl fun k hk=>?_
 rcases Nat.eq_or_lt_of_le hk with aC|ag
 ·subst aC
  rw[List.take_length]
  have yn:(eO [] c).length<=c.length:=(rP c []).length_le
  have sx:=vm (eO [] c) (by omega)
  have fl:(g_ c).length=(eO [] c).length:=by rw[g_,(rj _ _).length_eq];rfl
  have HN:∀l∈g_ c,iZ l:=fun l hl=>hs.2 l (JX.1 hl)
  have P5:∀l∈g_ c,ej l=true:=fun l hl=>h4 l (JX.1 hl)
  have Hh:cC (g_ c):=⟨by omega,HN⟩
  have HL:g_ c=c_ [] (eO [] c):=rfl
  rw[<-HL]at sx
  have fo:(dN (g_ c)).length<=1000000:=by
   have h5:=LN (g_ c)
   have h6:bC (g_ c)=bC (eO [] c):=by rw[HL];exact R0 (rj _ _)
   have h7:=Jv (rP c [])
   omega
  have BJ:=Nu (cO [] (dN (g_ c))) (g_ c) rfl fo Hh P5
  have PZ:ct (ei (cO [] (dN (g_ c)))) (g_ c)=zu c:=rfl
  rw[PZ]at BJ
  rw[<-fl]at sx
  obtain⟨o,ho⟩:∃o,g_ c=o:=⟨_,rfl⟩
  rw[ho]at sx fl HN Hh BJ
  rw[<-fl]
  refine gO ?_
  refine cF ?_
  refine gO ?_
  refine AQ.bz [(0,0)] (by kernel_rfl) rfl rfl rfl rfl rfl rfl (by exact⟨rfl,trivial⟩) rfl sx ?_
  rintro r H1 ⟨rfl,rfl⟩
  refine⟨rfl,?_⟩
  refine sH ?_
  refine gE @oJ ?_
  refine AP.own 8 119 3 rfl ?_
  refine sI ?_
  refine AP.loop rfl (α:=Nat) (fun k=>[(8,.os 1 3 0 k),(44,.os 0 4 0 o.length),(45,Iv o.length),(46,Iv k)]) (fun k=>(1,.vec 119 3 (bP (o.take k)))::fG o) (fun k=>k<=o.length) (fun k=>o.length-k) 0 (by omega) (sU) rfl fun k hk=>?_
  rcases Nat.eq_or_lt_of_le hk with aC|ag
  ·subst aC
   rw[List.take_length]
   refine gO ?_
   refine cF ?_
   refine gO ?_
   refine AQ.freeze 1 (el:=119) (es:=3) (rows:=bP o) rfl (by simp only[go_sem,Nat.reduceAdd,Nat.reduceLeDiff,Nat.reduceSub,Int.reduceToNat,reduceCtorEq,aA];first|done|trivial|omega|(simp;done)|(simp;omega)) (by simp only[go_sem,Nat.reduceAdd,Nat.reduceLeDiff,Nat.reduceSub,Int.reduceToNat,reduceCtorEq,aA];first|done|trivial|omega|(simp;done)|(simp;omega)) ?_;simp only[go_sem,Nat.reduceAdd,Nat.reduceLeDiff,Nat.reduceSub,Int.reduceToNat,reduceCtorEq,aA]
   rw[List.take_of_length_le (by rw[aA];omega)]
   refine AQ.vY (by kernel_rfl) ?_
   refine sI ?_
   refine gO ?_
   refine AQ.bz [(1,2),(0,1)] (by kernel_rfl) rfl rfl rfl rfl rfl rfl (by exact⟨rfl,rfl,trivial⟩) rfl BJ ?_
   rintro r H1 ⟨rfl,rfl⟩
   refine⟨rfl,?_⟩
   refine sH ?_
   refine gO ?_
   exact AE.aX [2,1,0] rfl ⟨rfl,rfl,trivial⟩ (by simp only[go_sem,Nat.reduceAdd,Nat.reduceLeDiff,Nat.reduceSub,Int.reduceToNat,reduceCtorEq,ba,noMen,AV.mens,AV.men,gr,Bool.or_false];first|done|rfl) ⟨rfl,rfl⟩
  ·obtain⟨u,hu,_⟩:=fT o k ag
   have aF:=zT hu
   have hw:=wr (x:=(k:Int)+1) (by omega)
   have bc:=c7 hu
   have aY:=gP (l:=o) (k:=k) (by omega)
   refine gO ?_
   refine cT ?_
   refine gE @aF ?_
   refine⟨by rw[oJ];omega,?_⟩
   refine gO ?_
   refine AQ.append (hnb:=rfl) (rows:=bP (o.take k)) (es:=2) (by kernel_rfl) rfl rfl rfl (by rfl) Tryz.wK Tryz.wE (by show Option.map _ (az Tryz.prog 119)=_;rw[Tryz.wW];rfl) Tryz.tS (by first|rfl|(simp only[aA,aY,List.length_cons,List.length_nil];done)|(simp only[aA,aY,List.length_cons,List.length_nil];omega)) (by simp only[aA,aY,List.length_cons,List.length_nil];omega) (by simp only[aA,aY,List.length_cons,List.length_nil];omega) ?_
   refine sI ?_
   refine gE @hw ?_
   refine AE.dq [2] rfl ?_
   refine sI ?_
   refine AE.round (k+1) (by omega) (by omega) (by simp only[aA,aY];exact(sU)) ?_
   rw[bc,sT]
 ·obtain⟨u,hu,aF⟩:=fT c k ag
  have hw:=wr (x:=(k:Int)+1) (by omega)
  have bH:=kZ hs hu
  have yT:=h4 u (List.mem_of_getElem? hu)
  have eZ:=FK (c.take k) [] u
  rw[<-c7 hu,List.nil_append]at eZ
  refine gE @aA ?_
  refine cT ?_
  refine gE @aF ?_
  refine⟨by rw[aA];omega,?_⟩
  refine gO ?_
  refine⟨⟨by omega,by rw[aA];omega⟩,?_⟩
  have aY:List.take k (bP c)=bP (c.take k):=by rw[bP,bP,List.map_take]
  have Ct:List.drop k (List.take (k+1) (bP c))=bP [u]:=by
   rw[bP,<-List.map_take,<-List.map_drop,c7 hu,List.drop_append_of_le_length (by rw[List.length_take];omega),List.drop_take_self];rfl
  have vx:((k:Int)+1).toNat=k+1:=by omega
  have sD:=L1 [u] true ⟨by simp,fun l hl=>by rw[List.mem_singleton]at hl;subst hl;exact bH⟩ (by simp) (by
   have h6:=zq c u (List.mem_of_getElem? hu)
   simp only[bC,List.map_cons,List.map_nil,List.sum_cons,List.sum_nil];omega) (fun l hl=>by rw[List.mem_singleton]at hl;subst hl;exact yT)
  have mM:nj true [u]=dD u:=by rw[nj,jb,List.append_nil,dD]
  rw[mM]at sD
  have nX:(eO [] (c.take k)).length<=k:=by
   have:=(rP (c.take k) []).length_le
   rw[List.length_take]at this;omega
  rw[aY]
  refine AQ.fix 1 rfl rfl ?_
  refine sI ?_
  refine AQ.fn (by kernel_rfl) rfl rfl rfl (MF (c.take k) u (by rw[List.length_take];omega) bH) rfl ?_
  refine sI ?_
  refine gO ?_
  refine AP.cond rfl rfl (fun h5=>?_) (fun h5=>?_)
  ·have h5:(c.take k).any (dX u)=false:=by simpa using h5
   rw[h5,if_neg (by decide)]at eZ
   refine gO ?_
   refine AP.cu 11 (Tree.node [] [0,1,2,3,4,5,6] [7] [Tree.node [0,1] [8] [9] [Tree.node [0] [] [10] [Tree.node [] [] [] []]]]) (by kernel_rfl) rfl (by kernel_rfl) (by kernel_rfl) ?_
   refine cr ?_
   refine sE (an @hw (an @vx (an @Ct @aA))) ?_
   refine⟨⟨by omega,by omega,by omega⟩,?_⟩
   refine AQ.fn (by kernel_rfl) rfl rfl rfl (sD) rfl ?_
   refine sI ?_
   refine AQ.nx rfl ?_
   refine sI ?_
   refine AQ.go (by kernel_rfl) ?_
   refine sI ?_
   refine AQ.nx rfl ?_
   refine sI ?_
   refine AQ.append (hnb:=rfl) (rows:=fW (eO [] (c.take k))) (es:=3) (by kernel_rfl) rfl rfl rfl (by rfl) Tryz.TP Tryz.TH (by show Option.map _ (az Tryz.prog 145)=_;rw[Tryz.UI];rfl) Tryz.Ni (by first|rfl|(simp only[oJ,List.length_cons,List.length_nil];done)|(simp only[oJ,List.length_cons,List.length_nil];omega)) (by simp only[oJ,List.length_cons,List.length_nil];omega) (by simp only[oJ,List.length_cons,List.length_nil];omega) ?_
   refine sI ?_
   refine AQ.nx rfl ?_
   refine sI ?_
   refine AQ.done ?_
   refine gE @hw ?_
   have hlen:(eO [] (c.take (k+1))).length=(eO [] (c.take k)).length+1:=by rw[eZ,List.length_append];rfl
   refine AE.round (k+1) (by omega) (by omega) (by rw[hlen];simp only[oJ];exact(sU)) ?_
   rw[eZ];simp only[fG,fW,List.map_append];rfl
  ·have h5:(c.take k).any (dX u)=true:=by simpa using h5
   rw[if_pos h5,List.append_nil]at eZ
   refine gE @hw ?_
   exact AE.round (k+1) (by omega) (by omega) (by rw[eZ];exact(sU)) (by rw[eZ])
abbrev gv (s:List UInt8) (i:Nat):aa:=[(0,.var 135 [Sv s,Iv i])]
abbrev vX:AV:= .wr (.iface 131) (.agg [])
abbrev zI:aa:=[(0,.var 135 [.top,.top])]
theorem pG (a b:AV):bY [a,b] [.top,.top]:=fun w φ I us h=>by
 simp only[AV.ab,AV.den]at h⊢
 obtain⟨u1,p_,rfl,_,u2,Eh,rfl,_,rfl⟩:=h
 exact⟨_,_,rfl,trivial,_,_,rfl,trivial,rfl⟩
theorem oV {s:List UInt8} {i:Nat} {w:List UInt8} (h:cJ s i w=true) (hi:i<=s.length):i+w.length<=s.length:=by
 rcases EZ h with h|h
 ·exact h
 ·subst h;simpa using hi
theorem o5 (s w:List UInt8) (i:Nat) (hi:i<=s.length) (hs:s.length<=1000000) (hw:w.length<=1000):aj Tryz.prog 83 [.ob 0 0,Sv w] (gv s i) (fun r H'=>r=Bv (cJ s i w)/\H'=gv s (if cJ s i w then i+w.length else i)):=by
 have hp:=O_ (s.drop i) w
 have he:Lib.hasPrefix (s.drop i) w=cJ s i w:=rfl
 have aY:List.take (s.length-i) (List.drop i s)=List.drop i s:=List.take_of_length_le (by rw[List.length_drop];exact Nat.le_refl _)
 rw[he,<-aY]at hp
 clear he
 refine aj.walk [0,1,4,16] [] Tryz.func83 rfl Tryz.ntmps83 (by kernel_rfl) (by rfl) rfl fun W own I0 aq lay=>?_
 refine gO ?_
 refine AP.cu 12 (Tree.node [] [0,1,2,3,4,5,6,7,8,9] [10] [Tree.node [] [11] [] []]) (by kernel_rfl) rfl (by kernel_rfl) (by kernel_rfl) ?_
 refine cr ?_
 refine sI ?_
 refine⟨by omega,?_⟩
 refine AQ.fn (by kernel_rfl) rfl rfl rfl (hp) rfl ?_
 refine sI ?_
 refine AQ.nx rfl ?_
 refine sI ?_
 refine AQ.done ?_
 refine gO ?_
 refine AP.cond rfl rfl (fun h=>?_) (fun h=>?_)
 ·have h:cJ s i w=false:=by simpa using h
  refine gO ?_
  exact AE.ret rfl ⟨rfl,trivial⟩ ⟨by rw[h];rfl,by rw[h];rfl⟩
 ·have h:cJ s i w=true:=by simpa using h
  have hle:=oV h hi
  have b8:=wr (x:=(i:Int)+w.length) (by omega)
  refine gE @b8 ?_
  exact AE.ret rfl ⟨rfl,trivial⟩ ⟨by rw[h];rfl,by rw[h,if_pos rfl];rfl⟩
theorem GP {l:List UInt8} {k:Nat} (h:k<l.length):l.drop k=l.getD k 0::l.drop (k+1):=by
 rw[List.drop_eq_getElem_cons h,List.getD_eq_getElem?_getD,List.getElem?_eq_getElem h];rfl
theorem R3 {s:List UInt8} {k:Nat} (b:Bool) (h:k<s.length):cy b (s.drop k)=if iW (s.getD k 0) b then 1+cy false (s.drop (k+1))else 0:=by
 rw[GP h,cy]
theorem Js (s:List UInt8) (i:Nat) (hi:i<=s.length) (hs:s.length<=1000000):da Tryz.prog 157 [.ob 0 0] (gv s i) (fun r H'=>cy true (s.drop i)≠0/\r=Sv ((s.drop i).take (cy true (s.drop i)))/\H'=gv s (i+cy true (s.drop i))) (fun r H'=>cy true (s.drop i)=0/\r=vX/\H'=zI):=by
 refine da.walk [0,2,3,35,48] [] Tryz.func157 rfl Tryz.ntmps157 (by kernel_rfl) (by rfl) rfl fun W own I0 aq lay=>?_
 refine gO ?_
 refine AP.loop rfl (α:=Nat) (fun k=>[(0,.ob 0 0),(3,Iv i)]) (fun k=>gv s (i+k)) (fun k=>i+k<=s.length/\cy true (s.drop i)=k+cy (decide (k=0)) (s.drop (i+k))) (fun k=>s.length-(i+k)) 0 ⟨by omega,by simp⟩ (sU) rfl fun k ⟨hk,hm⟩=>?_
 by_cases ag:i+k<s.length
 ·have hw:=wr (x:=((i+k:Nat):Int)+1) (by omega)
  have hd:decide (((i+k:Nat):Int)<(s.length:Int))=true:=decide_eq_true (by omega)
  have he:decide (((i+k:Nat):Int)=(i:Int))=decide (k=0):=by rw[decide_eq_decide];omega
  rw[R3 _ ag]at hm
  refine gE @hd ?_
  refine AP.cu 28 (Tree.node [] [0,1,2,3,4,5,6,7,8,9,10,11,12,13,14,15,16,17,18,19,20,21,22,23,24,25] [26] [Tree.node [] [27] [] []]) (by kernel_rfl) rfl (by kernel_rfl) (by kernel_rfl) ?_
  refine cr ?_
  refine sE @hd ?_
  refine⟨⟨by omega,by omega⟩,?_⟩
  refine AQ.pa (by simp only[go_sem]) ?_
  refine AQ.fn (by kernel_rfl) rfl rfl rfl (Is (s.getD (i+k) 0) (((i+k:Nat):Int)==(i:Int))) rfl ?_
  refine sI ?_
  refine AQ.nx rfl ?_
  refine sI ?_
  refine AQ.done ?_
  have Pd:(((i+k:Nat):Int)==(i:Int))=decide (k=0):=by
   rw[Bool.eq_iff_iff,beq_iff_eq,decide_eq_true_iff];omega
  rw[Pd]
  refine gO ?_
  refine AP.cond rfl rfl (fun h5=>?_) (fun h5=>?_)
  ·have h5:iW (s.getD (i+k) 0) (decide (k=0))=true:=by simpa using h5
   rw[if_pos h5]at hm
   refine gE @hw ?_
   refine AE.round (k+1) ⟨by omega,?_⟩ (by omega) (sU) rfl
   rw[hm,show decide (k+1=0)=false from decide_eq_false (by omega)];simp only[Nat.add_assoc];
  ·have h5:iW (s.getD (i+k) 0) (decide (k=0))=false:=by simpa using h5
   rw[if_neg (by rw[h5];decide)]at hm
   refine gO ?_
   have gI:cy true (s.drop i)=k:=hm
   by_cases ku:k=0
   ·subst ku
    refine cT ?_
    refine gO ?_
    refine xI ?_;refine sI ?_
    refine gO ?_
    refine AQ.fj 0 _ rfl (pG _ _) ?_
    refine sI ?_
    refine AQ.panic rfl ?_
    exact cV.out [] rfl rfl ⟨gI,rfl,rfl⟩
   ·refine cF ?_
    refine gO ?_
    exact AE.ret rfl ⟨rfl,trivial⟩ ⟨by omega,by rw[gI,Nat.add_sub_cancel_left];rfl,by rw[gI]⟩
 ·have hd:decide (((i+k:Nat):Int)<(s.length:Int))=false:=decide_eq_false (by omega)
  refine gE @hd ?_
  refine AP.cu 28 (Tree.node [] [0,1,2,3,4,5,6,7,8,9,10,11,12,13,14,15,16,17,18,19,20,21,22,23,24,25] [26] [Tree.node [] [27] [] []]) (by kernel_rfl) rfl (by kernel_rfl) (by kernel_rfl) ?_
  refine cr ?_
  refine sE @hd ?_
  refine⟨fun h=>h.elim,fun h=>h.elim,?_⟩
  refine AQ.skip (by kernel_rfl) rfl ?_
  refine sI ?_
  refine AQ.nx rfl ?_
  refine sI ?_
  refine AQ.done ?_
  have hm:cy true (s.drop i)=k:=by rw[hm,List.drop_eq_nil_of_le (by omega),cy];rfl
  refine gO ?_
  have gI:cy true (s.drop i)=k:=hm
  by_cases ku:k=0
  ·subst ku
   refine cT ?_
   refine gO ?_
   refine xI ?_;refine sI ?_
   refine gO ?_
   refine AQ.fj 0 _ rfl (pG _ _) ?_
   refine sI ?_
   refine AQ.panic rfl ?_
   exact cV.out [] rfl rfl ⟨gI,rfl,rfl⟩
  ·refine cF ?_
   refine gO ?_
   exact AE.ret rfl ⟨rfl,trivial⟩ ⟨by omega,by rw[gI,Nat.add_sub_cancel_left];rfl,by rw[gI]⟩
theorem da.told {P:Program} {f:FuncId} {xs:List AV} {H:aa} {R R' X:AV->aa->Prop} (h:da P f xs H R X) (hr:∀r H',R r H'->∃r',R' r' H'/\dj r r'):da P f xs H R' X:=
 ⟨h.gh,fun w φ I vs hd hR hV=>(h.run w φ I vs hd hR hV).mono fun _ _ h=>by
  rcases h with⟨r,H',φ',I',v,U,h2,h3,h4⟩|h
  ·obtain⟨r',l8,eg⟩:=hr _ _ U
   exact .inl ⟨r',H',φ',I',v,l8,h2,eg _ _ _ _ h3,h4⟩
  ·exact .inr h⟩
def RT (s:List UInt8) (f i:Nat) (r:AV) (H':aa):Prop:=∃t j,pT s f i=some (t,j)/\r=bp t/\H'=gv s j
def XT (s:List UInt8) (f i:Nat) (r:AV) (H':aa):Prop:=pT s f i=none/\r=vX/\H'=zI
def RA (s:List UInt8) (f i:Nat) (r:AV) (H':aa):Prop:=∃l j,pA s f i=some (l,j)/\r= .im (.sl 3 (ax l))/\H'=gv s j
def XA (s:List UInt8) (f i:Nat) (r:AV) (H':aa):Prop:=pA s f i=none/\r=vX/\H'=zI
theorem Sx (s:List UInt8) (f i:Nat):pR s (f+1) i=if cJ s i [44,32]then
   match pT s f (i+2)with
   |none=>none
   |some (t,j)=>match pR s f j with
    |none=>none
    |some (l,k)=>some (t::l,k)
  else if cJ s i [41]then some ([],i+1)else none:=by rw[pR];rfl
def zC (a:List Tm):Option (List Tm×Nat)->Option (List Tm×Nat)
 |none=>none
 |some (l,k)=>some (a++l,k)
theorem Kl (s:List UInt8) (hs:s.length<=1000000) (f i:Nat) (hi:i<=s.length) (hf:s.length<f+i)
  (ih:∀f' i',f'<=f->i'<=s.length->s.length<f'+i'->da Tryz.prog 159 [.ob 0 0] (gv s i') (RT s f' i') (XT s f' i')):
  da Tryz.prog 158 [.ob 0 0] (gv s i) (RA s f i) (XA s f i):=by
 refine da.told (R:=fun r H'=>∃l j,pA s f i=some (l,j)/\(r= .im (.sl 3 (ax l))\/l=[]/\r=eL)/\H'=gv s j) ?_ (fun r H' ⟨l,j,U,h2,h3⟩=>⟨_,⟨l,j,U,rfl,h3⟩,by
  rcases h2 with rfl|⟨rfl,rfl⟩
  ·exact dj.refl _
  ·exact fun w φ I u h=>Dz 3 w φ I u h⟩)
 have hA:pA s f i=_:=pA.eq_def s f i
 have he:=o5 s [40] i hi hs (by simp)
 refine da.walk [0,2,3,6,11,19] [3,9] Tryz.func158 rfl Tryz.ntmps158 (by kernel_rfl) (by rfl) rfl fun W own I0 aq lay=>?_
 refine gO ?_
 refine AQ.bz [(0,0)] (by kernel_rfl) rfl rfl rfl rfl rfl rfl (by exact⟨rfl,trivial⟩) rfl (he) ?_;rintro r H1 ⟨rfl,rfl⟩;refine⟨rfl,?_⟩;refine sH ?_
 refine gO ?_
 refine AP.cond rfl rfl (fun h=>?_) (fun h=>?_)
 ·have h:cJ s i [40]=false:=by simpa using h
  rw[h,if_neg (by decide)]at hA
  rw[h,if_neg (by decide)]
  refine gO ?_
  exact AE.ret rfl ⟨rfl,trivial⟩ ⟨[],i,hA,.inr ⟨rfl,rfl⟩,rfl⟩
 have h:cJ s i [40]=true:=by simpa using h
 have hle:=oV h hi
 simp only[List.length_cons,List.length_nil]at hle
 rw[if_pos h]at hA
 rw[if_pos h]
 have it:=ih f (i+1) (Nat.le_refl _) (by omega) (by omega)
 refine gO ?_
 refine AQ.lQ [(0,0)] (by kernel_rfl) rfl rfl rfl rfl rfl rfl (by exact⟨rfl,trivial⟩) rfl (it) ?_ ?_
 ·rintro r H' ⟨hp,rfl,rfl⟩
  rw[hp]at hA
  refine⟨rfl,?_⟩;refine sH ?_
  exact cV.out [] rfl rfl ⟨hA,rfl,rfl⟩
 ·rintro r H' ⟨t,j,hp,rfl,rfl⟩
  have n_:=pU hp
  rw[hp]at hA
  simp only at hA
  refine⟨rfl,?_⟩;refine sH ?_
  refine AQ.go (by kernel_rfl) ?_
  refine sI ?_
  refine gO ?_
  have G3:pA s f i=zC [t] (pR s f j):=by rw[hA];cases pR s f j<;>rfl
  refine AP.loop rfl (α:=List Tm×Nat×Nat) (fun z=>[(0,.ob 0 0),(3,.os 1 3 0 z.1.length)]) (fun z=>(1,.vec 71 3 (ax z.1))::gv s z.2.1) (fun z=>z.1.length<=z.2.1/\z.2.1<=s.length/\s.length<z.2.2+z.2.1/\z.2.2<=f/\pA s f i=zC z.1 (pR s z.2.2 z.2.1)) (fun z=>s.length-z.2.1) ([t],j,f) ⟨by simp only[List.length_singleton];omega,n_.2.2,by simp only;omega,Nat.le_refl _,G3⟩ (sU) (by simp only[ax,oN];rfl) fun⟨a,j,g⟩ ⟨z1,z2,z3,z4,z5⟩=>?_
  simp only at z1 z2 z3 z4 z5⊢
  clear hA G3 n_ hp it he hle
  obtain⟨g,rfl⟩:∃q,g=q+1:=⟨g-1,by omega⟩
  rw[Sx]at z5
  have he:=o5 s [44,32] j z2 hs (by simp)
  refine gO ?_
  refine AQ.bz [(0,0)] (by kernel_rfl) rfl rfl rfl rfl rfl rfl (by exact⟨rfl,trivial⟩) rfl (he) ?_;rintro r H1 ⟨rfl,rfl⟩;refine⟨rfl,?_⟩;refine sH ?_
  refine gO ?_
  refine AP.cond rfl rfl (fun h2=>?_) (fun h2=>?_)
  ·have h2:cJ s j [44,32]=true:=by simpa using h2
   have hle:=oV h2 z2
   simp only[List.length_cons,List.length_nil]at hle
   have it:=ih g (j+2) (by omega) (by omega) (by omega)
   rw[if_pos h2]at z5
   rw[if_pos h2]
   refine gO ?_
   refine AQ.lQ [(0,0)] (by kernel_rfl) rfl rfl rfl rfl rfl rfl (by exact⟨rfl,trivial⟩) rfl (it) ?_ ?_
   ·rintro r H' ⟨hp,rfl,rfl⟩
    rw[hp]at z5
    refine⟨rfl,?_⟩;refine sH ?_
    exact cV.out [1] rfl rfl ⟨z5,rfl,rfl⟩
   ·rintro r H' ⟨u,k,hp,rfl,rfl⟩
    have n_:=pU hp
    rw[hp]at z5
    refine⟨rfl,?_⟩;refine sH ?_
    refine AQ.go (by kernel_rfl) ?_
    refine sI ?_
    refine gO ?_
    refine AQ.append (hnb:=rfl) (rows:=ax a) (es:=2) (by kernel_rfl) rfl rfl rfl (by rfl) Tryz.p8 Tryz.p7 (by show Option.map _ (az Tryz.prog 71)=_;rw[Tryz.qb];rfl) Tryz.oY (by first|rfl|(simp only[ah,List.length_cons,List.length_nil];done)|(simp only[ah,List.length_cons,List.length_nil];omega)) (by simp only[ah,List.length_cons,List.length_nil];omega) (by simp only[ah,List.length_cons,List.length_nil];omega) ?_
    refine sE @ah ?_
    refine gO ?_
    refine AE.round (a++[u],k,g) ⟨by simp only[List.length_append,List.length_singleton];omega,n_.2.2,by simp only;omega,by simp only;omega,?_⟩ (by simp only;omega) (by simp only[List.length_append,List.length_singleton];exact(sU)) (by simp only[ni];rfl)
    simp only at z5⊢
    rw[z5]
    cases hq:pR s g k with
    |none=>rfl
    |some x=>simp[zC]
  ·have h2:¬cJ s j [44,32]=true:=by simpa using h2
   rw[if_neg h2]at z5
   rw[if_neg h2]
   have Pq:=o5 s [41] j z2 hs (by simp)
   refine gO ?_
   refine AQ.bz [(0,0)] (by kernel_rfl) rfl rfl rfl rfl rfl rfl (by exact⟨rfl,trivial⟩) rfl (Pq) ?_;rintro r H1 ⟨rfl,rfl⟩;refine⟨rfl,?_⟩;refine sH ?_
   refine gO ?_
   refine AP.cond rfl rfl (fun h3=>?_) (fun h3=>?_)
   ·have h3:¬cJ s j [41]=true:=by simpa using h3
    rw[if_neg h3]at z5
    rw[if_neg h3]
    refine gO ?_;refine xI ?_;refine sI ?_;refine gO ?_;refine AQ.fj 0 _ rfl (pG _ _) ?_;refine sI ?_;refine AQ.panic rfl ?_
    exact cV.out [1] rfl rfl ⟨z5,rfl,rfl⟩
   ·have h3:cJ s j [41]=true:=by simpa using h3
    rw[if_pos h3]at z5
    rw[if_pos h3]
    refine gO ?_
    refine AE.freeze 1 (el:=71) (es:=3) (rows:=ax a) rfl (by simp only[go_sem,Nat.reduceAdd,Nat.reduceLeDiff,Nat.reduceSub,Int.reduceToNat,reduceCtorEq,ah];first|done|trivial|omega|(simp;done)|(simp;omega)) (by simp only[go_sem,Nat.reduceAdd,Nat.reduceLeDiff,Nat.reduceSub,Int.reduceToNat,reduceCtorEq,ah];first|done|trivial|omega|(simp;done)|(simp;omega)) ?_;simp only[go_sem,Nat.reduceAdd,Nat.reduceLeDiff,Nat.reduceSub,Int.reduceToNat,reduceCtorEq,ah]
    rw[List.take_of_length_le (by rw[ah];exact Nat.le_refl _)]
    exact AE.ret rfl ⟨rfl,trivial⟩ ⟨a,j+1,by rw[z5];simp[zC],.inl rfl,rfl⟩
theorem Kc:∀(l:List UInt8) (acc k:Nat),acc<10^k->l.length+k<=18->(∀c∈l,fq c=true)->Lib.parseUint10 acc l= .ok (l.foldl (fun n c=>10*n+(c.toNat-48)) acc)
 |[],acc,k,_,_,_=>rfl
 |c::r,acc,k,ha,hl,hd=>by
  have hc:=hd c (List.mem_cons_self ..)
  rw[fq,Bool.and_eq_true,decide_eq_true_iff,decide_eq_true_iff]at hc
  have hk:10^k<=10^17:=Nat.pow_le_pow_right (by decide) (by simp only[List.length_cons]at hl;omega)
  have hn:acc*10+(c.toNat-48)<10^(k+1):=by rw[Nat.pow_succ];omega
  have Wj:(10:Nat)^17=100000000000000000:=by decide
  rw[Lib.parseUint10,if_pos hc,if_neg (by omega),if_neg (by omega),Kc r _ (k+1) hn (by simp only[List.length_cons]at hl;omega) (fun x hx=>hd x (List.mem_cons_of_mem _ hx)),List.foldl_cons,Nat.mul_comm acc 10]
theorem MQ {d:List UInt8} (hd:∀c∈d,fq c=true) (h0:d≠[]) (hl:d.length<=18):gb d=((fc d:Int),true):=by
 have hp:=Kc d 0 0 (by decide) (by omega) hd
 have ag:fc d<10^18:=by
  have:∀(l:List UInt8) (acc k:Nat),acc<10^k->(∀c∈l,fq c=true)->l.foldl (fun n c=>10*n+(c.toNat-48)) acc<10^(k+l.length):=by
   intro l
   induction l with
   |nil=>intro acc k h _;exact h
   |cons c r ih=>
    intro acc k h hd
    have hc:=hd c (List.mem_cons_self ..)
    rw[fq,Bool.and_eq_true,decide_eq_true_iff,decide_eq_true_iff]at hc
    have:=ih (10*acc+(c.toNat-48)) (k+1) (by rw[Nat.pow_succ];omega) fun x hx=>hd x (List.mem_cons_of_mem _ hx)
    rw[List.foldl_cons,List.length_cons,show k+(r.length+1)=k+1+r.length by omega]
    exact this
  have U:=this d 0 0 (by decide) hd
  rw[Nat.zero_add]at U
  exact Nat.lt_of_lt_of_le U (Nat.pow_le_pow_right (by decide) hl)
 have Wk:(10:Nat)^18=1000000000000000000:=by decide
 cases d with
 |nil=>exact absurd rfl h0
 |cons c r=>
  have hc:=hd c (List.mem_cons_self ..)
  rw[fq,Bool.and_eq_true,decide_eq_true_iff,decide_eq_true_iff]at hc
  have OM:¬(c.toNat=43\/c.toNat=45):=by omega
  have G2:¬c.toNat=45:=by omega
  have hA:Lib.atoiAll (c::r)= .ok ((fc (c::r):Nat):Int):=by
   rw[Lib.atoiAll]
   simp only[if_neg OM,Lib.parseMag,if_neg (List.cons_ne_nil c r)]
   rw[hp]
   simp only
   rw[if_neg,if_neg,if_neg G2]
   ·rfl
   ·exact fun h=>G2 h.1
   ·rintro⟨_,h⟩
    have:fc (c::r)<1000000000000000000:=by omega
    unfold fc at this
    omega
  rw[gb,hA]
def s0 (d:List UInt8):Bool:=(gb d).2&&!decide (9<d.length)&&(Lib.itoa (gb d).1==d)
theorem JJ {d:List UInt8} (hd:∀c∈d,fq c=true):s0 d=ka d/\(ka d=true->(gb d).1=(fc d:Int)):=by
 rcases Decidable.em (d=[])with rfl|h0
 ·have:gb []=(0,false):=rfl
  refine⟨by rw[s0,this];rfl,fun h=>?_⟩
  exact absurd h (by decide)
 ·have Ci:1<=d.length:=by cases d with|nil=>exact absurd rfl h0|cons c r=>simp
  by_cases h9:9<d.length
  ·rw[s0,ka,decide_eq_true h9,decide_eq_false (by omega:¬d.length<=9)]
   simp
  ·have ha:=MQ hd h0 (by omega)
   have hi:Lib.itoa (fc d:Int)=Lib.decDigits (fc d):=by rw[Lib.itoa,if_neg (by omega)];rfl
   refine⟨?_,fun _=>by rw[ha]⟩
   rw[s0,ha,ka,decide_eq_false h9,decide_eq_true Ci,decide_eq_true (by omega:d.length<=9)]
   simp only[Bool.true_and,Bool.not_false,hi]
   rw[Bool.eq_iff_iff,beq_iff_eq,Bool.or_eq_true,decide_eq_true_iff,decide_eq_true_iff]
   obtain⟨_,_,_,_,h5,h6⟩:=FN (fc d)
   constructor
   ·intro h
    rw[h]at h5 h6
    by_cases U:d.length=1
    ·exact .inl U
    ·exact .inr (h5 (h6 (by omega)))
   ·intro h
    obtain⟨n,hn⟩:∃n,d.length=n+1:=⟨d.length-1,by omega⟩
    exact(AM n d hn hd (fun U=>by
     rcases h with h|h
     ·omega
     ·exact h)).1
theorem AT:∀l:List UInt8,∀c∈l.take (gg l),fq c=true
 |[],c,h=>by simp at h
 |x::l,c,h=>by
  rw[gg]at h
  by_cases hx:fq x=true
  ·rw[if_pos hx,Nat.add_comm,List.take_succ_cons]at h
   rcases List.mem_cons.1 h with rfl|h
   ·exact hx
   ·exact AT l c h
  ·rw[if_neg hx]at h;simp at h
theorem NV {s:List UInt8} {k:Nat} (h:k<s.length):gg (s.drop k)=if fq (s.getD k 0)then 1+gg (s.drop (k+1))else 0:=by
 rw[GP h,gg]
theorem S2 (s:List UInt8) (hs:s.length<=1000000) (f i:Nat) (hi:i<=s.length)
  (hl:∀i',i<i'->i'<=s.length->da Tryz.prog 158 [.ob 0 0] (gv s i') (RA s f i') (XA s f i')):
  da Tryz.prog 159 [.ob 0 0] (gv s i) (RT s (f+1) i) (XT s (f+1) i):=by
 refine da.told (R:=fun r H'=>∃t j,pT s (f+1) i=some (t,j)/\(r=bp t\/t.xs=[]/\r= .agg [Sv t.nm,Iv t.ix,eL])/\H'=gv s j) ?_ (fun r H' ⟨t,j,U,h2,h3⟩=>⟨_,⟨t,j,U,rfl,h3⟩,by
  rcases h2 with rfl|⟨hx,rfl⟩
  ·exact dj.refl _
  ·rw[bp,hx,ax];exact(by repeat' (first|with_reducible exact dj.refl _|with_reducible exact fZ.refl _|exact fZ.nil _|with_reducible exact bY.refl _|with_reducible exact lC.refl _|with_reducible exact lD.refl _|refine bY.nM ?_ ?_|refine dj.agg ?_|refine dj.im ?_|refine fZ.sl ?_|refine lD.cons ?_ ?_|refine lC.cons ?_ ?_))⟩)
 have hT:=J3 s f i
 have he:=o5 s [63] i hi hs (by simp)
 refine da.walk [0,2,3,4,5,6,7,10,54,89] [2] Tryz.func159 rfl Tryz.ntmps159 (by kernel_rfl) (by rfl) rfl fun W own I0 aq lay=>?_
 refine gO ?_
 refine AQ.bz [(0,0)] (by kernel_rfl) rfl rfl rfl rfl rfl rfl (by exact⟨rfl,trivial⟩) rfl (he) ?_;rintro r H1 ⟨rfl,rfl⟩;refine⟨rfl,?_⟩;refine sH ?_
 refine gO ?_
 refine AP.cond rfl rfl (fun h=>?_) (fun h=>?_)
 ·have h:cJ s i [63]=false:=by simpa using h
  rw[h,if_neg (by decide)]at hT
  rw[h,if_neg (by decide)]
  have hn:=Js s i hi hs
  refine gO ?_
  refine AQ.lQ [(0,0)] (by kernel_rfl) rfl rfl rfl rfl rfl rfl (by exact⟨rfl,trivial⟩) rfl (hn) ?_ ?_
  ·rintro r H' ⟨hp,rfl,rfl⟩
   rw[if_pos hp]at hT
   refine⟨rfl,?_⟩;refine sH ?_
   exact cV.out [1] rfl rfl ⟨hT,rfl,rfl⟩
  ·rintro r H' ⟨hp,rfl,rfl⟩
   rw[if_neg hp]at hT
   have gn:=wc true (s.drop i)
   rw[List.length_drop]at gn
   have fk:=hl (i+cy true (s.drop i)) (by omega) (by omega)
   refine⟨rfl,?_⟩;refine sH ?_
   refine AQ.go (by kernel_rfl) ?_
   refine sI ?_
   refine gO ?_
   refine AQ.lQ [(0,0)] (by kernel_rfl) rfl rfl rfl rfl rfl rfl (by exact⟨rfl,trivial⟩) rfl (fk) ?_ ?_
   ·rintro r H' ⟨hp,rfl,rfl⟩
    rw[hp]at hT
    refine⟨rfl,?_⟩;refine sH ?_
    exact cV.out [1] rfl rfl ⟨hT,rfl,rfl⟩
   ·rintro r H' ⟨l,k,hp,rfl,rfl⟩
    rw[hp]at hT
    refine⟨rfl,?_⟩;refine sH ?_
    refine AQ.go (by kernel_rfl) ?_
    refine sI ?_
    refine gO ?_
    exact AE.aX [1] rfl ⟨⟨rfl,Nat.le_of_ble_eq_true (by kernel_rfl)⟩,trivial⟩ rfl ⟨_,k,hT,.inl rfl,rfl⟩
 ·have h:cJ s i [63]=true:=by simpa using h
  have hle:=oV h hi
  simp only[List.length_cons,List.length_nil]at hle
  rw[if_pos h]at hT
  rw[if_pos h]
  refine gO ?_
  refine AP.loop rfl (α:=Nat) (fun k=>[(0,.ob 0 0),(2,.ob 1 0),(4,Iv (i+1:Nat))]) (fun k=>(1,.var 71 [Sv [],Iv 0,eL])::gv s (i+1+k)) (fun k=>i+1+k<=s.length/\gg (s.drop (i+1))=k+gg (s.drop (i+1+k))) (fun k=>s.length-(i+1+k)) 0 ⟨by omega,by simp⟩ (sU) rfl fun k ⟨hk,hm⟩=>?_
  by_cases ag:i+1+k<s.length
  ·have hw:=wr (x:=((i+1+k:Nat):Int)+1) (by omega)
   have hd:decide (((i+1+k:Nat):Int)<(s.length:Int))=true:=decide_eq_true (by omega)
   rw[NV ag]at hm
   refine gE @hd ?_
   refine AP.cond rfl rfl (fun h5=>?_) (fun h5=>?_)
   ·have h5:fq (s.getD (i+1+k) 0)=true:=by
     rw[fq];simp only[Bool.and_eq_true,decide_eq_true_eq]at h5⊢;omega
    rw[if_pos h5]at hm
    refine gE @hw ?_
    refine AE.round (k+1) ⟨by omega,by rw[hm];simp only[Nat.add_assoc]⟩ (by omega) (sU) rfl
   ·have h5:fq (s.getD (i+1+k) 0)=false:=by
     rw[fq,<-Bool.not_eq_true];intro hc;rw[<-Bool.not_eq_true]at h5;apply h5
     simp only[Bool.and_eq_true,decide_eq_true_eq]at hc⊢;omega
    rw[if_neg (by rw[h5];decide)]at hm
    refine gO ?_
    have gI:gg (s.drop (i+1))=k:=hm
    have ek:i+1+k-(i+1)=k:=Nat.add_sub_cancel_left ..
    have qF:=AT (s.drop (i+1))
    rw[gI]at qF
    have hV:pV s (i+1)=_:=pV.eq_def s (i+1)
    rw[gI]at hV
    rw[ek]
    have yn:((s.drop (i+1)).take k).length<=1000000:=by rw[List.length_take,List.length_drop];omega
    obtain⟨d,iQ⟩:∃d,(s.drop (i+1)).take k=d:=⟨_,rfl⟩
    rw[iQ]at qF hV yn⊢
    obtain⟨gm,jk⟩:=JJ qF
    have aQ:=E2 d (by omega)
    have fA:=E0 d
    rw[s0]at gm
    obtain⟨⟨n,ok⟩,hq⟩:∃q,gb d=q:=⟨_,rfl⟩
    rw[hq]at aQ fA gm jk
    simp only at aQ fA gm jk
    have hit:=CS n fA
    cases ok with
    |false=>
     have bL:ka d=false:=by rw[<-gm];rfl
     rw[bL,if_neg (by decide)]at hV
     refine AQ.fn (by kernel_rfl) rfl rfl rfl (aQ) rfl ?_
     refine sI ?_
     repeat(first|refine xA ?_|refine xB ?_|refine xC ?_|refine xE ?_|refine xD ?_|refine xK ?_|refine xS ?_|refine xM ?_|refine xT ?_|refine xF ?_|((first|refine xR ?_|refine xW ?_|refine np ?_);simp only[go_sem,Nat.reduceAdd,Nat.reduceLeDiff,Nat.reduceSub,Int.reduceToNat,reduceCtorEq,k4])|(refine⟨by first|omega|(intros;simp_all;done)|(intros;simp_all;omega),?_⟩;try simp only[go_sem,Nat.reduceAdd,Nat.reduceLeDiff,Nat.reduceSub,Int.reduceToNat,reduceCtorEq,k4]))
     refine xI ?_;refine sI ?_
     refine gO ?_
     refine AQ.fj 0 _ rfl (pG _ _) ?_
     refine sI ?_
     refine AQ.panic rfl ?_
     exact cV.out [1] rfl rfl ⟨by rw[hT,hV],rfl,rfl⟩
    |true=>
     refine AQ.fn (by kernel_rfl) rfl rfl rfl (aQ) rfl ?_
     refine sI ?_
     repeat(first|refine xA ?_|refine xB ?_|refine xC ?_|refine xE ?_|refine xD ?_|refine xK ?_|refine xS ?_|refine xM ?_|refine xT ?_|refine xF ?_|((first|refine xR ?_|refine xW ?_|refine np ?_);simp only[go_sem,Nat.reduceAdd,Nat.reduceLeDiff,Nat.reduceSub,Int.reduceToNat,reduceCtorEq,k4])|(refine⟨by first|omega|(intros;simp_all;done)|(intros;simp_all;omega),?_⟩;try simp only[go_sem,Nat.reduceAdd,Nat.reduceLeDiff,Nat.reduceSub,Int.reduceToNat,reduceCtorEq,k4]))
     refine AQ.mG (by kernel_rfl) rfl rfl (fun h=>by first|(simp[gs,AV.g];done)|(simp[gs,AV.g,bN];done)|(simp[gs,AV.g,bN,bw]at h⊢;done)|(simp[gs,AV.g,bN,bw]at h⊢;exact h)|(simp[gs,AV.g,bN,bw]at h⊢;simp[h];done)|(simp[bw]at h;done)|(simp[gs,AV.g,bw]at h⊢;simp[h];done)|(simp[gs,AV.g,bw]at h⊢;exact h.1)|(simp[gs,AV.g];rfl)|(simp[gs,AV.g,bw]at h⊢;rfl)|(simp[gs,AV.g,bw]at h⊢;simp[h];rfl)|(simp[gs,AV.g,bw]at h⊢;simp_all)) rfl (fun _=>hit) rfl ?_
     refine sI ?_
     refine gO ?_
     refine AP.cond rfl rfl (fun h6=>?_) (fun h6=>?_)
     ·have bL:ka d=false:=by
       rw[<-gm]
       by_cases h7:9<d.length
       ·rw[decide_eq_true h7];rfl
       ·rw[decide_eq_false h7]
        have h8:¬Lib.itoa n=d:=fun e=>by rw[e]at h6;simp at h6;omega
        rw[show(Lib.itoa n==d)=false by simpa using h8];rfl
      rw[bL,if_neg (by decide)]at hV
      refine gO ?_
      refine xI ?_;refine sI ?_
      refine gO ?_
      refine AQ.fj 0 _ rfl (pG _ _) ?_
      refine sI ?_
      refine AQ.panic rfl ?_
      exact cV.out [1] rfl rfl ⟨by rw[hT,hV],rfl,rfl⟩
     ·have vB:ka d=true:=by
       rw[<-gm]
       have h7:¬9<d.length/\Lib.itoa n=d:=by simp at h6;exact⟨by omega,h6.2⟩
       rw[decide_eq_false h7.1,h7.2];simp
      have n7:=jk vB
      rw[vB,if_pos rfl]at hV
      subst n7
      refine gO ?_
      exact AE.aX [1] rfl ⟨⟨rfl,Nat.le_of_ble_eq_true (by kernel_rfl)⟩,trivial⟩ rfl ⟨_,_,by rw[hT,hV],.inr ⟨rfl,rfl⟩,rfl⟩
  ·have hd:decide (((i+1+k:Nat):Int)<(s.length:Int))=false:=decide_eq_false (by omega)
   have hm:gg (s.drop (i+1))=k:=by rw[hm,List.drop_eq_nil_of_le (by omega),gg];rfl
   refine gE @hd ?_
   have gI:gg (s.drop (i+1))=k:=hm
   have ek:i+1+k-(i+1)=k:=Nat.add_sub_cancel_left ..
   have qF:=AT (s.drop (i+1))
   rw[gI]at qF
   have hV:pV s (i+1)=_:=pV.eq_def s (i+1)
   rw[gI]at hV
   rw[ek]
   have yn:((s.drop (i+1)).take k).length<=1000000:=by rw[List.length_take,List.length_drop];omega
   obtain⟨d,iQ⟩:∃d,(s.drop (i+1)).take k=d:=⟨_,rfl⟩
   rw[iQ]at qF hV yn⊢
   obtain⟨gm,jk⟩:=JJ qF
   have aQ:=E2 d (by omega)
   have fA:=E0 d
   rw[s0]at gm
   obtain⟨⟨n,ok⟩,hq⟩:∃q,gb d=q:=⟨_,rfl⟩
   rw[hq]at aQ fA gm jk
   simp only at aQ fA gm jk
   have hit:=CS n fA
   cases ok with
   |false=>
    have bL:ka d=false:=by rw[<-gm];rfl
    rw[bL,if_neg (by decide)]at hV
    refine AQ.fn (by kernel_rfl) rfl rfl rfl (aQ) rfl ?_
    refine sI ?_
    repeat(first|refine xA ?_|refine xB ?_|refine xC ?_|refine xE ?_|refine xD ?_|refine xK ?_|refine xS ?_|refine xM ?_|refine xT ?_|refine xF ?_|((first|refine xR ?_|refine xW ?_|refine np ?_);simp only[go_sem,Nat.reduceAdd,Nat.reduceLeDiff,Nat.reduceSub,Int.reduceToNat,reduceCtorEq,k4])|(refine⟨by first|omega|(intros;simp_all;done)|(intros;simp_all;omega),?_⟩;try simp only[go_sem,Nat.reduceAdd,Nat.reduceLeDiff,Nat.reduceSub,Int.reduceToNat,reduceCtorEq,k4]))
    refine xI ?_;refine sI ?_
    refine gO ?_
    refine AQ.fj 0 _ rfl (pG _ _) ?_
    refine sI ?_
    refine AQ.panic rfl ?_
    exact cV.out [1] rfl rfl ⟨by rw[hT,hV],rfl,rfl⟩
   |true=>
    refine AQ.fn (by kernel_rfl) rfl rfl rfl (aQ) rfl ?_
    refine sI ?_
    repeat(first|refine xA ?_|refine xB ?_|refine xC ?_|refine xE ?_|refine xD ?_|refine xK ?_|refine xS ?_|refine xM ?_|refine xT ?_|refine xF ?_|((first|refine xR ?_|refine xW ?_|refine np ?_);simp only[go_sem,Nat.reduceAdd,Nat.reduceLeDiff,Nat.reduceSub,Int.reduceToNat,reduceCtorEq,k4])|(refine⟨by first|omega|(intros;simp_all;done)|(intros;simp_all;omega),?_⟩;try simp only[go_sem,Nat.reduceAdd,Nat.reduceLeDiff,Nat.reduceSub,Int.reduceToNat,reduceCtorEq,k4]))
    refine AQ.mG (by kernel_rfl) rfl rfl (fun h=>by first|(simp[gs,AV.g];done)|(simp[gs,AV.g,bN];done)|(simp[gs,AV.g,bN,bw]at h⊢;done)|(simp[gs,AV.g,bN,bw]at h⊢;exact h)|(simp[gs,AV.g,bN,bw]at h⊢;simp[h];done)|(simp[bw]at h;done)|(simp[gs,AV.g,bw]at h⊢;simp[h];done)|(simp[gs,AV.g,bw]at h⊢;exact h.1)|(simp[gs,AV.g];rfl)|(simp[gs,AV.g,bw]at h⊢;rfl)|(simp[gs,AV.g,bw]at h⊢;simp[h];rfl)|(simp[gs,AV.g,bw]at h⊢;simp_all)) rfl (fun _=>hit) rfl ?_
    refine sI ?_
    refine gO ?_
    refine AP.cond rfl rfl (fun h6=>?_) (fun h6=>?_)
    ·have bL:ka d=false:=by
      rw[<-gm]
      by_cases h7:9<d.length
      ·rw[decide_eq_true h7];rfl
      ·rw[decide_eq_false h7]
       have h8:¬Lib.itoa n=d:=fun e=>by rw[e]at h6;simp at h6;omega
       rw[show(Lib.itoa n==d)=false by simpa using h8];rfl
     rw[bL,if_neg (by decide)]at hV
     refine gO ?_
     refine xI ?_;refine sI ?_
     refine gO ?_
     refine AQ.fj 0 _ rfl (pG _ _) ?_
     refine sI ?_
     refine AQ.panic rfl ?_
     exact cV.out [1] rfl rfl ⟨by rw[hT,hV],rfl,rfl⟩
    ·have vB:ka d=true:=by
      rw[<-gm]
      have h7:¬9<d.length/\Lib.itoa n=d:=by simp at h6;exact⟨by omega,h6.2⟩
      rw[decide_eq_false h7.1,h7.2];simp
     have n7:=jk vB
     rw[vB,if_pos rfl]at hV
     subst n7
     refine gO ?_
     exact AE.aX [1] rfl ⟨⟨rfl,Nat.le_of_ble_eq_true (by kernel_rfl)⟩,trivial⟩ rfl ⟨_,_,by rw[hT,hV],.inr ⟨rfl,rfl⟩,rfl⟩
theorem wu (s:List UInt8) (hs:s.length<=1000000):∀(f i:Nat),i<=s.length->s.length<f+i->da Tryz.prog 159 [.ob 0 0] (gv s i) (RT s f i) (XT s f i)
 |0,i,hi,hf=>by omega
 |f+1,i,hi,hf=>S2 s hs f i hi fun i' U h2=>Kl s hs f i' h2 (by omega) fun f' QR h3 h4 h5=>wu s hs f' QR h4 h5
termination_by f=>f
decreasing_by omega
theorem SQ (s:List UInt8) (hs:s.length<=1000000) (f i:Nat) (hi:i<=s.length) (hf:s.length<f+i):da Tryz.prog 158 [.ob 0 0] (gv s i) (RA s f i) (XA s f i):=
 Kl s hs f i hi hf fun f' i' _ h4 h5=>wu s hs f' i' h4 h5
def RL (s:List UInt8) (i:Nat) (r:AV) (H':aa):Prop:=∃l j,pL s i=some (l,j)/\r=jC l/\H'=gv s j
def XL (s:List UInt8) (i:Nat) (r:AV) (H':aa):Prop:=pL s i=none/\r=vX/\H'=zI
theorem Km (s:List UInt8) (hs:s.length<=1000000) (i:Nat) (hi:i<=s.length):da Tryz.prog 82 [.ob 0 0] (gv s i) (RL s i) (XL s i):=by
 have hL:pL s i=_:=pL.eq_def s i
 have he:=o5 s [126] i hi hs (by simp)
 refine da.walk [0,2,3,4,6,8,19,20,21,22,28,39] [2,4,6] Tryz.func82 rfl Tryz.ntmps82 (by kernel_rfl) (by rfl) rfl fun W own I0 aq lay=>?_
 refine gO ?_
 refine AQ.bz [(0,0)] (by kernel_rfl) rfl rfl rfl rfl rfl rfl (by exact⟨rfl,trivial⟩) rfl (he) ?_;rintro r H1 ⟨rfl,rfl⟩;refine⟨rfl,?_⟩;refine sH ?_
 refine gO ?_
 refine AP.cond rfl rfl (fun h=>?_) (fun h=>?_)
 ·have h:cJ s i [126]=true:=by simpa using h
  have hle:=oV h hi
  simp only[List.length_cons,List.length_nil]at hle
  rw[if_pos h]at hL
  rw[if_pos h]
  have hn:=Js s (i+1) (by omega) hs
  refine gO ?_
  refine AQ.lQ [(0,0)] (by kernel_rfl) rfl rfl rfl rfl rfl rfl (by exact⟨rfl,trivial⟩) rfl (hn) ?_ ?_
  ·rintro r H' ⟨hp,rfl,rfl⟩
   rw[if_pos hp]at hL
   refine⟨rfl,?_⟩;refine sH ?_
   exact cV.out [1] rfl rfl ⟨hL,rfl,rfl⟩
  ·rintro r H' ⟨hp,rfl,rfl⟩
   rw[if_neg hp]at hL
   have gn:=wc true (s.drop (i+1))
   rw[List.length_drop]at gn
   have fk:=SQ s hs (s.length+1) (i+1+cy true (s.drop (i+1))) (by omega) (by omega)
   refine⟨rfl,?_⟩;refine sH ?_
   refine AQ.go (by kernel_rfl) ?_
   refine sI ?_
   refine gO ?_
   refine AQ.lQ [(0,0)] (by kernel_rfl) rfl rfl rfl rfl rfl rfl (by exact⟨rfl,trivial⟩) rfl (fk) ?_ ?_
   ·rintro r H' ⟨hp,rfl,rfl⟩
    rw[hp]at hL
    refine⟨rfl,?_⟩;refine sH ?_
    exact cV.out [1] rfl rfl ⟨hL,rfl,rfl⟩
   ·rintro r H' ⟨l,k,hp,rfl,rfl⟩
    rw[hp]at hL
    refine⟨rfl,?_⟩;refine sH ?_
    refine AQ.go (by kernel_rfl) ?_
    refine sI ?_
    refine gO ?_
    exact AE.aX [1] rfl ⟨⟨rfl,Nat.le_of_ble_eq_true (by kernel_rfl)⟩,trivial⟩ rfl ⟨_,k,hL,rfl,rfl⟩
 ·have h:cJ s i [126]=false:=by simpa using h
  rw[h,if_neg (by decide)]at hL
  rw[h,if_neg (by decide)]
  have ht:=wu s hs (s.length+1) i hi (by omega)
  refine gO ?_
  refine AQ.lQ [(0,0)] (by kernel_rfl) rfl rfl rfl rfl rfl rfl (by exact⟨rfl,trivial⟩) rfl (ht) ?_ ?_
  ·rintro r H' ⟨hp,rfl,rfl⟩
   rw[hp]at hL
   refine⟨rfl,?_⟩;refine sH ?_
   exact cV.out [1] rfl rfl ⟨hL,rfl,rfl⟩
  ·rintro r H' ⟨t,j,hp,rfl,rfl⟩
   have n_:=pU hp
   rw[hp]at hL
   simp only at hL
   refine⟨rfl,?_⟩;refine sH ?_
   refine AQ.go (by kernel_rfl) ?_
   refine sI ?_
   refine gO ?_
   have jo:([[IV.v (Value.string (BA [32,61,32])),IV.v (Value.bool false)],[IV.v (Value.string (BA [32,33,61,32])),IV.v (Value.bool true)]]:List (List IV)).getD 0 []=[Si [32,61,32],Bi false]:=rfl
   have va:([[IV.v (Value.string (BA [32,61,32])),IV.v (Value.bool false)],[IV.v (Value.string (BA [32,33,61,32])),IV.v (Value.bool true)]]:List (List IV)).getD 1 []=[Si [32,33,61,32],Bi true]:=rfl
   refine AP.loop rfl (α:=Nat) (fun k=>[(0,.ob 0 0),(2,.ob 1 0),(4,.ob 2 0),(19,.im (.sl 2 [[.v (.string (BA [32,61,32])),.v (.bool false)],[.v (.string (BA [32,33,61,32])),.v (.bool true)]])),(20,Iv 2),(21,Iv k)]) (fun _=>(2,.var 71 [Sv t.nm,Iv t.ix,.im (.sl 3 (ax t.xs))])::(1,.var 119 [Bv false,Sv [],eL])::gv s j) (fun k=>k<=2/\(0<k->cJ s j [32,61,32]=false)/\(1<k->cJ s j [32,33,61,32]=false)) (fun k=>2-k) 0 ⟨by omega,by omega,by omega⟩ (sU) rfl fun k ⟨hk,k1,k2⟩=>?_
   obtain rfl|rfl|rfl:k=0\/k=1\/k=2:=by omega
   ·have he:=o5 s [32,61,32] j n_.2.2 hs (by simp)
    refine gE (an @jo (an @List.length_cons.{0} @List.length_nil.{0})) ?_
    refine AQ.fix 3 rfl rfl ?_
    refine sI ?_
    refine AQ.bz [(0,0)] (by kernel_rfl) rfl rfl rfl rfl rfl rfl (by exact⟨rfl,trivial⟩) rfl (he) ?_;rintro r H1 ⟨rfl,rfl⟩;refine⟨rfl,?_⟩;refine sH ?_
    refine gO ?_
    refine AP.cond rfl rfl (fun U=>?_) (fun U=>?_)
    ·have U:cJ s j [32,61,32]=true:=by simpa using U
     have hle:=oV U n_.2.2
     simp only[List.length_cons,List.length_nil]at hle
     rw[if_pos U]at hL
     rw[if_pos U]
     have it:=wu s hs (s.length+1) (j+3) (by omega) (by omega)
     refine gO ?_
     refine AP.cu 8 (Tree.node [] [0,1,2,3] [4] [Tree.node [0,1,2] [] [5] [Tree.node [0,1] [6] [7] [Tree.node [] [] [] []]]]) (by kernel_rfl) rfl (by kernel_rfl) (by kernel_rfl) ?_
     refine cr ?_
     refine sI ?_
     refine AQ.lQ [(0,0)] (by kernel_rfl) rfl rfl rfl rfl rfl rfl (by exact⟨rfl,trivial⟩) rfl (it) ?_ ?_
     ·rintro r H' ⟨eP,rfl,rfl⟩
      rw[eP]at hL
      refine⟨rfl,?_⟩;refine sH ?_
      exact cV.JY [2,1] rfl rfl rfl ⟨hL,rfl,rfl⟩
     ·rintro r H' ⟨u,k,eP,rfl,rfl⟩
      rw[eP]at hL
      refine⟨rfl,?_⟩;refine sH ?_
      refine AQ.nx rfl ?_
      refine sI ?_
      refine AQ.go (by kernel_rfl) ?_
      refine sI ?_
      refine AQ.nx rfl ?_
      refine sI ?_
      refine AQ.go (by kernel_rfl) ?_
      refine sI ?_
      refine AQ.nx rfl ?_
      refine sI ?_
      refine AQ.done ?_
      refine gO ?_
      exact AE.aX [2,1] rfl ⟨⟨rfl,Nat.le_of_ble_eq_true (by kernel_rfl)⟩,trivial⟩ rfl ⟨_,k,hL,by simp only[jC,ax,oN];rfl,rfl⟩
    ·have U:cJ s j [32,61,32]=false:=by simpa using U
     rw[U,if_neg (by decide)]
     refine gO ?_
     exact AE.round 1 ⟨by omega,by omega⟩ (by omega) (sU) rfl
   ·have he:=o5 s [32,33,61,32] j n_.2.2 hs (by simp)
    refine gE (an @va (an @List.length_cons.{0} @List.length_nil.{0})) ?_
    refine AQ.fix 3 rfl rfl ?_
    refine sI ?_
    refine AQ.bz [(0,0)] (by kernel_rfl) rfl rfl rfl rfl rfl rfl (by exact⟨rfl,trivial⟩) rfl (he) ?_;rintro r H1 ⟨rfl,rfl⟩;refine⟨rfl,?_⟩;refine sH ?_
    refine gO ?_
    refine AP.cond rfl rfl (fun U=>?_) (fun U=>?_)
    ·have U:cJ s j [32,33,61,32]=true:=by simpa using U
     have hle:=oV U n_.2.2
     simp only[List.length_cons,List.length_nil]at hle
     rw[if_neg (by rw[k1 (by omega)];decide),if_pos U]at hL
     rw[if_pos U]
     have it:=wu s hs (s.length+1) (j+4) (by omega) (by omega)
     refine gO ?_
     refine AP.cu 8 (Tree.node [] [0,1,2,3] [4] [Tree.node [0,1,2] [] [5] [Tree.node [0,1] [6] [7] [Tree.node [] [] [] []]]]) (by kernel_rfl) rfl (by kernel_rfl) (by kernel_rfl) ?_
     refine cr ?_
     refine sI ?_
     refine AQ.lQ [(0,0)] (by kernel_rfl) rfl rfl rfl rfl rfl rfl (by exact⟨rfl,trivial⟩) rfl (it) ?_ ?_
     ·rintro r H' ⟨eP,rfl,rfl⟩
      rw[eP]at hL
      refine⟨rfl,?_⟩;refine sH ?_
      exact cV.JY [2,1] rfl rfl rfl ⟨hL,rfl,rfl⟩
     ·rintro r H' ⟨u,k,eP,rfl,rfl⟩
      rw[eP]at hL
      refine⟨rfl,?_⟩;refine sH ?_
      refine AQ.nx rfl ?_
      refine sI ?_
      refine AQ.go (by kernel_rfl) ?_
      refine sI ?_
      refine AQ.nx rfl ?_
      refine sI ?_
      refine AQ.go (by kernel_rfl) ?_
      refine sI ?_
      refine AQ.nx rfl ?_
      refine sI ?_
      refine AQ.done ?_
      refine gO ?_
      exact AE.aX [2,1] rfl ⟨⟨rfl,Nat.le_of_ble_eq_true (by kernel_rfl)⟩,trivial⟩ rfl ⟨_,k,hL,by simp only[jC,ax,oN];rfl,rfl⟩
    ·have U:cJ s j [32,33,61,32]=false:=by simpa using U
     rw[U,if_neg (by decide)]
     refine gO ?_
     exact AE.round 2 ⟨by omega,fun _=>k1 (by omega)⟩ (by omega) (sU) rfl
   ·rw[if_neg (by rw[k1 (by omega)];decide),if_neg (by rw[k2 (by omega)];decide)]at hL
    refine gO ?_
    refine AP.cond rfl rfl (fun h3=>?_) (fun h3=>?_)
    ·rw[if_pos (by simpa using h3)]at hL
     refine gO ?_;refine xI ?_;refine sI ?_;refine gO ?_;refine AQ.fj 0 _ rfl (pG _ _) ?_;refine sI ?_;refine AQ.panic rfl ?_
     exact cV.out [2,1] rfl rfl ⟨hL,rfl,rfl⟩
    ·rw[if_neg (by simpa using h3)]at hL
     refine gO ?_
     exact AE.aX [2,1] rfl ⟨⟨rfl,Nat.le_of_ble_eq_true (by kernel_rfl)⟩,trivial⟩ rfl ⟨_,j,hL,rfl,rfl⟩
abbrev oF (a:AV) (e:Int):aa:=[(1,.var 30 [Iv e]),(0,.var 27 [a])]
theorem DI (x:IV) (e:Int):lI Tryz.prog 81 [.ob 0 0,.ob 1 0] (oF (.im x) e) none (fun H'=>H'=oF (.im x) e):=by
 refine lI.walk [0,1,2,3,4,7,14] [3] Tryz.func81 rfl Tryz.ntmps81 ⟨rfl,rfl,rfl⟩ ⟨rfl,rfl,rfl⟩ rfl (by kernel_rfl) (by rfl) rfl fun W own I0 aq lay=>?_
 simp only[go_sem,Nat.reduceAdd,Nat.reduceLeDiff,Nat.reduceSub,Int.reduceToNat,reduceCtorEq,pZ]
 refine gO ?_
 exact AE.Kk [] (.inr rfl) rfl rfl trivial rfl rfl
theorem J6 (e:Int):lI Tryz.prog 81 [.ob 0 0,.ob 1 0] (oF .top e) (some vX) (fun H'=>H'=oF (.im (.sl 3 [])) 2):=by
 refine lI.walk [0,1,2,3,4,7,14] [3] Tryz.func81 rfl Tryz.ntmps81 ⟨rfl,rfl,rfl⟩ ⟨rfl,rfl,rfl⟩ rfl (by kernel_rfl) (by rfl) rfl fun W own I0 aq lay=>?_
 simp only[go_sem,Nat.reduceAdd,Nat.reduceLeDiff,Nat.reduceSub,Int.reduceToNat,reduceCtorEq,pZ]
 refine gO ?_
 refine AQ.MP (by kernel_rfl) rfl rfl ?_;refine sI ?_
 refine gO ?_
 refine AE.fj 0 [.im (.sl 3 [])] rfl (bY.nil (bY.refl _)) ?_
 refine sI ?_
 exact AE.Kk [2] (.inr rfl) rfl rfl trivial rfl rfl
def rH (s:List UInt8) (g j:Nat):Option (List Lt):=if cJ s j [32,124,32]then pS s g (j+3)else if j<s.length then none else some []
def re (a:List Lt):Option (List Lt)->Option (List Lt)
 |none=>none
 |some l=>some (a++l)
theorem J2 (s:List UInt8) (f i:Nat):pS s (f+1) i=match pL s i with
  |none=>none
  |some (l,j)=>re [l] (rH s f j):=by
 rw[pS]
 cases pL s i with
 |none=>rfl
 |some x=>
  obtain⟨l,j⟩:=x
  simp only[rH]
  split
  ·cases pS s f (j+3)<;>rfl
  ·split<;>rfl
def s9 (s:List UInt8):Int:=if 40000<s.length then 15 else match pC s with
 |none=>2
 |some c=>aW 4 9 2 3 c
def pW (s:List UInt8):List Lt:=if 40000<s.length then[]else match pC s with
 |none=>[]
 |some c=>if aW 4 9 2 3 c≠0 then[]else c
theorem cV.fj {C:Cx} {r:AV} {K:List PK} {E:Env} {H:aa} (b:Nat) (cs':List AV) {s:Sh} {cs:List AV} (hl:lk H b=some (.var s cs)) (hc:bY cs cs') (h:cV C r K E (bG H b (.var s cs'))):cV C r K E H:=by
 unfold cV at h⊢
 exact fun φ I a w v hs hd=>h _ _ _ _ _ ⟨hs.bD,hs.bE,hs.env,hs.st.fj hl hc⟩ hd
theorem IK (a:AV):bY [a] [.top]:=fun w φ I us h=>by
 simp only[AV.ab,AV.den]at h⊢
 obtain⟨u1,p_,rfl,_,rfl⟩:=h
 exact⟨_,_,rfl,trivial,rfl⟩
theorem SB (s:List UInt8) (hs:s.length<=1000000) (b5:∀c,pC s=some c->cC c):da Tryz.prog 19 [Sv s] [] (fun r H'=>H'=[]/\r= .aM [aK (pW s),Iv (s9 s)]) (fun _ _=>False):=by
 have hE:s9 s=_:=s9.eq_def s
 have hR:pW s=_:=pW.eq_def s
 refine da.Uq [0,2,3,4,5,8,10,11,19,31,35] [2,3,4,14,17] Tryz.func19 rfl Tryz.ntmps19 (by kernel_rfl) (by rfl) rfl fun W own I0 aq lay=>?_
 refine gO ?_
 refine AP.cond rfl rfl (fun h=>?_) (fun h=>?_)
 ·rw[if_pos (by simp at h;omega)]at hE hR
  refine gO ?_
  refine AE.fj 0 [.im (.sl 3 [])] rfl (bY.nil (bY.refl _)) ?_
  refine sI ?_
  exact AE.IL (.inl rfl) rfl<|LV.aX [1,0] rfl ⟨⟨rfl,Nat.le_of_ble_eq_true (by kernel_rfl)⟩,⟨rfl,Nat.le_of_ble_eq_true (by kernel_rfl)⟩,trivial⟩ rfl ⟨rfl,by rw[hE,hR];rfl⟩
 rw[if_neg (by simp at h;omega)]at hE hR
 refine gO ?_
 refine AP.cond rfl rfl (fun U=>?_) (fun U=>?_)
 ·have U:s=[91,93]:=by simpa using U
  have hC:pC s=some []:=by rw[pC,if_pos U]
  rw[hC]at hE hR
  have e0:aW 4 9 2 3 []=0:=by decide
  simp only[e0]at hE hR
  refine gO ?_
  refine AE.fj 0 [.im (.sl 3 [])] rfl (bY.nil (bY.refl _)) ?_
  refine sI ?_
  exact AE.IL (.inl rfl) rfl<|LV.aX [1,0] rfl ⟨⟨rfl,Nat.le_of_ble_eq_true (by kernel_rfl)⟩,⟨rfl,Nat.le_of_ble_eq_true (by kernel_rfl)⟩,trivial⟩ rfl ⟨rfl,by rw[hE,hR];rfl⟩
 ·have U:¬s=[91,93]:=by simpa using U
  have hC:pC s=pS s (s.length+1) 0:=by rw[pC,if_neg U]
  rw[J2]at hC
  refine sI ?_
  refine xA ?_
  refine AP.SN rfl rfl ?_
  refine AQ.OE (by kernel_rfl) rfl rfl ?_ ?_
  ·simp only[go_sem]
   done
  refine sI ?_
  refine AQ.defer rfl rfl rfl fun u=>?_
  refine sI ?_
  refine gO ?_
  refine AQ.lQ [(0,2)] (by kernel_rfl) rfl rfl rfl rfl rfl rfl (by exact⟨rfl,trivial⟩) rfl (Km s hs 0 (by omega)) ?_ ?_
  ·rintro r H' ⟨hp,rfl,rfl⟩
   rw[hp]at hC
   rw[hC]at hE hR
   simp only at hE hR
   refine⟨rfl,?_⟩;refine sH ?_
   refine cV.fj 0 _ rfl (IK _) ?_
   refine sI ?_
   refine cV.sN [(1,1),(0,0)] (K':=[_]) (t:=11) (Hc:=oF .top 0) rfl rfl rfl rfl rfl (by exact⟨rfl,rfl,trivial⟩) rfl (J6 _) rfl ?_ rfl
   rintro H1 rfl
   refine⟨rfl,?_⟩
   refine sH ?_
   exact LV.aX [2,1,0] rfl ⟨⟨rfl,Nat.le_of_ble_eq_true (by kernel_rfl)⟩,⟨rfl,Nat.le_of_ble_eq_true (by kernel_rfl)⟩,trivial⟩ rfl ⟨rfl,by rw[hE,hR];rfl⟩
  ·rintro r H' ⟨x,j,hp,rfl,rfl⟩
   rw[hp]at hC
   simp only at hC
   refine⟨rfl,?_⟩;refine sH ?_
   refine AQ.go (by kernel_rfl) ?_
   refine sI ?_
   refine gO ?_
   have HA:=J0 hp
   have G5:pC s=re [x] (rH s s.length j):=hC
   refine AP.loop rfl (α:=List Lt×Nat×Nat) (fun z=>[(0,Sv s),(2,.ob 0 0),(3,.ob 1 0),(4,.ob 2 0),(11,.wr (.exact u) (.fn 81 [] [.ob 0 0,.ob 1 0]))]) (fun z=>[(3,.vec 119 3 (bP z.1)),(2,.var 135 [Sv s,Iv z.2.1]),(1,.var 30 [Iv 0]),(0,.var 27 [.os 3 3 0 z.1.length])]) (fun z=>z.1.length<=z.2.1/\z.2.1<=s.length/\s.length<z.2.2+z.2.1/\pC s=re z.1 (rH s z.2.2 z.2.1)) (fun z=>s.length-z.2.1) ([x],j,s.length) ⟨by simp only[List.length_singleton];omega,by simp only;omega,by simp only;omega,G5⟩ (sU) rfl fun⟨a,j,g⟩ ⟨z1,z2,z3,z4⟩=>?_
   simp only at z1 z2 z3 z4⊢
   clear hC G5 HA hp
   have he:=o5 s [32,124,32] j z2 hs (by simp)
   rw[rH]at z4
   refine gO ?_
   refine AQ.bz [(0,2)] (by kernel_rfl) rfl rfl rfl rfl rfl rfl (by exact⟨rfl,trivial⟩) rfl he ?_
   rintro r H1 ⟨rfl,rfl⟩
   refine⟨rfl,?_⟩
   refine sH ?_
   refine gO ?_
   refine AP.cond rfl rfl (fun h2=>?_) (fun h2=>?_)
   ·have h2:cJ s j [32,124,32]=true:=by simpa using h2
    have hle:=oV h2 z2
    simp only[List.length_cons,List.length_nil]at hle
    obtain⟨g,rfl⟩:∃q,g=q+1:=⟨g-1,by omega⟩
    rw[if_pos h2,J2]at z4
    rw[if_pos h2]
    refine gO ?_
    refine AP.cu 6 (Tree.node [] [0,1] [2] [Tree.node [0] [] [3] [Tree.node [0] [] [4] [Tree.node [] [] [5] [Tree.node [] [] [] []]]]]) (by kernel_rfl) rfl (by kernel_rfl) (by kernel_rfl) ?_
    refine cr ?_
    refine sI ?_
    refine AQ.lQ [(0,2)] (by kernel_rfl) rfl rfl rfl rfl rfl rfl (by exact⟨rfl,trivial⟩) rfl (Km s hs (j+3) (by omega)) ?_ ?_
    ·rintro r H' ⟨hp,rfl,rfl⟩
     rw[hp]at z4
     rw[z4]at hE hR
     simp only[re]at hE hR
     refine⟨rfl,?_⟩;refine sH ?_
     refine cV.draw [2,3,11] rfl (by kernel_rfl) ?_
     refine sI ?_
     refine cV.fj 0 _ rfl (IK _) ?_
     refine sI ?_
     refine cV.sN [(1,1),(0,0)] (K':=[_,_,_,_]) (t:=11) (Hc:=oF .top 0) rfl rfl rfl rfl rfl (by exact⟨rfl,rfl,trivial⟩) rfl (J6 _) rfl ?_ rfl
     rintro H1 rfl
     refine⟨rfl,?_⟩
     refine sH ?_
     exact LV.aX [3,2,1,0] rfl ⟨⟨rfl,Nat.le_of_ble_eq_true (by kernel_rfl)⟩,⟨rfl,Nat.le_of_ble_eq_true (by kernel_rfl)⟩,trivial⟩ rfl ⟨rfl,by rw[hE,hR];rfl⟩
    ·rintro r H' ⟨y,k,hp,rfl,rfl⟩
     rw[hp]at z4
     simp only at z4
     have HA:=J0 hp
     refine⟨rfl,?_⟩;refine sH ?_
     refine AQ.nx rfl ?_
     refine sI ?_
     refine AQ.go (by kernel_rfl) ?_
     refine sI ?_
     refine AQ.nx rfl ?_
     refine sI ?_
     refine AQ.kill 3 ?_
     refine sI ?_
     refine AQ.append (hnb:=rfl) (rows:=bP a) (es:=2) (by kernel_rfl) rfl rfl rfl (by rfl) Tryz.wK Tryz.wE (by show Option.map _ (az Tryz.prog 119)=_;rw[Tryz.wW];rfl) Tryz.tS (by first|rfl|(simp only[aA,List.length_cons,List.length_nil];done)|(simp only[aA,List.length_cons,List.length_nil];omega)) (by simp only[aA,List.length_cons,List.length_nil];omega) (by simp only[aA,List.length_cons,List.length_nil];omega) ?_
     refine sI ?_
     refine AQ.nx rfl ?_
     refine sI ?_
     refine AQ.go (by kernel_rfl) ?_
     refine sI ?_
     refine AQ.nx rfl ?_
     refine sI ?_
     refine AQ.done ?_
     refine gO ?_
     refine AE.round (a++[y],k,g) ⟨by simp only[List.length_append,List.length_singleton];omega,by simp only;omega,by simp only;omega,?_⟩ (by simp only;omega) (sU) ?_
     ·simp only
      rw[z4]
      cases rH s g k with
      |none=>rfl
      |some q=>simp[re]
     ·simp only[sT,List.length_append,List.length_singleton,aA]
   ·have h2:¬cJ s j [32,124,32]=true:=by simpa using h2
    rw[if_neg h2]at z4
    rw[if_neg h2]
    refine gO ?_
    refine AP.cond rfl rfl (fun h3=>?_) (fun h3=>?_)
    ·rw[if_pos (by simp at h3;omega)]at z4
     rw[z4]at hE hR
     simp only[re]at hE hR
     refine gO ?_
     refine AE.fj 0 [.im (.sl 3 [])] rfl (bY.nil (bY.refl _)) ?_
     refine sI ?_
     refine AE.sN [(1,1),(0,0)] (t:=11) (Hc:=oF (.im (.sl 3 [])) 2) (.inl rfl) rfl rfl rfl rfl rfl (by exact⟨rfl,rfl,trivial⟩) rfl (DI _ _) ?_
     rintro H1 rfl
     refine⟨rfl,?_⟩
     refine sH ?_
     exact LV.aX [3,2,1,0] rfl ⟨⟨rfl,Nat.le_of_ble_eq_true (by kernel_rfl)⟩,⟨rfl,Nat.le_of_ble_eq_true (by kernel_rfl)⟩,trivial⟩ rfl ⟨rfl,by rw[hE,hR];rfl⟩
    ·rw[if_neg (by simp at h3;omega)]at z4
     rw[z4]at hE hR
     simp only[re,List.append_nil]at hE hR z4
     have k8:=b5 a z4
     refine gO ?_
     refine AQ.freeze 3 (el:=119) (es:=3) (rows:=bP a) rfl (by simp only[go_sem,Nat.reduceAdd,Nat.reduceLeDiff,Nat.reduceSub,Int.reduceToNat,reduceCtorEq,aA];first|done|trivial|omega|(simp;done)|(simp;omega)) (by simp only[go_sem,Nat.reduceAdd,Nat.reduceLeDiff,Nat.reduceSub,Int.reduceToNat,reduceCtorEq,aA];first|done|trivial|omega|(simp;done)|(simp;omega)) ?_;simp only[go_sem,Nat.reduceAdd,Nat.reduceLeDiff,Nat.reduceSub,Int.reduceToNat,reduceCtorEq,aA]
     rw[List.take_of_length_le (by rw[aA];exact Nat.le_refl _)]
     refine AQ.fn (by kernel_rfl) rfl rfl rfl (oZ a k8) rfl ?_
     refine sI ?_
     refine gO ?_
     refine AP.cond rfl rfl (fun h4=>?_) (fun h4=>?_)
     ·have h4:aW 4 9 2 3 a≠0:=by simpa using h4
      rw[if_pos h4]at hR
      refine gO ?_
      refine AE.fj 0 [.im (.sl 3 [])] rfl (bY.nil (bY.refl _)) ?_
      refine sI ?_
      refine AE.sN [(1,1),(0,0)] (t:=11) (Hc:=oF (.im (.sl 3 [])) (aW 4 9 2 3 a)) (.inl rfl) rfl rfl rfl rfl rfl (by exact⟨rfl,rfl,trivial⟩) rfl (DI _ _) ?_
      rintro H1 rfl
      refine⟨rfl,?_⟩
      refine sH ?_
      exact LV.aX [2,1,0] rfl ⟨⟨rfl,Nat.le_of_ble_eq_true (by kernel_rfl)⟩,⟨rfl,Nat.le_of_ble_eq_true (by kernel_rfl)⟩,trivial⟩ rfl ⟨rfl,by rw[hE,hR];rfl⟩
     ·have h4:¬aW 4 9 2 3 a≠0:=by simpa using h4
      have h5:aW 4 9 2 3 a=0:=by simpa using h4
      rw[if_neg h4]at hR
      refine gO ?_
      refine AE.sN [(1,1),(0,0)] (t:=11) (Hc:=oF (.im (.sl 3 (bP a))) 0) (.inl rfl) rfl rfl rfl rfl rfl (by exact⟨rfl,rfl,trivial⟩) rfl (DI _ _) ?_
      rintro H1 rfl
      refine⟨rfl,?_⟩
      refine sH ?_
      exact LV.aX [2,1,0] rfl ⟨⟨rfl,Nat.le_of_ble_eq_true (by kernel_rfl)⟩,⟨rfl,Nat.le_of_ble_eq_true (by kernel_rfl)⟩,trivial⟩ rfl ⟨rfl,by rw[hE,hR,h5];rfl⟩
theorem D7 {l:List UInt8} {n i:Nat} {s:List UInt8} (h:l=s.drop i) (hs:s.length<=1000000):(l.take n).length<=1000000000:=by
 rw[List.length_take,h,List.length_drop];omega
theorem s8 (s:List UInt8) (hs:s.length<=1000000):∀f,(∀i t j,pT s f i=some (t,j)->aU t)/\(∀i l j,pR s f i=some (l,j)->cq l/\l.length+i<=j)
 |0=>⟨fun i t j h=>(by rw[pT]at h;cases h),fun i l j h=>(by rw[pR]at h;cases h)⟩
 |f+1=>by
  obtain⟨Il,Im⟩:=s8 s hs f
  refine⟨fun i t j h=>?_,fun i l j h=>?_⟩
  ·rw[pT]at h
   split at h
   ·rw[pV]at h
    split at h
    ·cases h;rw[aU,cq];simp
    ·cases h
   ·split at h
    ·cases h
    ·split at h
     ·cases hq:pT s f (i+cy true (s.drop i)+1)with
      |none=>rw[hq]at h;cases h
      |some x=>
       obtain⟨t1,j1⟩:=x
       rw[hq]at h
       simp only at h
       cases hr:pR s f j1 with
       |none=>rw[hr]at h;cases h
       |some y=>
        obtain⟨l1,k1⟩:=y
        rw[hr]at h
        cases h
        have U:=Il _ _ _ hq
        have h2:=Im _ _ _ hr
        have h3:=DG hr
        rw[aU,cq]
        exact⟨D7 rfl hs,by simp only[List.length_cons];omega,U,h2.1⟩
     ·cases h
      rw[aU,cq]
      exact⟨D7 rfl hs,by simp,trivial⟩
  ·rw[pR]at h
   split at h
   ·cases hq:pT s f (i+2)with
    |none=>rw[hq]at h;cases h
    |some x=>
     obtain⟨t1,j1⟩:=x
     rw[hq]at h
     simp only at h
     cases hr:pR s f j1 with
     |none=>rw[hr]at h;cases h
     |some y=>
      obtain⟨l1,k1⟩:=y
      rw[hr]at h
      cases h
      have U:=Il _ _ _ hq
      have h2:=Im _ _ _ hr
      have h3:=pU hq
      rw[cq]
      exact⟨⟨U,h2.1⟩,by simp only[List.length_cons];omega⟩
   ·split at h
    ·cases h;rw[cq];simp
    ·cases h
theorem Ss {s:List UInt8} (hs:s.length<=1000000) {f i j:Nat} {l:List Tm} (h:pA s f i=some (l,j)):cq l/\l.length<=1000000000:=by
 rw[pA]at h
 split at h
 ·cases hq:pT s f (i+1)with
  |none=>rw[hq]at h;cases h
  |some x=>
   obtain⟨t1,j1⟩:=x
   rw[hq]at h
   simp only at h
   cases hr:pR s f j1 with
   |none=>rw[hr]at h;cases h
   |some y=>
    obtain⟨l1,k1⟩:=y
    rw[hr]at h
    cases h
    have U:=(s8 s hs f).1 _ _ _ hq
    have h2:=(s8 s hs f).2 _ _ _ hr
    have h3:=DG hr
    rw[cq]
    exact⟨⟨U,h2.1⟩,by simp only[List.length_cons];omega⟩
 ·cases h;rw[cq];simp
theorem Sw {s:List UInt8} (hs:s.length<=1000000) {i j:Nat} {x:Lt} (h:pL s i=some (x,j)):iZ x:=by
 rw[pL]at h
 split at h
 ·split at h
  ·cases h
  ·cases hq:pA s (s.length+1) (i+1+cy true (s.drop (i+1)))with
   |none=>rw[hq]at h;cases h
   |some y=>
    obtain⟨l1,k1⟩:=y
    rw[hq]at h
    cases h
    have:=Ss hs hq
    exact⟨D7 rfl hs,this.2,this.1⟩
 ·cases hq:pT s (s.length+1) i with
  |none=>rw[hq]at h;cases h
  |some y=>
   obtain⟨t1,k1⟩:=y
   rw[hq]at h
   simp only at h
   have U:=(s8 s hs _).1 _ _ _ hq
   split at h
   ·cases hr:pT s (s.length+1) (k1+3)with
    |none=>rw[hr]at h;cases h
    |some z=>
     obtain⟨t2,k2⟩:=z
     rw[hr]at h
     cases h
     have h2:=(s8 s hs _).1 _ _ _ hr
     exact⟨by simp,by simp,by rw[cq,cq,cq];exact⟨U,h2,trivial⟩⟩
   ·split at h
    ·cases hr:pT s (s.length+1) (k1+4)with
     |none=>rw[hr]at h;cases h
     |some z=>
      obtain⟨t2,k2⟩:=z
      rw[hr]at h
      cases h
      have h2:=(s8 s hs _).1 _ _ _ hr
      exact⟨by simp,by simp,by rw[cq,cq,cq];exact⟨U,h2,trivial⟩⟩
    ·split at h
     ·cases h
     ·cases h
      have:=eU.1 U
      exact⟨this.1,this.2.1,this.2.2⟩
theorem J1 {s:List UInt8} (hs:s.length<=1000000):∀(f i:Nat) (c:List Lt),pS s f i=some c->c.length<=f/\∀l∈c,iZ l
 |0,i,c,h=>by rw[pS]at h;cases h
 |f+1,i,c,h=>by
  rw[pS]at h
  cases hq:pL s i with
  |none=>rw[hq]at h;cases h
  |some y=>
   obtain⟨x,j⟩:=y
   rw[hq]at h
   simp only at h
   have U:=Sw hs hq
   split at h
   ·cases hr:pS s f (j+3)with
    |none=>rw[hr]at h;cases h
    |some r=>
     rw[hr]at h
     cases h
     obtain⟨h2,h3⟩:=J1 hs f _ _ hr
     refine⟨by simp only[List.length_cons];omega,fun l hl=>?_⟩
     rcases List.mem_cons.1 hl with rfl|hl
     ·exact U
     ·exact h3 l hl
   ·split at h
    ·cases h
    ·cases h
     refine⟨by simp,fun l hl=>?_⟩
     rw[List.mem_singleton]at hl
     subst hl;exact U
theorem JZ {s:List UInt8} (hs:s.length<=1000000) {c:List Lt} (h:pC s=some c):cC c:=by
 rw[pC]at h
 split at h
 ·cases h;exact⟨by simp,fun l hl=>by cases hl⟩
 ·obtain⟨U,h2⟩:=J1 hs _ _ _ h
  exact⟨by omega,h2⟩
theorem Sz {s:List UInt8} (hs:s.length<=1000000):cC (pW s):=by
 have h0:cC ([]:List Lt):=⟨by simp,fun l hl=>by cases hl⟩
 rw[pW]
 split
 ·exact h0
 ·cases hq:pC s with
  |none=>exact h0
  |some c=>
   simp only
   split
   ·exact h0
   ·exact JZ hs hq
theorem SA (s:List UInt8) (hs:s.length<=1000000):aP Tryz.prog 19 [Sv s] (.aM [aK (pW s),Iv (s9 s)]):=
 (SB s hs fun c h=>JZ hs h).TV fun _ _ h=>h
def sZ (c:List Lt):List Lt:=if aW 4 9 2 3 c≠0 then[]else zu c
theorem R6 (N:Nat) (vm:∀l:List Lt,l.length<=N->aj Tryz.prog 90 [.os 0 4 0 l.length,.fn 91 [] []] (fG l) (fun r H'=>r= .aM []/\H'=fG (c_ [] l))) (c:List Lt) (hN:c.length<=N) (hs:cC c):aP Tryz.prog 22 [aK c] (.aM [aK (sZ c),Iv (aW 4 9 2 3 c)]):=by
 by_cases dU:aW 4 9 2 3 c=0
 ·rw[sZ,if_neg (by simpa using dU),dU]
  exact R7 N vm c hN hs dU
 ·have hR:sZ c=[]:=by rw[sZ,if_pos dU]
  refine aj.JW ?_
  refine aj.walk [0,2,3,4,5,6,7,8,10,11,15,17,18,19,20,29,44,45,46,47] [7,10,11] Tryz.func22 rfl Tryz.ntmps22 (by kernel_rfl) (by rfl) rfl fun W own I0 aq lay=>?_
  refine gO ?_
  refine AQ.fn (by kernel_rfl) rfl rfl rfl (oZ c hs) rfl ?_
  refine sI ?_
  refine gO ?_
  refine AP.cond rfl rfl (fun h=>?_) (fun h=>?_)
  ·refine gO ?_
   exact AE.aG rfl ⟨rfl,rfl,trivial⟩ rfl ⟨rfl,.inr ⟨hR,rfl⟩⟩
  ·exact absurd (by simpa using h) dU
def rV:List UInt8:=[80,40,63,53,41,32,124,32,126,81,40,63,51,41,32,124,32,80,40,63,53,41]
def o6:List Lt:=[⟨false,[80],[.mk [] 5 []]⟩,⟨true,[81],[.mk [] 3 []]⟩,⟨false,[80],[.mk [] 5 []]⟩]
def lT:List Lt:=[⟨false,[80],[.mk [] 0 []]⟩,⟨true,[81],[.mk [] 1 []]⟩]
def Gk:List UInt8:=[80,40,63,48,41,32,124,32,126,81,40,63,49,41]
theorem Gm:pC rV=some o6:=by kernel_rfl
theorem x7:aW 4 9 2 3 o6=0:=by kernel_rfl
theorem N3:zu o6=lT:=by kernel_rfl
theorem Gl:aW 4 9 2 3 lT=0:=by kernel_rfl
theorem FM {n:Nat} (h:n<10):Lib.itoa n=[UInt8.ofNat (48+n)]:=by
 rw[Lib.itoa,if_neg (by omega),Int.toNat_natCast,Lib.decDigits,dif_pos h]
theorem Gn:nj false lT=Gk:=by
 have h0:Lib.itoa 0=[48]:=FM (n:=0) (by decide)
 have U:Lib.itoa 1=[49]:=FM (n:=1) (by decide)
 simp only[lT,nj,iG,jb,fv,er,kR,h0,U]
 rfl
theorem N4:tZ (.mk [102] 0 [.mk [] 0 []]) (.mk [] 0 [])=(1,0):=by kernel_rfl
theorem xx:aP Tryz.prog 12 [] (Bv true):=by
 have hS:rV.length<=40000:=by decide
 have hp:=SA rV (by decide)
 have HO:pW rV=o6:=by rw[pW,if_neg (by omega),Gm];simp only[x7];rfl
 have P8:s9 rV=0:=by rw[s9,if_neg (by omega),Gm];exact x7
 rw[HO,P8]at hp
 have b5:cC o6:=by have:=Sz (s:=rV) (by decide);rw[HO]at this;exact this
 have hn:=R6 20 Tp o6 (by decide) b5
 have PU:sZ o6=lT:=by rw[sZ,x7,if_neg (by decide),N3]
 rw[PU,x7]at hn
 have uB:cC lT:=⟨by decide,fun l hl=>by
  simp only[lT,List.mem_cons,List.not_mem_nil,or_false]at hl
  rcases hl with rfl|rfl<;>exact⟨by decide,by decide,by simp[cq,aU]⟩⟩
 have ht:=TO lT uB
 have Qo:wJ lT=Gk:=by rw[wJ,Gl,if_neg (by decide),Gn,if_neg (by decide)]
 have Qn:wI lT=0:=by rw[wI,Gl,if_neg (by decide),Gn,if_neg (by decide)]
 rw[Qo,Qn]at ht
 have yG:=Md (.mk [102] 0 [.mk [] 0 []]) (.mk [] 0 []) (by simp[aU,cq]) (by simp[aU,cq])
 rw[N4]at yG
 have mP:aP Tryz.prog 37 [.agg [Sv [102],Iv 0,.im (.sl 3 [[Si [],Ii 0,.sl 3 []]])],.agg [Sv [],Iv 0,.im (.sl 3 [])]] (.aM [Iv 1,Iv 0]):=yG
 have ho:=mP.tM (xs:=[.agg [Sv [102],Iv 0,.im (.sl 3 [[Si [],Ii 0,.v (.slice none 0 0)]])],.agg [Sv [],Iv 0,eL]]) (by repeat' (first|with_reducible exact dj.refl _|with_reducible exact fZ.refl _|exact fZ.nil _|with_reducible exact bY.refl _|with_reducible exact lC.refl _|with_reducible exact lD.refl _|refine bY.nM ?_ ?_|refine dj.agg ?_|refine dj.im ?_|refine fZ.sl ?_|refine lD.cons ?_ ?_|refine lC.cons ?_ ?_))
 have b7:aP Tryz.prog 19 [Sv [80,40,63,53,41,32,124,32,126,81,40,63,51,41,32,124,32,80,40,63,53,41]] (.aM [aK o6,Iv 0]):=hp
 have pv:aP Tryz.prog 17 [aK lT] (.aM [Sv [80,40,63,48,41,32,124,32,126,81,40,63,49,41],Iv 0]):=ht
 refine aj.walk [0,1,2,3,4,5,6,7,8] [] Tryz.func12 rfl Tryz.ntmps12 (by kernel_rfl) (by rfl) rfl fun W own I0 aq lay=>?_
 refine gO ?_
 refine AQ.fn (by kernel_rfl) rfl rfl rfl (b7) rfl ?_
 refine sI ?_
 refine gO ?_
 refine AQ.fn (by kernel_rfl) rfl rfl rfl (hn) rfl ?_
 refine sI ?_
 refine gO ?_
 refine AQ.fn (by kernel_rfl) rfl rfl rfl (pv) rfl ?_
 refine sI ?_
 refine gO ?_
 refine AQ.fn (by kernel_rfl) rfl rfl rfl (ho) rfl ?_
 refine sI ?_
 refine gO ?_
 exact AE.aG rfl ⟨rfl,trivial⟩ rfl ⟨rfl,rfl⟩
def vW (l:Lt):Prop:=l.pd.length<=9223372036854775807/\l.xs.length<=9223372036854775807/\mw l.xs
def nK (c:List Lt):Prop:=c.length<=9223372036854775807/\∀l∈c,vW l
theorem FA {c:List Lt} {k:Nat} {l:Lt} (h:nK c) (hk:c[k]?=some l):vW l:=h.2 l (List.mem_of_getElem? hk)
theorem KU (t:Tm) (m:Int) (hs:mu t) (hm:0<=m/\m<=1000000000):aP Tryz.prog 70 [bp t,Iv m] (Iv (gN t m)):=by
 have cM:=Ls.1 hs
 refine aj.walk [0,1,2,4,5,7,9,10,11,12,17] [7] Tryz.func70 rfl Tryz.ntmps70 (by kernel_rfl) (by rfl) rfl fun W own I0 aq lay=>?_
 refine gE @ah ?_
 refine AP.loop rfl (α:=Nat) (fun k=>[(1,Iv m),(5,Iv (bj (t.xs.take k) m 1)),(9,.im (.sl 3 (ax t.xs))),(10,Iv t.xs.length),(11,Iv k)]) (fun _=>[]) (fun k=>k<=t.xs.length) (fun k=>t.xs.length-k) 0 (by omega) (by rw[List.take_zero,bj];exact(sU)) rfl fun k hk=>?_
 have hx:=cM.2.1
 have hb:=wG (t.xs.take k) m 1 hm.1 (by omega) (by omega)
 rcases Nat.eq_or_lt_of_le hk with aC|ag
 ·subst aC
  rw[List.take_length]at hb⊢
  refine gO ?_
  refine cF ?_
  refine gO ?_
  exact AE.aG rfl ⟨rfl,trivial⟩ rfl ⟨rfl,by rw[D5];rfl⟩
 ·obtain⟨u,hu,aF⟩:=cz t.xs k ag
  have hw:=wr (x:=(k:Int)+1) (by omega)
  have bc:=zX hu m 1
  refine gO ?_
  refine cT ?_
  refine gE @aF ?_
  refine⟨by rw[ah];omega,?_⟩
  refine gO ?_
  refine AP.cond rfl rfl (fun U=>?_) (fun U=>?_)
  ·have U:m<bj (t.xs.take k) m 1:=by simpa using U
   refine gO ?_
   refine AE.aX [0] rfl ⟨rfl,trivial⟩ rfl ⟨rfl,by rw[D5,D6 k m 1 U];rfl⟩
  ·have U:¬m<bj (t.xs.take k) m 1:=by simpa using U
   rw[if_neg U]at bc
   generalize hn:bj (t.xs.take k) m 1=n at*
   have ha:=rl u (m-n) (by omega)
   have b8:=wr (x:=m-n) (by omega)
   have eH:=wr (x:=n+gN u (m-n)) (by omega)
   refine gE @b8 ?_
   refine AQ.fn (by kernel_rfl) rfl rfl rfl (KU u (m-n) (wM cM.2.2 hu) (by omega)) rfl ?_
   refine sI ?_
   refine gE (an @hw @eH) ?_
   refine AE.dq [0] rfl ?_
   refine sI ?_
   exact AE.round (k+1) (by omega) (by omega) (by rw[bc];exact(sU)) rfl
termination_by SizeOf.sizeOf t
decreasing_by exact iF hu
theorem R4 (c:List Lt) (m:Int) (hs:nK c) (hm:0<=m/\m<=1000000000):aP Tryz.prog 14 [aK c,Iv m] (Iv (pN c m)):=by
 have b5:=hs.1
 refine aj.walk [0,1,4,5,7,9,12,13,14,15,19,20,21,22,27] [7,9] Tryz.func14 rfl Tryz.ntmps14 (by kernel_rfl) (by rfl) rfl fun W own I0 aq lay=>?_
 refine gE @aA ?_
 refine AP.loop rfl (α:=Nat) (fun k=>[(1,Iv m),(5,Iv (bj ((c.take k).flatMap (·.xs)) m c.length)),(12,aK c),(13,Iv c.length),(14,Iv k)]) (fun _=>[]) (fun k=>k<=c.length) (fun k=>c.length-k) 0 (by omega) (by rw[List.take_zero,List.flatMap_nil,bj];exact(sU)) rfl fun k hk=>?_
 rcases Nat.eq_or_lt_of_le hk with aC|ag
 ·subst aC
  rw[List.take_length]
  refine gO ?_
  refine cF ?_
  refine gO ?_
  exact AE.aG rfl ⟨rfl,trivial⟩ rfl ⟨rfl,rfl⟩
 ·obtain⟨u,hu,aF⟩:=fT c k ag
  have hw:=wr (x:=(k:Int)+1) (by omega)
  have bH:=FA hs hu
  have mV:=bH.2.1
  have fe:=wF ((c.take k).flatMap (·.xs)) m c.length hm.1 (by omega)
  have nZ:=Gv hu
  have e6:=fun j=>N9 (j:=j) hu m c.length
  obtain⟨n0,n6⟩:∃n0,bj ((c.take k).flatMap (·.xs)) m c.length=n0:=⟨_,rfl⟩
  rw[n6]at fe e6⊢
  refine gO ?_
  refine cT ?_
  refine gE @aF ?_
  refine⟨by rw[aA];omega,?_⟩
  refine gE @ah ?_
  refine AP.loop rfl (α:=Nat) (fun j=>[(1,Iv m),(5,Iv (bj (u.xs.take j) m n0)),(12,aK c),(13,Iv c.length),(14,Iv k),(19,.im (.sl 3 (ax u.xs))),(20,Iv u.xs.length),(21,Iv j)]) (fun _=>[(0,.var 61 [Bv u.ng,Sv u.pd,.im (.sl 3 (ax u.xs))])]) (fun j=>j<=u.xs.length) (fun j=>u.xs.length-j) 0 (by omega) (by rw[List.take_zero,bj];exact(sU)) rfl fun j hj=>?_
  have hb:=wF (u.xs.take j) m n0 hm.1 (by omega)
  rcases Nat.eq_or_lt_of_le hj with dV|fQ
  ·subst dV
   rw[List.take_length]at hb⊢
   refine gO ?_
   refine cF ?_
   refine gE @hw ?_
   refine AE.dq [0] rfl ?_
   refine sI ?_
   refine AE.round (k+1) (by omega) (by omega) (by rw[nZ,rm,n6];exact(sU)) rfl
  ·obtain⟨v,hv,cg⟩:=cz u.xs j fQ
   have eH:=wr (x:=(j:Int)+1) (by omega)
   have bc:=zX hv m n0
   refine gO ?_
   refine cT ?_
   refine gE @cg ?_
   refine⟨by rw[ah];omega,?_⟩
   refine gO ?_
   refine AP.cond rfl rfl (fun U=>?_) (fun U=>?_)
   ·have U:m<bj (u.xs.take j) m n0:=by simpa using U
    refine gO ?_
    refine AE.aX [1,0] rfl ⟨rfl,trivial⟩ rfl ⟨rfl,by rw[pN,e6 j U];rfl⟩
   ·have U:¬m<bj (u.xs.take j) m n0:=by simpa using U
    rw[if_neg U]at bc
    clear e6
    generalize hn:bj (u.xs.take j) m n0=n at*
    have ha:=rl v (m-n) (by omega)
    have vw:=wr (x:=m-n) (by omega)
    have sB:=wr (x:=n+gN v (m-n)) (by omega)
    refine gE @vw ?_
    refine AQ.fn (by kernel_rfl) rfl rfl rfl (KU v (m-n) (wM bH.2.2 hv) (by omega)) rfl ?_
    refine sI ?_
    refine gE (an @eH @sB) ?_
    refine AE.dq [1] rfl ?_
    refine sI ?_
    exact AE.round (j+1) (by omega) (by omega) (by rw[bc];exact(sU)) rfl
theorem Q1 (l:List Tm) (hl:l.length<=9223372036854775807) (h:∀(k:Nat) (t:Tm),l[k]?=some t->aj Tryz.prog 67 [bp t,.ob 0 0] fE (fun r H'=>H'=fE/\r=Bv (iy t))):
  aj Tryz.prog 146 [.im (.sl 3 (ax l)),.fn 67 [] [.ob 0 0]] fE (fun r H'=>H'=fE/\r=Iv (dK iy l 0)):=by
 refine aj.walk [0,1,4,5,7,8,9,16] [] Tryz.func146 rfl Tryz.ntmps146 (by kernel_rfl) (by rfl) rfl fun W own I0 aq lay=>?_
 refine gE @ah ?_
 refine AP.loop rfl (α:=Nat) (fun k=>[(0,.im (.sl 3 (ax l))),(1,.fn 67 [] [.ob 0 0]),(7,Iv l.length),(8,Iv k)]) (fun _=>fE) (fun k=>k<=l.length/\dK iy l 0=dK iy (l.drop k) k) (fun k=>l.length-k) 0 ⟨by omega,rfl⟩ (sU) rfl fun k ⟨hk,hm⟩=>?_
 rcases Nat.eq_or_lt_of_le hk with aC|ag
 ·refine gO ?_
  refine cF ?_
  refine gO ?_
  exact AE.ret rfl ⟨rfl,trivial⟩ ⟨rfl,by rw[hm,aC,List.drop_length,dK];rfl⟩
 ·obtain⟨u,hu,aF⟩:=cz l k ag
  have hw:=wr (x:=(k:Int)+1) (by omega)
  have cK:=vK iy hu
  refine gO ?_
  refine cT ?_
  refine gE @aF ?_
  refine⟨by rw[ah];omega,?_⟩
  refine gO ?_
  refine AQ.tU (by kernel_rfl) rfl rfl rfl (h k u hu) ?_
  refine sI ?_
  refine gO ?_
  refine AP.cond rfl rfl (fun U=>?_) (fun U=>?_)
  ·refine gO ?_
   exact AE.ret rfl ⟨rfl,trivial⟩ ⟨rfl,by rw[hm,cK,if_pos (by simpa using U)];rfl⟩
  ·refine gE @hw ?_
   exact AE.round (k+1) ⟨by omega,by rw[hm,cK,if_neg (by simpa using U)]⟩ (by omega) (sU) rfl
theorem EW (l:List Tm) (hl:l.length<=9223372036854775807) (h:∀(k:Nat) (t:Tm),l[k]?=some t->aj Tryz.prog 67 [bp t,.ob 0 0] fE (fun r H'=>H'=fE/\r=Bv (iy t))):
  aj Tryz.prog 68 [.im (.sl 3 (ax l)),.fn 67 [] [.ob 0 0]] fE (fun r H'=>H'=fE/\r=Bv (l.any iy)):=by
 refine aj.walk [0,1,4] [] Tryz.func68 rfl Tryz.ntmps68 (by kernel_rfl) (by rfl) rfl fun W own I0 aq lay=>?_
 refine gO ?_
 refine AQ.tU (by kernel_rfl) rfl rfl rfl (Q1 l hl h) ?_
 refine sI ?_
 refine gO ?_
 exact AE.ret rfl ⟨rfl,trivial⟩ ⟨rfl,by rw[<-vJ iy l 0];rfl⟩
theorem Jb (t:Tm) (hs:mu t):aj Tryz.prog 67 [bp t,.ob 0 0] fE (fun r H'=>H'=fE/\r=Bv (iy t)):=by
 have cM:=Ls.1 hs
 have ha:=EW t.xs cM.2.1 fun k u hu=>Jb u (wM cM.2.2 hu)
 refine aj.walk [0,1,2,3] [] Tryz.func67 rfl Tryz.ntmps67 (by kernel_rfl) (by rfl) rfl fun W own I0 aq lay=>?_
 refine gO ?_
 refine AQ.Fk (by kernel_rfl) rfl rfl rfl (fun h=>by first|(simp[gs,AV.g];done)|(simp[gs,AV.g,bN];done)|(simp[gs,AV.g,bN,bw]at h⊢;done)|(simp[gs,AV.g,bN,bw]at h⊢;exact h)|(simp[gs,AV.g,bN,bw]at h⊢;simp[h];done)|(simp[bw]at h;done)|(simp[gs,AV.g,bw]at h⊢;simp[h];done)|(simp[gs,AV.g,bw]at h⊢;exact h.1)|(simp[gs,AV.g];rfl)|(simp[gs,AV.g,bw]at h⊢;rfl)|(simp[gs,AV.g,bw]at h⊢;simp[h];rfl)|(simp[gs,AV.g,bw]at h⊢;simp_all)) (fun _=>ha) ?_
 refine sI ?_
 refine gO ?_
 exact AE.ret rfl ⟨rfl,trivial⟩ ⟨rfl,by rw[Rm,show decide (100<t.nm.length)=decide ((100:Int)<t.nm.length) from by rw[decide_eq_decide];omega];rfl⟩
termination_by SizeOf.sizeOf t
decreasing_by exact iF hu
theorem Ry (l:Lt) (hs:vW l):aj Tryz.prog 69 [jC l,.ob 0 0] fE (fun r H'=>H'=fE/\r=Bv (jB l)):=by
 have ha:=EW l.xs hs.2.1 fun k u hu=>Jb u (wM hs.2.2 hu)
 refine aj.walk [0,1,2,3] [] Tryz.func69 rfl Tryz.ntmps69 (by kernel_rfl) (by rfl) rfl fun W own I0 aq lay=>?_
 refine gO ?_
 refine AQ.Fk (by kernel_rfl) rfl rfl rfl (fun h=>by first|(simp[gs,AV.g];done)|(simp[gs,AV.g,bN];done)|(simp[gs,AV.g,bN,bw]at h⊢;done)|(simp[gs,AV.g,bN,bw]at h⊢;exact h)|(simp[gs,AV.g,bN,bw]at h⊢;simp[h];done)|(simp[bw]at h;done)|(simp[gs,AV.g,bw]at h⊢;simp[h];done)|(simp[gs,AV.g,bw]at h⊢;exact h.1)|(simp[gs,AV.g];rfl)|(simp[gs,AV.g,bw]at h⊢;rfl)|(simp[gs,AV.g,bw]at h⊢;simp[h];rfl)|(simp[gs,AV.g,bw]at h⊢;simp_all)) (fun _=>ha) ?_
 refine sI ?_
 refine gO ?_
 exact AE.ret rfl ⟨rfl,trivial⟩ ⟨rfl,by rw[jB,show decide (100<l.pd.length)=decide ((100:Int)<l.pd.length) from by rw[decide_eq_decide];omega];rfl⟩
theorem QZ (l:List Lt) (hl:l.length<=9223372036854775807) (h:∀(k:Nat) (t:Lt),l[k]?=some t->aj Tryz.prog 69 [jC t,.ob 0 0] fE (fun r H'=>H'=fE/\r=Bv (jB t))):
  aj Tryz.prog 118 [.im (.sl 3 (bP l)),.fn 69 [] [.ob 0 0]] fE (fun r H'=>H'=fE/\r=Iv (dK jB l 0)):=by
 refine aj.walk [0,1,4,5,7,8,9,16] [] Tryz.func118 rfl Tryz.ntmps118 (by kernel_rfl) (by rfl) rfl fun W own I0 aq lay=>?_
 refine gE @aA ?_
 refine AP.loop rfl (α:=Nat) (fun k=>[(0,.im (.sl 3 (bP l))),(1,.fn 69 [] [.ob 0 0]),(7,Iv l.length),(8,Iv k)]) (fun _=>fE) (fun k=>k<=l.length/\dK jB l 0=dK jB (l.drop k) k) (fun k=>l.length-k) 0 ⟨by omega,rfl⟩ (sU) rfl fun k ⟨hk,hm⟩=>?_
 rcases Nat.eq_or_lt_of_le hk with aC|ag
 ·refine gO ?_
  refine cF ?_
  refine gO ?_
  exact AE.ret rfl ⟨rfl,trivial⟩ ⟨rfl,by rw[hm,aC,List.drop_length,dK];rfl⟩
 ·obtain⟨u,hu,aF⟩:=fT l k ag
  have hw:=wr (x:=(k:Int)+1) (by omega)
  have cK:=vK jB hu
  refine gO ?_
  refine cT ?_
  refine gE @aF ?_
  refine⟨by rw[aA];omega,?_⟩
  refine gO ?_
  refine AQ.tU (by kernel_rfl) rfl rfl rfl (h k u hu) ?_
  refine sI ?_
  refine gO ?_
  refine AP.cond rfl rfl (fun U=>?_) (fun U=>?_)
  ·refine gO ?_
   exact AE.ret rfl ⟨rfl,trivial⟩ ⟨rfl,by rw[hm,cK,if_pos (by simpa using U)];rfl⟩
  ·refine gE @hw ?_
   exact AE.round (k+1) ⟨by omega,by rw[hm,cK,if_neg (by simpa using U)]⟩ (by omega) (sU) rfl
theorem ME (l:List Lt) (hl:l.length<=9223372036854775807) (h:∀(k:Nat) (t:Lt),l[k]?=some t->aj Tryz.prog 69 [jC t,.ob 0 0] fE (fun r H'=>H'=fE/\r=Bv (jB t))):
  aj Tryz.prog 46 [.im (.sl 3 (bP l)),.fn 69 [] [.ob 0 0]] fE (fun r H'=>H'=fE/\r=Bv (l.any jB)):=by
 refine aj.walk [0,1,4] [] Tryz.func46 rfl Tryz.ntmps46 (by kernel_rfl) (by rfl) rfl fun W own I0 aq lay=>?_
 refine gO ?_
 refine AQ.tU (by kernel_rfl) rfl rfl rfl (QZ l hl h) ?_
 refine sI ?_
 refine gO ?_
 exact AE.ret rfl ⟨rfl,trivial⟩ ⟨rfl,by rw[<-vJ jB l 0];rfl⟩
theorem RZ (c:List Lt) (hs:nK c):aP Tryz.prog 11 [aK c] (Bv (!c.any jB)):=by
 have ha:=ME c hs.1 fun k u hu=>Ry u (FA hs hu)
 refine aj.walk [0,2,3] [3] Tryz.func11 rfl Tryz.ntmps11 (by kernel_rfl) (by rfl) rfl fun W own I0 aq lay=>?_
 refine gO ?_
 refine AQ.tU (by kernel_rfl) rfl rfl rfl (ha) ?_
 refine sI ?_
 refine gO ?_
 exact AE.aX [0] rfl ⟨rfl,trivial⟩ rfl ⟨rfl,rfl⟩
theorem KW (c:List Lt) (m:Int) (hs:nK c) (hm:0<=m/\m<=1000000000):aP Tryz.prog 29 [aK c,Iv m] (Bv (decide (pN c m<=m)&&!c.any jB)):=by
 refine aj.walk [0,1,4] [] Tryz.func29 rfl Tryz.ntmps29 (by kernel_rfl) (by rfl) rfl fun W own I0 aq lay=>?_
 refine gO ?_
 refine AQ.fn (by kernel_rfl) rfl rfl rfl (R4 c m hs hm) rfl ?_
 refine sI ?_
 refine gO ?_
 refine AQ.mG (by kernel_rfl) rfl rfl (fun h=>by first|(simp[gs,AV.g];done)|(simp[gs,AV.g,bN];done)|(simp[gs,AV.g,bN,bw]at h⊢;done)|(simp[gs,AV.g,bN,bw]at h⊢;exact h)|(simp[gs,AV.g,bN,bw]at h⊢;simp[h];done)|(simp[bw]at h;done)|(simp[gs,AV.g,bw]at h⊢;simp[h];done)|(simp[gs,AV.g,bw]at h⊢;exact h.1)|(simp[gs,AV.g];rfl)|(simp[gs,AV.g,bw]at h⊢;rfl)|(simp[gs,AV.g,bw]at h⊢;simp[h];rfl)|(simp[gs,AV.g,bw]at h⊢;simp_all)) rfl (fun _=>RZ c hs) rfl ?_
 refine sI ?_
 refine gO ?_
 exact AE.aG rfl ⟨rfl,trivial⟩ rfl ⟨rfl,rfl⟩
def zW (c:List Lt) (m:Int):Bool:=decide (pN c m<=m)&&!c.any jB
mutual
theorem Rl:∀t:Tm,iy t=false->wT t<=1000000->aU t
 | .mk n i xs,h,hw=>by
  rw[iy,Bool.or_eq_false_iff,decide_eq_false_iff_not]at h
  rw[wT]at hw
  have:=Er xs
  rw[aU]
  exact⟨by omega,by omega,C2 xs h.2 (by omega)⟩
theorem C2:∀l:List Tm,sP l=false->aw l<=1000000->cq l
 |[],_,_=>by rw[cq];trivial
 |t::l,h,hw=>by
  rw[sP,Bool.or_eq_false_iff]at h
  rw[aw]at hw
  rw[cq]
  exact⟨Rl t h.1 (by omega),C2 l h.2 (by omega)⟩
end
theorem KV {c:List Lt} {m:Int} (hm:0<=m/\m<=1000000) (h:zW c m=true):cC c/\(bC c:Int)<=m:=by
 rw[zW,Bool.and_eq_true,decide_eq_true_iff,Bool.not_eq_true']at h
 obtain⟨_,h2⟩:=Jw c m hm.1
 have hn:(bC c:Int)<=m:=Int.not_lt.1 fun hc=>by have:=h2 hc;omega
 have hf:=zp c
 refine⟨⟨by omega,fun l hl=>?_⟩,hn⟩
 have h3:jB l=false:=by
  have:=h.2
  rw[List.any_eq_false]at this
  simpa using this l hl
 rw[jB,Bool.or_eq_false_iff,decide_eq_false_iff_not]at h3
 have h4:=zq c l hl
 rw[jE]at h4
 have h5:=Er l.xs
 exact⟨by omega,by omega,C2 l.xs (by rw[C3];exact h3.2) (by omega)⟩
mutual
theorem T9 {l:Bd} (hl:∀b∈l,aU b.2):∀t:Tm,aU t->aU (ru l t)
 | .mk n i xs,h=>by
  rw[ru]
  split
  ·rw[q4]
   cases hq:bh l i with
   |none=>exact h
   |some x=>exact hl _ (vO hq)
  ·rw[aU]at h⊢
   exact⟨h.1,by rw[wN,List.length_map];exact h.2.1,Ec hl xs h.2.2⟩
theorem Ec {l:Bd} (hl:∀b∈l,aU b.2):∀k:List Tm,cq k->cq (nn l k)
 |[],_=>by rw[nn,cq];trivial
 |t::k,h=>by
  rw[cq]at h
  rw[nn,cq]
  exact⟨T9 hl t h.1,Ec hl k h.2⟩
end
theorem MI {c:List Lt} {l:Bd} (hc:cC c) (hl:je l):cC (nG c l):=by
 refine⟨by rw[nG,List.length_map];exact hc.1,fun x hx=>?_⟩
 rw[nG]at hx
 obtain⟨y,hy,rfl⟩:=List.mem_map.1 hx
 have h:=hc.2 y hy
 exact⟨h.1,by rw[Eb];simp only;rw[wN,List.length_map];exact h.2.1,Ec hl.2 _ h.2.2⟩
theorem AH:cC ([]:List Lt):=⟨by simp,fun l hl=>by cases hl⟩
theorem MY {c:List Lt} {l:Bd} (hc:cC c) (hl:je l):cC (oW c l):=by
 rw[oW]
 split
 ·exact AH
 ·split
  ·exact AH
  ·rw[tL]
   split
   ·exact MI hc hl
   ·exact AH
end Go.Proofs.YtpfohmboflcneaaGreatDoor
end
section
namespace Go.Proofs.YtpfohmboflcneaaGreatDoor
open Go Go.AL Go.RowKit
set_option maxRecDepth 100000
theorem D_ {P:Program} {n:Nat} {t e:TypeId} {xs:List IV} (ht:P.underlying t=some (.slice e)) (h:Typed P n t xs):∃rows m,n=m+1/\xs=[.sl (P.cellsOf e) rows]/\rows.length<=maxLen/\∀r∈rows,Typed P m e r:=by
 cases n with
 |zero=>exact h.elim
 |succ n=>
  simp only[Typed,ht]at h
  obtain⟨rows,U,h2,h3⟩:=h
  exact⟨rows,n,rfl,U,h2,h3⟩
theorem LD {P:Program} {n:Nat} {t:TypeId} {fs:Array Field} {xs:List IV} (ht:P.underlying t=some (.struct fs)) (h:Typed P n t xs):
  ∃m,n=m+1/\xs.length=P.cellsOf t/\∀(i:Nat) (f:Field),fs.toList[i]?=some f->Typed P m f.type ((xs.drop f.offset).take (P.cellsOf f.type)):=by
 cases n with
 |zero=>exact h.elim
 |succ n=>
  simp only[Typed,ht]at h
  exact⟨n,rfl,h⟩
theorem Le {n:Nat} {xs:List IV} (h:Typed Tryz.prog n 9 xs):∃l:List UInt8,xs=[Si l]/\l.length<=9223372036854775807:=by
 obtain⟨s,rfl,hs⟩:=T8 Tryz.underlying9 h
 refine⟨s.data.toList,congrArg (fun x=>[IV.v (Value.string x)]) (Mc s),?_⟩
 have e:s.size=s.data.size:=rfl
 have e2:s.data.toList.length=s.data.size:=Array.length_toList
 unfold maxLen at hs
 omega
theorem D8:∀{l:List Tm},(∀t∈l,mu t)->mw l
 |[],_=>by rw[mw];trivial
 |t::l,h=>by rw[mw];exact⟨h t (List.mem_cons_self ..),D8 fun u hu=>h u (List.mem_cons_of_mem _ hu)⟩
theorem TT:∀(n:Nat) {xs:List IV},Typed Tryz.prog n 57 xs->∃t:Tm,xs=rp t/\mu t:=by
 intro n
 induction n using Nat.strongRecOn with
 |_ n ih=>
 intro xs h
 have hc:Tryz.prog.cellsOf 57=3:=by kernel_rfl
 have BG:Tryz.prog.cellsOf 9=1:=by kernel_rfl
 have Pe:Tryz.prog.cellsOf 3=1:=by kernel_rfl
 have BF:Tryz.prog.cellsOf 55=1:=by kernel_rfl
 obtain⟨m,rfl,hlen,hf⟩:=LD Tryz.underlying57 h
 rw[hc]at hlen
 match xs,hlen with
 |[a,b,c],_=>
  have f0:=hf 0 _ rfl
  have f1:=hf 1 _ rfl
  have f2:=hf 2 _ rfl
  simp only[BG,Pe,BF,List.drop_zero,List.take_succ_cons,List.take_zero,List.drop_succ_cons]at f0 f1 f2
  obtain⟨nm,e0,l0⟩:=Le f0
  obtain⟨ix,e1,_⟩:=T7 Tryz.underlying3 f1
  obtain⟨rows,m',rfl,e2,hl,aF⟩:=D_ Tryz.underlying55 f2
  obtain⟨l,rfl,hp⟩:=zN (p:=mu) (f:=rp) rows fun r hr=>ih m' (by omega) (aF r hr)
  cases e0;cases e1;cases e2
  rw[List.length_map]at hl
  unfold maxLen at hl
  exact⟨.mk nm ix l,by rw[rp,rq,hc],by rw[mu];exact⟨l0,by omega,D8 hp⟩⟩
theorem TU (n:Nat) {xs:List IV} (h:Typed Tryz.prog n 55 xs):∃l:List Tm,xs=[.sl 3 (ax l)]/\l.length<=9223372036854775807/\mw l:=by
 have hc:Tryz.prog.cellsOf 57=3:=by kernel_rfl
 obtain⟨rows,m',rfl,rfl,hl,aF⟩:=D_ Tryz.underlying55 h
 obtain⟨l,rfl,hp⟩:=zN (p:=mu) (f:=rp) rows fun r hr=>TT m' (aF r hr)
 rw[List.length_map]at hl
 unfold maxLen at hl
 exact⟨l,by rw[rq,hc],by omega,D8 hp⟩
theorem RE (n:Nat) {xs:List IV} (h:Typed Tryz.prog n 61 xs):∃l:Lt,xs=j8 l/\vW l:=by
 have hc:Tryz.prog.cellsOf 61=3:=by kernel_rfl
 have BG:Tryz.prog.cellsOf 9=1:=by kernel_rfl
 have Pf:Tryz.prog.cellsOf 4=1:=by kernel_rfl
 have BF:Tryz.prog.cellsOf 55=1:=by kernel_rfl
 obtain⟨m,rfl,hlen,hf⟩:=LD Tryz.underlying61 h
 rw[hc]at hlen
 match xs,hlen with
 |[a,b,c],_=>
  have f0:=hf 0 _ rfl
  have f1:=hf 1 _ rfl
  have f2:=hf 2 _ rfl
  simp only[BG,Pf,BF,List.drop_zero,List.take_succ_cons,List.take_zero,List.drop_succ_cons]at f0 f1 f2
  obtain⟨ng,e0⟩:=T6 Tryz.underlying4 f0
  obtain⟨pd,e1,l1⟩:=Le f1
  obtain⟨l,e2,l2,l3⟩:=TU m f2
  cases e0;cases e1;cases e2
  exact⟨⟨ng,pd,l⟩,rfl,l1,l2,l3⟩
theorem FB (n:Nat) {xs:List IV} (h:Typed Tryz.prog n 23 xs):∃c:List Lt,xs=[.sl 3 (bP c)]/\nK c:=by
 have hc:Tryz.prog.cellsOf 61=3:=by kernel_rfl
 obtain⟨rows,m',rfl,rfl,hl,aF⟩:=D_ Tryz.underlying23 h
 obtain⟨l,rfl,hp⟩:=zN (p:=vW) (f:=j8) rows fun r hr=>RE m' (aF r hr)
 rw[List.length_map]at hl
 unfold maxLen at hl
 exact⟨l,by rw[bP,hc],by omega,hp⟩
theorem Oy:Tryz.prog.globalNamed "strconv.ErrSyntax" =some 1:=by kernel_rfl
theorem Ow:Tryz.prog.globalNamed "strconv.ErrRange" =some 2:=by kernel_rfl
theorem Ou:Tryz.prog.globalNamed "internal/strconv.uint64pow10" =some 3:=by kernel_rfl
theorem Oz:(Tryz.prog.globals[1]?).map (·.type)=some 236:=by kernel_rfl
theorem Ox:(Tryz.prog.globals[2]?).map (·.type)=some 236:=by kernel_rfl
theorem Ov:(Tryz.prog.globals[3]?).map (·.type)=some 350:=by kernel_rfl
theorem Kr (u:TypeId) (h:Tryz.prog.typeName? 3 u=some "*errors.errorString"):u=346:=
 typeName_ptr_named (nm:= "errors.errorString") (by rw[show "*" ++ "errors.errorString" = "*errors.errorString" by decide];kernel_rfl) (by kernel_rfl) (by decide) u (by rw[show "*" ++ "errors.errorString" = "*errors.errorString" by decide];exact h)
theorem Ej {P:Program} {W:World} {n:String} {g:Nat} {cs:Array Value} (hg:P.globalNamed n=some g) (h:W.var? P n=some cs):g<W.heap.size/\∃T fz,W.heap[g]?=some (.cells cs T fz):=by
 unfold World.var? at h
 rw[hg,Option.bind_some]at h
 split at h
 ·rename_i cs' T fz hh
  cases h
  refine⟨?_,T,fz,hh⟩
  rcases Nat.lt_or_ge g W.heap.size with h'|h'
  ·exact h'
  ·rw[Array.getElem?_eq_none h']at hh;cases hh
 ·cases h
theorem Uj {W:World} (dB:W.ShapedOpen Tryz.prog) (h:laidMet Tryz.prog [("math/bits.deBruijn32tab",Rows.laid_math_bits_deBruijn32tab),("math/bits.deBruijn64tab",Rows.laid_math_bits_deBruijn64tab),("internal/strconv.uint64pow10",Rows.laid_internal_strconv_uint64pow10),("strconv.ErrRange",Rows.laid_strconv_ErrRange),("strconv.ErrSyntax",Rows.laid_strconv_ErrSyntax)] W):
  VK Tryz.prog W (fun g=>g<W.heap.size):=by
 have h3:=h.tail.tail
 have h4:=h3.tail
 have h5:=h4.tail
 intro x hx g hg
 simp only[q0,List.mem_cons,List.not_mem_nil,or_false]at hx
 rcases hx with rfl|rfl|rfl|rfl
 ·obtain⟨a,s,hv,_⟩:=laid_sentinel h5 Oy Oz Tryz.underlying236 Kr Tryz.underlying346 Tryz.underlying348 rfl rfl Tryz.underlying9 (by kernel_rfl) (by kernel_rfl)
  obtain⟨U,T,fz,h2⟩:=Ej hg hv
  exact⟨U,_,h2,_,_,T,fz,rfl⟩
 ·obtain⟨a,s,hv,_⟩:=laid_sentinel h4 Ow Ox Tryz.underlying236 Kr Tryz.underlying346 Tryz.underlying348 rfl rfl Tryz.underlying9 (by kernel_rfl) (by kernel_rfl)
  obtain⟨U,T,fz,h2⟩:=Ej hg hv
  exact⟨U,_,h2,_,_,T,fz,rfl⟩
 ·have ht:Lib.TabIs Tryz.prog W "internal/strconv.uint64pow10" .u64 Lib.pow10Tab:=Lib.tabIs_of_head (rest:=_) Ou Ov Tryz.underlying350 Tryz.underlying314 (by kernel_rfl) (by kernel_rfl) h3
  obtain⟨U,T,fz,h2⟩:=Ej hg ht
  exact⟨U,_,h2,T,fz,rfl⟩
 ·have e:g=0:=by rw[show Tryz.prog.globalNamed "internal/bytealg.MaxLen" =some 0 by kernel_rfl]at hg;exact(Option.some.inj hg).symm
  subst e
  obtain⟨m,hm⟩:=cell_of_shapedOpen_int (k:= .i64) (g:=0) (t:=3) (zero:=#[.int .i64 0]) dB (of_decide_eq_true (by kernel_rfl)) (by kernel_rfl) rfl (by kernel_rfl) (by kernel_rfl) Tryz.underlying3
  cases hh:W.heap[0]? with
  |none=>simp[World.cell?,hh]at hm
  |some o=>cases o with
   |cells cs T fz=>exact⟨(Array.getElem?_eq_some_iff.1 hh).1,_,rfl,m,cs,T,fz,rfl,by simpa[World.cell?,hh]using hm⟩
   |_=>simp[World.cell?,hh]at hm
def TG:ByteArray:={data:=#[105,110,118,97,108,105,100,32,115,121,110,116,97,120]}
def SU:ByteArray:={data:=#[118,97,108,117,101,32,111,117,116,32,111,102,32,114,97,110,103,101]}
noncomputable def low:Nat:=(World.holding Tryz.prog default ⟨#[],#[],[]⟩).heap.size
def C4 (d:DataW Unit):Array Value:=match d with
 | .agg l=>(l.map fun x=>match x with
  | .lit (.int k z)=>Value.int k z
  |_=> .nilIface).toArray
 |_=>#[]
def putCells (cs:Array Value):Obj->Obj
 | .cells _ t frozen=> .cells cs t frozen
 |o=>o
noncomputable def C1 (os:Os):World:=
 let w0:=World.holding Tryz.prog os ⟨#[.cells #[.string TG] 348,.cells #[.string SU] 348],#[],[]⟩
 {w0 with heap:=((((w0.heap.modify 1 (putCells #[.iface 346 (.pointer (some ⟨low,0,none⟩))])).modify 2 (putCells #[.iface 346 (.pointer (some ⟨low+1,0,none⟩))])).modify 3 (putCells (C4 Rows.laid_internal_strconv_uint64pow10))).modify 4 (putCells (C4 Rows.laid_math_bits_deBruijn32tab))).modify 5 (putCells (C4 Rows.laid_math_bits_deBruijn64tab))}
end Go.Proofs.YtpfohmboflcneaaGreatDoor
end
section
namespace Go.Proofs.YtpfohmboflcneaaGreatDoor
open Go Go.AL Go.RowKit
set_option maxRecDepth 10000
set_option maxHeartbeats 4000000

def dQ (l:List Int):List (List IV):=l.map fun v=>[Ii v]
theorem jy (l:List Int):(dQ l).length=l.length:=by simp[dQ]
theorem It (l m:List Int):dQ l++dQ m=dQ (l++m):=by simp[dQ]
theorem Iu (s:Int):[[Ii s]]=dQ [s]:=rfl
theorem Ny {t:Tm} (U:dE t=true) (h2:wT t<=3999) (h3:cG t<=100):aW 4 9 2 3 (dw t)=0:=by
 rw[xN (by decide) (by decide) (by decide) (by decide)]
 refine⟨by simp[dw],?_,?_,?_⟩
 ·simp only[dw,bC,jE,List.map_cons,List.map_nil,List.sum_cons,List.sum_nil,aw];omega
 ·simp only[dw,cW,dm];omega
 ·rw[List.all_eq_true]
  intro l hl
  rw[dw,List.mem_singleton]at hl
  subst hl
  rw[ej,if_neg (show¬([80]:List UInt8)=[61] from by decide),cf,cf,U,show dW (Lt.mk false [80] [t]).pd=true from(show dW [80]=true from by decide)]
  rfl

def gM (m m':Bd):List Int:=(m'.drop m.length).map (·.1)
theorem zy (m:Bd):gM m m=[]:=by rw[gM,List.drop_length];rfl
theorem s5 (m r:Bd):gM m (m++r)=r.map (·.1):=by rw[gM,List.drop_left]
theorem JO {a b c:Bd} (h:eW a b) (k:eW b c):gM a c=gM a b++gM b c:=by
 obtain⟨⟨r,rfl⟩,_⟩:=h
 obtain⟨⟨q,rfl⟩,_⟩:=k
 rw[s5,s5,List.append_assoc,s5,List.map_append]
theorem RW (p t:Tm) (m:Bd):bT p t m=if p.nm=[]then(match dh m p.ix with
   |some x=>(m,cX x t)
   |none=>(m++[(p.ix,t)],true))
  else if p.nm≠t.nm\/p.xs.length≠t.xs.length then(m,false)else b9 p.xs t.xs m:=by cases p;rw[bT];rfl
mutual
theorem v_:∀(p t:Tm) (m:Bd),(bT p t m).1.length<=m.length+wT p
 | .mk n i xs,t,m=>by
  rw[bT,wT]
  by_cases hn:n=[]
  ·rw[if_pos hn]
   cases dh m i with
   |some x=>simp only;omega
   |none=>simp
  ·rw[if_neg hn]
   split
   ·simp only;omega
   ·have:=Dr xs t.xs m;omega
theorem Dr:∀(l k:List Tm) (m:Bd),(b9 l k m).1.length<=m.length+aw l
 |[],_,m=>by rw[b9]<;>simp
 |_::_,[],m=>by rw[b9]<;>simp
 |a::l,b::k,m=>by
  have U:=v_ a b m
  rw[b9,aw]
  split
  ·have:=Dr l k (bT a b m).1;omega
  ·omega
end
theorem wb (k:List Tm) (m:Bd):b9 [] k m=(m,true):=by rw[b9]<;>simp
theorem Dq (l k:List Tm) (j:Nat) (a b:Tm) (ha:l[j]?=some a) (hb:k[j]?=some b) (m:Bd):b9 (l.drop j) (k.drop j) m=if(bT a b m).2 then b9 (l.drop (j+1)) (k.drop (j+1)) (bT a b m).1 else bT a b m:=by
 obtain⟨U,e1⟩:=List.getElem?_eq_some_iff.1 ha
 obtain⟨h2,e2⟩:=List.getElem?_eq_some_iff.1 hb
 rw[List.drop_eq_getElem_cons U,List.drop_eq_getElem_cons h2,e1,e2,b9]
mutual
theorem v8:∀(p t:Tm) (m:Bd),aU t->(∀b∈m,aU b.2)->∀b∈(bT p t m).1,aU b.2
 | .mk n i xs,t,m,ht,hm=>by
  rw[bT]
  by_cases hn:n=[]
  ·rw[if_pos hn]
   cases dh m i with
   |some x=>exact hm
   |none=>
    intro b hb
    rcases List.mem_append.1 hb with hb|hb
    ·exact hm b hb
    ·rw[List.mem_singleton]at hb;subst hb;exact ht
  ·rw[if_neg hn]
   split
   ·exact hm
   ·exact Dm xs t.xs m (eU.1 ht).2.2 hm
theorem Dm:∀(l k:List Tm) (m:Bd),cq k->(∀b∈m,aU b.2)->∀b∈(b9 l k m).1,aU b.2
 |[],_,m,_,hm=>by rw[b9]<;>first|exact hm|simp
 |_::_,[],m,_,hm=>by rw[b9]<;>first|exact hm|simp
 |a::l,b::k,m,hk,hm=>by
  rw[cq]at hk
  have U:=v8 a b m hk.1 hm
  rw[b9]
  split
  ·exact Dm l k (bT a b m).1 hk.2 U
  ·exact U
end
def pM (i:Nat) (m:Bd) (lg:List Int):aa:=[(i,.vec 3 1 (dQ lg)),(1,.var 46 [.os i 1 0 lg.length]),(0,.var (.map (kI m)) (vT m))]
theorem Jl (p t:Tm) (m:Bd) (lg:List Int) (hp:aU p) (ht:aU t) (bg:cN m) (aO:lg.length+wT p<=1000000) (lj:∀b∈m,aU b.2):
  aj Tryz.prog 126 [bp p,bp t,.mp 0,.ob 1 0] (pM 2 m lg) (fun r H'=>r=Bv (bT p t m).2/\H'=pM 3 (bT p t m).1 (lg++gM m (bT p t m).1)):=by
 have sq:=eU.1 hp
 have hq:=RW p t m
 have QD:=tv p
 refine aj.walk [0,1,2,3,4,5,8,9,10,11,14,22,52,55,56,57,72] [9] Tryz.func126 rfl Tryz.ntmps126 (by kernel_rfl) (by rfl) rfl fun W own I0 aq lay=>?_
 simp only[go_sem,Nat.reduceAdd,Nat.reduceLeDiff,Nat.reduceSub,Int.reduceToNat,reduceCtorEq,pM]
 refine AP.rename 2 6 rfl rfl rfl ?_;refine sI ?_
 refine gO ?_
 refine AP.cond rfl rfl (fun hn=>?_) (fun hn=>?_)
 ·have hn:p.nm=[]:=by simpa[tw]using hn
  rw[if_pos hn,q4]at hq
  refine gO ?_
  cases hi:de m p.ix with
  |some j=>
   obtain⟨x,U,h2⟩:=l_ hi
   rw[h2]at hq
   refine AQ.pI j (by kernel_rfl) rfl rfl rfl kS u3 (ft _) rfl (List.mem_of_getElem? (ma U)) (fun i hi=>mb bg U hi) (wP U) ?_
   refine sI ?_
   refine gO ?_
   have QJ:=lj _ (List.mem_of_getElem? U)
   refine AQ.fn (by kernel_rfl) rfl rfl rfl (uh x t QJ) rfl ?_
   refine sI ?_
   refine gO ?_
   refine AE.rename 6 3 rfl rfl rfl ?_;refine sI ?_
   exact AE.aX [7] rfl ⟨rfl,trivial⟩ (by simp only[go_sem,Nat.reduceAdd,Nat.reduceLeDiff,Nat.reduceSub,Int.reduceToNat,reduceCtorEq,ba,noMen,AV.mens,AV.men,cp,Bool.or_false];first|done|rfl) ⟨by rw[hq];rfl,by rw[hq,zy,List.append_nil];rfl⟩
  |none=>
   rw[(kK hi).1]at hq
   refine AQ.zk (.agg [Sv [],Iv 0,eL]) (by kernel_rfl) rfl rfl rfl kS u3 (ft _) rfl (lx hi) Ex Ey ?_
   refine sI ?_
   refine gO ?_
   refine AQ.v7 (by kernel_rfl) rfl rfl rfl rfl kS u3 (ft _) rfl (lx hi) ?_
   refine sI ?_
   refine gO ?_
   have e1:kI m++[.int .i64 p.ix]=kI (m++[(p.ix,t)]):=by simp only[kI,List.map_append];rfl
   have e2:vT m++[bp t]=vT (m++[(p.ix,t)]):=by simp only[vT,List.map_append];rfl
   rw[e1,e2]
   refine AP.cu 10 (Tree.node [] [0,1,2,3,4,5] [6] [Tree.node [0,1,2,3] [] [7] [Tree.node [0] [8] [9] [Tree.node [] [] [] []]]]) (by kernel_rfl) rfl (by kernel_rfl) (by kernel_rfl) ?_
   refine cr ?_
   refine sI ?_
   refine AQ.go (by kernel_rfl) ?_
   refine sI ?_
   refine AQ.nx rfl ?_
   refine sI ?_
   refine AQ.kill 6 ?_
   refine sI ?_
   refine AQ.append (hnb:=rfl) (rows:=dQ lg) (es:=0) (by kernel_rfl) rfl rfl rfl (by first|(simp only[go_sem,noMen,AV.mens,AV.men,Bool.or_false];done)|(simp only[go_sem,noMen,AV.mens,AV.men,Bool.or_false];rfl)) Tryz.Lp Tryz.Lm (by show Option.map _ (az Tryz.prog 3)=_;rw[Tryz.L7];rfl) Tryz.Fc (by first|rfl|(simp only[jy,List.length_cons,List.length_nil];done)|(simp only[jy,List.length_cons,List.length_nil];omega)) (by simp only[jy,List.length_cons,List.length_nil];omega) (by simp only[jy,List.length_cons,List.length_nil];omega) ?_
   refine sE (an @jy (an @It @Iu)) ?_
   refine AQ.nx rfl ?_
   refine sI ?_
   refine AQ.go (by kernel_rfl) ?_
   refine sI ?_
   refine AQ.nx rfl ?_
   refine sI ?_
   refine AQ.done ?_
   refine gO ?_
   refine AE.rename 6 3 rfl rfl rfl ?_;refine sI ?_
   exact AE.aX [7] rfl ⟨rfl,trivial⟩ (by simp only[go_sem,Nat.reduceAdd,Nat.reduceLeDiff,Nat.reduceSub,Int.reduceToNat,reduceCtorEq,ba,noMen,AV.mens,AV.men,cp,Bool.or_false];first|done|rfl) ⟨by rw[hq];rfl,by rw[hq,s5,List.length_append];rfl⟩
 ·have hn:¬p.nm=[]:=by simpa[tw]using hn
  rw[if_neg hn]at hq
  refine gE @ah ?_
  refine AP.cond rfl rfl (fun h2=>?_) (fun h2=>?_)
  ·have h2:p.nm≠t.nm\/p.xs.length≠t.xs.length:=by
    by_cases hA:p.nm=t.nm
    ·refine .inr fun hc=>?_
     simp[hA,hc]at h2
    ·exact .inl hA
   rw[if_pos h2]at hq
   refine gO ?_
   refine AE.rename 6 3 rfl rfl rfl ?_;refine sI ?_
   exact AE.aX [] rfl ⟨rfl,trivial⟩ (by simp only[go_sem,Nat.reduceAdd,Nat.reduceLeDiff,Nat.reduceSub,Int.reduceToNat,reduceCtorEq,ba,noMen,AV.mens,AV.men,cp,Bool.or_false];first|done|rfl) ⟨by rw[hq];rfl,by rw[hq,zy,List.append_nil];rfl⟩
  ·have h2:¬(p.nm≠t.nm\/p.xs.length≠t.xs.length):=fun hc=>by
    by_cases hA:p.nm=t.nm
    ·rcases hc with hc|hc
     ·exact hc hA
     ·simp[hA]at h2;omega
    ·simp[hA]at h2
   rw[if_neg h2]at hq
   have kn:p.xs.length=t.xs.length:=Classical.byContradiction fun hc=>h2 (.inr hc)
   refine gE @ah ?_
   refine AP.loop rfl (α:=Nat×Bd) (fun q=>[(2,.mp 0),(3,.ob 1 0),(4,.im (kQ p)),(5,.im (kQ t)),(55,Iv p.xs.length),(56,Iv q.1)]) (fun q=>pM 6 q.2 (lg++gM m q.2)) (fun q=>q.1<=p.xs.length/\eW m q.2/\q.2.length<=m.length+aw (p.xs.take q.1)/\(∀b∈q.2,aU b.2)/\bT p t m=b9 (p.xs.drop q.1) (t.xs.drop q.1) q.2) (fun q=>p.xs.length-q.1) (0,m) ⟨by omega,eW.rfl' m,by simp,lj,hq⟩ (sU) (by rw[zy,List.append_nil];rfl) fun⟨k,mk⟩ ⟨hk,hG,hlen,pn,hm⟩=>?_
   have hk:k<=p.xs.length:=hk
   have hm:bT p t m=b9 (p.xs.drop k) (t.xs.drop k) mk:=hm
   have hG:eW m mk:=hG
   have hlen:mk.length<=m.length+aw (p.xs.take k):=hlen
   have pn:∀b∈mk,aU b.2:=pn
   rcases Nat.eq_or_lt_of_le hk with aC|ag
   ·rw[aC,List.drop_length,wb]at hm
    simp only[go_sem,Nat.reduceAdd,Nat.reduceLeDiff,Nat.reduceSub,Int.reduceToNat,reduceCtorEq,pM]
    refine gO ?_
    refine cF ?_
    refine gO ?_
    refine AE.rename 6 3 rfl rfl rfl ?_;refine sI ?_
    exact AE.aX [] rfl ⟨rfl,trivial⟩ (by simp only[go_sem,Nat.reduceAdd,Nat.reduceLeDiff,Nat.reduceSub,Int.reduceToNat,reduceCtorEq,ba,noMen,AV.mens,AV.men,cp,Bool.or_false];first|done|rfl) ⟨by rw[hm];rfl,by rw[hm];rfl⟩
   ·obtain⟨u,hu,aF⟩:=cz p.xs k ag
    obtain⟨v,hv,cg⟩:=cz t.xs k (by omega)
    have hw:=wr (x:=(k:Int)+1) (by omega)
    rw[Dq p.xs t.xs k u v hu hv]at hm
    have pq:aw (p.xs.take k)+wT u<=aw p.xs:=by
     have:=rA p.xs (k+1)
     rw[c7 hu,rz,aw,aw]at this
     omega
    have P1:(gM m mk).length<=aw (p.xs.take k):=by rw[gM,List.length_map,List.length_drop];omega
    have ih:=Jl u v mk (lg++gM m mk) (cA sq.2.2 hu) (cA (eU.1 ht).2.2 hv) (hG.2 bg) (by rw[List.length_append];omega) pn
    have uu:=zo u v mk
    simp only[go_sem,Nat.reduceAdd,Nat.reduceLeDiff,Nat.reduceSub,Int.reduceToNat,reduceCtorEq,pM]
    refine gE @ah ?_
    refine cT ?_
    refine gE (an @ah (an @aF @cg)) ?_
    refine AP.cu 14 (Tree.node [] [0,1,2,3,4,5,6,7,8,9,10,11] [12] [Tree.node [] [13] [] []]) (by kernel_rfl) rfl (by kernel_rfl) (by kernel_rfl) ?_
    refine cr ?_
    refine sE (an @ah (an @aF @cg)) ?_
    refine⟨by omega,by omega,?_⟩
    refine AQ.bz [(2,6),(1,1),(0,0)] (by kernel_rfl) rfl rfl rfl rfl rfl rfl (by refine⟨?_,?_,?_,trivial⟩<;>(simp only[cH,AV.cd,AV.rn,jH];rfl)) rfl ih fun r' H' ⟨e1,e2⟩=>?_
    subst e1;subst e2
    simp only[go_sem,Nat.reduceAdd,Nat.reduceLeDiff,Nat.reduceSub,Int.reduceToNat,reduceCtorEq,c6,eK,bZ,fh,pM]
    rw[List.append_assoc,<-JO hG uu]
    refine AQ.rename 10 6 rfl rfl rfl ?_;refine sI ?_
    refine AQ.nx rfl ?_
    refine sI ?_
    refine AQ.done ?_
    have kz:=v_ u v mk
    have qA:∀b∈(bT u v mk).1,aU b.2:=v8 u v mk (cA (eU.1 ht).2.2 hv) pn
    have aY:aw (p.xs.take (k+1))=aw (p.xs.take k)+wT u:=by rw[c7 hu,rz,aw,aw];rfl
    refine gO ?_
    refine AP.cond rfl rfl (fun h5=>?_) (fun h5=>?_)
    ·have h5:(bT u v mk).2=false:=by simpa using h5
     rw[if_neg (by rw[h5];simp)]at hm
     refine gO ?_
     refine AE.rename 6 3 rfl rfl rfl ?_;refine sI ?_
     exact AE.aX [] rfl ⟨rfl,trivial⟩ (by simp only[go_sem,Nat.reduceAdd,Nat.reduceLeDiff,Nat.reduceSub,Int.reduceToNat,reduceCtorEq,ba,noMen,AV.mens,AV.men,cp,Bool.or_false];first|done|rfl) ⟨by rw[hm,h5];rfl,by rw[hm];rfl⟩
    ·have h5:(bT u v mk).2=true:=by simpa using h5
     rw[if_pos h5]at hm
     refine gE @hw ?_
     exact AE.round (k+1,(bT u v mk).1) ⟨(by omega:k+1<=p.xs.length),hG.trans uu,(by rw[aY];omega:(bT u v mk).1.length<=m.length+aw (p.xs.take (k+1))),qA,hm⟩ (by show p.xs.length-(k+1)<p.xs.length-k;omega) (sU) rfl
termination_by wT p
decreasing_by
 have:=wR p.xs u (List.mem_of_getElem? hu)
 omega
def ew (x y:Lt) (m:Bd):Bd×Bool:=if ke x y then b9 x.xs y.xs m else(m,false)
def fV (c d:List Lt) (x:Lt) (m:Bd) (y:Lt):Option Bd:=if(ew x y m).2 then bW c d (ew x y m).1 else none
theorem wv (x:Lt) (c d:List Lt) (m:Bd):bW (x::c) d m=d.findSome? (fV c d x m):=by
 rw[bW]
 refine congrArg (fun f=>List.findSome? f d) (funext fun y=>?_)
 rw[fV,ew]
 by_cases h:ke x y=true
 ·rw[if_pos h]
  by_cases k:(b9 x.xs y.xs m).2=true
  ·rw[if_pos ⟨h,k⟩,if_pos k]
  ·rw[if_neg (fun hc=>k hc.2),if_neg k]
 ·rw[if_neg h,if_neg (fun hc=>h hc.1),if_neg (by simp)]
theorem A4 (x y:Lt) (m:Bd):eW m (ew x y m).1:=by
 rw[ew];split
 ·exact wa _ _ _
 ·exact eW.rfl' m
theorem A5 (x y:Lt) (m:Bd):(ew x y m).1.length<=m.length+aw x.xs:=by
 rw[ew];split
 ·exact Dr _ _ _
 ·simp only;omega
theorem Gr (x y:Lt) (m:Bd) (hy:cq y.xs) (hm:∀b∈m,aU b.2):∀b∈(ew x y m).1,aU b.2:=by
 rw[ew];split
 ·exact Dm _ _ _ hy hm
 ·exact hm
theorem IH (m:Bd) (b:Int×Tm) (r:Bd):(kI (m++b::r)).eraseIdx m.length=kI (m++r):=by
 rw[kI,List.map_append,List.eraseIdx_append_of_length_le (by simp),List.length_map,Nat.sub_self,List.map_cons,List.eraseIdx_cons_zero,<-List.map_append];rfl
theorem LI (m:Bd) (b:Int×Tm) (r:Bd):(vT (m++b::r)).eraseIdx m.length=vT (m++r):=by
 rw[vT,List.map_append,List.eraseIdx_append_of_length_le (by simp),List.length_map,Nat.sub_self,List.map_cons,List.eraseIdx_cons_zero,<-List.map_append];rfl
theorem Jx {m r:Bd} (h:cN (m++r)) (j:Nat):cN (m++r.drop j):=
 h.sublist (((List.Sublist.refl m).append (List.drop_sublist j r)).map _)
theorem De {r:Bd} {j:Nat} {b:Int×Tm} (h:r[j]?=some b):(dQ (r.map (·.1))).getD j []=[Ii b.1]:=by
 rw[dQ,List.getD_eq_getElem?_getD,List.getElem?_map,List.getElem?_map,h];rfl
def fU (m:Bd):aa:=[(0,.var (.map (kI m)) (vT m))]
theorem Lj:∀(c d:List Lt) (m:Bd),cC c->cC d->cN m->(∀b∈m,aU b.2)->(∀l∈c,aw l.xs<=4000)->
  aj Tryz.prog 113 [aK c,aK d,.mp 0] (fU m) (fun r H'=>r=Bv (bW c d m).isSome/\H'=fU ((bW c d m).getD m))
 |[],d,m,hc,hd,bg,lj,aO=>by
  have hs:bW [] d m=some m:=by rw[bW]
  refine aj.walk [0,1,2,6,8,9,10,11,12,14,17,18,19,20,21,55,77,78,79,80,81] [8,9,10] Tryz.func113 rfl Tryz.ntmps113 (by kernel_rfl) (by rfl) rfl fun W own I0 aq lay=>?_
  simp only[go_sem,Nat.reduceAdd,Nat.reduceLeDiff,Nat.reduceSub,Int.reduceToNat,reduceCtorEq,fU]
  refine gE (an @aA @List.length_nil.{0}) ?_
  exact AE.aX [] rfl ⟨rfl,trivial⟩ (by simp only[go_sem,Nat.reduceAdd,Nat.reduceLeDiff,Nat.reduceSub,Int.reduceToNat,reduceCtorEq,ba,noMen,AV.mens,AV.men,cp,Bool.or_false];first|done|rfl) ⟨by rw[hs];rfl,by rw[hs];rfl⟩
 |x::c,d,m,hc,hd,bg,lj,aO=>by
  have hs:=wv x c d m
  have qE:=hc.1
  have lY:=hd.1
  have lu:=hc.2 x (List.mem_cons_self ..)
  have yN:(bP (x::c)).getD 0 []=[Bi x.ng,Si x.pd,.sl 3 (ax x.xs)]:=rfl
  have uW:(bP (x::c)).length=c.length+1:=by rw[aA,List.length_cons]
  refine aj.walk [0,1,2,6,8,9,10,11,12,14,17,18,19,20,21,55,77,78,79,80,81] [8,9,10] Tryz.func113 rfl Tryz.ntmps113 (by kernel_rfl) (by rfl) rfl fun W own I0 aq lay=>?_
  simp only[go_sem,Nat.reduceAdd,Nat.reduceLeDiff,Nat.reduceSub,Int.reduceToNat,reduceCtorEq,fU]
  refine gE @uW ?_
  refine sE @aA ?_
  refine AP.loop rfl (α:=Nat) (fun k=>[(0,aK (x::c)),(1,aK d),(2,.mp 0),(18,aK d),(19,Iv d.length),(20,Iv k)]) (fun _=>fU m) (fun k=>k<=d.length/\bW (x::c) d m=(d.drop k).findSome? (fV c d x m)) (fun k=>d.length-k) 0 ⟨by omega,hs⟩ (sU) rfl fun k ⟨hk,hm⟩=>?_
  rcases Nat.eq_or_lt_of_le hk with aC|ag
  ·rw[aC,List.drop_length,List.findSome?_nil]at hm
   simp only[go_sem,Nat.reduceAdd,Nat.reduceLeDiff,Nat.reduceSub,Int.reduceToNat,reduceCtorEq,fU]
   refine gO ?_
   refine cF ?_
   refine gO ?_
   exact AE.aX [] rfl ⟨rfl,trivial⟩ (by simp only[go_sem,Nat.reduceAdd,Nat.reduceLeDiff,Nat.reduceSub,Int.reduceToNat,reduceCtorEq,ba,noMen,AV.mens,AV.men,cp,Bool.or_false];first|done|rfl) ⟨by rw[hm];rfl,by rw[hm];rfl⟩
  ·obtain⟨y,hy,aF⟩:=fT d k ag
   have pB:=hd.2 y (List.mem_of_getElem? hy)
   have hw:=wr (x:=(k:Int)+1) (by omega)
   rw[drop_cons hy,List.findSome?_cons]at hm
   simp only[go_sem,Nat.reduceAdd,Nat.reduceLeDiff,Nat.reduceSub,Int.reduceToNat,reduceCtorEq,fU]
   refine gO ?_
   refine cT ?_
   refine gE @aF ?_
   refine⟨by rw[aA];omega,?_⟩
   repeat(first|refine xA ?_|refine xB ?_|refine xE ?_|refine xD ?_|refine xK ?_|refine xS ?_|refine xM ?_|refine xT ?_|refine xF ?_|((first|refine xR ?_|refine xW ?_|refine np ?_);simp only[go_sem,Nat.reduceAdd,Nat.reduceLeDiff,Nat.reduceSub,Int.reduceToNat,reduceCtorEq])|(refine⟨by first|omega|(intros;simp_all;done)|(intros;simp_all;omega),?_⟩;try simp only[go_sem,Nat.reduceAdd,Nat.reduceLeDiff,Nat.reduceSub,Int.reduceToNat,reduceCtorEq]))
   refine xC ?_
   repeat(first|refine xA ?_|refine xB ?_|refine xE ?_|refine xD ?_|refine xK ?_|refine xS ?_|refine xM ?_|refine xT ?_|refine xF ?_|((first|refine xR ?_|refine xW ?_|refine np ?_);simp only[go_sem,Nat.reduceAdd,Nat.reduceLeDiff,Nat.reduceSub,Int.reduceToNat,reduceCtorEq])|(refine⟨by first|omega|(intros;simp_all;done)|(intros;simp_all;omega),?_⟩;try simp only[go_sem,Nat.reduceAdd,Nat.reduceLeDiff,Nat.reduceSub,Int.reduceToNat,reduceCtorEq]))
   refine xC ?_
   repeat(first|refine xA ?_|refine xB ?_|refine xE ?_|refine xD ?_|refine xK ?_|refine xS ?_|refine xM ?_|refine xT ?_|refine xF ?_|((first|refine xR ?_|refine xW ?_|refine np ?_);simp only[go_sem,Nat.reduceAdd,Nat.reduceLeDiff,Nat.reduceSub,Int.reduceToNat,reduceCtorEq,yN,uW])|(refine⟨by first|omega|(intros;simp_all;done)|(intros;simp_all;omega),?_⟩;try simp only[go_sem,Nat.reduceAdd,Nat.reduceLeDiff,Nat.reduceSub,Int.reduceToNat,reduceCtorEq,yN,uW]))
   refine xC ?_
   repeat(first|refine xA ?_|refine xB ?_|refine xE ?_|refine xD ?_|refine xK ?_|refine xS ?_|refine xM ?_|refine xT ?_|refine xF ?_|((first|refine xR ?_|refine xW ?_|refine np ?_);simp only[go_sem,Nat.reduceAdd,Nat.reduceLeDiff,Nat.reduceSub,Int.reduceToNat,reduceCtorEq,yN,uW])|(refine⟨by first|omega|(intros;simp_all;done)|(intros;simp_all;omega),?_⟩;try simp only[go_sem,Nat.reduceAdd,Nat.reduceLeDiff,Nat.reduceSub,Int.reduceToNat,reduceCtorEq,yN,uW]))
   have rS:(x.ng==y.ng&&x.pd==y.pd&&((ax x.xs).length:Int)==((ax y.xs).length:Int))=ke x y:=by
    rw[ke,ah,ah]
    congr 1
    by_cases hl:x.xs.length=y.xs.length
    ·simp[hl]
    ·have:((x.xs.length:Int))≠(y.xs.length:Int):=fun h=>hl (by omega)
     simp[hl,this]
   have hF:ew x y m=if ke x y=true then b9 (x.xs.drop 0) (y.xs.drop 0) m else(m,false):=rfl
   have QG:aw x.xs<=4000:=aO x (List.mem_cons_self ..)
   refine AE.seq ?_
   refine AP.seq rfl ?_
   refine AP.cut (α:=Unit) (fun _=>[(0,aK (x::c)),(1,aK d),(2,.mp 0),(8,.ob 1 0),(9,.ob 2 0),(10,.ob 3 0),(11,Bv (ew x y m).2),(18,aK d),(19,Iv d.length),(20,Iv k)]) (fun _=>[(4,.vec 3 1 (dQ (gM m (ew x y m).1))),(3,.var 119 [Bv x.ng,Sv x.pd,.im (.sl 3 (ax x.xs))]),(2,.var 46 [.os 4 1 0 (gM m (ew x y m).1).length]),(1,.var 119 [Bv y.ng,Sv y.pd,.im (.sl 3 (ax y.xs))]),(0,.var (.map (kI (ew x y m).1)) (vT (ew x y m).1))]) (fun _=>True) ?_ fun _ _=>?_
   rotate_left
   ·cases hb:(ew x y m).2 with
    |false=>
     have l9:fV c d x m y=none:=by rw[fV,hb,if_neg (by simp)]
     refine gO ?_
     have cZ:bW (x::c) d m=(d.drop (k+1)).findSome? (fV c d x m):=by rw[hm,l9]
     obtain⟨⟨r,hr⟩,jk⟩:=A4 x y m
     have B9:cN (m++r):=by rw[<-hr];exact jk bg
     have mT:r.length<=4000:=by
      have:=A5 x y m
      rw[hr,List.length_append]at this
      omega
     rw[hr,s5]
     refine AP.loop rfl (α:=Nat) (fun j=>[(0,aK (x::c)),(1,aK d),(2,.mp 0),(18,aK d),(19,Iv d.length),(20,Iv k),(78,.os 4 1 0 (r.map (·.1)).length),(79,Iv (r.map (·.1)).length),(80,Iv j)]) (fun j=>[(4,.vec 3 1 (dQ (r.map (·.1)))),(3,.var 119 [Bv x.ng,Sv x.pd,.im (.sl 3 (ax x.xs))]),(2,.var 46 [.os 4 1 0 (r.map (·.1)).length]),(1,.var 119 [Bv y.ng,Sv y.pd,.im (.sl 3 (ax y.xs))]),(0,.var (.map (kI (m++r.drop j))) (vT (m++r.drop j)))]) (fun j=>j<=r.length) (fun j=>r.length-j) 0 (by omega) (sU) rfl fun j hj=>?_
     rcases Nat.eq_or_lt_of_le hj with dV|jX
     ·rw[dV,List.drop_length,List.append_nil]
      refine gE @List.length_map.{0,0} ?_
      refine cF ?_
      refine gE @hw ?_
      refine AE.dq [1,2,3,4] (by simp only[go_sem,Nat.reduceAdd,Nat.reduceLeDiff,Nat.reduceSub,Int.reduceToNat,reduceCtorEq,ba,noMen,AV.mens,AV.men,cp,Bool.or_false];first|done|rfl) ?_
      refine sI ?_
      exact AE.round (k+1) ⟨by omega,cZ⟩ (by omega) (sU) rfl
     ·have hb:r[j]?=some r[j]:=List.getElem?_eq_getElem jX
      generalize r[j]=b at hb
      have CD:=wr (x:=(j:Int)+1) (by omega)
      have Cl:=De hb
      have uF:=drop_cons hb
      have Cd:=Jx B9 j
      have aQ:(m++r.drop j)[m.length]?=some (b.1,b.2):=by rw[uF,List.getElem?_append_right (Nat.le_refl _),Nat.sub_self];rfl
      have aC:=IH m b (r.drop (j+1))
      have qU:=LI m b (r.drop (j+1))
      rw[<-uF]at aC qU
      refine gE @List.length_map.{0,0} ?_
      refine cT ?_
      refine gE (an @Cl (an @jy @List.length_map.{0,0})) ?_
      refine AQ.Jm m.length (by kernel_rfl) rfl rfl rfl kS u3 (ft _) rfl (List.mem_of_getElem? (ma aQ)) (fun i hi=>mb Cd aQ hi) ?_
      refine sI ?_
      refine gE @CD ?_
      rw[aC,qU]
      exact AE.round (j+1) (by omega) (by omega) (sU) rfl
    |true=>
     have ih:=Lj c d (ew x y m).1 ⟨by have:=hc.1;rw[List.length_cons]at this;omega,fun l hl=>hc.2 l (List.mem_cons_of_mem _ hl)⟩ hd ((A4 x y m).2 bg) (Gr x y m pB.2.2 lj) (fun l hl=>aO l (List.mem_cons_of_mem _ hl))
     refine gO ?_
     refine AQ.opt 75 rfl ?_
     refine AQ.opt 74 rfl ?_
     refine AQ.opt 73 rfl ?_
     refine AQ.pa (by simp only[go_sem]) ?_
     refine sI ?_
     refine AQ.bz [(0,0)] (by kernel_rfl) rfl rfl rfl rfl rfl rfl (by refine⟨?_,trivial⟩;simp only[cH,AV.cd,AV.rn,jH];rfl) rfl ih fun r' H' ⟨e1,e2⟩=>?_
     subst e1;subst e2
     simp only[go_sem,Nat.reduceAdd,Nat.reduceLeDiff,Nat.reduceSub,Int.reduceToNat,reduceCtorEq,c6,eK,bZ,fh,fU]
     cases hk:bW c d (ew x y m).1 with
     |some m2=>
      have l9:fV c d x m y=some m2:=by rw[fV,hb,if_pos rfl,hk]
      rw[l9]at hm
      refine gO ?_
      exact AE.aX [1,2,3,4] rfl ⟨rfl,trivial⟩ (by simp only[go_sem,Nat.reduceAdd,Nat.reduceLeDiff,Nat.reduceSub,Int.reduceToNat,reduceCtorEq,ba,noMen,AV.mens,AV.men,cp,Bool.or_false];first|done|rfl) ⟨by rw[hm];rfl,by rw[hm];rfl⟩
     |none=>
      have l9:fV c d x m y=none:=by rw[fV,hb,if_pos rfl,hk]
      refine gO ?_
      simp only[go_sem,Nat.reduceAdd,Nat.reduceLeDiff,Nat.reduceSub,Int.reduceToNat,reduceCtorEq,Option.getD_none]
      have cZ:bW (x::c) d m=(d.drop (k+1)).findSome? (fV c d x m):=by rw[hm,l9]
      obtain⟨⟨r,hr⟩,jk⟩:=A4 x y m
      have B9:cN (m++r):=by rw[<-hr];exact jk bg
      have mT:r.length<=4000:=by
       have:=A5 x y m
       rw[hr,List.length_append]at this
       omega
      rw[hr,s5]
      refine AP.loop rfl (α:=Nat) (fun j=>[(0,aK (x::c)),(1,aK d),(2,.mp 0),(18,aK d),(19,Iv d.length),(20,Iv k),(78,.os 4 1 0 (r.map (·.1)).length),(79,Iv (r.map (·.1)).length),(80,Iv j)]) (fun j=>[(4,.vec 3 1 (dQ (r.map (·.1)))),(3,.var 119 [Bv x.ng,Sv x.pd,.im (.sl 3 (ax x.xs))]),(2,.var 46 [.os 4 1 0 (r.map (·.1)).length]),(1,.var 119 [Bv y.ng,Sv y.pd,.im (.sl 3 (ax y.xs))]),(0,.var (.map (kI (m++r.drop j))) (vT (m++r.drop j)))]) (fun j=>j<=r.length) (fun j=>r.length-j) 0 (by omega) (sU) rfl fun j hj=>?_
      rcases Nat.eq_or_lt_of_le hj with dV|jX
      ·rw[dV,List.drop_length,List.append_nil]
       refine gE @List.length_map.{0,0} ?_
       refine cF ?_
       refine gE @hw ?_
       refine AE.dq [1,2,3,4] (by simp only[go_sem,Nat.reduceAdd,Nat.reduceLeDiff,Nat.reduceSub,Int.reduceToNat,reduceCtorEq,ba,noMen,AV.mens,AV.men,cp,Bool.or_false];first|done|rfl) ?_
       refine sI ?_
       exact AE.round (k+1) ⟨by omega,cZ⟩ (by omega) (sU) rfl
      ·have hb:r[j]?=some r[j]:=List.getElem?_eq_getElem jX
       generalize r[j]=b at hb
       have CD:=wr (x:=(j:Int)+1) (by omega)
       have Cl:=De hb
       have uF:=drop_cons hb
       have Cd:=Jx B9 j
       have aQ:(m++r.drop j)[m.length]?=some (b.1,b.2):=by rw[uF,List.getElem?_append_right (Nat.le_refl _),Nat.sub_self];rfl
       have aC:=IH m b (r.drop (j+1))
       have qU:=LI m b (r.drop (j+1))
       rw[<-uF]at aC qU
       refine gE @List.length_map.{0,0} ?_
       refine cT ?_
       refine gE (an @Cl (an @jy @List.length_map.{0,0})) ?_
       refine AQ.Jm m.length (by kernel_rfl) rfl rfl rfl kS u3 (ft _) rfl (List.mem_of_getElem? (ma aQ)) (fun i hi=>mb Cd aQ hi) ?_
       refine sI ?_
       refine gE @CD ?_
       rw[aC,qU]
       exact AE.round (j+1) (by omega) (by omega) (sU) rfl
   refine gO ?_
   refine AP.hO 2 0 3 1 rfl rfl ?_
   refine sI ?_
   rw[rS]
   refine AP.loop rfl (α:=Nat×Bd×Bool) (fun q=>[(0,aK (x::c)),(1,aK d),(2,.mp 0),(8,.ob 1 0),(9,.ob 2 0),(10,.ob 3 0),(11,Bv q.2.2),(12,Iv q.1),(18,aK d),(19,Iv d.length),(20,Iv k)]) (fun q=>[(4,.vec 3 1 (dQ (gM m q.2.1))),(3,.var 119 [Bv x.ng,Sv x.pd,.im (.sl 3 (ax x.xs))]),(2,.var 46 [.os 4 1 0 (gM m q.2.1).length]),(1,.var 119 [Bv y.ng,Sv y.pd,.im (.sl 3 (ax y.xs))]),(0,.var (.map (kI q.2.1)) (vT q.2.1))]) (fun q=>q.1<=x.xs.length+1/\eW m q.2.1/\q.2.1.length<=m.length+aw x.xs/\(q.2.2=true->ke x y=true/\q.1<=x.xs.length/\q.2.1.length<=m.length+aw (x.xs.take q.1))/\(∀b∈q.2.1,aU b.2)/\ew x y m=if q.2.2=true then b9 (x.xs.drop q.1) (y.xs.drop q.1) q.2.1 else(q.2.1,false)) (fun q=>x.xs.length+1-q.1) (0,m,ke x y) ⟨by omega,eW.rfl' m,by simp,fun h=>⟨h,by omega,by simp⟩,lj,hF⟩ (sU) (by rw[zy];rfl) fun⟨q,mq,oq⟩ ⟨yJ,hG,gJ,ss,mS,ir⟩=>?_
   dsimp only at yJ hG gJ ss mS ir⊢
   cases oq with
   |false=>
    rw[if_neg (by simp)]at ir
    rw[ir]
    refine gO ?_
    exact AE.meet () trivial (sU) rfl
   |true=>
    obtain⟨lV,Qd,yK⟩:=ss rfl
    rw[if_pos rfl]at ir
    have ff:=(xq.1 lV).2.2
    rcases Nat.eq_or_lt_of_le Qd with u_|Cj
    ·rw[u_,List.drop_length,wb]at ir
     rw[ir]
     refine gE @ah ?_
     refine cF ?_
     refine gO ?_
     exact AE.meet () trivial (sU) rfl
    ·obtain⟨u,hu,vf⟩:=cz x.xs q Cj
     obtain⟨v,hv,cg⟩:=cz y.xs q (by omega)
     have QL:=lu.2.1
     have CE:=wr (x:=(q:Int)+1) (by omega)
     rw[Dq x.xs y.xs q u v hu hv]at ir
     have aY:aw (x.xs.take (q+1))=aw (x.xs.take q)+wT u:=by rw[c7 hu,rz,aw,aw];rfl
     have pq:=rA x.xs (q+1)
     have P1:(gM m mq).length<=aw (x.xs.take q):=by rw[gM,List.length_map,List.length_drop];omega
     have ih:=Jl u v mq (gM m mq) (cA lu.2.2 hu) (cA pB.2.2 hv) (hG.2 bg) (by omega) mS
     have uu:=zo u v mq
     have kz:=v_ u v mq
     have qA:∀b∈(bT u v mq).1,aU b.2:=v8 u v mq (cA pB.2.2 hv) mS
     refine gE @ah ?_
     refine cT ?_
     refine gE (an @vf (an @cg @ah)) ?_
     refine AP.cu 13 (Tree.node [] [0,1,2,3,4,5,6,7,8,9,10] [11] [Tree.node [] [12] [] []]) (by kernel_rfl) rfl (by kernel_rfl) (by kernel_rfl) ?_
     refine cr ?_
     refine sE (an @vf (an @cg @ah)) ?_
     refine⟨by omega,by omega,?_⟩
     refine AQ.bz [(2,4),(1,2),(0,0)] (by kernel_rfl) rfl rfl rfl rfl rfl rfl (by refine⟨?_,?_,?_,trivial⟩<;>(simp only[cH,AV.cd,AV.rn,jH];rfl)) rfl ih fun r' H' ⟨e1,e2⟩=>?_
     subst e1;subst e2
     simp only[go_sem,Nat.reduceAdd,Nat.reduceLeDiff,Nat.reduceSub,Int.reduceToNat,reduceCtorEq,c6,eK,bZ,fh,pM]
     rw[<-JO hG uu]
     refine AQ.rename 8 4 rfl rfl rfl ?_;refine sI ?_
     refine AQ.nx rfl ?_
     refine sI ?_
     refine AQ.done ?_
     refine gE @CE ?_
     refine AE.round (q+1,(bT u v mq).1,(bT u v mq).2) ⟨(by omega:q+1<=x.xs.length+1),hG.trans uu,(by omega:(bT u v mq).1.length<=m.length+aw x.xs),fun _=>⟨lV,(by omega:q+1<=x.xs.length),(by rw[aY];omega:(bT u v mq).1.length<=m.length+aw (x.xs.take (q+1)))⟩,qA,?_⟩ (by show x.xs.length+1-(q+1)<x.xs.length+1-q;omega) (sU) rfl
     show ew x y m=if(bT u v mq).2=true then b9 (x.xs.drop (q+1)) (y.xs.drop (q+1)) (bT u v mq).1 else((bT u v mq).1,false)
     rw[ir]
     cases hb:(bT u v mq).2 with
     |true=>rw[if_pos rfl,if_pos rfl]
     |false=>rw[if_neg (by simp),if_neg (by simp),<-hb]
mutual
def fu:Tm->Tm->Bd->Bd×Bool
 | .mk n i xs,t,m=>if n=[]then(match dh m i with
   |some x=>(m,cX x t)
   |none=>(m++[(i,t)],true))
  else if n≠t.nm\/xs.length≠t.xs.length then(m,false)else gZ xs t.xs m
def gZ:List Tm->List Tm->Bd->Bd×Bool
 |a::l,b::k,m=>if(fu a b m).2 then gZ l k (fu a b m).1 else(m,false)
 |_,_,m=>(m,true)
end
mutual
theorem Dk:∀(p t:Tm) (m:Bd),(fu p t m).2=(bT p t m).2/\((fu p t m).2=true->(fu p t m).1=(bT p t m).1)
 | .mk n i xs,t,m=>by
  rw[fu,bT]
  by_cases hn:n=[]
  ·rw[if_pos hn,if_pos hn];exact⟨rfl,fun _=>rfl⟩
  ·rw[if_neg hn,if_neg hn]
   split
   ·exact⟨rfl,fun _=>rfl⟩
   ·exact Jp xs t.xs m
theorem Jp:∀(l k:List Tm) (m:Bd),(gZ l k m).2=(b9 l k m).2/\((gZ l k m).2=true->(gZ l k m).1=(b9 l k m).1)
 |[],k,m=>by
  rw[wb]
  have:gZ [] k m=(m,true):=by rw[gZ]<;>simp
  rw[this];exact⟨rfl,fun _=>rfl⟩
 |a::l,[],m=>by
  have U:gZ (a::l) [] m=(m,true):=by rw[gZ]<;>simp
  have h2:b9 (a::l) [] m=(m,true):=by rw[b9]<;>simp
  rw[U,h2];exact⟨rfl,fun _=>rfl⟩
 |a::l,b::k,m=>by
  obtain⟨U,h2⟩:=Dk a b m
  rw[gZ,b9]
  by_cases h:(fu a b m).2=true
  ·rw[if_pos h,if_pos (U▸h),h2 h]
   exact Jp l k _
  ·rw[if_neg h,if_neg (U▸h)]
   have h3:(bT a b m).2=false:=by rw[<-U];simpa using h
   exact⟨by rw[h3],fun hc=>absurd hc (by simp)⟩
end
theorem RQ (p t:Tm) (m:Bd):fu p t m=if p.nm=[]then(match dh m p.ix with
   |some x=>(m,cX x t)
   |none=>(m++[(p.ix,t)],true))
  else if p.nm≠t.nm\/p.xs.length≠t.xs.length then(m,false)else gZ p.xs t.xs m:=by cases p;rw[fu];rfl
theorem RS (k:List Tm) (m:Bd):gZ [] k m=(m,true):=by rw[gZ]<;>simp
theorem RR (l k:List Tm) (j:Nat) (a b:Tm) (ha:l[j]?=some a) (hb:k[j]?=some b) (m:Bd):gZ (l.drop j) (k.drop j) m=if(fu a b m).2 then gZ (l.drop (j+1)) (k.drop (j+1)) (fu a b m).1 else(m,false):=by
 obtain⟨U,e1⟩:=List.getElem?_eq_some_iff.1 ha
 obtain⟨h2,e2⟩:=List.getElem?_eq_some_iff.1 hb
 rw[List.drop_eq_getElem_cons U,List.drop_eq_getElem_cons h2,e1,e2,gZ]
theorem gf (l m:Bd):db l++db m=db (l++m):=by simp[db]
theorem xG (v:Int) (t:Tm):[[Ii v,Si t.nm,Ii t.ix,.sl 3 (ax t.xs)]]=db [(v,t)]:=rfl
theorem tO (l:Bd) (n:Nat) (h:l.length<=n):(db l).take n=db l:=List.take_of_length_le (by rw[aI];exact h)
theorem Jk (p t:Tm) (m:Bd) (hp:aU p) (ht:aU t) (hm:∀b∈m,aU b.2) (aO:m.length+wT p<=1000000):
  aP Tryz.prog 142 [bp p,bp t,cE m] (.aM [cE (fu p t m).1,Bv (fu p t m).2]):=by
 have sq:=eU.1 hp
 have hq:=RQ p t m
 have QD:=tv p
 refine aj.walk [0,1,2,3,4,6,7,8,9,10,11,14,20,51,57,76] [] Tryz.func142 rfl Tryz.ntmps142 (by kernel_rfl) (by rfl) rfl fun W own I0 aq lay=>?_
 refine gO ?_
 refine AP.cond rfl rfl (fun hn=>?_) (fun hn=>?_)
 ·have hn:p.nm=[]:=by simpa[tw]using hn
  rw[if_pos hn]at hq
  obtain⟨f1,f2⟩:=IG m p.ix 0
  refine gO ?_
  refine AQ.fn (by kernel_rfl) rfl rfl rfl (find_spec m p.ix ⟨by omega,hm⟩) rfl ?_
  refine sI ?_
  refine gO ?_
  refine AP.cond rfl rfl (fun U=>?_) (fun U=>?_)
  ·cases hk:dh m p.ix with
   |none=>rw[f1 hk]at U;simp at U
   |some y=>
    obtain⟨k,e1,e2⟩:=f2 y hk
    rw[Nat.zero_add]at e1
    obtain⟨ag,_⟩:=List.getElem?_eq_some_iff.1 e2
    obtain⟨b,hb,aF⟩:=qj m k ag
    rw[e2]at hb
    simp only[Option.some.injEq]at hb
    subst hb
    rw[hk]at hq
    have QN:aU y:=hm _ (List.mem_of_getElem? e2)
    rw[e1]
    refine gO ?_
    refine AP.cu 10 (Tree.node [] [0,1,2,3,4,5,6] [7] [Tree.node [0] [8,9] [] []]) (by kernel_rfl) rfl (by kernel_rfl) (by kernel_rfl) ?_
    refine cr ?_
    refine sE (an @aF @aI) ?_
    refine⟨by omega,?_⟩
    refine AQ.fn (by kernel_rfl) rfl rfl rfl (zQ y t QN) rfl ?_
    refine sI ?_
    refine AQ.nx rfl ?_
    refine sI ?_
    refine AQ.done ?_
    refine gO ?_
    exact AE.aG rfl ⟨rfl,rfl,trivial⟩ rfl ⟨rfl,by rw[hq];rfl⟩
  ·cases hk:dh m p.ix with
   |some y=>
    obtain⟨k,e1,e2⟩:=f2 y hk
    rw[e1]at U;simp at U
   |none=>
    rw[hk]at hq
    clear f1 f2
    refine gO ?_
    refine AP.cu 11 (Tree.node [] [1,3,4,5,6] [0,7] [Tree.node [1,3,4,5,6] [] [2,7] [Tree.node [3,4,5,6] [] [7] [Tree.node [] [] [8] [Tree.node [] [9,10] [] []]],Tree.node [1] [] [2] [Tree.node [] [] [8] [Tree.node [] [9,10] [] []]]],Tree.node [1] [] [0] [Tree.node [1] [] [2] [Tree.node [] [] [8] [Tree.node [] [9,10] [] []]]]]) (by kernel_rfl) rfl (by kernel_rfl) (by kernel_rfl) ?_
    refine cr ?_
    refine sI ?_
    repeat' (first|with_reducible exact True.intro|with_reducible refine And.intro (by omega) ?_|with_reducible refine And.intro ?_ ?_|(refine AQ.nx rfl ?_;refine sE (an @aI (an @gf (an @xG (an @List.nil_append.{0} @List.length_append.{0})))) ?_)|(refine AQ.append (hnb:=rfl) (rows:=[]) (es:=3) (by kernel_rfl) rfl rfl rfl (by rfl) Tryz.mr Tryz.mo (by show Option.map _ (az Tryz.prog 59)=_;rw[Tryz.mz];rfl) Tryz.lO (by first|rfl|(simp only[aI,List.length_cons,List.length_nil];done)|(simp only[aI,List.length_cons,List.length_nil];omega)) (by simp only[aI,List.length_cons,List.length_nil];omega) (by simp only[aI,List.length_cons,List.length_nil];omega) ?_;refine sE (an @List.nil_append.{0} @aI) ?_)|(refine AQ.append (hnb:=rfl) (rows:=db m) (es:=3) (by kernel_rfl) rfl rfl rfl (by rfl) Tryz.mr Tryz.mo (by show Option.map _ (az Tryz.prog 59)=_;rw[Tryz.mz];rfl) Tryz.lO (by first|rfl|(simp only[aI,List.length_cons,List.length_nil];done)|(simp only[aI,List.length_cons,List.length_nil];omega)) (by simp only[aI,List.length_cons,List.length_nil];omega) (by simp only[aI,List.length_cons,List.length_nil];omega) ?_;refine sE (an @gf (an @xG (an @aI @List.length_append.{0}))) ?_)|refine AQ.done ?_|(refine AQ.go (by kernel_rfl) ?_;refine sE (an @aI (an @gf (an @xG (an @List.nil_append.{0} @List.length_append.{0})))) ?_;repeat(with_reducible refine And.intro (by omega) ?_);refine AQ.nx rfl ?_;refine sE (an @aI (an @gf (an @xG (an @List.nil_append.{0} @List.length_append.{0})))) ?_))
    all_goals refine gO ?_
    all_goals refine AE.freeze 0 (el:=59) (es:=4) (rows:=db (m++[(p.ix,t)])) rfl (by simp only[go_sem,Nat.reduceAdd,Nat.reduceLeDiff,Nat.reduceSub,Int.reduceToNat,reduceCtorEq,aI,List.length_append];first|done|trivial|omega|(simp;done)|(simp;omega)) (by simp only[go_sem,Nat.reduceAdd,Nat.reduceLeDiff,Nat.reduceSub,Int.reduceToNat,reduceCtorEq,aI,List.length_append];first|done|trivial|omega|(simp;done)|(simp;omega)) ?_;simp only[go_sem,Nat.reduceAdd,Nat.reduceLeDiff,Nat.reduceSub,Int.reduceToNat,reduceCtorEq,aI,List.length_append]
    all_goals exact AE.aG rfl ⟨rfl,rfl,trivial⟩ rfl ⟨rfl,by rw[hq,tO _ _ (by simp)];rfl⟩
 ·have hn:¬p.nm=[]:=by simpa[tw]using hn
  rw[if_neg hn]at hq
  refine gE @ah ?_
  refine AP.cond rfl rfl (fun h2=>?_) (fun h2=>?_)
  ·have h2:p.nm≠t.nm\/p.xs.length≠t.xs.length:=by
    by_cases hA:p.nm=t.nm
    ·refine .inr fun hc=>?_
     simp[hA,hc]at h2
    ·exact .inl hA
   rw[if_pos h2]at hq
   refine gO ?_
   exact AE.aG rfl ⟨rfl,rfl,trivial⟩ rfl ⟨rfl,by rw[hq];rfl⟩
  ·have h2:¬(p.nm≠t.nm\/p.xs.length≠t.xs.length):=fun hc=>by
    by_cases hA:p.nm=t.nm
    ·rcases hc with hc|hc
     ·exact hc hA
     ·simp[hA]at h2;omega
    ·simp[hA]at h2
   rw[if_neg h2]at hq
   have kn:p.xs.length=t.xs.length:=Classical.byContradiction fun hc=>h2 (.inr hc)
   refine gE @ah ?_
   refine AP.loop rfl (α:=Nat×Bd) (fun q=>[(2,cE q.2),(3,.im (kQ p)),(4,.im (kQ t)),(9,Iv q.1)]) (fun _=>[]) (fun q=>q.1<=p.xs.length/\q.2.length<=m.length+aw (p.xs.take q.1)/\(∀b∈q.2,aU b.2)/\(fu p t m).2=(gZ (p.xs.drop q.1) (t.xs.drop q.1) q.2).2/\fu p t m=gZ (p.xs.drop q.1) (t.xs.drop q.1) q.2) (fun q=>p.xs.length-q.1) (0,m) ⟨by omega,by simp,hm,by rw[hq];rfl,hq⟩ (sU) rfl fun⟨k,mk⟩ ⟨hk,hlen,pn,_,hm⟩=>?_
   dsimp only at hk hlen pn hm⊢
   rcases Nat.eq_or_lt_of_le hk with aC|ag
   ·rw[aC,List.drop_length,RS]at hm
    refine gE @ah ?_
    refine cF ?_
    refine gO ?_
    exact AE.aG rfl ⟨rfl,rfl,trivial⟩ rfl ⟨rfl,by rw[hm];rfl⟩
   ·obtain⟨u,hu,aF⟩:=cz p.xs k ag
    obtain⟨v,hv,cg⟩:=cz t.xs k (by omega)
    have hw:=wr (x:=(k:Int)+1) (by have:=sq.2.1;omega)
    rw[RR p.xs t.xs k u v hu hv]at hm
    have aY:aw (p.xs.take (k+1))=aw (p.xs.take k)+wT u:=by rw[c7 hu,rz,aw,aw];rfl
    have pq:=rA p.xs (k+1)
    have ih:=Jk u v mk (cA sq.2.2 hu) (cA (eU.1 ht).2.2 hv) pn (by omega)
    refine gE @ah ?_
    refine cT ?_
    refine gE (an @ah (an @aF @cg)) ?_
    refine AP.cu 17 (Tree.node [] [0,1,2,3,4,5,6,7,8,9,10] [11] [Tree.node [] [12,13,14,15,16] [] []]) (by kernel_rfl) rfl (by kernel_rfl) (by kernel_rfl) ?_
    refine cr ?_
    refine sE (an @ah (an @aF @cg)) ?_
    refine⟨by omega,by omega,?_⟩
    refine AQ.fn (by kernel_rfl) rfl rfl rfl (ih) rfl ?_
    refine sI ?_
    refine AQ.nx rfl ?_
    refine sI ?_
    refine AQ.done ?_
    have kz:=v_ u v mk
    have qA:=v8 u v mk (cA (eU.1 ht).2.2 hv) pn
    have PT:=(Dk u v mk).2
    refine gO ?_
    refine AP.cond rfl rfl (fun h5=>?_) (fun h5=>?_)
    ·have h5:(fu u v mk).2=false:=by simpa using h5
     rw[if_neg (by rw[h5];simp)]at hm
     refine gO ?_
     exact AE.aG rfl ⟨rfl,rfl,trivial⟩ rfl ⟨rfl,by rw[hm];rfl⟩
    ·have h5:(fu u v mk).2=true:=by simpa using h5
     rw[if_pos h5]at hm
     rw[PT h5]at hm⊢
     refine gE @hw ?_
     exact AE.round (k+1,(bT u v mk).1) ⟨(by omega:k+1<=p.xs.length),(by rw[aY];omega:(bT u v mk).1.length<=m.length+aw (p.xs.take (k+1))),qA,by rw[hm],hm⟩ (by show p.xs.length-(k+1)<p.xs.length-k;omega) (sU) rfl
termination_by wT p
decreasing_by
 have:=wR p.xs u (List.mem_of_getElem? hu)
 omega
end Go.Proofs.YtpfohmboflcneaaGreatDoor
end
