import Derived.Test.YtpfohmboflcneaaGreatDoorW2
import Derived.Shelf.Sort.Plain
import Derived.Shelf.Slices.In.SortNone
import Derived.Lib.IndexMore
import Derived.Shelf.Strings.Search3
set_option linter.unusedSimpArgs false
set_option linter.unusedVariables false
set_option linter.unnecessarySimpa false
section
namespace Go.Proofs.YtpfohmboflcneaaGreatDoor
open Go Go.AL Go.RowKit
set_option maxRecDepth 10000
set_option maxHeartbeats 4000000
theorem x2 {l:Lt} (h:gA l):bz (dZ l):=by rw[dZ,bz];exact h
theorem x3 (l:Lt):wT (dZ l)=1+aH l.xs:=by rw[dZ,wT]
theorem Fp (l:Lt):aI Tryz.prog 99 [fc l] (bq (dZ l)):=by
 refine ak.walk [0,1,2] [2] Tryz.func99 rfl Tryz.ntmps99 (by kernel_rfl) (by rfl) rfl fun W own I0 ax lay=>?_
 refine gO ?_
 exact AE.aV [0] rfl ⟨⟨rfl,Nat.le_of_ble_eq_true (by kernel_rfl)⟩,trivial⟩ rfl ⟨rfl,rfl⟩
theorem Rw (x y:Lt) (hx:gA x) (hy:gA y) (H7:aH x.xs<=4000) (CW:aH y.xs<=4000):aI Tryz.prog 100 [fc y,.im (.pt [.fn 99 [] []]),.im (kW x)] (Bv (decide (gL (dZ x) (dZ y)=-1))):=by
 have hc:=FO (dZ x) (dZ y) (x2 hx) (x2 hy) (by rw[x3];omega) (by rw[x3];omega)
 refine ak.walk [0,1,2,3,4] [] Tryz.func100 rfl Tryz.ntmps100 (by kernel_rfl) (by rfl) rfl fun W own I0 ax lay=>?_
 refine gO ?_
 refine AP.bC 9 (Tree.node [] [0,1,3,4] [2] [Tree.node [3,4] [] [5] [Tree.node [] [] [6] [Tree.node [] [7,8] [] []]]]) (by kernel_rfl) rfl (by kernel_rfl) (by kernel_rfl) ?_
 refine bA ?_
 refine sI ?_
 refine AQ.nQ [] (by kernel_rfl) rfl rfl rfl rfl rfl rfl (fun k=>by exact trivial) (fun k=>rfl) (fun k=>rfl) (Fp x) ?_
 refine sI ?_
 refine AQ.nx rfl ?_
 refine sI ?_
 refine AQ.nQ [] (by kernel_rfl) rfl rfl rfl rfl rfl rfl (fun k=>by exact trivial) (fun k=>rfl) (fun k=>rfl) (Fp y) ?_
 refine sI ?_
 refine AQ.nx rfl ?_
 refine sI ?_
 refine AQ.fn (by kernel_rfl) rfl rfl rfl (hc) rfl ?_
 refine sI ?_
 refine AQ.nx rfl ?_
 refine sI ?_
 refine AQ.done ?_
 refine gO ?_
 exact AE.ay rfl ⟨rfl,trivial⟩ rfl ⟨rfl,rfl⟩
theorem Re (l:List Lt) (f:FuncId) (a b:IV) (p:Lt->Bool) (hl:l.length<=1000000000) (hc:∀y∈l,aI Tryz.prog f [fc y,.im a,.im b] (Bv (p y))):
  aI Tryz.prog 162 [aJ l,.fn f [] [.im a,.im b]] (Iv (dG p l 0)):=by
 refine ak.walk [0,1,4,5,7,8,9,16] [] Tryz.func162 rfl Tryz.ntmps162 (by kernel_rfl) (by rfl) rfl fun W own I0 ax lay=>?_
 refine gE @ae ?_
 refine AP.loop rfl (α:=Nat) (fun k=>[(0,aJ l),(1,.fn f [] [.im a,.im b]),(7,Iv l.length),(8,Iv k)]) (fun _=>[]) (fun k=>k<=l.length/\dG p l 0=dG p (l.drop k) k) (fun k=>l.length-k) 0 ⟨by omega,rfl⟩ (sU) rfl fun k ⟨hk,hm⟩=>?_
 rcases Nat.eq_or_lt_of_le hk with aG|ah
 ·refine gO ?_
  refine cF ?_
  refine gO ?_
  exact AE.ay rfl ⟨rfl,trivial⟩ rfl ⟨rfl,by rw[hm,aG,List.drop_length,dG];rfl⟩
 ·obtain⟨u,hu,aj⟩:=dI l k ah
  have hw:=wr (x:=(k:Int)+1) (by omega)
  have cV:=v_ p hu
  refine gO ?_
  refine cT ?_
  refine gE @aj ?_
  refine⟨by rw[ae];omega,?_⟩
  refine gO ?_
  refine AQ.nQ [] (by kernel_rfl) rfl rfl rfl rfl rfl rfl (fun k=>by exact trivial) (fun k=>rfl) (fun k=>rfl) (hc u (List.mem_of_getElem? hu)) ?_
  refine sI ?_
  refine gO ?_
  refine AP.cond rfl rfl (fun h1=>?_) (fun h1=>?_)
  ·refine gO ?_
   exact AE.ay rfl ⟨rfl,trivial⟩ rfl ⟨rfl,by rw[hm,cV,if_pos (by simpa using h1)];rfl⟩
  ·refine gE @hw ?_
   exact AE.round (k+1) ⟨by omega,by rw[hm,cV,if_neg (by simpa using h1)]⟩ (by omega) (sU) rfl
theorem MI (l:List Lt) (f:FuncId) (a b:IV) (p:Lt->Bool) (hl:l.length<=1000000000) (hc:∀y∈l,aI Tryz.prog f [fc y,.im a,.im b] (Bv (p y))):
  aI Tryz.prog 87 [aJ l,.fn f [] [.im a,.im b]] (Bv (l.any p)):=by
 refine ak.walk [0,1,4] [] Tryz.func87 rfl Tryz.ntmps87 (by kernel_rfl) (by rfl) rfl fun W own I0 ax lay=>?_
 refine gO ?_
 refine AQ.fn (by kernel_rfl) rfl rfl rfl (Re l f a b p hl hc) rfl ?_
 refine sI ?_
 refine gO ?_
 exact AE.ay rfl ⟨rfl,trivial⟩ rfl ⟨rfl,by rw[<-v8 p l 0];rfl⟩
theorem Jf {c:List Lt} {k:Nat} {u:Lt} (d:List Lt) (h:c[k]?=some u):dw d 0 (c.take (k+1))=dw d 0 (c.take k)++if ti d u then[(k:Int)]else[]:=by
 have hk:=(List.getElem?_eq_some_iff.1 h).1
 rw[cK h,Je,dw,dw,List.length_take,Nat.min_eq_left (by omega),Nat.zero_add]
theorem th (d:List Lt):∀(r:List Lt) (i:Nat),(dw d i r).length<=r.length
 |[],i=>by rw[dw];simp
 |x::r,i=>by
  have:=th d r (i+1)
  rw[dw]
  split<;>simp<;>omega
theorem xc {c:List Lt} {l:Lt} (h:l∈c):aH l.xs<=b5 c:=by
 induction c with
 |nil=>cases h
 |cons x c ih=>
  rw[jd]
  rcases List.mem_cons.1 h with rfl|h
  ·omega
  ·have:=ih h;omega
def kY (c:List Lt):List Int:=if bl 4 9 2 3 c≠0 then[]else dw c 0 c
theorem RX (c:List Lt) (hc:cG c):aI Tryz.prog 26 [aJ c] (.aD [.im (.sl 1 (cL (kY c))),Iv (bl 4 9 2 3 c)]):=by
 refine aI.told (r:= .aD [if bl 4 9 2 3 c≠0 then dm else .im (.sl 1 (cL (kY c))),Iv (bl 4 9 2 3 c)]) ?_ (by
  split
  ·rename_i h
   rw[kY,if_pos h]
   exact(show bX (.aD [dm,Iv (bl 4 9 2 3 c)]) (.aD [.im (.sl 1 (cL [])),Iv (bl 4 9 2 3 c)]) from bX.aD (bO.lj (bX.im (da.nil 1)) (bO.refl _)))
  ·exact bX.refl _)
 refine ak.walk [0,2,3,4,5,6,7,8,12,14,15,16,17,24] [5,8] Tryz.func26 rfl Tryz.ntmps26 (by kernel_rfl) (by rfl) rfl fun W own I0 ax lay=>?_
 refine gO ?_
 refine AQ.fn (by kernel_rfl) rfl rfl rfl (nR c hc) rfl ?_
 refine sI ?_
 refine gO ?_
 refine AP.cond rfl rfl (fun h=>?_) (fun h=>?_)
 ·have h:bl 4 9 2 3 c≠0:=by simpa using h
  rw[if_pos h]
  refine gO ?_
  exact AE.ay rfl ⟨rfl,rfl,trivial⟩ rfl ⟨rfl,rfl⟩
 have h:bl 4 9 2 3 c=0:=by simpa using h
 have hk:=kz h
 have sJ:kY c=dw c 0 c:=by rw[kY,h,if_neg (by omega)]
 rw[h,if_neg (by omega),sJ]
 have a7:∀l∈c,gA l/\aH l.xs<=4000:=fun l hl=>⟨hc.2 l hl,by have:=xc hl;have:=hk.1;have:=hk.2.1;omega⟩
 refine gO ?_
 refine AP.fix 0 rfl rfl ?_
 refine sI ?_
 refine gO ?_
 refine AP.own 6 3 1 rfl ?_
 refine sI ?_
 refine AP.loop rfl (α:=Nat) (fun k=>[(0,aJ c),(5,.im (.pt [.fn 99 [] []])),(6,.os 0 1 0 (dw c 0 (c.take k)).length),(14,aJ c),(15,Iv c.length),(16,Iv k)]) (fun k=>[(0,.vec 3 1 (cL (dw c 0 (c.take k))))]) (fun k=>k<=c.length) (fun k=>c.length-k) 0 (by omega) (by rw[ae];exact(sU)) rfl fun k hk=>?_
 rcases Nat.eq_or_lt_of_le hk with aG|ah
 ·subst aG
  rw[List.take_length]
  refine gE @ae ?_
  refine cF ?_
  refine gO ?_
  have sD:=th c c 0
  refine AE.freeze 0 (el:=3) (es:=1) (rows:=cL (dw c 0 c)) rfl (by simp only[go_sem,Nat.reduceAdd,Nat.reduceLeDiff,Nat.reduceSub,Int.reduceToNat,reduceCtorEq,cj];first|done|trivial|omega|(simp;done)|(simp;omega)) (by simp only[go_sem,Nat.reduceAdd,Nat.reduceLeDiff,Nat.reduceSub,Int.reduceToNat,reduceCtorEq,cj];first|done|trivial|omega|(simp;done)|(simp;omega)) ?_;simp only[go_sem,Nat.reduceAdd,Nat.reduceLeDiff,Nat.reduceSub,Int.reduceToNat,reduceCtorEq,cj]
  rw[C2 _ _ (Nat.le_refl _)]
  exact AE.ay rfl ⟨rfl,rfl,trivial⟩ rfl ⟨rfl,rfl⟩
 ·obtain⟨u,hu,aj⟩:=dI c k ah
  have hw:=wr (x:=(k:Int)+1) (by omega)
  obtain⟨kP,vB⟩:=a7 u (List.mem_of_getElem? hu)
  have ha:=MI c 100 (.pt [.fn 99 [] []]) (kW u) (fun y=>decide (gL (dZ u) (dZ y)=-1)) hc.1 fun y hy=>Rw u y kP (a7 y hy).1 vB (a7 y hy).2
  have aS:=Jf c hu
  have sD:=th c (c.take k) 0
  rw[List.length_take]at sD
  refine gO ?_
  refine cT ?_
  refine gE (an @aj @ae) ?_
  refine AQ.fix 1 rfl rfl ?_
  refine sI ?_
  refine AQ.fn (by kernel_rfl) rfl rfl rfl (ha) rfl ?_
  refine sI ?_
  refine gO ?_
  refine AP.cond rfl rfl (fun h5=>?_) (fun h5=>?_)
  ·have qP:ti c u=true:=h5
   rw[qP,if_pos rfl]at aS
   refine gO ?_
   refine AQ.append (hnb:=rfl) (rows:=cL (dw c 0 (c.take k))) (es:=0) (by kernel_rfl) rfl rfl rfl (by rfl) Tryz.Ai Tryz.Ae (by show Option.map _ (aC Tryz.prog 3)=_;rw[Tryz.Az];rfl) Tryz.x7 (by first|rfl|(simp only[cj,List.length_cons,List.length_nil];done)|(simp only[cj,List.length_cons,List.length_nil];omega)) (by simp only[cj,List.length_cons,List.length_nil];omega) (by simp only[cj,List.length_cons,List.length_nil];omega) ?_
   simp only[go_sem,Nat.reduceAdd,Nat.reduceLeDiff,Nat.reduceSub,Int.reduceToNat,reduceCtorEq,sX,sY,cj,<-aS]
   have fx:(dw c 0 (c.take k)).length+1=(dw c 0 (c.take (k+1))).length:=by rw[aS];simp
   refine gE (an @hw @fx) ?_
   exact AE.round (k+1) (by omega) (by omega) (sU) rfl
  ·have qP:ti c u=false:=h5
   rw[qP,if_neg (by simp),List.append_nil]at aS
   refine gE @hw ?_
   exact AE.round (k+1) (by omega) (by omega) (by rw[aS];exact(sU)) (by rw[aS])
theorem JS {l:Lt} (h:cu l=true):okW (dZ l):=by
 rw[cu]at h
 by_cases hp:l.pd=[61]
 ·rw[if_pos hp,Bool.and_eq_true]at h
  exact⟨h.2,fun e=>by rw[show(dZ l).nm=l.pd from rfl,hp]at e;cases e⟩
 ·rw[if_neg hp,Bool.and_eq_true]at h
  exact⟨h.2,fun e=>by rw[show(dZ l).nm=l.pd from rfl]at e;rw[e]at h;exact absurd h.1 (by decide)⟩
theorem RW (c:List Lt) (hc:cG c):aI Tryz.prog 27 [aJ c] (.aD [.im (.sl 1 (cL (kY c))),Iv (bl 4 9 2 3 c)]):=by
 refine aI.told (r:= .aD [if bl 4 9 2 3 c≠0 then dm else .im (.sl 1 (cL (kY c))),Iv (bl 4 9 2 3 c)]) ?_ (by
  split
  ·rename_i h
   rw[kY,if_pos h]
   exact(show bX (.aD [dm,Iv (bl 4 9 2 3 c)]) (.aD [.im (.sl 1 (cL [])),Iv (bl 4 9 2 3 c)]) from bX.aD (bO.lj (bX.im (da.nil 1)) (bO.refl _)))
  ·exact bX.refl _)
 refine ak.walk [0,2,3,4,5,6,7,8,12,18,24,55] [] Tryz.func27 rfl Tryz.ntmps27 (by kernel_rfl) (by rfl) rfl fun W own I0 ax lay=>?_
 refine gO ?_
 refine AQ.fn (by kernel_rfl) rfl rfl rfl (pb c hc) rfl ?_
 refine sI ?_
 refine gO ?_
 refine AP.cond rfl rfl (fun h=>?_) (fun h=>?_)
 ·have h:bl 4 9 2 3 c≠0:=by simpa using h
  rw[if_pos h]
  refine gO ?_
  exact AE.ay rfl ⟨rfl,rfl,trivial⟩ rfl ⟨rfl,rfl⟩
 have h:bl 4 9 2 3 c=0:=by simpa using h
 have bD:=kz h
 have sJ:kY c=dw c 0 c:=by rw[kY,h,if_neg (by omega)]
 rw[h,if_neg (by omega),sJ]
 have a7:∀l∈c,gA l/\aH l.xs<=4000:=fun l hl=>⟨hc.2 l hl,by have:=xc hl;have:=bD.1;have:=bD.2.1;omega⟩
 refine gO ?_
 refine AP.loop rfl (α:=Nat) (fun k=>[(0,aJ c),(5,.os 0 1 0 (dw c 0 (c.take k)).length),(6,Iv k)]) (fun k=>[(0,.vec 3 1 (cL (dw c 0 (c.take k))))]) (fun k=>k<=c.length) (fun k=>c.length-k) 0 (by omega) (sU) rfl fun k hk=>?_
 rcases Nat.eq_or_lt_of_le hk with aG|ah
 ·subst aG
  rw[List.take_length]
  refine gE @ae ?_
  refine cF ?_
  refine gO ?_
  have sD:=th c c 0
  refine AE.freeze 0 (el:=3) (es:=1) (rows:=cL (dw c 0 c)) rfl (by simp only[go_sem,Nat.reduceAdd,Nat.reduceLeDiff,Nat.reduceSub,Int.reduceToNat,reduceCtorEq,cj];first|done|trivial|omega|(simp;done)|(simp;omega)) (by simp only[go_sem,Nat.reduceAdd,Nat.reduceLeDiff,Nat.reduceSub,Int.reduceToNat,reduceCtorEq,cj];first|done|trivial|omega|(simp;done)|(simp;omega)) ?_;simp only[go_sem,Nat.reduceAdd,Nat.reduceLeDiff,Nat.reduceSub,Int.reduceToNat,reduceCtorEq,cj]
  rw[C2 _ _ (Nat.le_refl _)]
  exact AE.ay rfl ⟨rfl,rfl,trivial⟩ rfl ⟨rfl,rfl⟩
 ·obtain⟨u,hu,aj⟩:=dI c k ah
  have hw:=wr (x:=(k:Int)+1) (by omega)
  obtain⟨kP,vB⟩:=a7 u (List.mem_of_getElem? hu)
  have aS:=Jf c hu
  have sD:=th c (c.take k) 0
  rw[List.length_take]at sD
  refine gE @ae ?_
  refine cT ?_
  refine gO ?_
  refine AP.loop rfl (α:=Nat) (fun j=>[(0,aJ c),(5,.os 0 1 0 (dw c 0 (c.take k)).length),(6,Iv k),(7,Bv ((c.take j).any fun y=>decide (gL (dZ u) (dZ y)=-1))),(8,Iv j)]) (fun _=>[(0,.vec 3 1 (cL (dw c 0 (c.take k))))]) (fun j=>j<=c.length) (fun j=>c.length-j) 0 (by omega) (sU) rfl fun j hj=>?_
  rcases Nat.eq_or_lt_of_le hj with cY|pI
  ·subst cY
   rw[List.take_length]
   refine gE @ae ?_
   refine cF ?_
   refine gO ?_
   refine AP.cond rfl rfl (fun h5=>?_) (fun h5=>?_)
   ·have qP:ti c u=true:=h5
    rw[qP,if_pos rfl]at aS
    refine gO ?_
    refine AQ.append (hnb:=rfl) (rows:=cL (dw c 0 (c.take k))) (es:=0) (by kernel_rfl) rfl rfl rfl (by rfl) Tryz.Ai Tryz.Ae (by show Option.map _ (aC Tryz.prog 3)=_;rw[Tryz.Az];rfl) Tryz.x7 (by first|rfl|(simp only[cj,List.length_cons,List.length_nil];done)|(simp only[cj,List.length_cons,List.length_nil];omega)) (by simp only[cj,List.length_cons,List.length_nil];omega) (by simp only[cj,List.length_cons,List.length_nil];omega) ?_
    simp only[go_sem,Nat.reduceAdd,Nat.reduceLeDiff,Nat.reduceSub,Int.reduceToNat,reduceCtorEq,sX,sY,cj,<-aS]
    have fx:(dw c 0 (c.take k)).length+1=(dw c 0 (c.take (k+1))).length:=by rw[aS];simp
    refine gE (an @hw @fx) ?_
    exact AE.round (k+1) (by omega) (by omega) (sU) rfl
   ·have qP:ti c u=false:=h5
    rw[qP,if_neg (by simp),List.append_nil]at aS
    refine gE @hw ?_
    exact AE.round (k+1) (by omega) (by omega) (by rw[aS];exact(sU)) (by rw[aS])
  ·obtain⟨y,hy,cg⟩:=dI c j pI
   have lK:=wr (x:=(j:Int)+1) (by omega)
   obtain⟨QZ,WO⟩:=a7 y (List.mem_of_getElem? hy)
   have Hh:=NM (dZ u) (dZ y) (x2 kP) (x2 QZ) (JS (bD.2.2.2 u (List.mem_of_getElem? hu))) (JS (bD.2.2.2 y (List.mem_of_getElem? hy))) (by rw[x3];omega) (by rw[x3];omega)
   have iq:(c.take (j+1)).any (fun y=>decide (gL (dZ u) (dZ y)=-1))=((c.take j).any (fun y=>decide (gL (dZ u) (dZ y)=-1))||decide (gL (dZ u) (dZ y)=-1)):=by rw[cK hy,List.any_append];simp
   obtain⟨b,hb⟩:∃b,(c.take j).any (fun y=>decide (gL (dZ u) (dZ y)=-1))=b:=⟨_,rfl⟩
   rw[hb]at iq⊢
   refine gE @ae ?_
   refine cT ?_
   refine gO ?_
   cases b with
   |true=>
    rw[Bool.true_or]at iq
    refine AP.bC 27 (Tree.node [] [0,1,2,3,4,5,6,7,8,9,10,11,12,13,14,15,16,17,18,19,20,21,22,23] [24] [Tree.node [] [25,26] [] []]) (by kernel_rfl) rfl (by kernel_rfl) (by kernel_rfl) ?_
    refine bA ?_
    refine sE (an @aj (an @cg @ae)) ?_
    refine⟨fun h=>h.elim,fun h=>h.elim,fun h=>h.elim,fun h=>h.elim,?_⟩
    refine AQ.skip (by kernel_rfl) rfl ?_
    refine sI ?_
    refine AQ.nx rfl ?_
    refine sI ?_
    refine AQ.done ?_
    refine gE @lK ?_
    exact AE.round (j+1) (by omega) (by omega) (by rw[iq];exact(sU)) rfl
   |false=>
    rw[Bool.false_or]at iq
    refine AP.bC 27 (Tree.node [] [0,1,2,3,4,5,6,7,8,9,10,11,13,14,15,16,17,18,19,20,21,22] [12,23] [Tree.node [13,14,15,16,17,18,19,20,21,22] [] [23] [Tree.node [] [] [24] [Tree.node [] [25,26] [] []]],Tree.node [2,3,4,5,6,7,8,9,10,11] [] [12] [Tree.node [] [] [24] [Tree.node [] [25,26] [] []]]]) (by kernel_rfl) rfl (by kernel_rfl) (by kernel_rfl) ?_
    refine bA ?_
    refine sE (an @aj (an @cg @ae)) ?_
    refine⟨by omega,by omega,by omega,by omega,?_⟩
    refine And.intro ?_ ?_
    ·refine AQ.fI (by simp only[go_sem]) ?_
     refine AQ.o3 (by kernel_rfl) rfl ?_
     refine sI ?_
     refine AQ.nx rfl ?_
     refine sI ?_
     refine⟨⟨⟨⟨by omega,by rw[ae];omega⟩,by rw[cg]⟩,⟨by omega,by rw[ae];omega⟩,by rw[cg]⟩,?_⟩
     refine AQ.fI (by simp only[go_sem]) ?_
     refine AQ.o3 (by kernel_rfl) rfl ?_
     refine sI ?_
     refine AQ.nx rfl ?_
     refine sI ?_
     refine AQ.fI (by simp only[go_sem]) ?_
     refine AQ.fn (by kernel_rfl) rfl rfl rfl (Hh) rfl ?_
     refine sI ?_
     refine AQ.nx rfl ?_
     refine sI ?_
     refine AQ.done ?_
     refine gE @lK ?_
     exact AE.round (j+1) (by omega) (by omega) (by rw[iq];exact(sU)) rfl
    ·refine AQ.fI (by simp only[go_sem]) ?_
     refine AQ.o3 (by kernel_rfl) rfl ?_
     refine sI ?_
     refine AQ.nx rfl ?_
     refine sI ?_
     refine⟨⟨⟨⟨by omega,by rw[ae];omega⟩,by rw[aj]⟩,⟨by omega,by rw[ae];omega⟩,by rw[aj]⟩,?_⟩
     refine AQ.fI (by simp only[go_sem]) ?_
     refine AQ.o3 (by kernel_rfl) rfl ?_
     refine sI ?_
     refine AQ.nx rfl ?_
     refine sI ?_
     refine AQ.fI (by simp only[go_sem]) ?_
     refine AQ.fn (by kernel_rfl) rfl rfl rfl (Hh) rfl ?_
     refine sI ?_
     refine AQ.nx rfl ?_
     refine sI ?_
     refine AQ.done ?_
     refine gE @lK ?_
     exact AE.round (j+1) (by omega) (by omega) (by rw[iq];exact(sU)) rfl
def tL (xs:List Tm):List Tm:=if xs.length=2 then[xs.getD 1 (bW 0),xs.getD 0 (bW 0)]else xs
def je (x y:Lt):Bool:=cy x (mE y)||(decide (x.pd=[61])&&decide (y.pd=[61])&&cy x (wQ (mE y)))
theorem Uk (xs:List Tm):aI Tryz.prog 207 [.im (.sl 3 (aw xs))] (.im (.sl 3 (aw (tL xs)))):=by
 refine ak.walk [0,2,5] [] Tryz.func207 rfl Tryz.ntmps207 (by kernel_rfl) (by rfl) rfl fun W own I0 ax lay=>?_
 refine gE @ai ?_
 refine AP.cond rfl rfl (fun h=>?_) (fun h=>?_)
 ·have h:¬xs.length=2:=fun e=>by rw[e]at h;simp at h
  refine gO ?_
  exact AE.ay rfl ⟨rfl,trivial⟩ rfl ⟨rfl,by rw[tL,if_neg h];rfl⟩
 ·have h:xs.length=2:=by simp at h;omega
  match xs,h with
  |[a,b],_=>
   obtain⟨u,hu,r0⟩:=cm [a,b] 0 (by simp)
   obtain⟨v,hv,r1⟩:=cm [a,b] 1 (by simp)
   cases hu
   cases hv
   refine gO ?_
   refine AP.bC 8 (Tree.node [] [0,1,2,3,4,5] [6] [Tree.node [] [7] [] []]) (by kernel_rfl) rfl (by kernel_rfl) (by kernel_rfl) ?_
   refine bA ?_
   simp only[go_sem,Nat.reduceAdd,Nat.reduceLeDiff,Nat.reduceSub,Int.reduceToNat,reduceCtorEq,r0,r1]
   refine⟨by rw[ai];exact⟨by omega,show(1:Int)<((2:Nat):Int) by omega⟩,by rw[ai];exact⟨by omega,show(0:Int)<((2:Nat):Int) by omega⟩,?_⟩
   refine AQ.go (by kernel_rfl) ?_
   refine sI ?_
   refine AQ.nx rfl ?_
   refine sI ?_
   refine AQ.done ?_
   refine gO ?_
   exact AE.ay rfl ⟨rfl,trivial⟩ rfl ⟨rfl,by rw[tL,if_pos (show[a,b].length=2 from rfl)];simp[dN,aw,lX,AV.st]⟩
theorem SP (x y:Lt) (hx:gA x) (hy:cu y=true):aI Tryz.prog 167 [fc x,fc y] (Bv (je x y)):=by
 have h1:=z7 x (mE y) hx
 refine ak.walk [0,1,2,3,4,11] [3] Tryz.func167 rfl Tryz.ntmps167 (by kernel_rfl) (by rfl) rfl fun W own I0 ax lay=>?_
 refine gO ?_
 refine AQ.fn (by kernel_rfl) rfl rfl rfl (h1) rfl ?_
 refine sI ?_
 refine gO ?_
 refine AP.cond rfl rfl (fun k1=>?_) (fun k1=>?_)
 ·refine gO ?_
  exact AE.aV [0] rfl ⟨rfl,trivial⟩ rfl ⟨rfl,by rw[je,k1,Bool.true_or];rfl⟩
 have k1:cy x (mE y)=false:=k1
 by_cases hp:x.pd=[61]
 ·have jv:(x.pd==[61])=true:=by simpa using hp
  have h2:=z7 x ⟨!y.ng,y.pd,tL y.xs⟩ hx
  refine gE @jv ?_
  have fy:je x y=cy x ⟨!y.ng,y.pd,tL y.xs⟩:=by
   rw[je,k1,Bool.false_or,decide_eq_true hp,Bool.true_and]
   rw[cu]at hy
   by_cases hq:y.pd=[61]
   ·rw[if_pos hq,Bool.and_eq_true,decide_eq_true_eq]at hy
    rw[decide_eq_true hq,Bool.true_and,tL,if_pos hy.1];rfl
   ·rw[decide_eq_false hq,Bool.false_and]
    symm
    rw[<-Bool.not_eq_true,z6]
    intro e
    have:=congrArg Lt.pd e
    exact hq (this.symm.trans hp)
  refine AP.bC 16 (Tree.node [] [0,1,2,3,4,5,6,7,8,9,10] [11] [Tree.node [4,5,6,7,8] [] [12] [Tree.node [4] [] [13] [Tree.node [] [14,15] [] []]]]) (by kernel_rfl) rfl (by kernel_rfl) (by kernel_rfl) ?_
  refine bA ?_
  refine sE @jv ?_
  refine AQ.fI (by simp only[go_sem]) ?_
  refine AQ.fn (by kernel_rfl) rfl rfl rfl (Uk y.xs) rfl ?_
  refine sI ?_
  refine AQ.nx rfl ?_
  refine sI ?_
  refine AQ.fI (by simp only[go_sem]) ?_
  refine AQ.o3 (by kernel_rfl) rfl ?_
  refine sI ?_
  refine AQ.nx rfl ?_
  refine sI ?_
  refine AQ.fI (by simp only[go_sem]) ?_
  refine AQ.fn (by kernel_rfl) rfl rfl rfl (h2) rfl ?_
  refine sI ?_
  refine AQ.nx rfl ?_
  refine sI ?_
  refine AQ.done ?_
  refine gO ?_
  exact AE.aV [0] rfl ⟨rfl,trivial⟩ rfl ⟨rfl,by rw[fy];rfl⟩
 ·have jv:(x.pd==[61])=false:=by simpa using hp
  refine gE @jv ?_
  refine AP.bC 16 (Tree.node [] [0,1,2,3,4,5,6,7,8,9,10] [11] [Tree.node [4,5,6,7,8] [12] [13] [Tree.node [] [14,15] [] []]]) (by kernel_rfl) rfl (by kernel_rfl) (by kernel_rfl) ?_
  refine bA ?_
  refine sE @jv ?_
  have fy:je x y=false:=by rw[je,k1,Bool.false_or,decide_eq_false hp,Bool.false_and,Bool.false_and]
  refine AQ.skip (by kernel_rfl) rfl ?_
  refine sI ?_
  refine AQ.nx rfl ?_
  refine sI ?_
  refine AQ.skip (by kernel_rfl) rfl ?_
  refine sI ?_
  refine AQ.nx rfl ?_
  refine sI ?_
  refine AQ.done ?_
  refine gO ?_
  exact AE.aV [0] rfl ⟨rfl,trivial⟩ rfl ⟨rfl,by rw[fy];rfl⟩
def iG (x:Lt):Bool:=decide (x.pd=[61])&&!x.ng&&cS (x.xs.getD 0 (bW 0)) (x.xs.getD 1 (bW 0))
theorem Lc (p:List Lt) (x:Lt):Lb p x=(iG x||p.any fun y=>je x y):=rfl
theorem yo {x:Lt} (h:cu x=true) (hp:x.pd=[61]):∃a b,x.xs=[a,b]:=by
 rw[cu,if_pos hp,Bool.and_eq_true,decide_eq_true_eq]at h
 obtain⟨ng,pd,xs⟩:=x
 match xs,h.1 with
 |[a,b],_=>exact⟨a,b,rfl⟩
theorem Uh (c:List Lt) (hc:cG c) (al:∀l∈c,cu l=true):aI Tryz.prog 98 [aJ c] (Bv (jj [] c)):=by
 have se:=hc.1
 refine ak.walk [0,2,3,4,8,41,44,55] [] Tryz.func98 rfl Tryz.ntmps98 (by kernel_rfl) (by rfl) rfl fun W own I0 ax lay=>?_
 refine gO ?_
 refine AP.loop rfl (α:=Nat) (fun k=>[(0,aJ c),(3,Iv k)]) (fun _=>[]) (fun k=>k<=c.length/\jj [] c=jj (c.take k) (c.drop k)) (fun k=>c.length-k) 0 ⟨by omega,by simp⟩ (sU) rfl fun k ⟨hk,hm⟩=>?_
 rcases Nat.eq_or_lt_of_le hk with aG|ah
 ·rw[aG,List.drop_length,jj]at hm
  refine gE @ae ?_
  refine cF ?_
  refine gO ?_
  exact AE.ay rfl ⟨rfl,trivial⟩ rfl ⟨rfl,by rw[hm];rfl⟩
 ·obtain⟨u,hu,aj⟩:=dI c k ah
  have kP:=hc.2 u (List.mem_of_getElem? hu)
  have my:=al u (List.mem_of_getElem? hu)
  have hw:=wr (x:=(k:Int)+1) (by omega)
  rw[drop_cons hu,jj,Lc,<-cK hu]at hm
  refine gE @ae ?_
  refine cT ?_
  refine gO ?_
  refine AP.cut (α:=Unit) (fun _=>[(0,aJ c),(3,Iv k),(41,Bv (iG u))]) (fun _=>[]) (fun _=>True) ?_ fun _ _=>?_
  ·by_cases hp:u.pd=[61]
   ·have jv:(u.pd==[61])=true:=by simpa using hp
    cases e6:u.ng with
    |true=>
     have he:iG u=false:=by rw[iG,e6];simp
     refine AP.bC 31 (Tree.node [] [0,1,2,3,4,5,6,7,8,9,10,11,12,13,14,15,16,17,18,19,20,21,22,23,24,25,26,27,28] [29] [Tree.node [] [30] [] []]) (by kernel_rfl) rfl (by kernel_rfl) (by kernel_rfl) ?_
     refine bA ?_
     refine sE (an @aj (an @jv (an @e6 @ae))) ?_
     repeat(with_reducible refine And.intro (by first|exact fun h=>h.elim|omega) ?_)
     refine AQ.skip (by kernel_rfl) rfl ?_
     refine sI ?_
     refine AQ.nx rfl ?_
     refine sI ?_
     refine AQ.done ?_
     exact AE.meet () trivial (by rw[he];exact(sU)) rfl
    |false=>
     obtain⟨a,b,fJ⟩:=yo my hp
     have he:iG u=cS a b:=by rw[iG,e6,hp,fJ];simp
     have n6:=kP.2.2
     rw[fJ,cf,cf]at n6
     obtain⟨_,lH,r0⟩:=cm [a,b] 0 (by simp)
     obtain⟨_,kd,r1⟩:=cm [a,b] 1 (by simp)
     cases lH
     cases kd
     have fx:(aw [a,b]).length=2:=by rw[ai];rfl
     have BV:=wJ a b n6.1
     refine AP.bC 31 (Tree.node [] [0,1,2,3,4,5,6,7,8,9,10,11,12,13,14,15,16,17,18,19,20,21,22,23,24,25,26,27,28] [29] [Tree.node [] [30] [] []]) (by kernel_rfl) rfl (by kernel_rfl) (by kernel_rfl) ?_
     refine bA ?_
     simp only[go_sem,Nat.reduceAdd,Nat.reduceLeDiff,Nat.reduceSub,Int.reduceToNat,reduceCtorEq,aj,jv,e6,fJ,r0,r1,fx,ae]
     repeat(with_reducible refine And.intro (by first|exact fun h=>h.elim|omega) ?_)
     refine AQ.fI (by simp only[go_sem]) ?_
     refine AQ.fn (by kernel_rfl) rfl rfl rfl (BV) rfl ?_
     refine sI ?_
     refine AQ.nx rfl ?_
     refine sI ?_
     refine AQ.done ?_
     exact AE.meet () trivial (by rw[he];exact(sU)) rfl
   ·have jv:(u.pd==[61])=false:=by simpa using hp
    have he:iG u=false:=by rw[iG,decide_eq_false hp];rfl
    refine AP.bC 31 (Tree.node [] [0,1,2,3,4,5,6,7,8,9,10,11,12,13,14,15,16,17,18,19,20,21,22,23,24,25,26,27,28] [29] [Tree.node [] [30] [] []]) (by kernel_rfl) rfl (by kernel_rfl) (by kernel_rfl) ?_
    refine bA ?_
    refine sE (an @aj (an @jv @ae)) ?_
    repeat(with_reducible refine And.intro (by first|exact fun h=>h.elim|omega) ?_)
    refine AQ.skip (by kernel_rfl) rfl ?_
    refine sI ?_
    refine AQ.nx rfl ?_
    refine sI ?_
    refine AQ.done ?_
    exact AE.meet () trivial (by rw[he];exact(sU)) rfl
  ·refine gO ?_
   refine AP.cond rfl rfl (fun h1=>?_) (fun h1=>?_)
   ·refine gO ?_
    exact AE.ay rfl ⟨rfl,trivial⟩ rfl ⟨rfl,by rw[hm,h1,Bool.true_or,Bool.true_or];rfl⟩
   have h1:iG u=false:=h1
   rw[h1,Bool.false_or]at hm
   refine gO ?_
   refine AP.loop rfl (α:=Nat) (fun j=>[(0,aJ c),(3,Iv k),(4,Iv j)]) (fun _=>[]) (fun j=>j<=k/\jj [] c=(((c.take k).drop j).any (fun y=>je u y)||jj (c.take (k+1)) (c.drop (k+1)))) (fun j=>k-j) 0 ⟨by omega,hm⟩ (sU) rfl fun j ⟨hj,hm⟩=>?_
   have ef:(c.take k).length=k:=by rw[List.length_take];omega
   rcases Nat.eq_or_lt_of_le hj with cY|pI
   ·subst cY
    have:(c.take j).drop j=[]:=List.drop_eq_nil_of_le (by omega)
    rw[this,List.any_nil,Bool.false_or]at hm
    refine gO ?_
    refine cF ?_
    refine gE @hw ?_
    exact AE.round (j+1) ⟨by omega,hm⟩ (by omega) (sU) rfl
   ·obtain⟨y,hy,cg⟩:=dI c j (by omega)
    have lM:(c.take k)[j]?=some y:=by rw[List.getElem?_take,if_pos pI];exact hy
    have lK:=wr (x:=(j:Int)+1) (by omega)
    rw[drop_cons lM,List.any_cons]at hm
    have fy:=SP u y kP (al y (List.mem_of_getElem? hy))
    refine gO ?_
    refine cT ?_
    refine gO ?_
    refine AP.bC 9 (Tree.node [] [0,1,2,3,4,5,6,7] [8] [Tree.node [] [] [] []]) (by kernel_rfl) rfl (by kernel_rfl) (by kernel_rfl) ?_
    refine bA ?_
    refine sE (an @aj (an @cg @ae)) ?_
    refine⟨by omega,by omega,?_⟩
    refine AQ.fn (by kernel_rfl) rfl rfl rfl (fy) rfl ?_
    refine sI ?_
    refine AQ.nx rfl ?_
    refine sI ?_
    refine AQ.done ?_
    refine gO ?_
    refine AP.cond rfl rfl (fun h2=>?_) (fun h2=>?_)
    ·refine gO ?_
     exact AE.ay rfl ⟨rfl,trivial⟩ rfl ⟨rfl,by rw[hm,h2];rfl⟩
    ·have h2:je u y=false:=h2
     rw[h2,Bool.false_or]at hm
     refine gE @lK ?_
     exact AE.round (j+1) ⟨by omega,hm⟩ (by omega) (sU) rfl
def rF (c:List Lt):Bool:=decide (bl 4 9 2 3 c=0)&&jj [] c
theorem T5 (c:List Lt) (hc:cG c):aI Tryz.prog 25 [aJ c] (.aD [Bv (rF c),Iv (bl 4 9 2 3 c)]):=by
 refine ak.walk [0,2,3,4,8] [] Tryz.func25 rfl Tryz.ntmps25 (by kernel_rfl) (by rfl) rfl fun W own I0 ax lay=>?_
 refine gO ?_
 refine AQ.fn (by kernel_rfl) rfl rfl rfl (pb c hc) rfl ?_
 refine sI ?_
 refine gO ?_
 refine AP.cond rfl rfl (fun h=>?_) (fun h=>?_)
 ·have h:bl 4 9 2 3 c≠0:=by simpa using h
  refine gO ?_
  exact AE.ay rfl ⟨rfl,rfl,trivial⟩ rfl ⟨rfl,by rw[rF,decide_eq_false h];rfl⟩
 ·have h:bl 4 9 2 3 c=0:=by simpa using h
  have ht:=Uh c hc (kz h).2.2.2
  refine gO ?_
  refine AQ.fn (by kernel_rfl) rfl rfl rfl (ht) rfl ?_
  refine sI ?_
  refine gO ?_
  exact AE.ay rfl ⟨rfl,rfl,trivial⟩ rfl ⟨rfl,by rw[rF,h];simp[dN,AV.st]⟩
theorem T6 (c:List Lt) (hc:cG c):aI Tryz.prog 24 [aJ c] (.aD [Bv (rF c),Iv (bl 4 9 2 3 c)]):=by
 have se:=hc.1
 refine ak.walk [0,2,3,4,5,6,8,12,14,15,16,17,39,42,43,44,45,54,62,75] [6,8] Tryz.func24 rfl Tryz.ntmps24 (by kernel_rfl) (by rfl) rfl fun W own I0 ax lay=>?_
 refine gO ?_
 refine AQ.fn (by kernel_rfl) rfl rfl rfl (nR c hc) rfl ?_
 refine sI ?_
 refine gO ?_
 refine AP.cond rfl rfl (fun h=>?_) (fun h=>?_)
 ·have h:bl 4 9 2 3 c≠0:=by simpa using h
  refine gO ?_
  exact AE.ay rfl ⟨rfl,rfl,trivial⟩ rfl ⟨rfl,by rw[rF,decide_eq_false h];rfl⟩
 have h:bl 4 9 2 3 c=0:=by simpa using h
 have al:=(kz h).2.2.2
 have iq:rF c=jj [] c:=by rw[rF,h];simp
 rw[h,iq]
 refine gE @ae ?_
 refine AP.loop rfl (α:=Nat) (fun k=>[(0,aJ c),(14,aJ c),(15,Iv c.length),(16,Iv k)]) (fun _=>[]) (fun k=>k<=c.length/\jj [] c=jj (c.take k) (c.drop k)) (fun k=>c.length-k) 0 ⟨by omega,by simp⟩ (sU) rfl fun k ⟨hk,hm⟩=>?_
 rcases Nat.eq_or_lt_of_le hk with aG|ah
 ·rw[aG,List.drop_length,jj]at hm
  refine gE @ae ?_
  refine cF ?_
  refine gO ?_
  exact AE.ay rfl ⟨rfl,rfl,trivial⟩ rfl ⟨rfl,by rw[hm];rfl⟩
 ·obtain⟨u,hu,aj⟩:=dI c k ah
  have kP:=hc.2 u (List.mem_of_getElem? hu)
  have my:=al u (List.mem_of_getElem? hu)
  have hw:=wr (x:=(k:Int)+1) (by omega)
  rw[drop_cons hu,jj,Lc,<-cK hu]at hm
  have kc:(aF c).take k=aF (c.take k):=by rw[aF,aF,List.map_take]
  refine gE @ae ?_
  refine cT ?_
  refine gE (an @aj @ae) ?_
  refine AP.fix 0 rfl rfl ?_
  refine sI ?_
  refine AP.cut (α:=Unit) (fun _=>[(0,aJ c),(5,Iv k),(6,.im (kW u)),(14,aJ c),(15,Iv c.length),(16,Iv k),(39,Bv (iG u))]) (fun _=>[]) (fun _=>True) ?_ fun _ _=>?_
  ·by_cases hp:u.pd=[61]
   ·have jv:(u.pd==[61])=true:=by simpa using hp
    cases e6:u.ng with
    |true=>
     have he:iG u=false:=by rw[iG,e6];simp
     refine AP.bC 19 (Tree.node [] [0,1,2,3,4,5,6,7,8,9,10,11,12,13,14,15,16] [17] [Tree.node [] [18] [] []]) (by kernel_rfl) rfl (by kernel_rfl) (by kernel_rfl) ?_
     refine bA ?_
     refine sE (an @jv @e6) ?_
     repeat(with_reducible refine And.intro (by first|exact fun h=>h.elim|omega) ?_)
     refine AQ.skip (by kernel_rfl) rfl ?_
     refine sI ?_
     refine AQ.nx rfl ?_
     refine sI ?_
     refine AQ.done ?_
     exact AE.meet () trivial (by rw[he,show kW u= .pt [Bi true,Si u.pd,.sl 3 (aw u.xs)] by rw[<-e6]];exact(sU)) rfl
    |false=>
     obtain⟨a,b,fJ⟩:=yo my hp
     have he:iG u=cS a b:=by rw[iG,e6,hp,fJ];simp
     have n6:=kP.2.2
     rw[fJ,cf,cf]at n6
     obtain⟨_,lH,r0⟩:=cm [a,b] 0 (by simp)
     obtain⟨_,kd,r1⟩:=cm [a,b] 1 (by simp)
     cases lH
     cases kd
     have fx:(aw [a,b]).length=2:=by rw[ai];rfl
     have BV:=uH a b n6.1
     refine AP.bC 19 (Tree.node [] [0,1,2,3,4,5,6,7,8,9,10,11,12,13,14,15,16] [17] [Tree.node [] [18] [] []]) (by kernel_rfl) rfl (by kernel_rfl) (by kernel_rfl) ?_
     refine bA ?_
     simp only[go_sem,Nat.reduceAdd,Nat.reduceLeDiff,Nat.reduceSub,Int.reduceToNat,reduceCtorEq,jv,e6,fJ,r0,r1,fx]
     repeat(with_reducible refine And.intro (by first|exact fun h=>h.elim|omega) ?_)
     refine AQ.fI (by simp only[go_sem]) ?_
     refine AQ.fn (by kernel_rfl) rfl rfl rfl (BV) rfl ?_
     refine sI ?_
     refine AQ.nx rfl ?_
     refine sI ?_
     refine AQ.done ?_
     exact AE.meet () trivial (by rw[he,show kW u= .pt [Bi false,Si u.pd,.sl 3 (aw [a,b])] by rw[<-e6,<-fJ]];exact(sU)) rfl
   ·have jv:(u.pd==[61])=false:=by simpa using hp
    have he:iG u=false:=by rw[iG,decide_eq_false hp];rfl
    refine AP.bC 19 (Tree.node [] [0,1,2,3,4,5,6,7,8,9,10,11,12,13,14,15,16] [17] [Tree.node [] [18] [] []]) (by kernel_rfl) rfl (by kernel_rfl) (by kernel_rfl) ?_
    refine bA ?_
    refine sE @jv ?_
    repeat(with_reducible refine And.intro (by first|exact fun h=>h.elim|omega) ?_)
    refine AQ.skip (by kernel_rfl) rfl ?_
    refine sI ?_
    refine AQ.nx rfl ?_
    refine sI ?_
    refine AQ.done ?_
    exact AE.meet () trivial (by rw[he];exact(sU)) rfl
  ·refine gO ?_
   refine AP.cond rfl rfl (fun h1=>?_) (fun h1=>?_)
   ·refine gO ?_
    exact AE.ay rfl ⟨rfl,rfl,trivial⟩ rfl ⟨rfl,by rw[hm,h1,Bool.true_or,Bool.true_or];rfl⟩
   have h1:iG u=false:=h1
   rw[h1,Bool.false_or]at hm
   have ef:(c.take k).length=k:=by rw[List.length_take];omega
   refine gE (an @ae @kc) ?_
   rw[ef]
   refine AP.loop rfl (α:=Nat) (fun j=>[(0,aJ c),(5,Iv k),(6,.im (kW u)),(14,aJ c),(15,Iv c.length),(16,Iv k),(42,aJ (c.take k)),(43,Iv k),(44,Iv j)]) (fun _=>[]) (fun j=>j<=k/\jj [] c=(((c.take k).drop j).any (fun y=>je u y)||jj (c.take (k+1)) (c.drop (k+1)))) (fun j=>k-j) 0 ⟨by omega,hm⟩ (sU) rfl fun j ⟨hj,hm⟩=>?_
   rcases Nat.eq_or_lt_of_le hj with cY|pI
   ·subst cY
    have:(c.take j).drop j=[]:=List.drop_eq_nil_of_le (by omega)
    rw[this,List.any_nil,Bool.false_or]at hm
    refine gO ?_
    refine cF ?_
    refine gE @hw ?_
    exact AE.round (j+1) ⟨by omega,hm⟩ (by omega) (sU) rfl
   ·obtain⟨y,lM,cg⟩:=dI (c.take k) j (by omega)
    have vK:y∈c:=List.mem_of_mem_take (List.mem_of_getElem? lM)
    have Q1:=al y vK
    have lK:=wr (x:=(j:Int)+1) (by omega)
    have gR:=D_ u (mE y) kP
    rw[drop_cons lM,List.any_cons]at hm
    refine gO ?_
    refine cT ?_
    refine gE (an @cg (an @ae @ef)) ?_
    refine AQ.fn (by kernel_rfl) rfl rfl rfl (gR) rfl ?_
    refine sI ?_
    refine gO ?_
    refine AP.cond rfl rfl (fun k1=>?_) (fun k1=>?_)
    ·refine gO ?_
     exact AE.aV [0] rfl ⟨rfl,rfl,trivial⟩ rfl ⟨rfl,by rw[hm,je,k1,Bool.true_or,Bool.true_or];rfl⟩
    have k1:cy u (mE y)=false:=k1
    refine gO ?_
    refine AP.cut (α:=Unit) (fun _=>[(0,aJ c),(5,Iv k),(6,.im (kW u)),(14,aJ c),(15,Iv c.length),(16,Iv k),(42,aJ (c.take k)),(43,Iv k),(44,Iv j)]) (fun _=>[]) (fun _=>je u y=false) ?_ fun _ ho=>?_
    ·refine AP.cond rfl rfl (fun k2=>?_) (fun k2=>?_)
     ·have k2:u.pd=[61]/\y.pd=[61]:=by simpa using k2
      obtain⟨a,b,fJ⟩:=yo Q1 k2.2
      obtain⟨_,lH,r0⟩:=cm [a,b] 0 (by simp)
      obtain⟨_,kd,r1⟩:=cm [a,b] 1 (by simp)
      cases lH
      cases kd
      have fx:(aw [a,b]).length=2:=by rw[ai];rfl
      have gS:=D_ u (wQ (mE y)) kP
      have mw:wQ (mE y)=⟨!y.ng,y.pd,[b,a]⟩:=by rw[wQ,mE,fJ];rfl
      have fy:je u y=cy u ⟨!y.ng,y.pd,[b,a]⟩:=by rw[je,k1,Bool.false_or,decide_eq_true k2.1,decide_eq_true k2.2,mw];rfl
      rw[mw]at gS
      rw[fJ]
      refine gO ?_
      refine AP.bC 11 (Tree.node [] [0,1,2,3,4,5,6,7] [8] [Tree.node [] [9] [10] [Tree.node [] [] [] []]]) (by kernel_rfl) rfl (by kernel_rfl) (by kernel_rfl) ?_
      refine bA ?_
      simp only[go_sem,Nat.reduceAdd,Nat.reduceLeDiff,Nat.reduceSub,Int.reduceToNat,reduceCtorEq,r0,r1,fx]
      repeat(with_reducible refine And.intro (by first|exact fun h=>h.elim|omega) ?_)
      refine AQ.go (by kernel_rfl) ?_
      refine sI ?_
      refine AQ.nx rfl ?_
      simp only[go_sem,Nat.reduceAdd,Nat.reduceLeDiff,Nat.reduceSub,Int.reduceToNat,reduceCtorEq,r0,r1,fx]
      repeat(with_reducible refine And.intro (by first|exact fun h=>h.elim|omega) ?_)
      refine AQ.go (by kernel_rfl) ?_
      refine sI ?_
      refine AQ.nx rfl ?_
      refine sI ?_
      refine AQ.done ?_
      refine gO ?_
      rw[show([[Si b.nm,Ii b.ix,.sl 3 (aw b.xs)],[Si a.nm,Ii a.ix,.sl 3 (aw a.xs)]]:List (List IV))=aw [b,a] by simp[aw,lX]]
      refine AQ.fn (by kernel_rfl) rfl rfl rfl (gS) rfl ?_
      refine sI ?_
      refine gO ?_
      refine AP.cond rfl rfl (fun k3=>?_) (fun k3=>?_)
      ·refine gO ?_
       exact AE.aV [0] rfl ⟨rfl,rfl,trivial⟩ rfl ⟨rfl,by rw[hm,fy,k3];rfl⟩
      ·have k3:cy u ⟨!y.ng,y.pd,[b,a]⟩=false:=k3
       refine gO ?_
       refine AE.ew [0] rfl ?_
       refine sI ?_
       exact AE.meet () (by rw[fy,k3]) (sU) rfl
     ·have k2:¬(u.pd=[61]/\y.pd=[61]):=by
       intro hc
       simp[hc.1,hc.2]at k2
      have fy:je u y=false:=by
       rw[je,k1,Bool.false_or]
       by_cases G2:u.pd=[61]
       ·rw[decide_eq_false (fun e=>k2 ⟨G2,e⟩)];simp
       ·rw[decide_eq_false G2];rfl
      refine gO ?_
      refine AE.ew [0] rfl ?_
      refine sI ?_
      exact AE.meet () fy (sU) rfl
    ·rw[ho,Bool.false_or]at hm
     refine gE @lK ?_
     exact AE.round (j+1) ⟨by omega,hm⟩ (by omega) (sU) rfl
theorem dec_lt {u:Nat} (h:u<10):Lib.decDigits u=[UInt8.ofNat (48+u)]:=by rw[Lib.decDigits,dif_pos h]
theorem FX {u:Nat} (h:¬u<10):Lib.decDigits u=Lib.decDigits (u/10)++[UInt8.ofNat (48+u%10)]:=by rw[Lib.decDigits,dif_neg h]
theorem zi (n:Nat):∀r∈[[IV.v (Value.int .u8 (n:Int))]],C6 r:=fun r hr=>⟨n,List.mem_singleton.1 hr⟩
theorem A2 (n:Nat):A3 [IV.v (Value.int .u8 (n:Int))]=UInt8.ofNat n:=rfl
theorem Gd (n:Nat) (hn:n<=1000000):aI Tryz.prog 200 [Iv n] (Sv (Lib.decDigits n)):=by
 refine ak.walk [0,2,4] [] Tryz.func200 rfl Tryz.ntmps200 (by kernel_rfl) (by rfl) rfl fun W own I0 ax lay=>?_
 refine gO ?_
 refine AP.cond rfl rfl (fun h=>?_) (fun h=>?_)
 ·have h:n<10:=by simp at h;omega
  have hw:IntKind.i64.wrap (48+(n:Int))=((48+n:Nat):Int):=by rw[wr (by omega)];omega
  have ni:IntKind.u8.wrap ((48+n:Nat):Int)=((48+n:Nat):Int):=by
   have:=Int.emod_eq_of_lt (a:=((48+n:Nat):Int)) (b:=256) (by omega) (by omega)
   exact this
  repeat(first|refine xA ?_|refine xB ?_|refine xC ?_|refine xE ?_|refine xD ?_|refine xK ?_|refine xS ?_|refine xM ?_|refine xT ?_|refine xF ?_|((first|refine xR ?_|refine xW ?_|refine fE ?_);simp only[go_sem,Nat.reduceAdd,Nat.reduceLeDiff,Nat.reduceSub,Int.reduceToNat,reduceCtorEq,hw,ni,Tryz.underlying230,Option.isSome_some])|(refine⟨by first|omega|(intros;simp_all;done)|(intros;simp_all;omega),?_⟩;try simp only[go_sem,Nat.reduceAdd,Nat.reduceLeDiff,Nat.reduceSub,Int.reduceToNat,reduceCtorEq,hw,ni,Tryz.underlying230,Option.isSome_some]))
  refine⟨zi (48+n),?_⟩
  rw[A2,<-dec_lt h]
  refine gO ?_
  exact AE.ay rfl ⟨rfl,trivial⟩ rfl ⟨rfl,rfl⟩
 ·have h:¬n<10:=by simp at h;omega
  have ih:=Gd (n/10) (by omega)
  have qM:=(yd (n/10)).2.2.2.1 7 (by omega) (by omega)
  have q1:IntKind.i64.wrap ((n:Int).tdiv 10)=((n/10:Nat):Int):=by
   rw[Int.tdiv_eq_ediv_of_nonneg (by omega),wr (by omega)];omega
  have q2:IntKind.i64.wrap (48+(n:Int).tmod 10)=((48+n%10:Nat):Int):=by
   rw[Int.tmod_eq_emod_of_nonneg (by omega),wr (by omega)];omega
  have ni:IntKind.u8.wrap ((48+n%10:Nat):Int)=((48+n%10:Nat):Int):=by
   have:=Int.emod_eq_of_lt (a:=((48+n%10:Nat):Int)) (b:=256) (by omega) (by omega)
   exact this
  refine gO ?_
  refine AP.bC 11 (Tree.node [] [0,1,3,4,5,6] [2,7] [Tree.node [3,4,5,6] [] [7] [Tree.node [] [8,9,10] [] []],Tree.node [0,1] [8] [2] [Tree.node [8] [9,10] [] []]]) (by kernel_rfl) rfl (by kernel_rfl) (by kernel_rfl) ?_
  refine bA ?_
  simp only[go_sem,Nat.reduceAdd,Nat.reduceLeDiff,Nat.reduceSub,Int.reduceToNat,reduceCtorEq,q1,q2,ni,Tryz.underlying230,Option.isSome_some]
  refine⟨by decide,by decide,?_,?_⟩
  ·refine AQ.fn (by kernel_rfl) rfl rfl rfl (ih) rfl ?_
   refine sI ?_
   refine AQ.nx rfl ?_
   simp only[go_sem,Nat.reduceAdd,Nat.reduceLeDiff,Nat.reduceSub,Int.reduceToNat,reduceCtorEq,q1,q2,ni,Tryz.underlying230,Option.isSome_some]
   refine⟨by decide,?_⟩
   refine AQ.go (by kernel_rfl) ?_
   refine sI ?_
   refine AQ.nx rfl ?_
   simp only[go_sem,Nat.reduceAdd,Nat.reduceLeDiff,Nat.reduceSub,Int.reduceToNat,reduceCtorEq,q1,q2,ni,Tryz.underlying230,Option.isSome_some]
   refine⟨zi (48+n%10),by omega,?_⟩
   refine AQ.done ?_
   refine gO ?_
   exact AE.ay rfl ⟨rfl,trivial⟩ rfl ⟨rfl,by rw[A2,FX h];rfl⟩
  ·refine AQ.go (by kernel_rfl) ?_
   refine sI ?_
   refine AQ.nx rfl ?_
   simp only[go_sem,Nat.reduceAdd,Nat.reduceLeDiff,Nat.reduceSub,Int.reduceToNat,reduceCtorEq,q1,q2,ni,Tryz.underlying230,Option.isSome_some]
   refine⟨by decide,zi (48+n%10),?_⟩
   refine AQ.fn (by kernel_rfl) rfl rfl rfl (ih) rfl ?_
   refine sI ?_
   refine AQ.nx rfl ?_
   simp only[go_sem,Nat.reduceAdd,Nat.reduceLeDiff,Nat.reduceSub,Int.reduceToNat,reduceCtorEq,q1,q2,ni,Tryz.underlying230,Option.isSome_some]
   refine⟨zi (48+n%10),by omega,?_⟩
   refine AQ.done ?_
   refine gO ?_
   exact AE.ay rfl ⟨rfl,trivial⟩ rfl ⟨rfl,by rw[A2,FX h];rfl⟩
termination_by n
decreasing_by omega
theorem Fk (sh:Bool) (l:List Tm) (hl:l.length<=1000000000) (ho:bL l=true) (hw:aH l<=1000000) (hc:∀(k:Nat) (u:Tm),l[k]?=some u->aI Tryz.prog 155 [bq u,Bv sh] (Sv (dn sh u))):aI Tryz.prog 156 [.im (.sl 3 (aw l)),Bv sh] (Sv (eU sh l)):=by
 have hlen:=w6 sh l ho
 refine ak.walk [0,1,4,5,6,9,13,17] [] Tryz.func156 rfl Tryz.ntmps156 (by kernel_rfl) (by rfl) rfl fun W own I0 ax lay=>?_
 refine gE @ai ?_
 refine AP.cond rfl rfl (fun h=>?_) (fun h=>?_)
 ·have h:l=[]:=by simpa using h
  subst h
  refine gO ?_
  exact AE.ay rfl ⟨rfl,trivial⟩ rfl ⟨rfl,by rw[eU];rfl⟩
 have h:l≠[]:=fun e=>by subst e;simp at h
 have hD:=Eu sh h
 rw[hD,List.length_append]at hlen
 have ec:([41]:List UInt8).length=1:=rfl
 refine gO ?_
 refine AP.loop rfl (α:=Nat) (fun k=>[(0,.im (.sl 3 (aw l))),(1,Bv sh),(5,Sv (if k=0 then[40]else fe sh (l.take k))),(6,Iv k)]) (fun _=>[]) (fun k=>k<=l.length) (fun k=>l.length-k) 0 (by omega) (sU) rfl fun k hk=>?_
 have qM:=Lj sh l k
 rcases Nat.eq_or_lt_of_le hk with aG|ah
 ·have dE:k≠0:=fun e=>h (List.eq_nil_of_length_eq_zero (by omega))
  rw[if_neg dE,aG,List.take_length]
  refine gE @ai ?_
  refine cF ?_
  refine gO ?_
  exact AE.ay rfl ⟨rfl,trivial⟩ rfl ⟨rfl,by rw[hD];rfl⟩
 ·obtain⟨u,hu,aj⟩:=cm l k ah
  have a8:=wr (x:=(k:Int)+1) (by omega)
  have aS:=Lk sh hu
  have bM:=rI sh u (rm ho hu)
  have vB:=qh l u (List.mem_of_getElem? hu)
  refine gE @ai ?_
  refine cT ?_
  refine gO ?_
  refine AP.cut (α:=Unit) (fun _=>[(0,.im (.sl 3 (aw l))),(1,Bv sh),(5,Sv (fe sh (l.take k)++(if k=0 then[40]else[44,32]))),(6,Iv k)]) (fun _=>[]) (fun _=>True) ?_ fun _ _=>?_
  ·refine AP.cond rfl rfl (fun h2=>?_) (fun h2=>?_)
   ·have h2:k≠0:=by simp at h2;omega
    rw[if_neg h2,if_neg h2]
    refine gO ?_
    exact AE.meet () trivial (sU) rfl
   ·have h2:k=0:=by simp at h2;omega
    subst h2
    refine gO ?_
    exact AE.meet () trivial (sU) rfl
  ·have hq:(fe sh (l.take k)++(if k=0 then[40]else[44,32])).length<=(fe sh l).length+2:=by rw[List.length_append];split<;>simp<;>omega
   have lI:=hc k u hu
   rw[<-List.append_assoc]at aS
   obtain⟨q,CI⟩:∃q,(fe sh (l.take k)++(if k=0 then[40]else[44,32]))=q:=⟨_,rfl⟩
   rw[CI]at hq aS⊢
   have Qq:q.length+(dn sh u).length<=9223372036854775807:=by simp at hlen;omega
   refine gE (an @aj @ai) ?_
   refine AQ.fn (by kernel_rfl) rfl rfl rfl (lI) rfl ?_
   refine sI ?_
   refine gE @a8 ?_
   refine AE.round (k+1) (by omega) (by omega) (by rw[if_neg (by omega),aS];exact(sU)) rfl
theorem Ag (sh:Bool) (t:Tm) (hs:bz t) (ho:cw t=true) (hw:wT t<=1000000):aI Tryz.prog 155 [bq t,Bv sh] (Sv (dn sh t)):=by
 have cq:=eT.1 hs
 have q4:=Ew sh t
 have WH:=JR ho
 refine ak.walk [0,1,2,4,10,13] [] Tryz.func155 rfl Tryz.ntmps155 (by kernel_rfl) (by rfl) rfl fun W own I0 ax lay=>?_
 refine gO ?_
 refine AP.cond rfl rfl (fun h1=>?_) (fun h1=>?_)
 ·have h1:t.nm=[]/\sh=true:=by simpa using h1
  rw[if_pos h1.1,h1.2]at q4
  refine gO ?_
  exact AE.ay rfl ⟨rfl,trivial⟩ rfl ⟨rfl,by rw[h1.2,q4];rfl⟩
 refine gO ?_
 refine AP.cond rfl rfl (fun h2=>?_) (fun h2=>?_)
 ·have h2:t.nm=[]:=by simpa using h2
  have h1:sh=false:=by simpa[h2]using h1
  rw[if_pos h2,h1]at q4
  have yR:0<=t.ix/\t.ix<1000:=by
   cases t with
   |mk n i xs=>
    have h2:n=[]:=h2
    rw[cw,if_pos h2]at ho
    simp only[Bool.and_eq_true,decide_eq_true_eq]at ho
    exact ho.2
  obtain⟨n,hn⟩:=Int.eq_ofNat_of_zero_le yR.1
  have hd:=Gd n (by omega)
  have qM:=(yd n).2.2.2.1 7 (by omega) (by omega)
  have hit:Lib.itoa t.ix=Lib.decDigits n:=by rw[hn];exact Lib.itoa_nonneg n
  rw[hit]at q4
  rw[hn]
  refine gO ?_
  refine AQ.fn (by kernel_rfl) rfl rfl rfl (hd) rfl ?_
  refine sI ?_
  refine gO ?_
  exact AE.ay rfl ⟨rfl,trivial⟩ rfl ⟨rfl,by rw[h1,q4];rfl⟩
 ·have h2:t.nm≠[]:=by simpa using h2
  rw[if_neg h2]at q4
  have H7:=w_ t
  have ha:=Fk sh t.xs cq.2.1 (zK ho) (by omega) fun k u hu=>Ag sh u (cN cq.2.2 hu) (rm (zK ho) hu) (by have:=qh t.xs u (List.mem_of_getElem? hu);omega)
  have PV:=w6 sh t.xs (zK ho)
  refine gO ?_
  refine AP.bC 8 (Tree.node [] [0,1,2,3,4] [5] [Tree.node [0,1] [6,7] [] []]) (by kernel_rfl) rfl (by kernel_rfl) (by kernel_rfl) ?_
  refine bA ?_
  refine sI ?_
  refine AQ.fn (by kernel_rfl) rfl rfl rfl (ha) rfl ?_
  refine sI ?_
  refine AQ.nx rfl ?_
  refine sI ?_
  refine⟨by omega,?_⟩
  refine AQ.done ?_
  refine gO ?_
  exact AE.ay rfl ⟨rfl,trivial⟩ rfl ⟨rfl,by rw[q4];rfl⟩
termination_by SizeOf.sizeOf t
decreasing_by exact gX hu
theorem Ld (sh:Bool) (x:Lt) (hs:gA x) (ho:cu x=true) (hw:aH x.xs<=1000000):aI Tryz.prog 80 [fc x,Bv sh] (Sv (fD sh x)):=by
 have oA:=Al sh ho
 refine ak.walk [0,1,2,4,5,6,9,11,35] [] Tryz.func80 rfl Tryz.ntmps80 (by kernel_rfl) (by rfl) rfl fun W own I0 ax lay=>?_
 refine gO ?_
 refine AP.cond rfl rfl (fun h1=>?_) (fun h1=>?_)
 ·have h1:x.pd=[61]:=by simpa using h1
  obtain⟨a,b,fJ⟩:=yo ho h1
  obtain⟨_,lH,r0⟩:=cm [a,b] 0 (by simp)
  obtain⟨_,kd,r1⟩:=cm [a,b] 1 (by simp)
  cases lH
  cases kd
  have fx:(aw [a,b]).length=2:=by rw[ai];rfl
  have n6:=hs.2.2
  rw[fJ,cf,cf]at n6
  have vF:aH x.xs=wT a+wT b:=by rw[fJ,aH,aH,aH];rfl
  have yX:cw a=true/\cw b=true:=by
   rw[cu,if_pos h1,fJ]at ho
   simp only[bL,Bool.and_eq_true]at ho
   exact⟨ho.2.1,ho.2.2.1⟩
  have ta:=Ag sh a n6.1 yX.1 (by omega)
  have tb:=Ag sh b n6.2.1 yX.2 (by omega)
  have la:=rI sh a yX.1
  have lb:=rI sh b yX.2
  have hL:fD sh x=dn sh a++(ln x.ng++dn sh b):=by rw[fD,if_pos h1,fJ];rfl
  rw[fJ]
  refine gO ?_
  refine AP.cut (α:=Unit) (fun _=>[(1,Bv sh),(2,.im (.pt [Bi x.ng,Si x.pd,.sl 3 (aw [a,b])])),(5,Sv (ln x.ng))]) (fun _=>[]) (fun _=>True) ?_ fun _ _=>?_
  ·refine AP.cond rfl rfl (fun e6=>?_) (fun e6=>?_)
   ·refine gO ?_
    exact AE.meet () trivial (by rw[show ln x.ng=[32,33,61,32] by rw[e6];rfl];exact(sU)) rfl
   ·refine gO ?_
    exact AE.meet () trivial (by rw[show ln x.ng=[32,61,32] by rw[e6];rfl];exact(sU)) rfl
  ·have Px:(ln x.ng).length<=4:=by cases x.ng<;>decide
   refine gO ?_
   refine AP.bC 16 (Tree.node [] [0,1,2,3,4,6,8,9,10,11,12] [5] [Tree.node [6,8,9,10,11,12] [7] [13] [Tree.node [6,7] [14,15] [] []]]) (by kernel_rfl) rfl (by kernel_rfl) (by kernel_rfl) ?_
   refine bA ?_
   simp only[go_sem,Nat.reduceAdd,Nat.reduceLeDiff,Nat.reduceSub,Int.reduceToNat,reduceCtorEq,r0,r1,fx]
   repeat(with_reducible refine And.intro (by first|exact fun h=>h.elim|omega) ?_)
   refine AQ.fn (by kernel_rfl) rfl rfl rfl (ta) rfl ?_
   refine sI ?_
   refine AQ.nx rfl ?_
   simp only[go_sem,Nat.reduceAdd,Nat.reduceLeDiff,Nat.reduceSub,Int.reduceToNat,reduceCtorEq,r0,r1,fx]
   repeat(with_reducible refine And.intro (by first|exact fun h=>h.elim|omega) ?_)
   refine AQ.fn (by kernel_rfl) rfl rfl rfl (tb) rfl ?_
   refine sI ?_
   refine AQ.nx rfl ?_
   refine sI ?_
   refine⟨by omega,by rw[List.length_append];omega,?_⟩
   refine AQ.done ?_
   refine gO ?_
   exact AE.ay rfl ⟨rfl,trivial⟩ rfl ⟨rfl,by rw[hL,<-List.append_assoc];rfl⟩
 ·have h1:¬x.pd=[61]:=by simpa using h1
  have hL:fD sh x=(if x.ng then[126]else[])++(x.pd++eU sh x.xs):=by rw[fD,if_neg h1]
  have sL:dV x.pd=true/\bL x.xs=true:=by rw[cu,if_neg h1,Bool.and_eq_true]at ho;exact ho
  have e7:=DK sL.1
  have ha:=Fk sh x.xs hs.2.1 sL.2 hw fun k u hu=>Ag sh u (cN hs.2.2 hu) (rm sL.2 hu) (by have:=qh x.xs u (List.mem_of_getElem? hu);omega)
  have PV:=w6 sh x.xs sL.2
  refine gO ?_
  refine AP.bC 8 (Tree.node [] [0,1,2,3,4] [5] [Tree.node [0,1] [6,7] [] []]) (by kernel_rfl) rfl (by kernel_rfl) (by kernel_rfl) ?_
  refine bA ?_
  refine sI ?_
  refine AQ.fn (by kernel_rfl) rfl rfl rfl (ha) rfl ?_
  refine sI ?_
  refine AQ.nx rfl ?_
  refine sI ?_
  refine⟨by omega,?_⟩
  refine AQ.done ?_
  refine gO ?_
  refine AP.cond rfl rfl (fun e6=>?_) (fun e6=>?_)
  ·rw[e6,if_pos rfl]at hL
   refine gO ?_
   exact AE.ay rfl ⟨rfl,trivial⟩ rfl ⟨rfl,by rw[hL];rfl⟩
  ·rw[e6,if_neg (by simp)]at hL
   refine gO ?_
   exact AE.ay rfl ⟨rfl,trivial⟩ rfl ⟨rfl,by rw[hL];rfl⟩
theorem T9 (c:List Lt) (hc:cG c):aI Tryz.prog 18 [aJ c] (.aD [Sv (oW c),Iv (oV c)]):=by
 refine ak.walk [0,2,3,4,5,6,10,14,18,22,34] [] Tryz.func18 rfl Tryz.ntmps18 (by kernel_rfl) (by rfl) rfl fun W own I0 ax lay=>?_
 refine gO ?_
 refine AQ.fn (by kernel_rfl) rfl rfl rfl (pb c hc) rfl ?_
 refine sI ?_
 refine gO ?_
 refine AP.cond rfl rfl (fun h=>?_) (fun h=>?_)
 ·have h:bl 4 9 2 3 c≠0:=by simpa using h
  refine gO ?_
  exact AE.ay rfl ⟨rfl,rfl,trivial⟩ rfl ⟨rfl,by rw[oW,oV,if_pos h,if_pos h];rfl⟩
 have h:bl 4 9 2 3 c=0:=by simpa using h
 have bD:=kz h
 have hS:oW c=if 40000<(kq false c).length then[]else kq false c:=by rw[oW,h,if_neg (by omega)]
 have hE:oV c=if 40000<(kq false c).length then 15 else 0:=by rw[oV,h,if_neg (by omega)]
 refine gE @ae ?_
 refine AP.cond rfl rfl (fun h1=>?_) (fun h1=>?_)
 ·have h1:c=[]:=by simpa using h1
  subst h1
  refine gO ?_
  exact AE.ay rfl ⟨rfl,rfl,trivial⟩ rfl ⟨rfl,by rw[hS,hE];rfl⟩
 have h1:c≠[]:=by simpa using h1
 have hX:kq false c=ff false c:=by
  cases c with
  |nil=>exact absurd rfl h1
  |cons l c=>rfl
 have Ww:=Ev false bD.2.2.2
 rw[hX]at hS hE
 refine gO ?_
 refine AP.loop rfl (α:=Nat) (fun k=>[(0,aJ c),(5,Sv (ff false (c.take k))),(6,Iv k)]) (fun _=>[]) (fun k=>k<=c.length) (fun k=>c.length-k) 0 (by omega) (sU) rfl fun k hk=>?_
 rcases Nat.eq_or_lt_of_le hk with aG|ah
 ·subst aG
  rw[List.take_length]
  refine gE @ae ?_
  refine cF ?_
  refine gO ?_
  refine AP.cond rfl rfl (fun h2=>?_) (fun h2=>?_)
  ·have h2:40000<(ff false c).length:=by
    have:(40000:Int)<((ff false c).length:Nat):=by simpa using h2
    omega
   refine gO ?_
   exact AE.ay rfl ⟨rfl,rfl,trivial⟩ rfl ⟨rfl,by rw[hS,hE,if_pos h2,if_pos h2];rfl⟩
  ·have h2:¬40000<(ff false c).length:=by
    have:¬(40000:Int)<((ff false c).length:Nat):=by simpa using h2
    omega
   refine gO ?_
   exact AE.ay rfl ⟨rfl,rfl,trivial⟩ rfl ⟨rfl,by rw[hS,hE,if_neg h2,if_neg h2];rfl⟩
 ·obtain⟨u,hu,aj⟩:=dI c k ah
  have hw:=wr (x:=(k:Int)+1) (by omega)
  have aS:=Ll false hu
  have gr:=List.mem_of_getElem? hu
  have bM:=Al false (bD.2.2.2 u gr)
  have pN:=xc gr
  have WD:lQ u<=b5 c:=by have:=wk (List.singleton_sublist.2 gr);rw[jd]at this;exact Nat.le_trans (Nat.le_add_right _ _) this
  have Pw:=Ev false (c:=c.take k) fun l hl=>bD.2.2.2 l (List.mem_of_mem_take hl)
  have jb:=DE c k
  rw[List.length_take]at Pw
  have kF:=bD.1
  have qK:=bD.2.1
  have hT:=Ld false u (hc.2 u gr) (bD.2.2.2 u gr) (by have:=bD.2.1;omega)
  refine gE @ae ?_
  refine cT ?_
  refine gO ?_
  refine AP.cut (α:=Unit) (fun _=>[(0,aJ c),(5,Sv (ff false (c.take k)++(if k=0 then[]else[32,124,32]))),(6,Iv k)]) (fun _=>[]) (fun _=>True) ?_ fun _ _=>?_
  ·refine AP.cond rfl rfl (fun h2=>?_) (fun h2=>?_)
   ·have h2:k≠0:=by simp at h2;omega
    rw[if_neg h2]
    refine gO ?_
    exact AE.meet () trivial (sU) rfl
   ·have h2:k=0:=by simp at h2;omega
    rw[if_pos h2,List.append_nil]
    refine gO ?_
    exact AE.meet () trivial (sU) rfl
  ·have hq:(ff false (c.take k)++(if k=0 then[]else[32,124,32])).length<=(ff false (c.take k)).length+3:=by rw[List.length_append];split<;>simp
   rw[<-List.append_assoc]at aS
   obtain⟨q,CI⟩:∃q,(ff false (c.take k)++(if k=0 then[]else[32,124,32]))=q:=⟨_,rfl⟩
   rw[CI]at hq aS⊢
   have Qq:q.length+(fD false u).length<=9223372036854775807:=by have:=bD.1;have:=bD.2.1;omega
   refine gE (an @aj @ae) ?_
   refine AQ.fn (by kernel_rfl) rfl rfl rfl (hT) rfl ?_
   refine sI ?_
   refine gE @hw ?_
   refine AE.round (k+1) (by omega) (by omega) (by rw[aS];exact(sU)) rfl
theorem MS {s w:List UInt8} {n:Nat}:bt s n w=((s.drop n).take w.length==w):=by
 rw[bt,Bool.eq_iff_iff,List.isPrefixOf_iff_prefix,beq_iff_eq,List.prefix_iff_eq_take,eq_comm]
theorem o8 (s w:List UInt8) (n:Nat) (hn:n<=s.length) (hs:s.length<=1000000) (hw:w.length<=100):aI Tryz.prog 85 [Sv s,Iv n,Sv w] (Bv (bt s n w)):=by
 have a8:IntKind.i64.wrap ((n:Int)+(w.length:Nat))=((n+w.length:Nat):Int):=by rw[wr (by omega)];omega
 have hv:(decide (((n+w.length:Nat):Int)<=(s.length:Int))&&(List.take (n+w.length-n) (List.drop n s)==w))=bt s n w:=by
  rw[Nat.add_sub_cancel_left,MS]
  by_cases h:n+w.length<=s.length
  ·rw[decide_eq_true (by omega),Bool.true_and]
  ·rw[decide_eq_false (by omega),Bool.false_and]
   symm
   rw[beq_eq_false_iff_ne]
   intro e
   have:=congrArg List.length e
   rw[List.length_take,List.length_drop]at this
   omega
 refine ak.walk [0,1,2,6] [] Tryz.func85 rfl Tryz.ntmps85 (by kernel_rfl) (by rfl) rfl fun W own I0 ax lay=>?_
 refine gE @a8 ?_
 rw[hv]
 exact AE.ay rfl ⟨rfl,trivial⟩ rfl ⟨rfl,rfl⟩
def QT (s:List UInt8) (f i:Nat) (r:AV) (H':aa):Prop:=H'=[]/\((∃t j,pT s f i=some (t,j)/\r= .aD [bq t,Iv j])\/(pT s f i=none/\∃t,r= .aD [bq t,Iv (-1)]))
def QA (s:List UInt8) (f i:Nat) (r:AV) (H':aa):Prop:=H'=[]/\((∃l j,pA s f i=some (l,j)/\r= .aD [.im (.sl 3 (aw l)),Iv j])\/(pA s f i=none/\∃l,r= .aD [.im (.sl 3 (aw l)),Iv (-1)]))
theorem E3 {x:AV}:bX (.aD [dm,x]) (.aD [.im (.sl 3 (aw [])),x]):=bX.aD (bO.lj (bX.im (da.nil 3)) (bO.refl _))
def ru (s:List UInt8) (g i:Nat):Option (List Tm×Nat):=match pT s g i with
 |none=>none
 |some (t,j)=>match pR s g j with
  |none=>none
  |some (l,k)=>some (t::l,k)
theorem SX (s:List UInt8) (g j:Nat):pR s (g+1) j=if bt s j [44,32]then ru s g (j+2)else if bt s j [41]then some ([],j+1)else none:=by rw[JV];rfl
theorem MR {s:List UInt8} {j:Nat} (h:bt s j [41]=true):bt s j [44,32]=false:=by
 rw[<-Bool.not_eq_true]
 intro k
 have e1:=iD h
 have e2:=iD k
 rw[e1]at e2
 exact absurd (List.cons.inj e2).1 (by decide)
theorem S9 (s:List UInt8) (hs:s.length<=1000000) (f i:Nat) (hi:i<=s.length) (hf:s.length<f+i)
  (ih:∀f' i',f'<=f->i'<=s.length->s.length<f'+i'->ak Tryz.prog 161 [Sv s,Iv i'] [] (QT s f' i')):
  ak Tryz.prog 204 [Sv s,Iv i] [] (QA s f i):=by
 refine ak.told (R:=fun r H'=>H'=[]/\((∃l j,pA s f i=some (l,j)/\(r= .aD [.im (.sl 3 (aw l)),Iv j]\/l=[]/\r= .aD [dm,Iv j]))\/(pA s f i=none/\r= .aD [dm,Iv (-1)]))) ?_ (fun r H' ⟨h0,h⟩=>by
  rcases h with⟨l,j,h1,rfl|⟨rfl,rfl⟩⟩|⟨h1,rfl⟩
  ·exact⟨_,⟨h0,.inl ⟨l,j,h1,rfl⟩⟩,bX.refl _⟩
  ·exact⟨_,⟨h0,.inl ⟨[],j,h1,rfl⟩⟩,E3⟩
  ·exact⟨_,⟨h0,.inr ⟨h1,[],rfl⟩⟩,E3⟩)
 have hA:pA s f i=_:=pA.eq_def s f i
 have ha:=o8 s [40] i hi hs (by simp)
 refine ak.walk [0,1,4,5,6,7,8,12,24,31,38] [7] Tryz.func204 rfl Tryz.ntmps204 (by kernel_rfl) (by rfl) rfl fun W own I0 ax lay=>?_
 refine gO ?_
 refine AQ.fn (by kernel_rfl) rfl rfl rfl (ha) rfl ?_
 refine sI ?_
 refine gO ?_
 refine AP.cond rfl rfl (fun h=>?_) (fun h=>?_)
 ·have h:bt s i [40]=false:=by simpa using h
  rw[h,if_neg (by decide)]at hA
  refine gO ?_
  exact AE.ret rfl ⟨rfl,rfl,trivial⟩ ⟨rfl,.inl ⟨[],i,hA,.inr ⟨rfl,rfl⟩⟩⟩
 have h:bt s i [40]=true:=by simpa using h
 have hle:=iV h hi
 simp only[List.length_cons,List.length_nil]at hle
 rw[if_pos h]at hA
 have hw:=wr (x:=(i:Int)+1) (by omega)
 have uP:pA s f i=rz [] (ru s f (i+1)):=by
  rw[hA,ru]
  cases pT s f (i+1)with
  |none=>rfl
  |some x=>
   obtain⟨t,j⟩:=x
   simp only
   cases pR s f j with
   |none=>rfl
   |some y=>rfl
 refine gE @hw ?_
 refine AP.loop rfl (α:=List Tm×Nat×Nat) (fun z=>[(0,Sv s),(1,Iv z.2.1),(6,.os 0 3 0 z.1.length)]) (fun z=>[(0,.vec 57 3 (aw z.1))]) (fun z=>z.1.length<=z.2.1/\z.2.1<=s.length/\s.length<z.2.2+z.2.1/\z.2.2<=f/\pA s f i=rz z.1 (ru s z.2.2 z.2.1)) (fun z=>s.length-z.2.1) ([],i+1,f) ⟨by simp,by simp only;omega,by simp only;omega,Nat.le_refl _,uP⟩ (sU) rfl fun⟨a,j,g⟩ ⟨z1,z2,z3,z4,z5⟩=>?_
 simp only at z1 z2 z3 z4 z5⊢
 clear hA uP hle ha hw
 have it:=ih g j z4 z2 z3
 refine gO ?_
 refine AQ.o_ (by kernel_rfl) rfl rfl rfl it fun r' H' hq=>?_
 obtain⟨rfl,⟨t,k,hp,rfl⟩|⟨hp,t,rfl⟩⟩:=hq
 ·have fP:=nA hp
  rw[ru,hp]at z5
  simp only at z5
  obtain⟨g,rfl⟩:∃q,g=q+1:=⟨g-1,by omega⟩
  rw[SX]at z5
  have OJ:=o8 s [41] k fP.2.2 hs (by simp)
  have OL:=o8 s [44,32] k fP.2.2 hs (by simp)
  refine sI ?_
  refine gO ?_
  refine AQ.append (hnb:=rfl) (rows:=aw a) (es:=2) (by kernel_rfl) rfl rfl rfl (by rfl) Tryz.wX Tryz.wR (by show Option.map _ (aC Tryz.prog 57)=_;rw[Tryz.xg];rfl) Tryz.um (by first|rfl|(simp only[ai,List.length_cons,List.length_nil];done)|(simp only[ai,List.length_cons,List.length_nil];omega)) (by simp only[ai,List.length_cons,List.length_nil];omega) (by simp only[ai,List.length_cons,List.length_nil];omega) ?_
  refine sE @ai ?_
  refine gO ?_
  refine AQ.fn (by kernel_rfl) rfl rfl rfl (OJ) rfl ?_
  refine sI ?_
  refine gO ?_
  have iq:(aw a++[[IV.v (.string (BA t.nm)),IV.v (.int .i64 t.ix),IV.sl 3 (aw t.xs)]])=aw (a++[t]):=by simp only[nG]
  rw[iq]
  refine AP.cond rfl rfl (fun k1=>?_) (fun k1=>?_)
  ·have k1:bt s k [41]=true:=k1
   rw[MR k1,if_neg (by decide),if_pos k1]at z5
   have gz:=wr (x:=(k:Int)+1) (by omega)
   refine gE @gz ?_
   refine AE.freeze 0 (el:=57) (es:=3) (rows:=aw (a++[t])) rfl (by simp only[go_sem,Nat.reduceAdd,Nat.reduceLeDiff,Nat.reduceSub,Int.reduceToNat,reduceCtorEq,ai,List.length_append,List.length_singleton];first|done|trivial|omega|(simp;done)|(simp;omega)) (by simp only[go_sem,Nat.reduceAdd,Nat.reduceLeDiff,Nat.reduceSub,Int.reduceToNat,reduceCtorEq,ai,List.length_append,List.length_singleton];first|done|trivial|omega|(simp;done)|(simp;omega)) ?_;simp only[go_sem,Nat.reduceAdd,Nat.reduceLeDiff,Nat.reduceSub,Int.reduceToNat,reduceCtorEq,ai,List.length_append,List.length_singleton]
   rw[List.take_of_length_le (by rw[ai,List.length_append,List.length_singleton];exact Nat.le_refl _)]
   exact AE.aV [1] rfl ⟨rfl,rfl,trivial⟩ rfl ⟨rfl,.inl ⟨a++[t],k+1,by rw[z5];rfl,.inl rfl⟩⟩
  have k1:¬bt s k [41]=true:=fun e=>by rw[e]at k1;exact absurd k1 (by decide)
  rw[if_neg k1]at z5
  refine gO ?_
  refine AQ.fn (by kernel_rfl) rfl rfl rfl (OL) rfl ?_
  refine sI ?_
  refine gO ?_
  refine AP.cond rfl rfl (fun k2=>?_) (fun k2=>?_)
  ·have k2:bt s k [44,32]=false:=by simpa using k2
   rw[k2,if_neg (by decide)]at z5
   refine gO ?_
   exact AE.aV [1,0] rfl ⟨rfl,rfl,trivial⟩ rfl ⟨rfl,.inr ⟨z5,rfl⟩⟩
  ·have k2:bt s k [44,32]=true:=by simpa using k2
   have Hv:=iV k2 fP.2.2
   simp only[List.length_cons,List.length_nil]at Hv
   rw[if_pos k2]at z5
   have gz:=wr (x:=(k:Int)+2) (by omega)
   refine gE @gz ?_
   refine AE.ew [1] rfl ?_
   refine sI ?_
   refine AE.round (a++[t],k+2,g) ⟨by simp only[List.length_append,List.length_singleton];omega,Hv,by simp only;omega,by simp only;omega,?_⟩ (by simp only;omega) (by simp only[List.length_append,List.length_singleton];exact(sU)) rfl
   simp only at z5⊢
   rw[z5]
   cases hq:ru s g (k+2)with
   |none=>rfl
   |some x=>simp[rz]
 ·rw[ru,hp]at z5
  refine sI ?_
  refine gO ?_
  exact AE.aV [1,0] rfl ⟨rfl,rfl,trivial⟩ rfl ⟨rfl,.inr ⟨z5,rfl⟩⟩
theorem Ge:∀(l:List UInt8) (acc k:Nat),acc<10^k->(∀c∈l,dF c=true)->l.foldl (fun n c=>10*n+(c.toNat-48)) acc<10^(k+l.length)
 |[],acc,k,h,_=>h
 |c::r,acc,k,h,hd=>by
  have hc:=hd c (List.mem_cons_self ..)
  rw[dF,Bool.and_eq_true,decide_eq_true_iff,decide_eq_true_iff]at hc
  have:=Ge r (10*acc+(c.toNat-48)) (k+1) (by rw[Nat.pow_succ];omega) fun x hx=>hd x (List.mem_cons_of_mem _ hx)
  rw[List.foldl_cons,List.length_cons,show k+(r.length+1)=k+1+r.length by omega]
  exact this
theorem NV {l:List UInt8} {n:Nat} (h:∀c∈l,dF c=true) (hl:l.length<=n):dQ l<10^n:=
 Nat.lt_of_lt_of_le (by have:=Ge l 0 0 (by decide) h;rw[Nat.zero_add]at this;exact this) (Nat.pow_le_pow_right (by decide) hl)
theorem Ta (s:List UInt8) (hs:s.length<=1000000) (f i:Nat) (hi:i<=s.length)
  (hl:∀i',i<i'->i'<=s.length->ak Tryz.prog 204 [Sv s,Iv i'] [] (QA s f i')):
  ak Tryz.prog 161 [Sv s,Iv i] [] (QT s (f+1) i):=by
 refine ak.told (R:=fun r H'=>H'=[]/\((∃t j,pT s (f+1) i=some (t,j)/\(r= .aD [bq t,Iv j]\/t.xs=[]/\r= .aD [.agg [Sv t.nm,Iv t.ix,dm],Iv j]))\/(pT s (f+1) i=none/\∃t:Tm,(r= .aD [bq t,Iv (-1)]\/t.xs=[]/\r= .aD [.agg [Sv t.nm,Iv t.ix,dm],Iv (-1)])))) ?_ (fun r H' ⟨h0,h⟩=>by
  have hq:∀(t:Tm) (x:AV),t.xs=[]->bX (.aD [.agg [Sv t.nm,Iv t.ix,dm],x]) (.aD [bq t,x]):=fun t x hx=>bX.aD (bO.lj (by rw[bq,hx,aw];exact(by repeat' (first|with_reducible exact bX.refl _|with_reducible exact da.refl _|exact da.nil _|with_reducible exact bO.refl _|with_reducible exact fp.refl _|with_reducible exact eI.refl _|refine bO.lj ?_ ?_|refine bX.agg ?_|refine bX.im ?_|refine da.sl ?_|refine eI.cons ?_ ?_|refine fp.cons ?_ ?_))) (bO.refl _))
  rcases h with⟨t,j,h1,rfl|⟨hx,rfl⟩⟩|⟨h1,t,rfl|⟨hx,rfl⟩⟩
  ·exact⟨_,⟨h0,.inl ⟨t,j,h1,rfl⟩⟩,bX.refl _⟩
  ·exact⟨_,⟨h0,.inl ⟨t,j,h1,rfl⟩⟩,hq t _ hx⟩
  ·exact⟨_,⟨h0,.inr ⟨h1,t,rfl⟩⟩,bX.refl _⟩
  ·exact⟨_,⟨h0,.inr ⟨h1,t,rfl⟩⟩,hq t _ hx⟩)
 have hT:=zN s f i
 have he:=o8 s [63] i hi hs (by simp)
 refine ak.walk [0,1,4,5,6,7,8,9,10,13,37,70,88,93] [4] Tryz.func161 rfl Tryz.ntmps161 (by kernel_rfl) (by rfl) rfl fun W own I0 ax lay=>?_
 refine gO ?_
 refine AQ.fn (by kernel_rfl) rfl rfl rfl (he) rfl ?_
 refine sI ?_
 refine gO ?_
 refine AP.cond rfl rfl (fun h=>?_) (fun h=>?_)
 ·have h:bt s i [63]=true:=h
  have hle:=iV h hi
  simp only[List.length_cons,List.length_nil]at hle
  rw[if_pos h]at hT
  have a8:IntKind.i64.wrap ((i:Int)+1)=((i+1:Nat):Int):=by rw[wr (by omega)];omega
  have q7:IntKind.i64.wrap ((i:Int)+11)=((i+11:Nat):Int):=by rw[wr (by omega)];omega
  have ke:IntKind.i64.wrap ((i:Int)+10)=((i+10:Nat):Int):=by rw[wr (by omega)];omega
  have cJ:IntKind.i64.wrap ((i:Int)+2)=((i+2:Nat):Int):=by rw[wr (by omega)];omega
  refine gE @a8 ?_
  refine AP.loop rfl (α:=Nat) (fun k=>[(0,Sv s),(1,Iv i),(4,.ob 0 0),(6,Iv (i+1+k:Nat)),(7,Iv (dQ ((s.drop (i+1)).take k):Nat))]) (fun k=>[(0,.var 57 [Sv [],Iv 0,dm])]) (fun k=>k<=10/\i+1+k<=s.length/\df (s.drop (i+1))=k+df (s.drop (i+1+k))) (fun k=>10-k) 0 ⟨by omega,by omega,by simp⟩ (sU) rfl fun k ⟨ij,hk,hm⟩=>?_
  by_cases ah:i+1+k<s.length/\k<10
  ·have hd:decide (((i+1+k:Nat):Int)<(s.length:Int))=true:=decide_eq_true (by omega)
   have gp:decide (((i+1+k:Nat):Int)<((i+11:Nat):Int))=true:=decide_eq_true (by omega)
   have cV:=Gb ah.1
   rw[cV]at hm
   have jB:(s.drop (i+1))[k]?=some (s.getD (i+1+k) 0):=by rw[List.getElem?_drop,List.getD_eq_getElem?_getD,List.getElem?_eq_getElem ah.1];rfl
   have bF:=cK jB
   obtain⟨ch,qL⟩:∃ch,s.getD (i+1+k) 0=ch:=⟨_,rfl⟩
   rw[qL]at hm bF jB
   refine gE (an @hd (an @q7 (an @gp @qL))) ?_
   refine AP.cond rfl rfl (fun h5=>?_) (fun h5=>?_)
   ·have uO:dF ch=true:=by
     rw[dF];simp only[Bool.and_eq_true,decide_eq_true_eq]at h5⊢;omega
    rw[if_pos uO]at hm
    have gn:=NV (n:=10) (fun c hc=>yl (s.drop (i+1)) c (List.take_subset_take_left _ (by omega) hc)) (show((s.drop (i+1)).take k).length<=10 by rw[List.length_take];omega)
    have Wy:48<=ch.toNat/\ch.toNat<=57:=by
     rw[dF,Bool.and_eq_true,decide_eq_true_iff,decide_eq_true_iff]at uO;exact uO
    have mW:dQ ((s.drop (i+1)).take (k+1))=10*dQ ((s.drop (i+1)).take k)+(ch.toNat-48):=by rw[bF,Bj]
    obtain⟨D,hD⟩:∃D,dQ ((s.drop (i+1)).take k)=D:=⟨_,rfl⟩
    rw[hD]at gn mW⊢
    have OF:(10:Nat)^10=10000000000:=by decide
    rw[OF]at gn
    have vH:IntKind.i64.wrap ((D:Int)*10)=((10*D:Nat):Int):=by rw[wr (by omega)];omega
    have ni:IntKind.u8.wrap ((ch.toNat:Int)-48)=((ch.toNat-48:Nat):Int):=by
     have:=Int.emod_eq_of_lt (a:=(ch.toNat:Int)-48) (b:=256) (by omega) (by omega)
     have e:IntKind.u8.wrap ((ch.toNat:Int)-48)=(ch.toNat:Int)-48:=this
     rw[e];omega
    have QP:IntKind.i64.wrap ((ch.toNat-48:Nat):Int)=((ch.toNat-48:Nat):Int):=wr (by omega)
    have vF:IntKind.i64.wrap (((10*D:Nat):Int)+((ch.toNat-48:Nat):Int))=((10*D+(ch.toNat-48):Nat):Int):=by rw[wr (by omega)];omega
    have gz:IntKind.i64.wrap (((i+1+k:Nat):Int)+1)=((i+1+(k+1):Nat):Int):=by rw[wr (by omega)];omega
    refine gE (an @hd (an @qL (an @vH (an @ni (an @QP (an @vF @gz)))))) ?_
    exact AE.round (k+1) ⟨by omega,by omega,by rw[hm];simp only[Nat.add_assoc]⟩ (by omega) (by rw[mW];exact(sU)) rfl
   ·have uO:dF ch=false:=by
     rw[dF,<-Bool.not_eq_true];intro hc;rw[<-Bool.not_eq_true]at h5;apply h5
     simp only[Bool.and_eq_true,decide_eq_true_eq]at hc⊢;omega
    rw[if_neg (by rw[uO];decide)]at hm
    have pG:k=10\/df (s.drop (i+1))=k:= .inr hm
    by_cases dE:k=0
    ·have f1:(((i+1+k:Nat):Int)==((i+1:Nat):Int))=true:=by rw[dE];simp
     have hV:pV s (i+1)=none:=by rw[pV,pG.resolve_left (by omega),dE];rfl
     rw[hV]at hT
     repeat(first|refine xA ?_|refine xB ?_|refine xC ?_|refine xE ?_|refine xD ?_|refine xK ?_|refine xS ?_|refine xM ?_|refine xT ?_|refine xF ?_|((first|refine xR ?_|refine xW ?_|refine fE ?_);simp only[go_sem,Nat.reduceAdd,Nat.reduceLeDiff,Nat.reduceSub,Int.reduceToNat,reduceCtorEq,a8,f1])|(refine⟨by first|omega|(intros;simp_all;done)|(intros;simp_all;omega),?_⟩;try simp only[go_sem,Nat.reduceAdd,Nat.reduceLeDiff,Nat.reduceSub,Int.reduceToNat,reduceCtorEq,a8,f1]))
     exact AE.aV [0] rfl ⟨⟨rfl,Nat.le_of_ble_eq_true (by kernel_rfl)⟩,rfl,trivial⟩ rfl ⟨rfl,.inr ⟨hT,.mk [] 0 [],.inr ⟨rfl,rfl⟩⟩⟩
    ·have f1:(((i+1+k:Nat):Int)==((i+1:Nat):Int))=false:=by rw[beq_eq_false_iff_ne];omega
     by_cases ss:k=10
     ·have f2:decide (((i+10:Nat):Int)<((i+1+k:Nat):Int))=true:=decide_eq_true (by omega)
      have hV:pV s (i+1)=none:=by
       have bj:en ((s.drop (i+1)).take (df (s.drop (i+1))))=false:=by
        have:=uD (s.drop (i+1))
        rw[en,List.length_take,decide_eq_false (by omega:¬min (df (s.drop (i+1))) (s.drop (i+1)).length<=9)];simp
       rw[pV,bj];rfl
      rw[hV]at hT
      repeat(first|refine xA ?_|refine xB ?_|refine xC ?_|refine xE ?_|refine xD ?_|refine xK ?_|refine xS ?_|refine xM ?_|refine xT ?_|refine xF ?_|((first|refine xR ?_|refine xW ?_|refine fE ?_);simp only[go_sem,Nat.reduceAdd,Nat.reduceLeDiff,Nat.reduceSub,Int.reduceToNat,reduceCtorEq,a8,ke,f1,f2])|(refine⟨by first|omega|(intros;simp_all;done)|(intros;simp_all;omega),?_⟩;try simp only[go_sem,Nat.reduceAdd,Nat.reduceLeDiff,Nat.reduceSub,Int.reduceToNat,reduceCtorEq,a8,ke,f1,f2]))
      exact AE.aV [0] rfl ⟨⟨rfl,Nat.le_of_ble_eq_true (by kernel_rfl)⟩,rfl,trivial⟩ rfl ⟨rfl,.inr ⟨hT,.mk [] 0 [],.inr ⟨rfl,rfl⟩⟩⟩
     ·have f2:decide (((i+10:Nat):Int)<((i+1+k:Nat):Int))=false:=decide_eq_false (by omega)
      have f3:decide (((i+2:Nat):Int)<((i+1+k:Nat):Int))=decide (1<k):=by rw[decide_eq_decide];omega
      have B7:=pG.resolve_left ss
      have f4:decide (((i+1:Nat):Int)<(s.length:Int))=true:=decide_eq_true (by omega)
      have hV:=pV.eq_def s (i+1)
      rw[B7]at hV
      have bj:en ((s.drop (i+1)).take k)=(decide (k=1)||decide ((s.getD (i+1) 0).toNat≠48)):=by
       have ef:((s.drop (i+1)).take k).length=k:=by rw[List.length_take,List.length_drop];omega
       have hg:((s.drop (i+1)).take k).getD 0 0=s.getD (i+1) 0:=by
        rw[List.getD_eq_getElem?_getD,List.getElem?_take,if_pos (by omega),List.getElem?_drop,Nat.add_zero,<-List.getD_eq_getElem?_getD]
       rw[en,ef,hg,decide_eq_true (by omega:1<=k),decide_eq_true (by omega:k<=9)];simp
      obtain⟨c1,kF⟩:∃c1,s.getD (i+1) 0=c1:=⟨_,rfl⟩
      rw[kF]at bj
      repeat(first|refine xA ?_|refine xB ?_|refine xC ?_|refine xE ?_|refine xD ?_|refine xK ?_|refine xS ?_|refine xM ?_|refine xT ?_|refine xF ?_|((first|refine xR ?_|refine xW ?_|refine fE ?_);simp only[go_sem,Nat.reduceAdd,Nat.reduceLeDiff,Nat.reduceSub,Int.reduceToNat,reduceCtorEq,a8,ke,cJ,f1,f2,f3,f4,kF])|(refine⟨by first|omega|(intros;simp_all;done)|(intros;simp_all;omega),?_⟩;try simp only[go_sem,Nat.reduceAdd,Nat.reduceLeDiff,Nat.reduceSub,Int.reduceToNat,reduceCtorEq,a8,ke,cJ,f1,f2,f3,f4,kF]))
      refine AP.cond rfl rfl (fun h7=>?_) (fun h7=>?_)
      ·have mu:en ((s.drop (i+1)).take k)=false:=by
        rw[bj]
        simp at h7
        rw[decide_eq_false (by omega:¬k=1),decide_eq_false (by omega:¬c1.toNat≠48)];rfl
       rw[mu,if_neg (by decide)]at hV
       rw[hV]at hT
       refine gO ?_
       exact AE.aV [0] rfl ⟨⟨rfl,Nat.le_of_ble_eq_true (by kernel_rfl)⟩,rfl,trivial⟩ rfl ⟨rfl,.inr ⟨hT,.mk [] 0 [],.inr ⟨rfl,rfl⟩⟩⟩
      ·have mu:en ((s.drop (i+1)).take k)=true:=by
        rw[bj]
        simp at h7
        by_cases ij:k=1
        ·rw[decide_eq_true ij];rfl
        ·rw[decide_eq_false ij,Bool.false_or]
         refine decide_eq_true fun e=>?_
         have:=h7 (by omega)
         omega
       rw[if_pos mu]at hV
       rw[hV]at hT
       refine gO ?_
       exact AE.aV [0] rfl ⟨⟨rfl,Nat.le_of_ble_eq_true (by kernel_rfl)⟩,rfl,trivial⟩ rfl ⟨rfl,.inl ⟨_,_,hT,.inr ⟨rfl,rfl⟩⟩⟩
  ·by_cases hlen:i+1+k<s.length
   ·have ss:k=10:=by omega
    have pG:k=10\/df (s.drop (i+1))=k:= .inl ss
    have hd:decide (((i+1+k:Nat):Int)<(s.length:Int))=true:=decide_eq_true (by omega)
    have gp:decide (((i+1+k:Nat):Int)<((i+11:Nat):Int))=false:=decide_eq_false (by omega)
    have f1:(((i+1+k:Nat):Int)==((i+1:Nat):Int))=false:=by rw[beq_eq_false_iff_ne];omega
    have f2:decide (((i+10:Nat):Int)<((i+1+k:Nat):Int))=true:=decide_eq_true (by omega)
    have hV:pV s (i+1)=none:=by
     have bj:en ((s.drop (i+1)).take (df (s.drop (i+1))))=false:=by
      have:=uD (s.drop (i+1))
      rw[en,List.length_take,decide_eq_false (by omega:¬min (df (s.drop (i+1))) (s.drop (i+1)).length<=9)];simp
     rw[pV,bj];rfl
    rw[hV]at hT
    clear hm pG ss ah ij hV
    obtain⟨b1,cQ⟩:∃b,decide ((48:Int)<=((s.getD (i+1+k) 0).toNat:Nat))=b:=⟨_,rfl⟩
    obtain⟨b2,eW⟩:∃b,decide (((s.getD (i+1+k) 0).toNat:Int)<=57)=b:=⟨_,rfl⟩
    cases b1 with
    |false=>
     repeat(first|refine xA ?_|refine xB ?_|refine xC ?_|refine xE ?_|refine xD ?_|refine xK ?_|refine xS ?_|refine xM ?_|refine xT ?_|refine xF ?_|((first|refine xR ?_|refine xW ?_|refine fE ?_);simp only[go_sem,Nat.reduceAdd,Nat.reduceLeDiff,Nat.reduceSub,Int.reduceToNat,reduceCtorEq,hd,q7,gp,a8,ke,f1,f2,cQ])|(refine⟨by first|omega|(intros;simp_all;done)|(intros;simp_all;omega),?_⟩;try simp only[go_sem,Nat.reduceAdd,Nat.reduceLeDiff,Nat.reduceSub,Int.reduceToNat,reduceCtorEq,hd,q7,gp,a8,ke,f1,f2,cQ]))
     exact AE.aV [0] rfl ⟨⟨rfl,Nat.le_of_ble_eq_true (by kernel_rfl)⟩,rfl,trivial⟩ rfl ⟨rfl,.inr ⟨hT,.mk [] 0 [],.inr ⟨rfl,rfl⟩⟩⟩
    |true=>cases b2 with
     |false=>
      repeat(first|refine xA ?_|refine xB ?_|refine xC ?_|refine xE ?_|refine xD ?_|refine xK ?_|refine xS ?_|refine xM ?_|refine xT ?_|refine xF ?_|((first|refine xR ?_|refine xW ?_|refine fE ?_);simp only[go_sem,Nat.reduceAdd,Nat.reduceLeDiff,Nat.reduceSub,Int.reduceToNat,reduceCtorEq,hd,q7,gp,a8,ke,f1,f2,cQ,eW])|(refine⟨by first|omega|(intros;simp_all;done)|(intros;simp_all;omega),?_⟩;try simp only[go_sem,Nat.reduceAdd,Nat.reduceLeDiff,Nat.reduceSub,Int.reduceToNat,reduceCtorEq,hd,q7,gp,a8,ke,f1,f2,cQ,eW]))
      exact AE.aV [0] rfl ⟨⟨rfl,Nat.le_of_ble_eq_true (by kernel_rfl)⟩,rfl,trivial⟩ rfl ⟨rfl,.inr ⟨hT,.mk [] 0 [],.inr ⟨rfl,rfl⟩⟩⟩
     |true=>
      repeat(first|refine xA ?_|refine xB ?_|refine xC ?_|refine xE ?_|refine xD ?_|refine xK ?_|refine xS ?_|refine xM ?_|refine xT ?_|refine xF ?_|((first|refine xR ?_|refine xW ?_|refine fE ?_);simp only[go_sem,Nat.reduceAdd,Nat.reduceLeDiff,Nat.reduceSub,Int.reduceToNat,reduceCtorEq,hd,q7,gp,a8,ke,f1,f2,cQ,eW])|(refine⟨by first|omega|(intros;simp_all;done)|(intros;simp_all;omega),?_⟩;try simp only[go_sem,Nat.reduceAdd,Nat.reduceLeDiff,Nat.reduceSub,Int.reduceToNat,reduceCtorEq,hd,q7,gp,a8,ke,f1,f2,cQ,eW]))
      exact AE.aV [0] rfl ⟨⟨rfl,Nat.le_of_ble_eq_true (by kernel_rfl)⟩,rfl,trivial⟩ rfl ⟨rfl,.inr ⟨hT,.mk [] 0 [],.inr ⟨rfl,rfl⟩⟩⟩
   ·have hd:decide (((i+1+k:Nat):Int)<(s.length:Int))=false:=decide_eq_false (by omega)
    have hm:df (s.drop (i+1))=k:=by rw[hm,List.drop_eq_nil_of_le (by omega),df];rfl
    have pG:k=10\/df (s.drop (i+1))=k:= .inr hm
    by_cases dE:k=0
    ·have f1:(((i+1+k:Nat):Int)==((i+1:Nat):Int))=true:=by rw[dE];simp
     have hV:pV s (i+1)=none:=by rw[pV,pG.resolve_left (by omega),dE];rfl
     rw[hV]at hT
     clear hm pG dE ah hlen hl hV
     repeat(first|refine xA ?_|refine xB ?_|refine xC ?_|refine xE ?_|refine xD ?_|refine xK ?_|refine xS ?_|refine xM ?_|refine xT ?_|refine xF ?_|((first|refine xR ?_|refine xW ?_|refine fE ?_);simp only[go_sem,Nat.reduceAdd,Nat.reduceLeDiff,Nat.reduceSub,Int.reduceToNat,reduceCtorEq,hd,a8,f1])|(refine⟨by first|omega|(intros;simp_all;done)|(intros;simp_all;omega),?_⟩;try simp only[go_sem,Nat.reduceAdd,Nat.reduceLeDiff,Nat.reduceSub,Int.reduceToNat,reduceCtorEq,hd,a8,f1]))
     exact AE.aV [0] rfl ⟨⟨rfl,Nat.le_of_ble_eq_true (by kernel_rfl)⟩,rfl,trivial⟩ rfl ⟨rfl,.inr ⟨hT,.mk [] 0 [],.inr ⟨rfl,rfl⟩⟩⟩
    ·have f1:(((i+1+k:Nat):Int)==((i+1:Nat):Int))=false:=by rw[beq_eq_false_iff_ne];omega
     by_cases ss:k=10
     ·have f2:decide (((i+10:Nat):Int)<((i+1+k:Nat):Int))=true:=decide_eq_true (by omega)
      have hV:pV s (i+1)=none:=by
       have bj:en ((s.drop (i+1)).take (df (s.drop (i+1))))=false:=by
        have:=uD (s.drop (i+1))
        rw[en,List.length_take,decide_eq_false (by omega:¬min (df (s.drop (i+1))) (s.drop (i+1)).length<=9)];simp
       rw[pV,bj];rfl
      rw[hV]at hT
      repeat(first|refine xA ?_|refine xB ?_|refine xC ?_|refine xE ?_|refine xD ?_|refine xK ?_|refine xS ?_|refine xM ?_|refine xT ?_|refine xF ?_|((first|refine xR ?_|refine xW ?_|refine fE ?_);simp only[go_sem,Nat.reduceAdd,Nat.reduceLeDiff,Nat.reduceSub,Int.reduceToNat,reduceCtorEq,hd,a8,ke,f1,f2])|(refine⟨by first|omega|(intros;simp_all;done)|(intros;simp_all;omega),?_⟩;try simp only[go_sem,Nat.reduceAdd,Nat.reduceLeDiff,Nat.reduceSub,Int.reduceToNat,reduceCtorEq,hd,a8,ke,f1,f2]))
      exact AE.aV [0] rfl ⟨⟨rfl,Nat.le_of_ble_eq_true (by kernel_rfl)⟩,rfl,trivial⟩ rfl ⟨rfl,.inr ⟨hT,.mk [] 0 [],.inr ⟨rfl,rfl⟩⟩⟩
     ·have f2:decide (((i+10:Nat):Int)<((i+1+k:Nat):Int))=false:=decide_eq_false (by omega)
      have f3:decide (((i+2:Nat):Int)<((i+1+k:Nat):Int))=decide (1<k):=by rw[decide_eq_decide];omega
      have B7:=pG.resolve_left ss
      have f4:decide (((i+1:Nat):Int)<(s.length:Int))=true:=decide_eq_true (by omega)
      have hV:=pV.eq_def s (i+1)
      rw[B7]at hV
      have bj:en ((s.drop (i+1)).take k)=(decide (k=1)||decide ((s.getD (i+1) 0).toNat≠48)):=by
       have ef:((s.drop (i+1)).take k).length=k:=by rw[List.length_take,List.length_drop];omega
       have hg:((s.drop (i+1)).take k).getD 0 0=s.getD (i+1) 0:=by
        rw[List.getD_eq_getElem?_getD,List.getElem?_take,if_pos (by omega),List.getElem?_drop,Nat.add_zero,<-List.getD_eq_getElem?_getD]
       rw[en,ef,hg,decide_eq_true (by omega:1<=k),decide_eq_true (by omega:k<=9)];simp
      obtain⟨c1,kF⟩:∃c1,s.getD (i+1) 0=c1:=⟨_,rfl⟩
      rw[kF]at bj
      repeat(first|refine xA ?_|refine xB ?_|refine xC ?_|refine xE ?_|refine xD ?_|refine xK ?_|refine xS ?_|refine xM ?_|refine xT ?_|refine xF ?_|((first|refine xR ?_|refine xW ?_|refine fE ?_);simp only[go_sem,Nat.reduceAdd,Nat.reduceLeDiff,Nat.reduceSub,Int.reduceToNat,reduceCtorEq,hd,a8,ke,cJ,f1,f2,f3,f4,kF])|(refine⟨by first|omega|(intros;simp_all;done)|(intros;simp_all;omega),?_⟩;try simp only[go_sem,Nat.reduceAdd,Nat.reduceLeDiff,Nat.reduceSub,Int.reduceToNat,reduceCtorEq,hd,a8,ke,cJ,f1,f2,f3,f4,kF]))
      refine AP.cond rfl rfl (fun h7=>?_) (fun h7=>?_)
      ·have mu:en ((s.drop (i+1)).take k)=false:=by
        rw[bj]
        simp at h7
        rw[decide_eq_false (by omega:¬k=1),decide_eq_false (by omega:¬c1.toNat≠48)];rfl
       rw[mu,if_neg (by decide)]at hV
       rw[hV]at hT
       refine gO ?_
       exact AE.aV [0] rfl ⟨⟨rfl,Nat.le_of_ble_eq_true (by kernel_rfl)⟩,rfl,trivial⟩ rfl ⟨rfl,.inr ⟨hT,.mk [] 0 [],.inr ⟨rfl,rfl⟩⟩⟩
      ·have mu:en ((s.drop (i+1)).take k)=true:=by
        rw[bj]
        simp at h7
        by_cases ij:k=1
        ·rw[decide_eq_true ij];rfl
        ·rw[decide_eq_false ij,Bool.false_or]
         refine decide_eq_true fun e=>?_
         have:=h7 (by omega)
         omega
       rw[if_pos mu]at hV
       rw[hV]at hT
       refine gO ?_
       exact AE.aV [0] rfl ⟨⟨rfl,Nat.le_of_ble_eq_true (by kernel_rfl)⟩,rfl,trivial⟩ rfl ⟨rfl,.inl ⟨_,_,hT,.inr ⟨rfl,rfl⟩⟩⟩
 ·have h:¬bt s i [63]=true:=fun e=>by rw[e]at h;exact absurd h (by decide)
  rw[if_neg h]at hT
  refine gO ?_
  refine AP.loop rfl (α:=Nat) (fun k=>[(0,Sv s),(1,Iv i),(4,.ob 0 0),(8,Iv (i+k:Nat))]) (fun _=>[(0,.var 57 [Sv [],Iv 0,dm])]) (fun k=>i+k<=s.length/\b6 true (s.drop i)=k+b6 (decide (k=0)) (s.drop (i+k))) (fun k=>s.length-(i+k)) 0 ⟨by omega,by simp⟩ (sU) rfl fun k ⟨hk,hm⟩=>?_
  by_cases ah:i+k<s.length
  ·have hw:=wr (x:=((i+k:Nat):Int)+1) (by omega)
   have hd:decide (((i+k:Nat):Int)<(s.length:Int))=true:=decide_eq_true (by omega)
   rw[Jy _ ah]at hm
   have B0:(((i+k:Nat):Int)==(i:Int))=decide (k=0):=by
    rw[Bool.eq_iff_iff,beq_iff_eq,decide_eq_true_iff];omega
   refine gE (an @hd @B0) ?_
   refine AQ.fI (by simp only[go_sem]) ?_
   refine AQ.fn (by kernel_rfl) rfl rfl rfl (II (s.getD (i+k) 0) (decide (k=0))) rfl ?_
   refine sI ?_
   refine gO ?_
   refine AP.cond rfl rfl (fun h5=>?_) (fun h5=>?_)
   ·rw[if_pos h5]at hm
    refine gE @hw ?_
    refine AE.round (k+1) ⟨by omega,?_⟩ (by omega) (sU) rfl
    rw[hm,show decide (k+1=0)=false from decide_eq_false (by omega)];simp only[Nat.add_assoc]
   ·rw[if_neg (by rw[h5];decide)]at hm
    have hm:b6 true (s.drop i)=k:=hm
    by_cases dE:k=0
    ·have f1:(((i+k:Nat):Int)==(i:Int))=true:=by rw[dE];simp
     rw[if_pos (by rw[hm];exact dE)]at hT
     clear hm dE ah hk hl
     repeat(first|refine xA ?_|refine xB ?_|refine xC ?_|refine xE ?_|refine xD ?_|refine xK ?_|refine xS ?_|refine xM ?_|refine xT ?_|refine xF ?_|((first|refine xR ?_|refine xW ?_|refine fE ?_);simp only[go_sem,Nat.reduceAdd,Nat.reduceLeDiff,Nat.reduceSub,Int.reduceToNat,reduceCtorEq,f1])|(refine⟨by first|omega|(intros;simp_all;done)|(intros;simp_all;omega),?_⟩;try simp only[go_sem,Nat.reduceAdd,Nat.reduceLeDiff,Nat.reduceSub,Int.reduceToNat,reduceCtorEq,f1]))
     exact AE.aV [0] rfl ⟨⟨rfl,Nat.le_of_ble_eq_true (by kernel_rfl)⟩,rfl,trivial⟩ rfl ⟨rfl,.inr ⟨hT,.mk [] 0 [],.inr ⟨rfl,rfl⟩⟩⟩
    ·have f1:(((i+k:Nat):Int)==(i:Int))=false:=by rw[beq_eq_false_iff_ne];omega
     rw[if_neg (by rw[hm];exact dE),hm]at hT
     have eA:=hl (i+k) (by omega) (by omega)
     clear hm
     repeat(first|refine xA ?_|refine xB ?_|refine xC ?_|refine xE ?_|refine xD ?_|refine xK ?_|refine xS ?_|refine xM ?_|refine xT ?_|refine xF ?_|((first|refine xR ?_|refine xW ?_|refine fE ?_);simp only[go_sem,Nat.reduceAdd,Nat.reduceLeDiff,Nat.reduceSub,Int.reduceToNat,reduceCtorEq,f1])|(refine⟨by first|omega|(intros;simp_all;done)|(intros;simp_all;omega),?_⟩;try simp only[go_sem,Nat.reduceAdd,Nat.reduceLeDiff,Nat.reduceSub,Int.reduceToNat,reduceCtorEq,f1]))
     refine AQ.o_ (by kernel_rfl) rfl rfl rfl eA fun r' H' hq=>?_
     obtain⟨rfl,⟨l,j,hp,rfl⟩|⟨hp,l,rfl⟩⟩:=hq
     ·rw[hp]at hT
      refine sI ?_
      refine gO ?_
      rw[Nat.add_sub_cancel_left]
      exact AE.aV [0] rfl ⟨⟨rfl,Nat.le_of_ble_eq_true (by kernel_rfl)⟩,rfl,trivial⟩ rfl ⟨rfl,.inl ⟨_,_,hT,.inl rfl⟩⟩
     ·rw[hp]at hT
      refine sI ?_
      refine gO ?_
      rw[Nat.add_sub_cancel_left]
      exact AE.aV [0] rfl ⟨⟨rfl,Nat.le_of_ble_eq_true (by kernel_rfl)⟩,rfl,trivial⟩ rfl ⟨rfl,.inr ⟨hT,.mk ((s.drop i).take k) 0 l,.inl rfl⟩⟩
  ·have hd:decide (((i+k:Nat):Int)<(s.length:Int))=false:=decide_eq_false (by omega)
   have hm:b6 true (s.drop i)=k:=by rw[hm,List.drop_eq_nil_of_le (by omega),b6];rfl
   by_cases dE:k=0
   ·have f1:(((i+k:Nat):Int)==(i:Int))=true:=by rw[dE];simp
    rw[if_pos (by rw[hm];exact dE)]at hT
    clear hm dE ah hk hl
    repeat(first|refine xA ?_|refine xB ?_|refine xC ?_|refine xE ?_|refine xD ?_|refine xK ?_|refine xS ?_|refine xM ?_|refine xT ?_|refine xF ?_|((first|refine xR ?_|refine xW ?_|refine fE ?_);simp only[go_sem,Nat.reduceAdd,Nat.reduceLeDiff,Nat.reduceSub,Int.reduceToNat,reduceCtorEq,hd,f1])|(refine⟨by first|omega|(intros;simp_all;done)|(intros;simp_all;omega),?_⟩;try simp only[go_sem,Nat.reduceAdd,Nat.reduceLeDiff,Nat.reduceSub,Int.reduceToNat,reduceCtorEq,hd,f1]))
    exact AE.aV [0] rfl ⟨⟨rfl,Nat.le_of_ble_eq_true (by kernel_rfl)⟩,rfl,trivial⟩ rfl ⟨rfl,.inr ⟨hT,.mk [] 0 [],.inr ⟨rfl,rfl⟩⟩⟩
   ·have f1:(((i+k:Nat):Int)==(i:Int))=false:=by rw[beq_eq_false_iff_ne];omega
    rw[if_neg (by rw[hm];exact dE),hm]at hT
    have eA:=hl (i+k) (by omega) (by omega)
    clear hm
    repeat(first|refine xA ?_|refine xB ?_|refine xC ?_|refine xE ?_|refine xD ?_|refine xK ?_|refine xS ?_|refine xM ?_|refine xT ?_|refine xF ?_|((first|refine xR ?_|refine xW ?_|refine fE ?_);simp only[go_sem,Nat.reduceAdd,Nat.reduceLeDiff,Nat.reduceSub,Int.reduceToNat,reduceCtorEq,hd,f1])|(refine⟨by first|omega|(intros;simp_all;done)|(intros;simp_all;omega),?_⟩;try simp only[go_sem,Nat.reduceAdd,Nat.reduceLeDiff,Nat.reduceSub,Int.reduceToNat,reduceCtorEq,hd,f1]))
    refine AQ.o_ (by kernel_rfl) rfl rfl rfl eA fun r' H' hq=>?_
    obtain⟨rfl,⟨l,j,hp,rfl⟩|⟨hp,l,rfl⟩⟩:=hq
    ·rw[hp]at hT
     refine sI ?_
     refine gO ?_
     rw[Nat.add_sub_cancel_left]
     exact AE.aV [0] rfl ⟨⟨rfl,Nat.le_of_ble_eq_true (by kernel_rfl)⟩,rfl,trivial⟩ rfl ⟨rfl,.inl ⟨_,_,hT,.inl rfl⟩⟩
    ·rw[hp]at hT
     refine sI ?_
     refine gO ?_
     rw[Nat.add_sub_cancel_left]
     exact AE.aV [0] rfl ⟨⟨rfl,Nat.le_of_ble_eq_true (by kernel_rfl)⟩,rfl,trivial⟩ rfl ⟨rfl,.inr ⟨hT,.mk ((s.drop i).take k) 0 l,.inl rfl⟩⟩
theorem D6 (s:List UInt8) (hs:s.length<=1000000):∀(f i:Nat),i<=s.length->s.length<f+i->ak Tryz.prog 161 [Sv s,Iv i] [] (QT s f i)
 |0,i,h1,h2=>by omega
 |f+1,i,h1,h2=>Ta s hs f i h1 fun i' h3 h4=>S9 s hs f i' h4 (by omega) fun f' i2 h5 h6 h7=>by
   exact D6 s hs f' i2 h6 h7
theorem Sg {s:List UInt8} {i:Nat} (h:bt s i [126]=true):(pT s (s.length+2) (i+1)=none->pL s i=none)/\(∀t j,pT s (s.length+2) (i+1)=some (t,j)->(t.nm=[]->pL s i=none)/\(t.nm≠[]->pL s i=some (⟨true,t.nm,t.xs⟩,j))):=by
 have hL:pL s i=_:=pL.eq_def s i
 rw[if_pos h]at hL
 have hT:=zN s (s.length+1) (i+1)
 by_cases BK:bt s (i+1) [63]=true
 ·have hn:b6 true (s.drop (i+1))=0:=by
   rw[iD BK]
   show b6 true (63::_)=0
   rw[b6];rfl
  rw[if_pos hn]at hL
  rw[if_pos BK]at hT
  refine⟨fun _=>hL,fun t j hp=>⟨fun _=>hL,fun aT=>?_⟩⟩
  rw[hT]at hp
  exact absurd (DW hp).1 aT
 ·rw[if_neg BK]at hT
  by_cases hn:b6 true (s.drop (i+1))=0
  ·rw[if_pos hn]at hL hT
   exact⟨fun _=>hL,fun t j hp=>by rw[hT]at hp;cases hp⟩
  ·rw[if_neg hn]at hL hT
   have aT:(s.drop (i+1)).take (b6 true (s.drop (i+1)))≠[]:=by
    obtain⟨c,r,e,_⟩:=DL hn
    rw[e];simp
   cases hp:pA s (s.length+1) (i+1+b6 true (s.drop (i+1)))with
   |none=>
    rw[hp]at hL hT
    exact⟨fun _=>hL,fun t j hq=>by rw[hT]at hq;cases hq⟩
   |some x=>
    obtain⟨l,k⟩:=x
    rw[hp]at hL hT
    refine⟨fun hq=>(by rw[hT]at hq;cases hq),fun t j hq=>?_⟩
    rw[hT]at hq
    cases hq
    exact⟨fun e=>absurd e aT,fun _=>hL⟩
def Bp (s:List UInt8) (j:Nat):Bool:=bt s j [32,61,32]||bt s j [32,33,61,32]
def zD (s:List UInt8) (i:Nat):Prop:=pL s i=none\/∃l j,pL s i=some (l,j)/\Bp s j=true
def QL (s:List UInt8) (i:Nat) (r:AV) (H':aa):Prop:=H'=[]/\((∃l j,pL s i=some (l,j)/\r= .aD [fc l,Iv j])\/(zD s i/\∃l,r= .aD [fc l,Iv (-1)]))
theorem S_ (s:List UInt8) (hs:s.length<=1000000) (i:Nat) (hi:i<=s.length):ak Tryz.prog 84 [Sv s,Iv i] [] (QL s i):=by
 refine ak.told (R:=fun r H'=>H'=[]/\((∃l j,pL s i=some (l,j)/\r= .aD [fc l,Iv j])\/(zD s i/\r= .aD [.agg [Bv false,Sv [],dm],Iv (-1)]))) ?_ (fun r H' ⟨h0,h⟩=>by
  rcases h with⟨l,j,h1,rfl⟩|⟨h1,rfl⟩
  ·exact⟨_,⟨h0,.inl ⟨l,j,h1,rfl⟩⟩,bX.refl _⟩
  ·exact⟨_,⟨h0,.inr ⟨h1,⟨false,[],[]⟩,rfl⟩⟩,bX.aD (bO.lj (show bX (.agg [Bv false,Sv [],dm]) (.agg [Bv false,Sv [],.im (.sl 3 (aw []))]) from by rw[aw];exact(by repeat' (first|with_reducible exact bX.refl _|with_reducible exact da.refl _|exact da.nil _|with_reducible exact bO.refl _|with_reducible exact fp.refl _|with_reducible exact eI.refl _|refine bO.lj ?_ ?_|refine bX.agg ?_|refine bX.im ?_|refine da.sl ?_|refine eI.cons ?_ ?_|refine fp.cons ?_ ?_))) (bO.refl _))⟩)
 have OH:=o8 s [126] i hi hs (by simp)
 have hL:pL s i=_:=pL.eq_def s i
 refine ak.walk [0,1,4,5,6,7,8,9,10,11,12,16,26,39,42,51,55,65] [4,7,11] Tryz.func84 rfl Tryz.ntmps84 (by kernel_rfl) (by rfl) rfl fun W own I0 ax lay=>?_
 refine gO ?_
 refine AQ.fn (by kernel_rfl) rfl rfl rfl (OH) rfl ?_
 refine sI ?_
 refine gO ?_
 obtain⟨g,hg⟩:∃g,bt s i [126]=g:=⟨_,rfl⟩
 rw[hg]
 refine AP.cut (α:=Unit) (fun _=>[(0,Sv s),(1,Iv (if g then i+1 else i:Nat)),(4,.ob 0 0),(6,Bv g)]) (fun _=>[(0,.var 61 [Bv false,Sv [],dm])]) (fun _=>True) ?_ fun _ _=>?_
 ·cases g with
  |true=>
   have hle:=iV hg hi
   simp only[List.length_cons,List.length_nil]at hle
   have a8:IntKind.i64.wrap ((i:Int)+1)=((i+1:Nat):Int):=by rw[wr (by omega)];omega
   refine gE @a8 ?_
   exact AE.meet () trivial (sU) rfl
  |false=>
   refine gO ?_
   exact AE.meet () trivial (sU) rfl
 obtain⟨n,hn⟩:∃n,(if g then i+1 else i:Nat)=n:=⟨_,rfl⟩
 have sK:n<=s.length:=by
  rw[<-hn]
  cases g with
  |true=>
   have hle:=iV hg hi
   simp only[List.length_cons,List.length_nil]at hle
   simpa using hle
  |false=>simpa using hi
 have e7:=Sg (s:=s) (i:=i)
 obtain⟨f,hf⟩:∃f,(if g then s.length+2 else s.length+1:Nat)=f:=⟨_,rfl⟩
 have hT:=D6 s hs f n sK (by rw[<-hf];split<;>omega)
 rw[hn]
 refine gO ?_
 refine AQ.o_ (by kernel_rfl) rfl rfl rfl hT fun r' H' hq=>?_
 obtain⟨rfl,⟨t,j,hp,rfl⟩|⟨hp,t,rfl⟩⟩:=hq
 ·have fP:=nA hp
  have e1:=o8 s [32,61,32] j fP.2.2 hs (by simp)
  have e2:=o8 s [32,33,61,32] j fP.2.2 hs (by simp)
  refine sI ?_
  refine gO ?_
  refine AQ.fn (by kernel_rfl) rfl rfl rfl (e1) rfl ?_
  refine sI ?_
  refine gO ?_
  refine AQ.fn (by kernel_rfl) rfl rfl rfl (e2) rfl ?_
  refine sI ?_
  refine gO ?_
  obtain⟨b1,cQ⟩:∃b,bt s j [32,61,32]=b:=⟨_,rfl⟩
  obtain⟨b2,eW⟩:∃b,bt s j [32,33,61,32]=b:=⟨_,rfl⟩
  rw[cQ,eW]
  clear hT
  cases g with
  |true=>
   have hn:i+1=n:=hn
   have hf:s.length+2=f:=hf
   subst hn
   subst hf
   obtain⟨q1,q2⟩:=(e7 hg).2 t j hp
   clear hL e7
   refine AP.cond rfl rfl (fun h1=>?_) (fun h1=>?_)
   ·refine gO ?_
    refine AP.cond rfl rfl (fun h2=>?_) (fun h2=>?_)
    ·have h2:t.nm=[]:=by simpa using h2
     refine gO ?_
     exact AE.aV [1,0] rfl ⟨⟨rfl,Nat.le_of_ble_eq_true (by kernel_rfl)⟩,rfl,trivial⟩ rfl ⟨rfl,.inr ⟨.inl (q1 h2),rfl⟩⟩
    ·have h2:t.nm≠[]:=by simpa using h2
     refine gO ?_
     exact AE.aV [1,0] rfl ⟨⟨rfl,Nat.le_of_ble_eq_true (by kernel_rfl)⟩,rfl,trivial⟩ rfl ⟨rfl,.inl ⟨_,j,q2 h2,rfl⟩⟩
   ·have bj:zD s i:=by
     by_cases h2:t.nm=[]
     ·exact .inl (q1 h2)
     ·refine .inr ⟨_,j,q2 h2,?_⟩
      rw[Bp,cQ,eW]
      cases b1<;>cases b2<;>simp at h1⊢
    refine gO ?_
    exact AE.aV [1,0] rfl ⟨⟨rfl,Nat.le_of_ble_eq_true (by kernel_rfl)⟩,rfl,trivial⟩ rfl ⟨rfl,.inr ⟨bj,rfl⟩⟩
  |false=>
   have hn:i=n:=hn
   have hf:s.length+1=f:=hf
   subst hn
   subst hf
   rw[if_neg (by rw[hg];decide),hp]at hL
   simp only at hL
   rw[cQ,eW]at hL
   clear e7
   refine AP.cond rfl rfl (fun h1=>?_) (fun h1=>?_)
   ·have ao:b1=false/\b2=false:=by cases b1<;>cases b2<;>simp at h1⊢
    rw[ao.1,ao.2,if_neg (by decide),if_neg (by decide)]at hL
    refine gO ?_
    refine AP.cond rfl rfl (fun h2=>?_) (fun h2=>?_)
    ·have h2:t.nm=[]:=by simpa using h2
     rw[if_pos h2]at hL
     refine gO ?_
     exact AE.aV [1,0] rfl ⟨⟨rfl,Nat.le_of_ble_eq_true (by kernel_rfl)⟩,rfl,trivial⟩ rfl ⟨rfl,.inr ⟨.inl hL,rfl⟩⟩
    ·have h2:t.nm≠[]:=by simpa using h2
     rw[if_neg h2]at hL
     refine gO ?_
     exact AE.aV [1,0] rfl ⟨⟨rfl,Nat.le_of_ble_eq_true (by kernel_rfl)⟩,rfl,trivial⟩ rfl ⟨rfl,.inl ⟨_,j,hL,rfl⟩⟩
   ·obtain⟨m,hm,PZ⟩:∃m,m=(if b2 then j+4 else j+3)/\m<=s.length:=⟨_,rfl,by
     cases b2 with
     |true=>have:=iV eW fP.2.2;simp only[List.length_cons,List.length_nil]at this;simpa using this
     |false=>
      have BY:b1=true:=by cases b1<;>simp at h1⊢
      have:=iV (cQ.trans BY) fP.2.2
      simp only[List.length_cons,List.length_nil]at this;simpa using this⟩
    have OG:b2=true->b1=false:=fun e=>by
     rw[<-Bool.not_eq_true]
     intro e1
     have k1:=iD (cQ.trans e1)
     have k2:=iD (eW.trans e)
     rw[k1]at k2
     exact absurd (List.cons.inj (List.cons.inj k2).2).1 (by decide)
    have pw:pL s i=match pT s (s.length+1) m with
      |none=>none
      |some (u,k)=>some (⟨b2,[61],[t,u]⟩,k):=by
     cases b2 with
     |true=>
      rw[OG rfl,if_neg (by decide),if_pos rfl]at hL
      rw[hL,hm];rfl
     |false=>
      have BY:b1=true:=by cases b1<;>simp at h1⊢
      rw[BY,if_pos rfl]at hL
      rw[hL,hm];rfl
    have lJ:IntKind.i64.wrap ((j:Int)+3)=((j+3:Nat):Int):=by rw[wr (by omega)];omega
    have O2:=D6 s hs (s.length+1) m PZ (by omega)
    refine gE @lJ ?_
    refine AP.cut (α:=Unit) (fun _=>[(0,Sv s),(4,.ob 0 0),(7,.ob 1 0),(8,Iv m),(10,Bv b2)]) (fun _=>[(1,.var 57 [Sv t.nm,Iv t.ix,.im (.sl 3 (aw t.xs))]),(0,.var 61 [Bv false,Sv [],dm])]) (fun _=>True) ?_ fun _ _=>?_
    ·cases b2 with
     |true=>
      have q8:IntKind.i64.wrap (((j+3:Nat):Int)+1)=((j+4:Nat):Int):=by rw[wr (by simp at hm;omega)];omega
      refine gE @q8 ?_
      exact AE.meet () trivial (by rw[hm];exact(sU)) rfl
     |false=>
      refine gO ?_
      exact AE.meet () trivial (by rw[hm];exact(sU)) rfl
    clear hL h1 lJ hm
    refine gO ?_
    refine AQ.o_ (by kernel_rfl) rfl rfl rfl O2 fun r' H' hq=>?_
    obtain⟨rfl,⟨u,k,aP,rfl⟩|⟨aP,u,rfl⟩⟩:=hq
    ·rw[aP]at pw
     refine sI ?_
     refine gO ?_
     rw[show([[IV.v (Value.string (BA t.nm)),IV.v (Value.int .i64 t.ix),IV.sl 3 (aw t.xs)],[IV.v (Value.string (BA u.nm)),IV.v (Value.int .i64 u.ix),IV.sl 3 (aw u.xs)]]:List (List IV))=aw [t,u] by simp[aw,lX]]
     exact AE.aV [2,1,0] rfl ⟨⟨rfl,Nat.le_of_ble_eq_true (by kernel_rfl)⟩,rfl,trivial⟩ rfl ⟨rfl,.inl ⟨_,k,pw,rfl⟩⟩
    ·rw[aP]at pw
     refine sI ?_
     refine gO ?_
     exact AE.aV [2,1,0] rfl ⟨⟨rfl,Nat.le_of_ble_eq_true (by kernel_rfl)⟩,rfl,trivial⟩ rfl ⟨rfl,.inr ⟨.inl pw,rfl⟩⟩
 ·refine sI ?_
  refine gO ?_
  refine AE.aV [1,0] rfl ⟨⟨rfl,Nat.le_of_ble_eq_true (by kernel_rfl)⟩,rfl,trivial⟩ rfl ⟨rfl,.inr ⟨.inl ?_,rfl⟩⟩
  cases g with
  |true=>
   have hn:i+1=n:=hn
   have hf:s.length+2=f:=hf
   subst hn
   subst hf
   exact(e7 hg).1 hp
  |false=>
   have hn:i=n:=hn
   have hf:s.length+1=f:=hf
   subst hn
   subst hf
   rw[if_neg (by rw[hg];decide),hp]at hL
   exact hL
theorem SY {s:List UInt8} {f i:Nat} (h:zD s i):pS s (f+1) i=none:=by
 rw[zM]
 rcases h with h|⟨l,j,h,he⟩
 ·rw[h]
 ·rw[h]
  simp only
  have hd:∃r,s.drop j=32::r/\(∀q,r≠124::q):=by
   rw[Bp,Bool.or_eq_true]at he
   rcases he with he|he
   ·exact⟨_,iD he,fun q e=>absurd (List.cons.inj e).1 (by decide)⟩
   ·exact⟨_,iD he,fun q e=>absurd (List.cons.inj e).1 (by decide)⟩
  obtain⟨r,hr,hq⟩:=hd
  have h1:bt s j [32,124,32]=false:=by
   rw[<-Bool.not_eq_true]
   intro k
   have:=iD k
   rw[hr]at this
   exact hq _ (List.cons.inj this).2
  have h2:j<s.length:=by
   have:=congrArg List.length hr
   rw[List.length_drop,List.length_cons]at this
   omega
  rw[l6,h1,if_neg (by decide),if_pos h2];rfl
theorem S0 (s:List UInt8) (hs:s.length<=1000000):aI Tryz.prog 20 [Sv s] (.aD [aJ (jf s),Iv (jO s)]):=by
 refine aI.told (r:= .aD [if jO s=0 then aJ (jf s)else dm,Iv (jO s)]) ?_ (by
  split
  ·exact bX.refl _
  ·rename_i h
   have:jf s=[]:=by
    rw[jO]at h
    rw[jf]
    by_cases k:40000<s.length
    ·rw[if_pos k]
    ·rw[if_neg k]at h⊢
     cases hp:pC s with
     |none=>rfl
     |some c=>rw[hp]at h;exact if_pos h
   rw[this]
   exact(show bX (.aD [dm,Iv (jO s)]) (.aD [.im (.sl 3 (aF [])),Iv (jO s)]) from bX.aD (bO.lj (bX.im (da.nil 3)) (bO.refl _))))
 have hE:=jO.eq_def s
 have hR:=jf.eq_def s
 have hC:=pC.eq_def s
 refine ak.walk [0,2,3,4,5,6,7,8,11,13,23,31,35,41] [6] Tryz.func20 rfl Tryz.ntmps20 (by kernel_rfl) (by rfl) rfl fun W own I0 ax lay=>?_
 refine gO ?_
 refine AP.cond rfl rfl (fun h1=>?_) (fun h1=>?_)
 ·have h1:40000<s.length:=by
   have:(40000:Int)<(s.length:Nat):=by simpa using h1
   omega
  rw[if_pos h1]at hE hR
  rw[hE,if_neg (by omega)]
  refine gO ?_
  exact AE.ay rfl ⟨rfl,rfl,trivial⟩ rfl ⟨rfl,rfl⟩
 have h1:¬40000<s.length:=by
  have:¬(40000:Int)<(s.length:Nat):=by simpa using h1
  omega
 rw[if_neg h1]at hE hR
 refine gO ?_
 refine AP.cond rfl rfl (fun h2=>?_) (fun h2=>?_)
 ·have h2:s=[91,93]:=by simpa using h2
  subst h2
  have OS:jO [91,93]=0:=by rw[hE];rfl
  have OY:jf [91,93]=[]:=by rw[hR];rfl
  rw[OS,if_pos rfl,OY]
  refine gO ?_
  refine AE.freeze 0 (el:=61) (es:=3) (rows:=aF []) rfl (by simp only[go_sem,Nat.reduceAdd,Nat.reduceLeDiff,Nat.reduceSub,Int.reduceToNat,reduceCtorEq,ae];first|done|trivial|omega|(simp;done)|(simp;omega)) (by simp only[go_sem,Nat.reduceAdd,Nat.reduceLeDiff,Nat.reduceSub,Int.reduceToNat,reduceCtorEq,ae];first|done|trivial|omega|(simp;done)|(simp;omega)) ?_;simp only[go_sem,Nat.reduceAdd,Nat.reduceLeDiff,Nat.reduceSub,Int.reduceToNat,reduceCtorEq,ae]
  exact AE.ay rfl ⟨rfl,rfl,trivial⟩ rfl ⟨rfl,rfl⟩
 have h2:s≠[91,93]:=by simpa using h2
 rw[if_neg h2]at hC
 have uQ:pC s=nB [] (pS s (s.length+1) 0):=by rw[hC];cases pS s (s.length+1) 0<;>rfl
 have hN:pC s=none->jO s=2:=fun h=>by rw[hE,h]
 refine gO ?_
 refine AP.loop rfl (α:=List Lt×Nat×Nat) (fun z=>[(0,Sv s),(4,.os 0 3 0 z.1.length),(5,Iv z.2.1)]) (fun z=>[(0,.vec 61 3 (aF z.1))]) (fun z=>z.1.length<=z.2.1/\z.2.1<=s.length/\s.length<z.2.2+z.2.1/\pC s=nB z.1 (pS s z.2.2 z.2.1)) (fun z=>s.length-z.2.1) ([],0,s.length+1) ⟨by simp,by simp,by simp only;omega,uQ⟩ (sU) rfl fun⟨a,n,g⟩ ⟨z1,z2,z3,z4⟩=>?_
 simp only at z1 z2 z3 z4⊢
 clear hC uQ
 obtain⟨g,rfl⟩:∃q,g=q+1:=⟨g-1,by omega⟩
 have hl:=S_ s hs n z2
 refine gO ?_
 refine AQ.o_ (by kernel_rfl) rfl rfl rfl hl fun r' H' hq=>?_
 obtain⟨rfl,⟨l,j,hp,rfl⟩|⟨hp,l,rfl⟩⟩:=hq
 ·have fP:=DT hp
  rw[zM,hp]at z4
  simp only at z4
  have ha:=o8 s [32,124,32] j fP.2.2 hs (by simp)
  refine sI ?_
  refine gO ?_
  refine AQ.append (hnb:=rfl) (rows:=aF a) (es:=2) (by kernel_rfl) rfl rfl rfl (by rfl) Tryz.gf Tryz.gb (by show Option.map _ (aC Tryz.prog 61)=_;rw[Tryz.gi];rfl) Tryz.fV (by first|rfl|(simp only[ae,List.length_cons,List.length_nil];done)|(simp only[ae,List.length_cons,List.length_nil];omega)) (by simp only[ae,List.length_cons,List.length_nil];omega) (by simp only[ae,List.length_cons,List.length_nil];omega) ?_
  refine sE @ae ?_
  refine gO ?_
  have iq:(aF a++[[Bi l.ng,Si l.pd,IV.sl 3 (aw l.xs)]])=aF (a++[l]):=by simp[aF]
  rw[iq]
  have qI:a.length+1=(a++[l]).length:=by simp
  rw[qI]
  refine AP.cond rfl rfl (fun h3=>?_) (fun h3=>?_)
  ·have h3:j=s.length:=by
    have:(j:Int)=(s.length:Nat):=by simpa using h3
    omega
   have O6:l6 s g j=some []:=by
    have:bt s j [32,124,32]=false:=by rw[bt,List.drop_eq_nil_of_le (by omega)];rfl
    rw[l6,this,if_neg (by decide),if_neg (by omega)]
   rw[O6]at z4
   have z4:pC s=some (a++[l]):=z4
   have cB:=DS (by omega) z4
   obtain⟨c,hc⟩:∃c,a++[l]=c:=⟨_,rfl⟩
   rw[hc]at z4 cB⊢
   rw[z4]at hE hR
   simp only at hE hR
   have bD:=pb c cB
   refine gO ?_
   refine AQ.freeze 0 (el:=61) (es:=3) (rows:=aF c) rfl (by simp only[go_sem,Nat.reduceAdd,Nat.reduceLeDiff,Nat.reduceSub,Int.reduceToNat,reduceCtorEq,ae];first|done|trivial|omega|(simp;done)|(simp;omega)) (by simp only[go_sem,Nat.reduceAdd,Nat.reduceLeDiff,Nat.reduceSub,Int.reduceToNat,reduceCtorEq,ae];first|done|trivial|omega|(simp;done)|(simp;omega)) ?_;simp only[go_sem,Nat.reduceAdd,Nat.reduceLeDiff,Nat.reduceSub,Int.reduceToNat,reduceCtorEq,ae]
   rw[List.take_of_length_le (by rw[ae];exact Nat.le_refl _)]
   refine AQ.fn (by kernel_rfl) rfl rfl rfl (bD) rfl ?_
   refine sI ?_
   refine gO ?_
   refine AP.cond rfl rfl (fun h4=>?_) (fun h4=>?_)
   ·have h4:bl 4 9 2 3 c≠0:=by simpa using h4
    rw[hE,if_neg h4]
    refine gO ?_
    exact AE.aV [1] rfl ⟨rfl,rfl,trivial⟩ rfl ⟨rfl,rfl⟩
   ·have h4:bl 4 9 2 3 c=0:=by simpa using h4
    rw[hE,if_pos h4,h4,hR,h4,if_neg (by omega)]
    refine gO ?_
    exact AE.aV [1] rfl ⟨rfl,rfl,trivial⟩ rfl ⟨rfl,rfl⟩
  have h3:j≠s.length:=by
   have:(j:Int)≠(s.length:Nat):=by simpa using h3
   omega
  refine gO ?_
  refine AQ.fn (by kernel_rfl) rfl rfl rfl (ha) rfl ?_
  refine sI ?_
  refine gO ?_
  refine AP.cond rfl rfl (fun h4=>?_) (fun h4=>?_)
  ·have h4:bt s j [32,124,32]=false:=by simpa using h4
   rw[l6,h4,if_neg (by decide),if_pos (by have:=fP.2.2;omega)]at z4
   have hn:=hN z4
   rw[hn,if_neg (by omega)]
   refine gO ?_
   exact AE.aV [1,0] rfl ⟨rfl,rfl,trivial⟩ rfl ⟨rfl,rfl⟩
  ·have h4:bt s j [32,124,32]=true:=by simpa using h4
   have hle:=iV h4 fP.2.2
   simp only[List.length_cons,List.length_nil]at hle
   have hw:=wr (x:=(j:Int)+3) (by omega)
   rw[l6,if_pos h4]at z4
   refine gE @hw ?_
   refine AE.ew [1] rfl ?_
   refine sI ?_
   refine AE.round (a++[l],j+3,g) ⟨by simp only[List.length_append,List.length_singleton];omega,hle,by simp only;omega,?_⟩ (by simp only;omega) (sU) rfl
   simp only
   rw[z4]
   cases hq:pS s g (j+3)with
   |none=>rfl
   |some x=>simp[nB]
 ·have hn:=hN (by rw[z4,SY hp];rfl)
  rw[hn,if_neg (by omega)]
  refine sI ?_
  refine gO ?_
  exact AE.aV [1,0] rfl ⟨rfl,rfl,trivial⟩ rfl ⟨rfl,rfl⟩
theorem zH:∀(a o b:List Int),bg o (a++b)=bg (bg o a) b
 |[],o,b=>by rw[List.nil_append,bg]
 |v::a,o,b=>by rw[List.cons_append,bg,bg,zH a]
mutual
theorem Ly:∀(t:Tm) (l:List Int),cw t=true->iy l t=bg l (bR t)
 | .mk n i xs,l,h=>by
  rw[cw]at h
  rw[iy,bR]
  by_cases hn:n=[]
  ·rw[if_pos hn]at h⊢
   rw[if_pos hn]
   simp only[Bool.and_eq_true,List.isEmpty_iff]at h
   rw[h.1,aM,List.append_nil,bg,bg]
   by_cases hi:jy i l=true
   ·rw[if_pos hi,if_pos (BX.1 hi)]
   ·rw[if_neg hi,if_neg (fun e=>hi (BX.2 e))]
  ·rw[if_neg hn]at h⊢
   rw[if_neg hn,List.nil_append]
   simp only[Bool.and_eq_true]at h
   exact EF xs l h.2
theorem EF:∀(r:List Tm) (l:List Int),bL r=true->ft l r=bg l (aM r)
 |[],l,_=>by rw[ft,aM,bg]
 |t::r,l,h=>by
  rw[bL,Bool.and_eq_true]at h
  rw[ft,aM,zH,Ly t l h.1,EF r _ h.2]
end
theorem JQ:∀(l:List Tm) (k:Nat),bL l=true->bL (l.take k)=true
 |[],k,_=>by simp[bL]
 |t::l,0,_=>rfl
 |t::l,k+1,h=>by
  rw[bL,Bool.and_eq_true]at h
  rw[List.take_succ_cons,bL,h.1,JQ l k h.2];rfl
theorem UH {c:List Lt} {k:Nat} {u:Lt} (h:c[k]?=some u):bQ (c.take (k+1))=bQ (c.take k)++aM u.xs:=by
 rw[cK h,bQ,List.flatMap_append];simp[bQ]
theorem LU:∀a b:List Tm,aH (a++b)=aH a+aH b
 |[],b=>by rw[List.nil_append,aH];omega
 |t::a,b=>by rw[List.cons_append,aH,aH,LU a b];omega
theorem NC (c:List Lt) (hc:cG c) (al:∀l∈c,cu l=true) (hn:b5 c<=4000) (uN:c.length<=4000):aI Tryz.prog 166 [aJ c] (.im (.sl 1 (cL (bg [] (bQ c))))):=by
 have hlen:∀l:List Int,(bg [] l).length<=l.length:=fun l=>by
  have:∀(l o:List Int),(bg o l).length<=o.length+l.length:=fun l=>by
   induction l with
   |nil=>intro o;rw[bg];simp
   |cons v l ih=>
    intro o
    rw[bg]
    refine Nat.le_trans (ih _) ?_
    split<;>simp<;>omega
  simpa using this l []
 refine ak.walk [0,2,3,4,5,10,20] [] Tryz.func166 rfl Tryz.ntmps166 (by kernel_rfl) (by rfl) rfl fun W own I0 ax lay=>?_
 refine gO ?_
 refine AP.freeze 0 (el:=3) (es:=1) (rows:=cL []) rfl (by simp only[go_sem,Nat.reduceAdd,Nat.reduceLeDiff,Nat.reduceSub,Int.reduceToNat,reduceCtorEq,cj];first|done|trivial|omega|(simp;done)|(simp;omega)) (by simp only[go_sem,Nat.reduceAdd,Nat.reduceLeDiff,Nat.reduceSub,Int.reduceToNat,reduceCtorEq,cj];first|done|trivial|omega|(simp;done)|(simp;omega)) ?_;simp only[go_sem,Nat.reduceAdd,Nat.reduceLeDiff,Nat.reduceSub,Int.reduceToNat,reduceCtorEq,cj]
 refine AP.loop rfl (α:=Nat) (fun k=>[(0,aJ c),(3,.im (.sl 1 (cL (bg [] (bQ (c.take k)))))),(4,Iv k)]) (fun _=>[]) (fun k=>k<=c.length) (fun k=>c.length-k) 0 (by omega) (sU) rfl fun k hk=>?_
 rcases Nat.eq_or_lt_of_le hk with aG|ah
 ·subst aG
  rw[List.take_length]
  refine gE @ae ?_
  refine cF ?_
  refine gO ?_
  exact AE.ay rfl ⟨rfl,trivial⟩ rfl ⟨rfl,rfl⟩
 ·obtain⟨u,hu,aj⟩:=dI c k ah
  have gr:=List.mem_of_getElem? hu
  have kP:=hc.2 u gr
  have my:=tt (al u gr)
  have hw:=wr (x:=(k:Int)+1) (by omega)
  have aS:=UH hu
  have pN:=xc gr
  have cB:=Ar (c.take k)
  have jb:=DE c k
  obtain⟨l,hl⟩:∃l,bg [] (bQ (c.take k))=l:=⟨_,rfl⟩
  have kK:l.length<=4000:=by rw[<-hl];exact Nat.le_trans (hlen _) (by omega)
  rw[hl]
  refine gE @ae ?_
  refine cT ?_
  refine gO ?_
  refine AP.loop rfl (α:=Nat) (fun j=>[(0,aJ c),(3,.im (.sl 1 (cL (bg l (aM (u.xs.take j)))))),(4,Iv k),(5,Iv j)]) (fun _=>[]) (fun j=>j<=u.xs.length) (fun j=>u.xs.length-j) 0 (by omega) (by rw[List.take_zero,aM,bg];exact(sU)) rfl fun j hj=>?_
  have mB:=kP.2.1
  rcases Nat.eq_or_lt_of_le hj with cY|pI
  ·subst cY
   rw[List.take_length]
   refine gE (an @aj (an @ai @ae)) ?_
   refine cF ?_
   refine gE @hw ?_
   exact AE.round (k+1) (by omega) (by omega) (by rw[aS,zH,hl];exact(sU)) rfl
  ·obtain⟨x,hx,cg⟩:=cm u.xs j pI
   have lK:=wr (x:=(j:Int)+1) (by omega)
   have eC:=Ao (u.xs.take j) l
   rw[EF _ _ (JQ _ _ my)]at eC
   have q6:=EI x (bg l (aM (u.xs.take j))) (cN kP.2.2 hx) (by
    have h1:=qh u.xs x (List.mem_of_getElem? hx)
    have h2:aH (u.xs.take j)<=aH u.xs:=by
     have:aH u.xs=aH (u.xs.take j)+aH (u.xs.drop j):=by conv=>lhs;rw[<-List.take_append_drop j u.xs,LU]
     omega
    omega)
   have lL:bg l (aM (u.xs.take (j+1)))=iy (bg l (aM (u.xs.take j))) x:=by rw[LL hx,zH,Ly x _ (rm my hx)]
   refine gE (an @aj (an @ai @ae)) ?_
   refine cT ?_
   refine gE (an @aj (an @cg (an @ai @ae))) ?_
   refine AQ.fn (by kernel_rfl) rfl rfl rfl (q6) rfl ?_
   refine sI ?_
   refine gE @lK ?_
   exact AE.round (j+1) (by omega) (by omega) (by rw[lL];exact(sU)) rfl
def WS (m m':Bd):List Int:=(m'.drop m.length).map (·.1)
def Wq (x y:Lt) (m:Bd):Bd×Bool:=if MF x y then DB x.xs y.xs m else(m,false)
theorem M6 (l m:Bd):jo l++jo m=jo (l++m):=by simp[jo]





theorem Fc (l:Bd):∀(k:List Tm) (n:Int),0<=n->(∀t∈k,cw t=true)->n+(aH (bk (lT l) k):Int)<=4000->db l k n=n+(aH (bk (lT l) k):Int)
 |[],n,_,_,_=>by rw[db,bk,aH];simp
 |t::k,n,h0,h,hb=>by
  rw[bk,aH]at hb⊢
  have h1:=KE l t (h t (by simp))
  have h2:fq l t=(wT (aO (lT l) t):Int):=by rw[h1];omega
  rw[db,if_neg (by rw[h2];omega),Fc l k _ (by rw[h2];omega) (fun u hu=>h u (by simp[hu])) (by rw[h2];omega),h2]
  omega
theorem LS:∀a b:List Tm,aH (a++b)=aH a+aH b
 |[],b=>by rw[List.nil_append,aH];omega
 |x::a,b=>by rw[List.cons_append,aH,aH,LS a b];omega
theorem Nr (f:Int->Tm) (a b:List Tm):bk f (a++b)=bk f a++bk f b:=by rw[mc,mc,mc,List.map_append]
def dM (k:Nat):List Int->Bd
 |[]=>[]
 |v::l=>(v,bW (k:Nat))::dM (k+1) l
theorem Ki:∀(a b:List Int) (k:Nat),dM k (a++b)=dM k a++dM (k+a.length) b
 |[],b,k=>rfl
 |v::a,b,k=>by rw[List.cons_append,dM,dM,Ki a b,List.length_cons,List.cons_append,show k+1+a.length=k+(a.length+1) by omega]
theorem rB:∀(a:List Int) (k:Nat),(dM k a).length=a.length
 |[],_=>rfl
 |v::a,k=>by rw[dM,List.length_cons,rB a,List.length_cons]
theorem Kj:∀(l:List Int) (k:Nat) (v:Int),v∈l->iQ (dM k l) v=some (bW ((k+l.idxOf v:Nat):Int))
 |[],_,_,h=>by cases h
 |x::l,k,v,h=>by
  rw[dM,iQ,List.idxOf_cons]
  by_cases hx:x=v
  ·subst hx;simp
  ·have hb:(x==v)=false:=by simpa using hx
   rw[if_neg hx,Kj l (k+1) v ((List.mem_cons.1 h).resolve_left (fun e=>hx e.symm)),hb,cond_false]
   congr 2
   omega
theorem Kk {l:List Int} {v:Int} (h:v∈l):lT (dM 0 l) v=bW (l.idxOf v:Nat):=by rw[lT,Kj l 0 v h,Nat.zero_add];rfl
mutual
theorem Us {l:Bd} {g:Int->Tm}:∀t:Tm,cw t=true->(∀v∈bR t,lT l v=g v)->gY l t=aO g t
 | .mk n i xs,h,hv=>by
  rw[cw]at h
  rw[bR]at hv
  rw[gY,aO]
  by_cases hn:n=[]
  ·rw[if_pos hn]at h
   simp only[Bool.and_eq_true,List.isEmpty_iff]at h
   rw[if_pos hn,if_pos hn,<-hv i (by rw[if_pos hn];simp),lT,hn,h.1];rfl
  ·rw[if_neg hn]at h
   simp only[Bool.and_eq_true]at h
   rw[if_neg hn,if_neg hn,Ey xs h.2 fun v hm=>hv v (by simp[hm])]
theorem Ey {l:Bd} {g:Int->Tm}:∀k:List Tm,bL k=true->(∀v∈aM k,lT l v=g v)->nH l k=bk g k
 |[],_,_=>by rw[nH,bk]
 |t::k,h,hv=>by
  rw[bL,Bool.and_eq_true]at h
  rw[aM]at hv
  rw[nH,bk,Us t h.1 fun v hm=>hv v (by simp[hm]),Ey k h.2 fun v hm=>hv v (by simp[hm])]
end
theorem JH {c:List Lt} (h:c.all cu=true):hQ (bx c) (dM 0 (bg [] (bQ (bx c))))=gC c:=by
 rw[hQ,gC]
 refine List.map_congr_left fun x hx=>?_
 have al:=List.all_eq_true.1 (wz h) x hx
 rw[w7,jX]
 congr 1
 refine Ey x.xs (tt al) fun v hv=>?_
 rw[Kk ((wq _ _ _).2 (.inr (LI hx hv))),tA]
theorem LP (f:Int->Tm):∀c:List Lt,aH (bk f (c.flatMap (·.xs)))+c.length=b5 (c.map (jX f))
 |[]=>by simp[bk,aH,b5]
 |x::c=>by
  have ih:=LP f c
  rw[List.map_cons,jd,<-ih,List.flatMap_cons,Nr,LS,List.length_cons]
  show _=1+aH (bk f x.xs)+_
  omega
theorem UF (c:List Lt):bQ c=aM (c.flatMap (·.xs)):=by
 induction c with
 |nil=>rw[List.flatMap_nil,aM];rfl
 |cons x c ih=>
  have:∀a b:List Tm,aM (a++b)=aM a++aM b:=fun a b=>by
   induction a with
   |nil=>rw[List.nil_append,aM,List.nil_append]
   |cons t a ih=>rw[List.cons_append,aM,aM,ih,List.append_assoc]
  rw[List.flatMap_cons,this,<-ih,bQ,bQ,List.flatMap_cons]
theorem A9 {f g:Int->Tm}:∀k:List Tm,bL k=true->(∀v∈aM k,f v=g v)->bk f k=bk g k
 |[],_,_=>by rw[bk,bk]
 |t::k,h,hv=>by
  rw[bL,Bool.and_eq_true]at h
  rw[aM]at hv
  rw[bk,bk,Nq t h.1 fun v hm=>hv v (by simp[hm]),A9 k h.2 fun v hm=>hv v (by simp[hm])]
where
 Nq {f g:Int->Tm}:∀t:Tm,cw t=true->(∀v∈bR t,f v=g v)->aO f t=aO g t
 | .mk n i xs,h,hv=>by
  rw[cw]at h
  rw[bR]at hv
  rw[aO,aO]
  by_cases hn:n=[]
  ·rw[if_pos hn,if_pos hn,hv i (by rw[if_pos hn];simp)]
  ·rw[if_neg hn]at h
   simp only[Bool.and_eq_true]at h
   rw[if_neg hn,if_neg hn,A9 xs h.2 fun v hm=>hv v (by simp[hm])]
theorem JI {c:List Lt} (h:bl 4 9 2 3 c=0):ud (bx c) (dM 0 (bg [] (bQ (bx c))))=gC c/\mO (bx c) (dM 0 (bg [] (bQ (bx c))))=0:=by
 have fK:c.all cu=true:=List.all_eq_true.2 (kz h).2.2.2
 have hO:=JH fK
 have bD:=Sr (eS:=4) (eD:=9) (eF:=2) (eR:=3) (by omega) (by omega) (by omega) (by omega) h
 have pK:=(kz bD).2.1
 have Qb:∀x∈bx c,cu x=true:=List.all_eq_true.1 (wz fK)
 have yZ:∀t∈(bx c).flatMap (·.xs),cw t=true:=fun t ht=>by
  obtain⟨x,hx,hm⟩:=List.mem_flatMap.1 ht
  obtain⟨k,hk⟩:=List.mem_iff_getElem?.1 hm
  exact rm (tt (Qb x hx)) hk
 have CD:bL ((bx c).flatMap (·.xs))=true:=by
  generalize(bx c).flatMap (·.xs)=q at yZ
  induction q with
  |nil=>rfl
  |cons t q ih=>rw[bL,yZ t (by simp),ih fun u hu=>yZ u (by simp[hu])];rfl
 have a7:aH (bk (lT (dM 0 (bg [] (bQ (bx c))))) ((bx c).flatMap (·.xs)))+(bx c).length=b5 (gC c):=by
  rw[A9 _ CD (g:=tA (bx c)) fun v hv=>by
   rw[<-UF]at hv
   rw[Kk ((wq _ _ _).2 (.inr hv)),tA],LP,gC]
 have eK:=Fc (dM 0 (bg [] (bQ (bx c)))) ((bx c).flatMap (·.xs)) ((bx c).length:Nat) (by omega) yZ (by omega)
 have hE:mO (bx c) (dM 0 (bg [] (bQ (bx c))))=0:=by
  rw[mO,eK,if_neg (by omega),hO,bD,if_neg (by omega)]
 exact⟨by rw[ud,hE,if_pos rfl,hO],hE⟩



end Go.Proofs.YtpfohmboflcneaaGreatDoor
end
section
namespace Go.Proofs
open Go.Shelf

end Go.Proofs
end
section
namespace Go.Proofs
open Go.Shelf
end Go.Proofs
namespace Go.Proofs.YtpfohmboflcneaaGreatDoor
open Go Go.AL Go.RowKit Go.Shelf Go.Sort
set_option maxRecDepth 10000
set_option maxHeartbeats 4000000
end Go.Proofs.YtpfohmboflcneaaGreatDoor
end
section
namespace Go.Proofs.YtpfohmboflcneaaGreatDoor
open Go Go.AL Go.RowKit
set_option maxRecDepth 10000
set_option maxHeartbeats 4000000

end Go.Proofs.YtpfohmboflcneaaGreatDoor
end
section
namespace Go.Proofs.YtpfohmboflcneaaGreatDoor
open Go

end Go.Proofs.YtpfohmboflcneaaGreatDoor
end
section
namespace Go.Proofs
open Go.Shelf
end Go.Proofs
namespace Go.Proofs.YtpfohmboflcneaaGreatDoor
open Go Go.AL Go.RowKit
set_option maxRecDepth 10000
set_option maxHeartbeats 4000000
end Go.Proofs.YtpfohmboflcneaaGreatDoor
end
section
namespace Go.Proofs.YtpfohmboflcneaaGreatDoor
open Go Go.AL Go.RowKit
set_option maxRecDepth 10000
set_option maxHeartbeats 4000000
theorem Lg (f:Int->Tm) (hf:∀v,bz (f v)):∀t:Tm,bz t->bz (aO f t)
 | .mk n i xs,h=>by
  have h0:=eT.1 h
  rw[aO]
  split
  ·exact hf i
  ·rw[bz]
   have hl:(bk f xs).length=xs.length:=by rw[mc,List.length_map]
   refine⟨h0.1,by rw[hl];exact h0.2.1,?_⟩
   have h1:cf xs:=h0.2.2
   exact Er f hf xs h1
where
 Er (f:Int->Tm) (hf:∀v,bz (f v)):∀l:List Tm,cf l->cf (bk f l)
 |[],_=>by rw[bk,cf];trivial
 |t::l,h=>by
  rw[cf]at h
  rw[bk,cf]
  exact⟨Lg f hf t h.1,Er f hf l h.2⟩
theorem JF {c:List Lt} (h:cG c) (hc:c.all cu=true):cG (gC c):=by
 have hl:=(JG hc).1
 refine⟨by have:=h.1;omega,fun l hm=>?_⟩
 rw[gC]at hm
 obtain⟨x,hx,rfl⟩:=List.mem_map.1 hm
 have hL:=h.2 x (rq.1 hx)
 refine⟨hL.1,by show(bk _ x.xs).length<=_;rw[mc,List.length_map];exact hL.2.1,Lg.Er _ (fun v=>by rw[tA,bW];simp[bz,cf]) _ hL.2.2⟩
theorem Kh:∀(l:List Int) (k:Nat),∀b∈dM k l,bz b.2
 |[],_,_,h=>by cases h
 |v::l,k,b,h=>by
  rw[dM]at h
  rcases List.mem_cons.1 h with rfl|h
  ·show bz (bW k)
   rw[bW,bz,cf];simp
  ·exact Kh l _ b h
theorem Kt:∀(a:List (List IV)) {x y:List (List IV)},eI x y->eI (a++x) (a++y)
 |[],_,_,h=>h
 |r::a,_,_,h=>eI.cons (fp.refl r) (Kt a h)
theorem Tj {l:List Int} {i:Nat} (h:i<l.length):dM 0 (l.take (i+1))=dM 0 (l.take i)++[(l.getD i 0,bW (i:Nat))]:=by
 rw[List.take_succ_eq_append_getElem h,Ki,List.length_take,Nat.min_eq_left (Nat.le_of_lt h),List.getD_eq_getElem?_getD,List.getElem?_eq_getElem h,Nat.zero_add];rfl
theorem Sn (c:List Lt) (hc:cG c) (bD:bl 4 9 2 3 c=0):aI Tryz.prog 96 [aJ c] (aJ (gC c)):=by
 have h0:=kz bD
 have fK:c.all cu=true:=List.all_eq_true.2 h0.2.2.2
 have hT:∀x∈c,aI Tryz.prog 80 [fc x,Bv true] (Sv (aA x)):=fun x hx=>Ld true x (hc.2 x hx) (h0.2.2.2 x hx) (by have:=xc hx;have:=h0.2.1;omega)
 refine ak.walk [0,2,3,4,5,6,7,8,9,10,11,17,22,37,55,79] [] Tryz.func96 rfl Tryz.ntmps96 (by kernel_rfl) (by rfl) rfl fun W own I0 ax lay=>?_
 refine gO ?_
 refine AP.freeze 0 (el:=61) (es:=3) (rows:=aF []) rfl (by simp only[go_sem,Nat.reduceAdd,Nat.reduceLeDiff,Nat.reduceSub,Int.reduceToNat,reduceCtorEq,ae];first|done|trivial|omega|(simp;done)|(simp;omega)) (by simp only[go_sem,Nat.reduceAdd,Nat.reduceLeDiff,Nat.reduceSub,Int.reduceToNat,reduceCtorEq,ae];first|done|trivial|omega|(simp;done)|(simp;omega)) ?_;simp only[go_sem,Nat.reduceAdd,Nat.reduceLeDiff,Nat.reduceSub,Int.reduceToNat,reduceCtorEq,ae]
 refine AP.loop rfl (α:=Nat) (fun k=>[(0,aJ c),(3,aJ (bx (c.take k))),(4,Iv k)]) (fun _=>[]) (fun k=>k<=c.length) (fun k=>c.length-k) 0 (by omega) (sU) rfl fun k hk=>?_
 rcases Nat.eq_or_lt_of_le hk with aG|ah
 ·subst aG
  rw[List.take_length]
  have WG:(bx c).length<=c.length:=by
   have h1:=(kn (dp [] c) []).length_eq
   have h2:=(mf c []).length_le
   have h3:(bx c).length=(dp [] c).length:=by rw[bx,h1];rfl
   omega
  have HD:cG (bx c):=⟨by have:=hc.1;omega,fun l hl=>hc.2 l (rq.1 hl)⟩
  have eg:b5 (bx c)<=4000:=by
   have h6:b5 (bx c)=b5 (dp [] c):=DD (kn _ _)
   have h7:=wk (mf c [])
   have:=h0.2.1
   omega
  have c_:=NC (bx c) HD (List.all_eq_true.1 (wz fK)) eg (by omega)
  obtain⟨l,hl⟩:∃l,bg [] (bQ (bx c))=l:=⟨_,rfl⟩
  rw[hl]at c_
  have kK:l.length<=4000:=by
   rw[<-hl]
   exact Nat.le_trans (by have:=zI (bQ (bx c)) [];simpa using this) (Nat.le_trans (Ar _) eg)
  have Pg:uh (dM 0 l):=⟨by rw[rB];omega,Kh l 0⟩
  have qJ:=MP (bx c) (dM 0 l) HD Pg (by omega) (by rw[<-hl,JH fK];exact JF hc fK)
  rw[<-hl,(JI bD).1,(JI bD).2,hl]at qJ
  refine gE @ae ?_
  refine cF ?_
  refine gO ?_
  refine AQ.fn (by kernel_rfl) rfl rfl rfl (c_) rfl ?_
  refine gO ?_
  refine AP.loop rfl (α:=Nat) (fun i=>[(0,aJ c),(3,aJ (bx c)),(8,.im (.sl 1 (cL l))),(9,.os 0 4 0 i),(10,Iv i)]) (fun i=>[(0,.vec 59 4 (jo (dM 0 (l.take i))))]) (fun i=>i<=l.length) (fun i=>l.length-i) 0 (by omega) (sU) rfl fun i hi=>?_
  rcases Nat.eq_or_lt_of_le hi with gP|Hz
  ·subst gP
   rw[List.take_length]
   refine gE @cj ?_
   refine cF ?_
   refine sI ?_
   refine AP.freeze 0 (el:=59) (es:=4) (rows:=jo (dM 0 l)) rfl (by simp only[go_sem,Nat.reduceAdd,Nat.reduceLeDiff,Nat.reduceSub,Int.reduceToNat,reduceCtorEq,jq,rB];first|done|trivial|omega|(simp;done)|(simp;omega)) (by simp only[go_sem,Nat.reduceAdd,Nat.reduceLeDiff,Nat.reduceSub,Int.reduceToNat,reduceCtorEq,jq,rB];first|done|trivial|omega|(simp;done)|(simp;omega)) ?_;simp only[go_sem,Nat.reduceAdd,Nat.reduceLeDiff,Nat.reduceSub,Int.reduceToNat,reduceCtorEq,jq,rB]
   rw[show List.take l.length (jo (dM 0 l))=jo (dM 0 l) from List.take_of_length_le (by rw[jq,rB];omega)]
   refine gO ?_
   refine AQ.fn (by kernel_rfl) rfl rfl rfl (qJ) rfl ?_
   refine gO ?_
   exact AE.ay rfl ⟨rfl,trivial⟩ rfl ⟨rfl,rfl⟩
  ·have hg:=zf l i Hz
   have hw:=wr (x:=(i:Int)+1) (by omega)
   have oA:(dM 0 (l.take i)).length=i:=by rw[rB,List.length_take];omega
   refine gE @cj ?_
   refine cT ?_
   refine gE (an @hg @cj) ?_
   refine AQ.append (hnb:=rfl) (rows:=jo (dM 0 (l.take i))) (es:=3) (by kernel_rfl) rfl rfl rfl (by rfl) Tryz.Ub Tryz.T4 (by show Option.map _ (aC Tryz.prog 59)=_;rw[Tryz.U5];rfl) Tryz.Nk (by first|rfl|(simp only[jq,oA,List.length_cons,List.length_nil];done)|(simp only[jq,oA,List.length_cons,List.length_nil];omega)) (by simp only[jq,oA,List.length_cons,List.length_nil];omega) (by simp only[jq,oA,List.length_cons,List.length_nil];omega) ?_
   refine sE (an @jq @oA) ?_
   refine gE (an @hw (an @jq @oA)) ?_
   refine AE.rD 0 (jo (dM 0 (l.take (i+1)))) rfl ?_ ?_
   ·rw[Tj Hz,<-M6]
    exact Kt _ (eI.cons (fp.cons (da.refl _) (fp.cons (da.refl _) (fp.cons (da.refl _) (fp.cons (da.nil 3) (fp.refl _))))) (eI.refl _))
   ·refine sI ?_
    exact AE.round (i+1) (by omega) (by omega) (sU) rfl
 ·obtain⟨u,hu,aj⟩:=dI c k ah
  have gr:=List.mem_of_getElem? hu
  have hw:=wr (x:=(k:Int)+1) (by omega)
  have f_:=SS (c.take k) u
  rw[<-cK hu]at f_
  have HF:∀y∈bx (c.take k),y∈c:=fun y hy=>List.mem_of_mem_take (rq.1 hy)
  have jE:=SR (c.take k)
  have e8:(bx (c.take k)).length<=c.length:=by
   have h1:=(kn (dp [] (c.take k)) []).length_eq
   have h2:=(mf (c.take k) []).length_le
   have h3:(bx (c.take k)).length=(dp [] (c.take k)).length:=by rw[bx,h1];rfl
   rw[List.length_take]at h2
   omega
  obtain⟨o,ho⟩:∃o,bx (c.take k)=o:=⟨_,rfl⟩
  rw[ho]at f_ HF jE e8⊢
  refine gE @ae ?_
  refine cT ?_
  refine gO ?_
  refine AP.loop rfl (α:=Nat) (fun j=>[(0,aJ c),(3,aJ o),(4,Iv k),(5,Bv (((c.take k).take j).any (cy u))),(6,Iv j)]) (fun _=>[]) (fun j=>j<=k) (fun j=>k-j) 0 (by omega) (sU) rfl fun j hj=>?_
  have ef:(c.take k).length=k:=by rw[List.length_take];omega
  rcases Nat.eq_or_lt_of_le hj with cY|pI
  ·subst cY
   have:(c.take j).take j=c.take j:=List.take_of_length_le (by omega)
   rw[this]
   refine gO ?_
   refine cF ?_
   refine gO ?_
   refine AP.cond rfl rfl (fun h1=>?_) (fun h1=>?_)
   ·rw[if_pos h1]at f_
    refine gE @hw ?_
    exact AE.round (j+1) (by omega) (by omega) (by rw[f_];exact(sU)) rfl
   ·rw[if_neg (by rw[h1];decide)]at f_
    refine gE @ae ?_
    refine AP.loop rfl (α:=Nat) (fun n=>[(0,aJ c),(3,aJ o),(4,Iv j),(7,Iv n)]) (fun _=>[]) (fun n=>n<=o.length/\∀y∈o.drop n,aA u<aA y) (fun n=>n) o.length ⟨Nat.le_refl _,fun y hy=>by rw[List.drop_length]at hy;cases hy⟩ (sU) rfl fun n ⟨n1,n2⟩=>?_
    by_cases jC:n=0
    ·have lE:∀y,(o.take n).getLast?=some y->eG y u:=fun y hy=>by rw[jC]at hy;simp at hy
     have hd:decide ((0:Int)<((n:Nat):Int))=false:=decide_eq_false (by omega)
     refine gO ?_
     refine AP.bC 16 (Tree.node [] [0,1,2,3,4,5,6,7,9,10,11,12] [8] [Tree.node [9,10,11,12] [] [13] [Tree.node [] [14,15] [] []]]) (by kernel_rfl) rfl (by kernel_rfl) (by kernel_rfl) ?_
     refine bA ?_
     refine sE (an @hd (an @aj @ae)) ?_
     repeat(with_reducible refine And.intro (by first|exact fun h=>h.elim|omega) ?_)
     refine AQ.skip (by kernel_rfl) rfl ?_
     refine sI ?_
     refine AQ.nx rfl ?_
     refine sE (an @hd (an @aj @ae)) ?_
     repeat(with_reducible refine And.intro (by first|exact fun h=>h.elim|omega) ?_)
     refine AQ.skip (by kernel_rfl) rfl ?_
     refine sI ?_
     refine AQ.nx rfl ?_
     refine sI ?_
     refine AQ.done ?_
     refine gO ?_
     have Ci:ga u o=o.take n++u::o.drop n:=by
      have:=vX (o.take n) (o.drop n) u (by rw[List.take_append_drop];exact jE) n2 lE
      rwa [List.take_append_drop]at this
     rw[Ci]at f_
     clear lE n2 jE
     refine AP.bC 15 (Tree.node [] [1,2,3,5,6,7,8,11,12,13] [0,9] [Tree.node [1,2,3,5,6,7,8,11,12,13] [] [4,9] [Tree.node [5,6,7,8,11,12,13] [] [9] [Tree.node [11,12,13] [] [10] [Tree.node [11,12,13] [] [14] [Tree.node [] [] [] []]]],Tree.node [1,2,3,11,12,13] [] [4] [Tree.node [11,12,13] [] [10] [Tree.node [11,12,13] [] [14] [Tree.node [] [] [] []]]]],Tree.node [1,2,3,11,12,13] [] [0] [Tree.node [1,2,3,11,12,13] [] [4] [Tree.node [11,12,13] [] [10] [Tree.node [11,12,13] [] [14] [Tree.node [] [] [] []]]]]]) (by kernel_rfl) rfl (by kernel_rfl) (by kernel_rfl) ?_
     refine bA ?_
     refine sE (an @aj @ae) ?_
     obtain⟨p,hp⟩:∃p,o.take n=p:=⟨_,rfl⟩
     obtain⟨q,hq⟩:∃q,o.drop n=q:=⟨_,rfl⟩
     have Qm:p.length+q.length=o.length:=by rw[<-hp,<-hq,List.length_take,List.length_drop];omega
     have aP:(aF o).take n=aF p:=by rw[<-hp];simp[aF]
     have a6:(aF o).drop n=aF q:=by rw[<-hq];simp[aF]
     rw[hp,hq]at f_
     clear hp hq
     repeat(with_reducible refine And.intro (by first|exact fun h=>h.elim|omega) ?_)
     refine sE (an @aP (an @a6 @ae)) ?_
     refine And.intro ?_ ?_
     ·refine AQ.go (by kernel_rfl) ?_
      refine sE (an @List.nil_append.{0} (an @List.length_append.{0} (an @List.length_cons.{0} (an @List.length_nil.{0} (an @aj (an @ae (an @aP @a6))))))) ?_
      repeat(with_reducible refine And.intro (by first|exact fun h=>h.elim|omega) ?_)
      refine AQ.nx rfl ?_
      refine sE (an @List.nil_append.{0} (an @List.length_append.{0} (an @List.length_cons.{0} (an @List.length_nil.{0} (an @aj (an @ae (an @aP @a6))))))) ?_
      repeat(with_reducible refine And.intro (by first|exact fun h=>h.elim|omega) ?_)
      refine And.intro ?_ ?_
      ·refine AQ.append (hnb:=rfl) (rows:=[]) (es:=2) (by kernel_rfl) rfl rfl rfl (by rfl) Tryz.gf Tryz.gb (by show Option.map _ (aC Tryz.prog 61)=_;rw[Tryz.gi];rfl) Tryz.fV (by first|rfl|(simp only[ae,List.length_append,List.length_cons,List.length_nil];done)|(simp only[ae,List.length_append,List.length_cons,List.length_nil];omega)) (by simp only[ae,List.length_append,List.length_cons,List.length_nil];omega) (by simp only[ae,List.length_append,List.length_cons,List.length_nil];omega) ?_
       refine sE (an @List.nil_append.{0} (an @List.length_append.{0} (an @List.length_cons.{0} (an @List.length_nil.{0} (an @aj (an @ae (an @aP @a6))))))) ?_
       repeat(with_reducible refine And.intro (by first|exact fun h=>h.elim|omega) ?_)
       refine AQ.nx rfl ?_
       refine sE (an @List.nil_append.{0} (an @List.length_append.{0} (an @List.length_cons.{0} (an @List.length_nil.{0} (an @aj (an @ae (an @aP @a6))))))) ?_
       repeat(with_reducible refine And.intro (by first|exact fun h=>h.elim|omega) ?_)
       refine AQ.go (by kernel_rfl) ?_
       refine sE (an @List.nil_append.{0} (an @List.length_append.{0} (an @List.length_cons.{0} (an @List.length_nil.{0} (an @aj (an @ae (an @aP @a6))))))) ?_
       repeat(with_reducible refine And.intro (by first|exact fun h=>h.elim|omega) ?_)
       refine AQ.nx rfl ?_
       refine sE (an @List.nil_append.{0} (an @List.length_append.{0} (an @List.length_cons.{0} (an @List.length_nil.{0} (an @aj (an @ae (an @aP @a6))))))) ?_
       repeat(with_reducible refine And.intro (by first|exact fun h=>h.elim|omega) ?_)
       refine AQ.append (hnb:=rfl) (rows:=aF p) (es:=2) (by kernel_rfl) rfl rfl rfl (by rfl) Tryz.gf Tryz.gb (by show Option.map _ (aC Tryz.prog 61)=_;rw[Tryz.gi];rfl) Tryz.fV (by first|rfl|(simp only[ae,List.length_append,List.length_cons,List.length_nil];done)|(simp only[ae,List.length_append,List.length_cons,List.length_nil];omega)) (by simp only[ae,List.length_append,List.length_cons,List.length_nil];omega) (by simp only[ae,List.length_append,List.length_cons,List.length_nil];omega) ?_
       refine sE (an @List.nil_append.{0} (an @List.length_append.{0} (an @List.length_cons.{0} (an @List.length_nil.{0} (an @aj (an @ae (an @aP @a6))))))) ?_
       repeat(with_reducible refine And.intro (by first|exact fun h=>h.elim|omega) ?_)
       refine AQ.nx rfl ?_
       refine sE (an @List.nil_append.{0} (an @List.length_append.{0} (an @List.length_cons.{0} (an @List.length_nil.{0} (an @aj (an @ae (an @aP @a6))))))) ?_
       repeat(with_reducible refine And.intro (by first|exact fun h=>h.elim|omega) ?_)
       refine AQ.append (hnb:=rfl) (rows:=aF p++[[Bi u.ng,Si u.pd,.sl 3 (aw u.xs)]]) (es:=2) (by kernel_rfl) rfl rfl rfl (by rfl) Tryz.gf Tryz.gb (by show Option.map _ (aC Tryz.prog 61)=_;rw[Tryz.gi];rfl) Tryz.fV (by first|rfl|(simp only[ae,List.length_append,List.length_cons,List.length_nil];done)|(simp only[ae,List.length_append,List.length_cons,List.length_nil];omega)) (by simp only[ae,List.length_append,List.length_cons,List.length_nil];omega) (by simp only[ae,List.length_append,List.length_cons,List.length_nil];omega) ?_
       refine sE (an @List.nil_append.{0} (an @List.length_append.{0} (an @List.length_cons.{0} (an @List.length_nil.{0} (an @aj (an @ae (an @aP (an @a6 @hw)))))))) ?_
       repeat(with_reducible refine And.intro (by first|exact fun h=>h.elim|omega) ?_)
       refine AQ.nx rfl ?_
       refine sE (an @List.nil_append.{0} (an @List.length_append.{0} (an @List.length_cons.{0} (an @List.length_nil.{0} (an @aj (an @ae (an @aP (an @a6 @hw)))))))) ?_
       refine AQ.done ?_
       have iO:(aF p++[[Bi u.ng,Si u.pd,.sl 3 (aw u.xs)]])++aF q=aF (p++u::q):=by simp[aF,iR]
       try rw[iO]
       refine sI ?_
       refine gE (an @List.nil_append.{0} (an @List.length_append.{0} (an @List.length_cons.{0} (an @List.length_nil.{0} (an @aj (an @ae (an @aP (an @a6 @hw)))))))) ?_
       refine AE.freeze 0 (el:=61) (es:=3) (rows:=aF (p++u::q)) rfl (by simp only[go_sem,Nat.reduceAdd,Nat.reduceLeDiff,Nat.reduceSub,Int.reduceToNat,reduceCtorEq,ae,List.length_append,List.length_cons];first|done|trivial|omega|(simp;done)|(simp;omega)) (by simp only[go_sem,Nat.reduceAdd,Nat.reduceLeDiff,Nat.reduceSub,Int.reduceToNat,reduceCtorEq,ae,List.length_append,List.length_cons];first|done|trivial|omega|(simp;done)|(simp;omega)) ?_;simp only[go_sem,Nat.reduceAdd,Nat.reduceLeDiff,Nat.reduceSub,Int.reduceToNat,reduceCtorEq,ae,List.length_append,List.length_cons]
       rw[List.take_of_length_le (by rw[ae];simp only[List.length_append,List.length_cons];omega)]
       exact AE.round (j+1) (by omega) (by omega) (by rw[f_];exact(sU)) rfl
      ·refine AQ.go (by kernel_rfl) ?_
       refine sE (an @List.nil_append.{0} (an @List.length_append.{0} (an @List.length_cons.{0} (an @List.length_nil.{0} (an @aj (an @ae (an @aP @a6))))))) ?_
       repeat(with_reducible refine And.intro (by first|exact fun h=>h.elim|omega) ?_)
       refine AQ.nx rfl ?_
       refine sE (an @List.nil_append.{0} (an @List.length_append.{0} (an @List.length_cons.{0} (an @List.length_nil.{0} (an @aj (an @ae (an @aP @a6))))))) ?_
       repeat(with_reducible refine And.intro (by first|exact fun h=>h.elim|omega) ?_)
       refine AQ.append (hnb:=rfl) (rows:=[]) (es:=2) (by kernel_rfl) rfl rfl rfl (by rfl) Tryz.gf Tryz.gb (by show Option.map _ (aC Tryz.prog 61)=_;rw[Tryz.gi];rfl) Tryz.fV (by first|rfl|(simp only[ae,List.length_append,List.length_cons,List.length_nil];done)|(simp only[ae,List.length_append,List.length_cons,List.length_nil];omega)) (by simp only[ae,List.length_append,List.length_cons,List.length_nil];omega) (by simp only[ae,List.length_append,List.length_cons,List.length_nil];omega) ?_
       refine sE (an @List.nil_append.{0} (an @List.length_append.{0} (an @List.length_cons.{0} (an @List.length_nil.{0} (an @aj (an @ae (an @aP @a6))))))) ?_
       repeat(with_reducible refine And.intro (by first|exact fun h=>h.elim|omega) ?_)
       refine AQ.nx rfl ?_
       refine sE (an @List.nil_append.{0} (an @List.length_append.{0} (an @List.length_cons.{0} (an @List.length_nil.{0} (an @aj (an @ae (an @aP @a6))))))) ?_
       repeat(with_reducible refine And.intro (by first|exact fun h=>h.elim|omega) ?_)
       refine AQ.append (hnb:=rfl) (rows:=aF p) (es:=2) (by kernel_rfl) rfl rfl rfl (by rfl) Tryz.gf Tryz.gb (by show Option.map _ (aC Tryz.prog 61)=_;rw[Tryz.gi];rfl) Tryz.fV (by first|rfl|(simp only[ae,List.length_append,List.length_cons,List.length_nil];done)|(simp only[ae,List.length_append,List.length_cons,List.length_nil];omega)) (by simp only[ae,List.length_append,List.length_cons,List.length_nil];omega) (by simp only[ae,List.length_append,List.length_cons,List.length_nil];omega) ?_
       refine sE (an @List.nil_append.{0} (an @List.length_append.{0} (an @List.length_cons.{0} (an @List.length_nil.{0} (an @aj (an @ae (an @aP @a6))))))) ?_
       repeat(with_reducible refine And.intro (by first|exact fun h=>h.elim|omega) ?_)
       refine AQ.nx rfl ?_
       refine sE (an @List.nil_append.{0} (an @List.length_append.{0} (an @List.length_cons.{0} (an @List.length_nil.{0} (an @aj (an @ae (an @aP @a6))))))) ?_
       repeat(with_reducible refine And.intro (by first|exact fun h=>h.elim|omega) ?_)
       refine AQ.append (hnb:=rfl) (rows:=aF p++[[Bi u.ng,Si u.pd,.sl 3 (aw u.xs)]]) (es:=2) (by kernel_rfl) rfl rfl rfl (by rfl) Tryz.gf Tryz.gb (by show Option.map _ (aC Tryz.prog 61)=_;rw[Tryz.gi];rfl) Tryz.fV (by first|rfl|(simp only[ae,List.length_append,List.length_cons,List.length_nil];done)|(simp only[ae,List.length_append,List.length_cons,List.length_nil];omega)) (by simp only[ae,List.length_append,List.length_cons,List.length_nil];omega) (by simp only[ae,List.length_append,List.length_cons,List.length_nil];omega) ?_
       refine sE (an @List.nil_append.{0} (an @List.length_append.{0} (an @List.length_cons.{0} (an @List.length_nil.{0} (an @aj (an @ae (an @aP (an @a6 @hw)))))))) ?_
       repeat(with_reducible refine And.intro (by first|exact fun h=>h.elim|omega) ?_)
       refine AQ.nx rfl ?_
       refine sE (an @List.nil_append.{0} (an @List.length_append.{0} (an @List.length_cons.{0} (an @List.length_nil.{0} (an @aj (an @ae (an @aP (an @a6 @hw)))))))) ?_
       refine AQ.done ?_
       have iO:(aF p++[[Bi u.ng,Si u.pd,.sl 3 (aw u.xs)]])++aF q=aF (p++u::q):=by simp[aF,iR]
       try rw[iO]
       refine sI ?_
       refine gE (an @List.nil_append.{0} (an @List.length_append.{0} (an @List.length_cons.{0} (an @List.length_nil.{0} (an @aj (an @ae (an @aP (an @a6 @hw)))))))) ?_
       refine AE.freeze 0 (el:=61) (es:=3) (rows:=aF (p++u::q)) rfl (by simp only[go_sem,Nat.reduceAdd,Nat.reduceLeDiff,Nat.reduceSub,Int.reduceToNat,reduceCtorEq,ae,List.length_append,List.length_cons];first|done|trivial|omega|(simp;done)|(simp;omega)) (by simp only[go_sem,Nat.reduceAdd,Nat.reduceLeDiff,Nat.reduceSub,Int.reduceToNat,reduceCtorEq,ae,List.length_append,List.length_cons];first|done|trivial|omega|(simp;done)|(simp;omega)) ?_;simp only[go_sem,Nat.reduceAdd,Nat.reduceLeDiff,Nat.reduceSub,Int.reduceToNat,reduceCtorEq,ae,List.length_append,List.length_cons]
       rw[List.take_of_length_le (by rw[ae];simp only[List.length_append,List.length_cons];omega)]
       exact AE.round (j+1) (by omega) (by omega) (by rw[f_];exact(sU)) rfl
     ·refine AQ.go (by kernel_rfl) ?_
      refine sE (an @List.nil_append.{0} (an @List.length_append.{0} (an @List.length_cons.{0} (an @List.length_nil.{0} (an @aj (an @ae (an @aP @a6))))))) ?_
      repeat(with_reducible refine And.intro (by first|exact fun h=>h.elim|omega) ?_)
      refine AQ.nx rfl ?_
      refine sE (an @List.nil_append.{0} (an @List.length_append.{0} (an @List.length_cons.{0} (an @List.length_nil.{0} (an @aj (an @ae (an @aP @a6))))))) ?_
      repeat(with_reducible refine And.intro (by first|exact fun h=>h.elim|omega) ?_)
      refine AQ.go (by kernel_rfl) ?_
      refine sE (an @List.nil_append.{0} (an @List.length_append.{0} (an @List.length_cons.{0} (an @List.length_nil.{0} (an @aj (an @ae (an @aP @a6))))))) ?_
      repeat(with_reducible refine And.intro (by first|exact fun h=>h.elim|omega) ?_)
      refine AQ.nx rfl ?_
      refine sE (an @List.nil_append.{0} (an @List.length_append.{0} (an @List.length_cons.{0} (an @List.length_nil.{0} (an @aj (an @ae (an @aP @a6))))))) ?_
      repeat(with_reducible refine And.intro (by first|exact fun h=>h.elim|omega) ?_)
      refine AQ.append (hnb:=rfl) (rows:=[]) (es:=2) (by kernel_rfl) rfl rfl rfl (by rfl) Tryz.gf Tryz.gb (by show Option.map _ (aC Tryz.prog 61)=_;rw[Tryz.gi];rfl) Tryz.fV (by first|rfl|(simp only[ae,List.length_append,List.length_cons,List.length_nil];done)|(simp only[ae,List.length_append,List.length_cons,List.length_nil];omega)) (by simp only[ae,List.length_append,List.length_cons,List.length_nil];omega) (by simp only[ae,List.length_append,List.length_cons,List.length_nil];omega) ?_
      refine sE (an @List.nil_append.{0} (an @List.length_append.{0} (an @List.length_cons.{0} (an @List.length_nil.{0} (an @aj (an @ae (an @aP @a6))))))) ?_
      repeat(with_reducible refine And.intro (by first|exact fun h=>h.elim|omega) ?_)
      refine AQ.nx rfl ?_
      refine sE (an @List.nil_append.{0} (an @List.length_append.{0} (an @List.length_cons.{0} (an @List.length_nil.{0} (an @aj (an @ae (an @aP @a6))))))) ?_
      repeat(with_reducible refine And.intro (by first|exact fun h=>h.elim|omega) ?_)
      refine AQ.append (hnb:=rfl) (rows:=aF p) (es:=2) (by kernel_rfl) rfl rfl rfl (by rfl) Tryz.gf Tryz.gb (by show Option.map _ (aC Tryz.prog 61)=_;rw[Tryz.gi];rfl) Tryz.fV (by first|rfl|(simp only[ae,List.length_append,List.length_cons,List.length_nil];done)|(simp only[ae,List.length_append,List.length_cons,List.length_nil];omega)) (by simp only[ae,List.length_append,List.length_cons,List.length_nil];omega) (by simp only[ae,List.length_append,List.length_cons,List.length_nil];omega) ?_
      refine sE (an @List.nil_append.{0} (an @List.length_append.{0} (an @List.length_cons.{0} (an @List.length_nil.{0} (an @aj (an @ae (an @aP @a6))))))) ?_
      repeat(with_reducible refine And.intro (by first|exact fun h=>h.elim|omega) ?_)
      refine AQ.nx rfl ?_
      refine sE (an @List.nil_append.{0} (an @List.length_append.{0} (an @List.length_cons.{0} (an @List.length_nil.{0} (an @aj (an @ae (an @aP @a6))))))) ?_
      repeat(with_reducible refine And.intro (by first|exact fun h=>h.elim|omega) ?_)
      refine AQ.append (hnb:=rfl) (rows:=aF p++[[Bi u.ng,Si u.pd,.sl 3 (aw u.xs)]]) (es:=2) (by kernel_rfl) rfl rfl rfl (by rfl) Tryz.gf Tryz.gb (by show Option.map _ (aC Tryz.prog 61)=_;rw[Tryz.gi];rfl) Tryz.fV (by first|rfl|(simp only[ae,List.length_append,List.length_cons,List.length_nil];done)|(simp only[ae,List.length_append,List.length_cons,List.length_nil];omega)) (by simp only[ae,List.length_append,List.length_cons,List.length_nil];omega) (by simp only[ae,List.length_append,List.length_cons,List.length_nil];omega) ?_
      refine sE (an @List.nil_append.{0} (an @List.length_append.{0} (an @List.length_cons.{0} (an @List.length_nil.{0} (an @aj (an @ae (an @aP (an @a6 @hw)))))))) ?_
      repeat(with_reducible refine And.intro (by first|exact fun h=>h.elim|omega) ?_)
      refine AQ.nx rfl ?_
      refine sE (an @List.nil_append.{0} (an @List.length_append.{0} (an @List.length_cons.{0} (an @List.length_nil.{0} (an @aj (an @ae (an @aP (an @a6 @hw)))))))) ?_
      refine AQ.done ?_
      have iO:(aF p++[[Bi u.ng,Si u.pd,.sl 3 (aw u.xs)]])++aF q=aF (p++u::q):=by simp[aF,iR]
      try rw[iO]
      refine sI ?_
      refine gE (an @List.nil_append.{0} (an @List.length_append.{0} (an @List.length_cons.{0} (an @List.length_nil.{0} (an @aj (an @ae (an @aP (an @a6 @hw)))))))) ?_
      refine AE.freeze 0 (el:=61) (es:=3) (rows:=aF (p++u::q)) rfl (by simp only[go_sem,Nat.reduceAdd,Nat.reduceLeDiff,Nat.reduceSub,Int.reduceToNat,reduceCtorEq,ae,List.length_append,List.length_cons];first|done|trivial|omega|(simp;done)|(simp;omega)) (by simp only[go_sem,Nat.reduceAdd,Nat.reduceLeDiff,Nat.reduceSub,Int.reduceToNat,reduceCtorEq,ae,List.length_append,List.length_cons];first|done|trivial|omega|(simp;done)|(simp;omega)) ?_;simp only[go_sem,Nat.reduceAdd,Nat.reduceLeDiff,Nat.reduceSub,Int.reduceToNat,reduceCtorEq,ae,List.length_append,List.length_cons]
      rw[List.take_of_length_le (by rw[ae];simp only[List.length_append,List.length_cons];omega)]
      exact AE.round (j+1) (by omega) (by omega) (by rw[f_];exact(sU)) rfl
    ·obtain⟨m,rfl⟩:∃m,n=m+1:=⟨n-1,by omega⟩
     obtain⟨x,hx,HS⟩:=dI o m (by omega)
     have hd:decide ((0:Int)<((m+1:Nat):Int))=true:=decide_eq_true (by omega)
     have vH:IntKind.i64.wrap (((m+1:Nat):Int)-1)=((m:Nat):Int):=by rw[wr (by omega)];omega
     have QY:=HF x (List.mem_of_getElem? hx)
     refine gO ?_
     refine AP.bC 16 (Tree.node [] [0,1,2,3,4,5,6,7,9,10,11,12] [8] [Tree.node [9,10,11,12] [] [13] [Tree.node [] [14,15] [] []]]) (by kernel_rfl) rfl (by kernel_rfl) (by kernel_rfl) ?_
     refine bA ?_
     refine sE (an @hd (an @vH (an @aj (an @HS @ae)))) ?_
     repeat(with_reducible refine And.intro (by first|exact fun h=>h.elim|omega) ?_)
     refine AQ.fI (by simp only[go_sem]) ?_
     refine AQ.fn (by kernel_rfl) rfl rfl rfl (hT x QY) rfl ?_
     refine sI ?_
     refine AQ.nx rfl ?_
     refine sE (an @hd (an @vH (an @aj (an @HS @ae)))) ?_
     repeat(with_reducible refine And.intro (by first|exact fun h=>h.elim|omega) ?_)
     refine AQ.fI (by simp only[go_sem]) ?_
     refine AQ.fn (by kernel_rfl) rfl rfl rfl (hT u gr) rfl ?_
     refine sI ?_
     refine AQ.nx rfl ?_
     refine sI ?_
     refine AQ.done ?_
     rw[GY]
     refine gO ?_
     refine AP.cond rfl rfl (fun h5=>?_) (fun h5=>?_)
     ·have h5:aA u<aA x:=by simpa using h5
      refine gE @vH ?_
      refine AE.round m ⟨by omega,fun y hy=>?_⟩ (by omega) (sU) rfl
      rw[drop_cons hx]at hy
      rcases List.mem_cons.1 hy with rfl|hy
      ·exact h5
      ·exact n2 y hy
     ·have h5:¬aA u<aA x:=by simpa using h5
      have lE:∀y,(o.take (m+1)).getLast?=some y->eG y u:=fun y hy=>by
       rw[cK hx,List.getLast?_concat]at hy
       cases hy
       exact h5
      obtain⟨n,pM⟩:∃n:Nat,m+1=n:=⟨_,rfl⟩
      rw[pM]at n1 n2 lE⊢
      have Ci:ga u o=o.take n++u::o.drop n:=by
       have:=vX (o.take n) (o.drop n) u (by rw[List.take_append_drop];exact jE) n2 lE
       rwa [List.take_append_drop]at this
      rw[Ci]at f_
      clear lE n2 jE
      refine gO ?_
      refine AP.bC 15 (Tree.node [] [1,2,3,5,6,7,8,11,12,13] [0,9] [Tree.node [1,2,3,5,6,7,8,11,12,13] [] [4,9] [Tree.node [5,6,7,8,11,12,13] [] [9] [Tree.node [11,12,13] [] [10] [Tree.node [11,12,13] [] [14] [Tree.node [] [] [] []]]],Tree.node [1,2,3,11,12,13] [] [4] [Tree.node [11,12,13] [] [10] [Tree.node [11,12,13] [] [14] [Tree.node [] [] [] []]]]],Tree.node [1,2,3,11,12,13] [] [0] [Tree.node [1,2,3,11,12,13] [] [4] [Tree.node [11,12,13] [] [10] [Tree.node [11,12,13] [] [14] [Tree.node [] [] [] []]]]]]) (by kernel_rfl) rfl (by kernel_rfl) (by kernel_rfl) ?_
      refine bA ?_
      refine sE (an @aj @ae) ?_
      obtain⟨p,hp⟩:∃p,o.take n=p:=⟨_,rfl⟩
      obtain⟨q,hq⟩:∃q,o.drop n=q:=⟨_,rfl⟩
      have Qm:p.length+q.length=o.length:=by rw[<-hp,<-hq,List.length_take,List.length_drop];omega
      have aP:(aF o).take n=aF p:=by rw[<-hp];simp[aF]
      have a6:(aF o).drop n=aF q:=by rw[<-hq];simp[aF]
      rw[hp,hq]at f_
      clear hp hq
      repeat(with_reducible refine And.intro (by first|exact fun h=>h.elim|omega) ?_)
      refine sE (an @aP (an @a6 @ae)) ?_
      refine And.intro ?_ ?_
      ·refine AQ.go (by kernel_rfl) ?_
       refine sE (an @List.nil_append.{0} (an @List.length_append.{0} (an @List.length_cons.{0} (an @List.length_nil.{0} (an @aj (an @ae (an @aP @a6))))))) ?_
       repeat(with_reducible refine And.intro (by first|exact fun h=>h.elim|omega) ?_)
       refine AQ.nx rfl ?_
       refine sE (an @List.nil_append.{0} (an @List.length_append.{0} (an @List.length_cons.{0} (an @List.length_nil.{0} (an @aj (an @ae (an @aP @a6))))))) ?_
       repeat(with_reducible refine And.intro (by first|exact fun h=>h.elim|omega) ?_)
       refine And.intro ?_ ?_
       ·refine AQ.append (hnb:=rfl) (rows:=[]) (es:=2) (by kernel_rfl) rfl rfl rfl (by rfl) Tryz.gf Tryz.gb (by show Option.map _ (aC Tryz.prog 61)=_;rw[Tryz.gi];rfl) Tryz.fV (by first|rfl|(simp only[ae,List.length_append,List.length_cons,List.length_nil];done)|(simp only[ae,List.length_append,List.length_cons,List.length_nil];omega)) (by simp only[ae,List.length_append,List.length_cons,List.length_nil];omega) (by simp only[ae,List.length_append,List.length_cons,List.length_nil];omega) ?_
        refine sE (an @List.nil_append.{0} (an @List.length_append.{0} (an @List.length_cons.{0} (an @List.length_nil.{0} (an @aj (an @ae (an @aP @a6))))))) ?_
        repeat(with_reducible refine And.intro (by first|exact fun h=>h.elim|omega) ?_)
        refine AQ.nx rfl ?_
        refine sE (an @List.nil_append.{0} (an @List.length_append.{0} (an @List.length_cons.{0} (an @List.length_nil.{0} (an @aj (an @ae (an @aP @a6))))))) ?_
        repeat(with_reducible refine And.intro (by first|exact fun h=>h.elim|omega) ?_)
        refine AQ.go (by kernel_rfl) ?_
        refine sE (an @List.nil_append.{0} (an @List.length_append.{0} (an @List.length_cons.{0} (an @List.length_nil.{0} (an @aj (an @ae (an @aP @a6))))))) ?_
        repeat(with_reducible refine And.intro (by first|exact fun h=>h.elim|omega) ?_)
        refine AQ.nx rfl ?_
        refine sE (an @List.nil_append.{0} (an @List.length_append.{0} (an @List.length_cons.{0} (an @List.length_nil.{0} (an @aj (an @ae (an @aP @a6))))))) ?_
        repeat(with_reducible refine And.intro (by first|exact fun h=>h.elim|omega) ?_)
        refine AQ.append (hnb:=rfl) (rows:=aF p) (es:=2) (by kernel_rfl) rfl rfl rfl (by rfl) Tryz.gf Tryz.gb (by show Option.map _ (aC Tryz.prog 61)=_;rw[Tryz.gi];rfl) Tryz.fV (by first|rfl|(simp only[ae,List.length_append,List.length_cons,List.length_nil];done)|(simp only[ae,List.length_append,List.length_cons,List.length_nil];omega)) (by simp only[ae,List.length_append,List.length_cons,List.length_nil];omega) (by simp only[ae,List.length_append,List.length_cons,List.length_nil];omega) ?_
        refine sE (an @List.nil_append.{0} (an @List.length_append.{0} (an @List.length_cons.{0} (an @List.length_nil.{0} (an @aj (an @ae (an @aP @a6))))))) ?_
        repeat(with_reducible refine And.intro (by first|exact fun h=>h.elim|omega) ?_)
        refine AQ.nx rfl ?_
        refine sE (an @List.nil_append.{0} (an @List.length_append.{0} (an @List.length_cons.{0} (an @List.length_nil.{0} (an @aj (an @ae (an @aP @a6))))))) ?_
        repeat(with_reducible refine And.intro (by first|exact fun h=>h.elim|omega) ?_)
        refine AQ.append (hnb:=rfl) (rows:=aF p++[[Bi u.ng,Si u.pd,.sl 3 (aw u.xs)]]) (es:=2) (by kernel_rfl) rfl rfl rfl (by rfl) Tryz.gf Tryz.gb (by show Option.map _ (aC Tryz.prog 61)=_;rw[Tryz.gi];rfl) Tryz.fV (by first|rfl|(simp only[ae,List.length_append,List.length_cons,List.length_nil];done)|(simp only[ae,List.length_append,List.length_cons,List.length_nil];omega)) (by simp only[ae,List.length_append,List.length_cons,List.length_nil];omega) (by simp only[ae,List.length_append,List.length_cons,List.length_nil];omega) ?_
        refine sE (an @List.nil_append.{0} (an @List.length_append.{0} (an @List.length_cons.{0} (an @List.length_nil.{0} (an @aj (an @ae (an @aP (an @a6 @hw)))))))) ?_
        repeat(with_reducible refine And.intro (by first|exact fun h=>h.elim|omega) ?_)
        refine AQ.nx rfl ?_
        refine sE (an @List.nil_append.{0} (an @List.length_append.{0} (an @List.length_cons.{0} (an @List.length_nil.{0} (an @aj (an @ae (an @aP (an @a6 @hw)))))))) ?_
        refine AQ.done ?_
        have iO:(aF p++[[Bi u.ng,Si u.pd,.sl 3 (aw u.xs)]])++aF q=aF (p++u::q):=by simp[aF,iR]
        try rw[iO]
        refine sI ?_
        refine gE (an @List.nil_append.{0} (an @List.length_append.{0} (an @List.length_cons.{0} (an @List.length_nil.{0} (an @aj (an @ae (an @aP (an @a6 @hw)))))))) ?_
        refine AE.freeze 0 (el:=61) (es:=3) (rows:=aF (p++u::q)) rfl (by simp only[go_sem,Nat.reduceAdd,Nat.reduceLeDiff,Nat.reduceSub,Int.reduceToNat,reduceCtorEq,ae,List.length_append,List.length_cons];first|done|trivial|omega|(simp;done)|(simp;omega)) (by simp only[go_sem,Nat.reduceAdd,Nat.reduceLeDiff,Nat.reduceSub,Int.reduceToNat,reduceCtorEq,ae,List.length_append,List.length_cons];first|done|trivial|omega|(simp;done)|(simp;omega)) ?_;simp only[go_sem,Nat.reduceAdd,Nat.reduceLeDiff,Nat.reduceSub,Int.reduceToNat,reduceCtorEq,ae,List.length_append,List.length_cons]
        rw[List.take_of_length_le (by rw[ae];simp only[List.length_append,List.length_cons];omega)]
        exact AE.round (j+1) (by omega) (by omega) (by rw[f_];exact(sU)) rfl
       ·refine AQ.go (by kernel_rfl) ?_
        refine sE (an @List.nil_append.{0} (an @List.length_append.{0} (an @List.length_cons.{0} (an @List.length_nil.{0} (an @aj (an @ae (an @aP @a6))))))) ?_
        repeat(with_reducible refine And.intro (by first|exact fun h=>h.elim|omega) ?_)
        refine AQ.nx rfl ?_
        refine sE (an @List.nil_append.{0} (an @List.length_append.{0} (an @List.length_cons.{0} (an @List.length_nil.{0} (an @aj (an @ae (an @aP @a6))))))) ?_
        repeat(with_reducible refine And.intro (by first|exact fun h=>h.elim|omega) ?_)
        refine AQ.append (hnb:=rfl) (rows:=[]) (es:=2) (by kernel_rfl) rfl rfl rfl (by rfl) Tryz.gf Tryz.gb (by show Option.map _ (aC Tryz.prog 61)=_;rw[Tryz.gi];rfl) Tryz.fV (by first|rfl|(simp only[ae,List.length_append,List.length_cons,List.length_nil];done)|(simp only[ae,List.length_append,List.length_cons,List.length_nil];omega)) (by simp only[ae,List.length_append,List.length_cons,List.length_nil];omega) (by simp only[ae,List.length_append,List.length_cons,List.length_nil];omega) ?_
        refine sE (an @List.nil_append.{0} (an @List.length_append.{0} (an @List.length_cons.{0} (an @List.length_nil.{0} (an @aj (an @ae (an @aP @a6))))))) ?_
        repeat(with_reducible refine And.intro (by first|exact fun h=>h.elim|omega) ?_)
        refine AQ.nx rfl ?_
        refine sE (an @List.nil_append.{0} (an @List.length_append.{0} (an @List.length_cons.{0} (an @List.length_nil.{0} (an @aj (an @ae (an @aP @a6))))))) ?_
        repeat(with_reducible refine And.intro (by first|exact fun h=>h.elim|omega) ?_)
        refine AQ.append (hnb:=rfl) (rows:=aF p) (es:=2) (by kernel_rfl) rfl rfl rfl (by rfl) Tryz.gf Tryz.gb (by show Option.map _ (aC Tryz.prog 61)=_;rw[Tryz.gi];rfl) Tryz.fV (by first|rfl|(simp only[ae,List.length_append,List.length_cons,List.length_nil];done)|(simp only[ae,List.length_append,List.length_cons,List.length_nil];omega)) (by simp only[ae,List.length_append,List.length_cons,List.length_nil];omega) (by simp only[ae,List.length_append,List.length_cons,List.length_nil];omega) ?_
        refine sE (an @List.nil_append.{0} (an @List.length_append.{0} (an @List.length_cons.{0} (an @List.length_nil.{0} (an @aj (an @ae (an @aP @a6))))))) ?_
        repeat(with_reducible refine And.intro (by first|exact fun h=>h.elim|omega) ?_)
        refine AQ.nx rfl ?_
        refine sE (an @List.nil_append.{0} (an @List.length_append.{0} (an @List.length_cons.{0} (an @List.length_nil.{0} (an @aj (an @ae (an @aP @a6))))))) ?_
        repeat(with_reducible refine And.intro (by first|exact fun h=>h.elim|omega) ?_)
        refine AQ.append (hnb:=rfl) (rows:=aF p++[[Bi u.ng,Si u.pd,.sl 3 (aw u.xs)]]) (es:=2) (by kernel_rfl) rfl rfl rfl (by rfl) Tryz.gf Tryz.gb (by show Option.map _ (aC Tryz.prog 61)=_;rw[Tryz.gi];rfl) Tryz.fV (by first|rfl|(simp only[ae,List.length_append,List.length_cons,List.length_nil];done)|(simp only[ae,List.length_append,List.length_cons,List.length_nil];omega)) (by simp only[ae,List.length_append,List.length_cons,List.length_nil];omega) (by simp only[ae,List.length_append,List.length_cons,List.length_nil];omega) ?_
        refine sE (an @List.nil_append.{0} (an @List.length_append.{0} (an @List.length_cons.{0} (an @List.length_nil.{0} (an @aj (an @ae (an @aP (an @a6 @hw)))))))) ?_
        repeat(with_reducible refine And.intro (by first|exact fun h=>h.elim|omega) ?_)
        refine AQ.nx rfl ?_
        refine sE (an @List.nil_append.{0} (an @List.length_append.{0} (an @List.length_cons.{0} (an @List.length_nil.{0} (an @aj (an @ae (an @aP (an @a6 @hw)))))))) ?_
        refine AQ.done ?_
        have iO:(aF p++[[Bi u.ng,Si u.pd,.sl 3 (aw u.xs)]])++aF q=aF (p++u::q):=by simp[aF,iR]
        try rw[iO]
        refine sI ?_
        refine gE (an @List.nil_append.{0} (an @List.length_append.{0} (an @List.length_cons.{0} (an @List.length_nil.{0} (an @aj (an @ae (an @aP (an @a6 @hw)))))))) ?_
        refine AE.freeze 0 (el:=61) (es:=3) (rows:=aF (p++u::q)) rfl (by simp only[go_sem,Nat.reduceAdd,Nat.reduceLeDiff,Nat.reduceSub,Int.reduceToNat,reduceCtorEq,ae,List.length_append,List.length_cons];first|done|trivial|omega|(simp;done)|(simp;omega)) (by simp only[go_sem,Nat.reduceAdd,Nat.reduceLeDiff,Nat.reduceSub,Int.reduceToNat,reduceCtorEq,ae,List.length_append,List.length_cons];first|done|trivial|omega|(simp;done)|(simp;omega)) ?_;simp only[go_sem,Nat.reduceAdd,Nat.reduceLeDiff,Nat.reduceSub,Int.reduceToNat,reduceCtorEq,ae,List.length_append,List.length_cons]
        rw[List.take_of_length_le (by rw[ae];simp only[List.length_append,List.length_cons];omega)]
        exact AE.round (j+1) (by omega) (by omega) (by rw[f_];exact(sU)) rfl
      ·refine AQ.go (by kernel_rfl) ?_
       refine sE (an @List.nil_append.{0} (an @List.length_append.{0} (an @List.length_cons.{0} (an @List.length_nil.{0} (an @aj (an @ae (an @aP @a6))))))) ?_
       repeat(with_reducible refine And.intro (by first|exact fun h=>h.elim|omega) ?_)
       refine AQ.nx rfl ?_
       refine sE (an @List.nil_append.{0} (an @List.length_append.{0} (an @List.length_cons.{0} (an @List.length_nil.{0} (an @aj (an @ae (an @aP @a6))))))) ?_
       repeat(with_reducible refine And.intro (by first|exact fun h=>h.elim|omega) ?_)
       refine AQ.go (by kernel_rfl) ?_
       refine sE (an @List.nil_append.{0} (an @List.length_append.{0} (an @List.length_cons.{0} (an @List.length_nil.{0} (an @aj (an @ae (an @aP @a6))))))) ?_
       repeat(with_reducible refine And.intro (by first|exact fun h=>h.elim|omega) ?_)
       refine AQ.nx rfl ?_
       refine sE (an @List.nil_append.{0} (an @List.length_append.{0} (an @List.length_cons.{0} (an @List.length_nil.{0} (an @aj (an @ae (an @aP @a6))))))) ?_
       repeat(with_reducible refine And.intro (by first|exact fun h=>h.elim|omega) ?_)
       refine AQ.append (hnb:=rfl) (rows:=[]) (es:=2) (by kernel_rfl) rfl rfl rfl (by rfl) Tryz.gf Tryz.gb (by show Option.map _ (aC Tryz.prog 61)=_;rw[Tryz.gi];rfl) Tryz.fV (by first|rfl|(simp only[ae,List.length_append,List.length_cons,List.length_nil];done)|(simp only[ae,List.length_append,List.length_cons,List.length_nil];omega)) (by simp only[ae,List.length_append,List.length_cons,List.length_nil];omega) (by simp only[ae,List.length_append,List.length_cons,List.length_nil];omega) ?_
       refine sE (an @List.nil_append.{0} (an @List.length_append.{0} (an @List.length_cons.{0} (an @List.length_nil.{0} (an @aj (an @ae (an @aP @a6))))))) ?_
       repeat(with_reducible refine And.intro (by first|exact fun h=>h.elim|omega) ?_)
       refine AQ.nx rfl ?_
       refine sE (an @List.nil_append.{0} (an @List.length_append.{0} (an @List.length_cons.{0} (an @List.length_nil.{0} (an @aj (an @ae (an @aP @a6))))))) ?_
       repeat(with_reducible refine And.intro (by first|exact fun h=>h.elim|omega) ?_)
       refine AQ.append (hnb:=rfl) (rows:=aF p) (es:=2) (by kernel_rfl) rfl rfl rfl (by rfl) Tryz.gf Tryz.gb (by show Option.map _ (aC Tryz.prog 61)=_;rw[Tryz.gi];rfl) Tryz.fV (by first|rfl|(simp only[ae,List.length_append,List.length_cons,List.length_nil];done)|(simp only[ae,List.length_append,List.length_cons,List.length_nil];omega)) (by simp only[ae,List.length_append,List.length_cons,List.length_nil];omega) (by simp only[ae,List.length_append,List.length_cons,List.length_nil];omega) ?_
       refine sE (an @List.nil_append.{0} (an @List.length_append.{0} (an @List.length_cons.{0} (an @List.length_nil.{0} (an @aj (an @ae (an @aP @a6))))))) ?_
       repeat(with_reducible refine And.intro (by first|exact fun h=>h.elim|omega) ?_)
       refine AQ.nx rfl ?_
       refine sE (an @List.nil_append.{0} (an @List.length_append.{0} (an @List.length_cons.{0} (an @List.length_nil.{0} (an @aj (an @ae (an @aP @a6))))))) ?_
       repeat(with_reducible refine And.intro (by first|exact fun h=>h.elim|omega) ?_)
       refine AQ.append (hnb:=rfl) (rows:=aF p++[[Bi u.ng,Si u.pd,.sl 3 (aw u.xs)]]) (es:=2) (by kernel_rfl) rfl rfl rfl (by rfl) Tryz.gf Tryz.gb (by show Option.map _ (aC Tryz.prog 61)=_;rw[Tryz.gi];rfl) Tryz.fV (by first|rfl|(simp only[ae,List.length_append,List.length_cons,List.length_nil];done)|(simp only[ae,List.length_append,List.length_cons,List.length_nil];omega)) (by simp only[ae,List.length_append,List.length_cons,List.length_nil];omega) (by simp only[ae,List.length_append,List.length_cons,List.length_nil];omega) ?_
       refine sE (an @List.nil_append.{0} (an @List.length_append.{0} (an @List.length_cons.{0} (an @List.length_nil.{0} (an @aj (an @ae (an @aP (an @a6 @hw)))))))) ?_
       repeat(with_reducible refine And.intro (by first|exact fun h=>h.elim|omega) ?_)
       refine AQ.nx rfl ?_
       refine sE (an @List.nil_append.{0} (an @List.length_append.{0} (an @List.length_cons.{0} (an @List.length_nil.{0} (an @aj (an @ae (an @aP (an @a6 @hw)))))))) ?_
       refine AQ.done ?_
       have iO:(aF p++[[Bi u.ng,Si u.pd,.sl 3 (aw u.xs)]])++aF q=aF (p++u::q):=by simp[aF,iR]
       try rw[iO]
       refine sI ?_
       refine gE (an @List.nil_append.{0} (an @List.length_append.{0} (an @List.length_cons.{0} (an @List.length_nil.{0} (an @aj (an @ae (an @aP (an @a6 @hw)))))))) ?_
       refine AE.freeze 0 (el:=61) (es:=3) (rows:=aF (p++u::q)) rfl (by simp only[go_sem,Nat.reduceAdd,Nat.reduceLeDiff,Nat.reduceSub,Int.reduceToNat,reduceCtorEq,ae,List.length_append,List.length_cons];first|done|trivial|omega|(simp;done)|(simp;omega)) (by simp only[go_sem,Nat.reduceAdd,Nat.reduceLeDiff,Nat.reduceSub,Int.reduceToNat,reduceCtorEq,ae,List.length_append,List.length_cons];first|done|trivial|omega|(simp;done)|(simp;omega)) ?_;simp only[go_sem,Nat.reduceAdd,Nat.reduceLeDiff,Nat.reduceSub,Int.reduceToNat,reduceCtorEq,ae,List.length_append,List.length_cons]
       rw[List.take_of_length_le (by rw[ae];simp only[List.length_append,List.length_cons];omega)]
       exact AE.round (j+1) (by omega) (by omega) (by rw[f_];exact(sU)) rfl
  ·obtain⟨y,hy,cg⟩:=dI c j (by omega)
   have lM:(c.take k)[j]?=some y:=by rw[List.getElem?_take,if_pos pI];exact hy
   have lK:=wr (x:=(j:Int)+1) (by omega)
   have y4:=z7 u y (hc.2 u gr)
   have iq:((c.take k).take (j+1)).any (cy u)=(((c.take k).take j).any (cy u)||cy u y):=by rw[cK lM,List.any_append];simp
   obtain⟨b,hb⟩:∃b,((c.take k).take j).any (cy u)=b:=⟨_,rfl⟩
   rw[hb]at iq⊢
   refine gO ?_
   refine cT ?_
   refine gO ?_
   cases b with
   |true=>
    rw[Bool.true_or]at iq
    refine AP.bC 12 (Tree.node [] [0,1,2,3,4,5,6,7,8,9] [10] [Tree.node [] [11] [] []]) (by kernel_rfl) rfl (by kernel_rfl) (by kernel_rfl) ?_
    refine bA ?_
    refine sE (an @aj (an @cg @ae)) ?_
    repeat(with_reducible refine And.intro (by first|exact fun h=>h.elim|omega) ?_)
    refine AQ.skip (by kernel_rfl) rfl ?_
    refine sI ?_
    refine AQ.nx rfl ?_
    refine sI ?_
    refine AQ.done ?_
    refine gE @lK ?_
    exact AE.round (j+1) (by omega) (by omega) (by rw[iq];exact(sU)) rfl
   |false=>
    rw[Bool.false_or]at iq
    refine AP.bC 12 (Tree.node [] [0,1,2,3,4,5,6,7,8,9] [10] [Tree.node [] [11] [] []]) (by kernel_rfl) rfl (by kernel_rfl) (by kernel_rfl) ?_
    refine bA ?_
    refine sE (an @aj (an @cg @ae)) ?_
    repeat(with_reducible refine And.intro (by first|exact fun h=>h.elim|omega) ?_)
    refine AQ.fI (by simp only[go_sem]) ?_
    refine AQ.fn (by kernel_rfl) rfl rfl rfl (y4) rfl ?_
    refine sI ?_
    refine AQ.nx rfl ?_
    refine sI ?_
    refine AQ.done ?_
    refine gE @lK ?_
    exact AE.round (j+1) (by omega) (by omega) (by rw[iq];exact(sU)) rfl
theorem Sp (c:List Lt) (hs:cG c):aI Tryz.prog 23 [aJ c] (.aD [aJ (iu c),Iv (bl 4 9 2 3 c)]):=by
 by_cases bD:bl 4 9 2 3 c=0
 ·have hR:iu c=gC c:=by rw[iu,if_neg (by simpa using bD)]
  have hn:=Sn c hs bD
  have hk:=pb c hs
  rw[bD]at hk
  rw[hR,bD]
  refine ak.walk [0,2,3,4,8] [] Tryz.func23 rfl Tryz.ntmps23 (by kernel_rfl) (by rfl) rfl fun W own I0 ax lay=>?_
  refine gO ?_
  refine AQ.fn (by kernel_rfl) rfl rfl rfl (hk) rfl ?_
  refine sI ?_
  refine gO ?_
  refine AQ.fn (by kernel_rfl) rfl rfl rfl (hn) rfl ?_
  refine sI ?_
  refine gO ?_
  exact AE.ay rfl ⟨rfl,rfl,trivial⟩ rfl ⟨rfl,rfl⟩
 ·have hR:iu c=[]:=by rw[iu,if_pos bD]
  refine ak.DR ?_
  refine ak.walk [0,2,3,4,8] [] Tryz.func23 rfl Tryz.ntmps23 (by kernel_rfl) (by rfl) rfl fun W own I0 ax lay=>?_
  refine gO ?_
  refine AQ.fn (by kernel_rfl) rfl rfl rfl (pb c hs) rfl ?_
  refine sI ?_
  refine gO ?_
  refine AP.cond rfl rfl (fun h=>?_) (fun h=>?_)
  ·refine gO ?_
   exact AE.ay rfl ⟨rfl,rfl,trivial⟩ rfl ⟨rfl,.inr ⟨hR,rfl⟩⟩
  ·exact absurd (by simpa using h) bD
theorem Sm (c:List Lt) (hs:cG c):aI Tryz.prog 22 [aJ c] (.aD [aJ (iu c),Iv (bl 4 9 2 3 c)]):=by
 by_cases bD:bl 4 9 2 3 c=0
 ·exact JD 40 TP c (kz bD).1 hs
 ·have hR:iu c=[]:=by rw[iu,if_pos bD]
  refine ak.DR ?_
  refine ak.walk [0,2,3,4,5,6,7,8,10,11,15,17,18,19,20,29,44,45,46,47] [7,10,11] Tryz.func22 rfl Tryz.ntmps22 (by kernel_rfl) (by rfl) rfl fun W own I0 ax lay=>?_
  refine gO ?_
  refine AQ.fn (by kernel_rfl) rfl rfl rfl (nR c hs) rfl ?_
  refine sI ?_
  refine gO ?_
  refine AP.cond rfl rfl (fun h=>?_) (fun h=>?_)
  ·refine gO ?_
   exact AE.ay rfl ⟨rfl,rfl,trivial⟩ rfl ⟨rfl,.inr ⟨hR,rfl⟩⟩
  ·exact absurd (by simpa using h) bD
theorem N1 (l:List Int) (h:l.length<=1000000):aI Tryz.prog 28 [.im (.sl 1 (cL l)),.im (.sl 1 (cL l))] (Bv true):=by
 refine ak.walk [0,1,4,5,10,12,13,14,24] [] Tryz.func28 rfl Tryz.ntmps28 (by kernel_rfl) (by rfl) rfl fun W own I0 ax lay=>?_
 refine gE @cj ?_
 refine cF ?_
 refine gE @cj ?_
 refine AP.loop rfl (α:=Nat) (fun k=>[(0,.im (.sl 1 (cL l))),(1,.im (.sl 1 (cL l))),(12,Iv l.length),(13,Iv k)]) (fun _=>[]) (fun k=>k<=l.length) (fun k=>l.length-k) 0 (by omega) (sU) rfl fun k hk=>?_
 rcases Nat.eq_or_lt_of_le hk with aG|ah
 ·subst aG
  refine gO ?_
  refine cF ?_
  refine gO ?_
  exact AE.ay rfl ⟨rfl,trivial⟩ rfl ⟨rfl,rfl⟩
 ·have hg:=zf l k ah
  have hw:=wr (x:=(k:Int)+1) (by omega)
  refine gO ?_
  refine cT ?_
  refine gE (an @hg @cj) ?_
  refine cF ?_
  refine gE @hw ?_
  exact AE.round (k+1) (by omega) (by omega) (sU) rfl
theorem Oe (c:List Lt) (s:List UInt8) (hc:cG c):aI Tryz.prog 3 [aJ c,Sv s] (Bv true):=by
 have P2:cG (iu c):=by
  rw[iu]
  split
  ·exact⟨by simp,fun l hl=>by cases hl⟩
  ·rename_i h
   have h:=kz (Classical.not_not.1 h)
   exact JF hc (List.all_eq_true.2 h.2.2.2)
 have HV:=KD (iu c) (iu c) P2
 rw[Fg]at HV
 have sJ:(kY c).length<=1000000:=by
  rw[kY]
  split
  ·simp
  ·rename_i h
   have h:=kz (Classical.not_not.1 h)
   have:=th c c 0
   omega
 have bD:=nR c hc
 have Hf:=pb c hc
 refine ak.walk [0,1,4,5,6,7,8,9,10,11,12,13,14,15,16,17,18,26,33,95,114] [] Tryz.func3 rfl Tryz.ntmps3 (by kernel_rfl) (by rfl) rfl fun W own I0 ax lay=>?_
 refine gO ?_
 refine AQ.fn (by kernel_rfl) rfl rfl rfl (Sc c hc) rfl ?_
 refine sI ?_
 refine gO ?_
 refine AP.cond rfl rfl (fun h=>?_) (fun h=>?_)
 ·refine gO ?_
  refine AQ.fn (by kernel_rfl) rfl rfl rfl (AM) rfl ?_
  refine sI ?_
  refine gO ?_
  exact AE.ay rfl ⟨rfl,trivial⟩ rfl ⟨rfl,rfl⟩
 ·have kc:s.length<=1000000:=by
   simp only[Bool.or_eq_false_iff,decide_eq_false_iff_not]at h
   omega
  have HU:=KD (jf s) (jf s) (JX kc)
  rw[Fg]at HU
  clear h
  refine gO ?_
  refine AQ.fn (by kernel_rfl) rfl rfl rfl (ND c hc) rfl ?_
  refine sI ?_
  refine gO ?_
  refine AQ.fn (by kernel_rfl) rfl rfl rfl (Sk c 8000 hc (by omega)) rfl ?_
  refine sI ?_
  refine gO ?_
  refine AP.cond rfl rfl (fun h1=>?_) (fun h1=>?_)
  ·refine gO ?_
   refine AQ.lu (by kernel_rfl) rfl rfl (fun h=>by first|(simp[gs,AV.g];done)|(simp[gs,AV.g,bH];done)|(simp[gs,AV.g,bH,bw]at h⊢;done)|(simp[gs,AV.g,bH,bw]at h⊢;exact h)|(simp[gs,AV.g,bH,bw]at h⊢;simp[h];done)|(simp[bw]at h;done)|(simp[gs,AV.g,bw]at h⊢;simp[h];done)|(simp[gs,AV.g,bw]at h⊢;exact h.1)|(simp[gs,AV.g];rfl)|(simp[gs,AV.g,bw]at h⊢;rfl)|(simp[gs,AV.g,bw]at h⊢;simp[h];rfl)|(simp[gs,AV.g,bw]at h⊢;simp_all)) rfl (fun _=>bD) rfl ?_
   refine sI ?_
   refine gO ?_
   refine AQ.lu (by kernel_rfl) rfl rfl (fun h=>by first|(simp[gs,AV.g];done)|(simp[gs,AV.g,bH];done)|(simp[gs,AV.g,bH,bw]at h⊢;done)|(simp[gs,AV.g,bH,bw]at h⊢;exact h)|(simp[gs,AV.g,bH,bw]at h⊢;simp[h];done)|(simp[bw]at h;done)|(simp[gs,AV.g,bw]at h⊢;simp[h];done)|(simp[gs,AV.g,bw]at h⊢;exact h.1)|(simp[gs,AV.g];rfl)|(simp[gs,AV.g,bw]at h⊢;rfl)|(simp[gs,AV.g,bw]at h⊢;simp[h];rfl)|(simp[gs,AV.g,bw]at h⊢;simp_all)) rfl (fun _=>Hf) rfl ?_
   refine sI ?_
   refine gO ?_
   refine AQ.lu (by kernel_rfl) rfl rfl (fun h=>by first|(simp[gs,AV.g];done)|(simp[gs,AV.g,bH];done)|(simp[gs,AV.g,bH,bw]at h⊢;done)|(simp[gs,AV.g,bH,bw]at h⊢;exact h)|(simp[gs,AV.g,bH,bw]at h⊢;simp[h];done)|(simp[bw]at h;done)|(simp[gs,AV.g,bw]at h⊢;simp[h];done)|(simp[gs,AV.g,bw]at h⊢;exact h.1)|(simp[gs,AV.g];rfl)|(simp[gs,AV.g,bw]at h⊢;rfl)|(simp[gs,AV.g,bw]at h⊢;simp[h];rfl)|(simp[gs,AV.g,bw]at h⊢;simp_all)) rfl (fun _=>AM) rfl ?_
   refine sI ?_
   refine gO ?_
   exact AE.ay rfl ⟨rfl,trivial⟩ rfl ⟨rfl,by simp[bw];rfl⟩
  ·clear h1
   refine gO ?_
   refine AQ.fn (by kernel_rfl) rfl rfl rfl (Le c hc) rfl ?_
   refine sI ?_
   refine gO ?_
   refine AQ.fn (by kernel_rfl) rfl rfl rfl (T9 c hc) rfl ?_
   refine sI ?_
   refine gO ?_
   refine AQ.fn (by kernel_rfl) rfl rfl rfl (J0 s kc) rfl ?_
   refine sI ?_
   refine gO ?_
   refine AQ.fn (by kernel_rfl) rfl rfl rfl (S0 s kc) rfl ?_
   refine sI ?_
   refine gO ?_
   refine AQ.fn (by kernel_rfl) rfl rfl rfl (bD) rfl ?_
   refine sI ?_
   refine gO ?_
   refine AQ.fn (by kernel_rfl) rfl rfl rfl (Hf) rfl ?_
   refine sI ?_
   refine gO ?_
   refine AQ.lu (by kernel_rfl) rfl rfl (fun h=>by first|(simp[gs,AV.g];done)|(simp[gs,AV.g,bH];done)|(simp[gs,AV.g,bH,bw]at h⊢;done)|(simp[gs,AV.g,bH,bw]at h⊢;exact h)|(simp[gs,AV.g,bH,bw]at h⊢;simp[h];done)|(simp[bw]at h;done)|(simp[gs,AV.g,bw]at h⊢;simp[h];done)|(simp[gs,AV.g,bw]at h⊢;exact h.1)|(simp[gs,AV.g];rfl)|(simp[gs,AV.g,bw]at h⊢;rfl)|(simp[gs,AV.g,bw]at h⊢;simp[h];rfl)|(simp[gs,AV.g,bw]at h⊢;simp_all)) rfl (fun _=>HU) rfl ?_
   refine sI ?_
   refine gO ?_
   refine cF ?_
   refine gO ?_
   refine AQ.fn (by kernel_rfl) rfl rfl rfl (Sm c hc) rfl ?_
   refine sI ?_
   refine gO ?_
   refine AQ.fn (by kernel_rfl) rfl rfl rfl (Sp c hc) rfl ?_
   refine sI ?_
   refine gO ?_
   refine AQ.fn (by kernel_rfl) rfl rfl rfl (HV) rfl ?_
   refine sI ?_
   refine gO ?_
   refine cF ?_
   refine gO ?_
   refine AQ.fn (by kernel_rfl) rfl rfl rfl (T6 c hc) rfl ?_
   refine sI ?_
   refine gO ?_
   refine AQ.fn (by kernel_rfl) rfl rfl rfl (T5 c hc) rfl ?_
   refine sI ?_
   refine gO ?_
   refine AQ.fn (by kernel_rfl) rfl rfl rfl (RX c hc) rfl ?_
   refine sI ?_
   refine gO ?_
   refine AQ.fn (by kernel_rfl) rfl rfl rfl (RW c hc) rfl ?_
   refine sI ?_
   refine gO ?_
   refine AQ.lu (by kernel_rfl) rfl rfl (fun h=>by first|(simp[gs,AV.g];done)|(simp[gs,AV.g,bH];done)|(simp[gs,AV.g,bH,bw]at h⊢;done)|(simp[gs,AV.g,bH,bw]at h⊢;exact h)|(simp[gs,AV.g,bH,bw]at h⊢;simp[h];done)|(simp[bw]at h;done)|(simp[gs,AV.g,bw]at h⊢;simp[h];done)|(simp[gs,AV.g,bw]at h⊢;exact h.1)|(simp[gs,AV.g];rfl)|(simp[gs,AV.g,bw]at h⊢;rfl)|(simp[gs,AV.g,bw]at h⊢;simp[h];rfl)|(simp[gs,AV.g,bw]at h⊢;simp_all)) rfl (fun _=>N1 (kY c) sJ) rfl ?_
   refine sI ?_
   refine gO ?_
   refine AQ.lu (by kernel_rfl) rfl rfl (fun h=>by first|(simp[gs,AV.g];done)|(simp[gs,AV.g,bH];done)|(simp[gs,AV.g,bH,bw]at h⊢;done)|(simp[gs,AV.g,bH,bw]at h⊢;exact h)|(simp[gs,AV.g,bH,bw]at h⊢;simp[h];done)|(simp[bw]at h;done)|(simp[gs,AV.g,bw]at h⊢;simp[h];done)|(simp[gs,AV.g,bw]at h⊢;exact h.1)|(simp[gs,AV.g];rfl)|(simp[gs,AV.g,bw]at h⊢;rfl)|(simp[gs,AV.g,bw]at h⊢;simp[h];rfl)|(simp[gs,AV.g,bw]at h⊢;simp_all)) rfl (fun _=>AM) rfl ?_
   refine sI ?_
   refine gO ?_
   exact AE.ay rfl ⟨rfl,trivial⟩ rfl ⟨rfl,by simp;rfl⟩
end Go.Proofs.YtpfohmboflcneaaGreatDoor
end
