import Derived.Test.YtpfohmboflcneaaGreatDoorW1
import Derived.Lib.Strings
import Derived.Lib.Walk
import Derived.Lib.BufferWrite
import Derived.Lib.UnsafeStr
import Derived.Lib.Hide
import Derived.Laws.MakeOwn
import Derived.Lib.Builder
import Derived.Shelf.LaysM
import Derived.Shelf.Strconv.Itoa3
import Derived.Shelf.LaysC
import Derived.Shelf.Strconv.AtoiAll
import Derived.Shelf.Strconv.ErrVarAll
import Derived.Shelf.Strings.Prefix
import Derived.Lib.AtoiErrMem
import Derived.Test.YtpfohmboflcneaaGreatDoorCards
import Derived.Test.YtpfohmboflcneaaGreatDoorTie
import Derived.Stop.LaidErr
import Derived.Lib.LaidTab
import Derived.Shelf.Vars
set_option linter.unusedSimpArgs false
set_option linter.unusedVariables false
set_option linter.unnecessarySimpa false
section
namespace Go.Proofs.YtpfohmboflcneaaGreatDoor
open Go Go.AL Go.RowKit
set_option maxRecDepth 10000
set_option maxHeartbeats 4000000
@[go_sem] theorem TJ (k:Nat):∀m:List (Int×Int),AV.jR k (vN m)=vN m
 |[]=>rfl
 |_::m=>by rw[vN,List.map_cons,AV.jR,<-vN,TJ k m];rfl
theorem SQ (a b:Int):aI Tryz.prog 210 [.im (.sl 1 [[Ii a],[Ii b]])] (Iv (if a≠0 then a else b)):=by
 refine ak.walk [0,2,3,5,6,7,8,9,14] [] Tryz.func210 rfl Tryz.ntmps210 (by kernel_rfl) (by rfl) rfl fun W own I0 ax lay=>?_
 refine gO ?_
 refine AP.loop rfl (α:=Nat) (fun k=>[(3,Iv 0),(6,.im (.sl 1 [[Ii a],[Ii b]])),(7,Iv 2),(8,Iv k)]) (fun _=>[]) (fun k=>k<=2/\(0<k->a=0)/\(1<k->b=0)) (fun k=>2-k) 0 ⟨by omega,by omega,by omega⟩ (sU) rfl fun k ⟨hk,h1,h2⟩=>?_
 have hw:=wr (x:=(k:Int)+1) (by omega)
 obtain rfl|rfl|rfl:k=0\/k=1\/k=2:=by omega
 ·refine gE (an @List.getD_cons_zero.{0} (an @List.length_cons.{0} @List.length_nil.{0})) ?_
  refine AP.cond rfl rfl (fun h=>?_) (fun h=>?_)
  ·refine gO ?_
   exact AE.ay rfl ⟨rfl,trivial⟩ rfl ⟨rfl,by rw[if_pos (by simpa using h)];rfl⟩
  ·refine gO ?_
   exact AE.round 1 ⟨by omega,fun _=>by simpa using h,by omega⟩ (by omega) (sU) rfl
 ·refine gE (an @List.getD_cons_zero.{0} (an @List.getD_cons_succ.{0} (an @List.length_cons.{0} @List.length_nil.{0}))) ?_
  have ha:=h1 (by omega)
  refine AP.cond rfl rfl (fun h=>?_) (fun h=>?_)
  ·refine gO ?_
   exact AE.ay rfl ⟨rfl,trivial⟩ rfl ⟨rfl,by rw[if_neg (by simpa using ha)];rfl⟩
  ·refine gO ?_
   exact AE.round 2 ⟨by omega,fun _=>ha,fun _=>by simpa using h⟩ (by omega) (sU) rfl
 ·have ha:=h1 (by omega)
  have hb:=h2 (by omega)
  refine gO ?_
  exact AE.ay rfl ⟨rfl,trivial⟩ rfl ⟨rfl,by rw[if_neg (by simpa using ha),hb];rfl⟩
theorem NH {s t:Tm} {q:Int} (hg:lx s t=if s.xs.length≠t.xs.length then decide (t.xs.length<s.xs.length)else if s.nm≠t.nm then decide (t.nm<s.nm)else mj s.xs t.xs)
  (hq:(if me s.xs.length t.xs.length≠0 then me s.xs.length t.xs.length else jY s.nm t.nm)=q):(q≠0->lx s t=decide (0<q))/\(q=0->s.xs.length=t.xs.length/\s.nm=t.nm/\lx s t=mj s.xs t.xs):=by
 have hI:me s.xs.length t.xs.length=if s.xs.length<t.xs.length then-1 else if t.xs.length<s.xs.length then 1 else 0:=by
  rw[me];simp only[Int.ofNat_lt]
 rw[hI,jY]at hq
 by_cases h1:s.xs.length=t.xs.length
 ·rw[if_neg (by omega:¬s.xs.length<t.xs.length),if_neg (by omega:¬t.xs.length<s.xs.length),if_neg (by decide)]at hq
  rw[if_neg (by omega)]at hg
  rcases rj s.nm t.nm with h2|h2|h2
  ·rw[if_pos h2]at hq
   rw[if_pos (fun e=>by rw[e]at h2;exact List.lt_irrefl _ h2),decide_eq_false (fun h3=>List.lt_asymm h2 h3)]at hg
   subst hq
   exact⟨fun _=>hg,fun h=>absurd h (by decide)⟩
  ·rw[h2,if_neg (List.lt_irrefl _),if_neg (List.lt_irrefl _)]at hq
   rw[if_neg (by simpa using h2)]at hg
   subst hq
   exact⟨fun h=>absurd rfl h,fun _=>⟨h1,h2,hg⟩⟩
  ·rw[if_neg (fun h3=>List.lt_asymm h2 h3),if_pos h2]at hq
   rw[if_pos (fun e=>by rw[e]at h2;exact List.lt_irrefl _ h2),decide_eq_true h2]at hg
   subst hq
   exact⟨fun _=>hg,fun h=>absurd h (by decide)⟩
 ·rw[if_pos h1]at hg
  by_cases h2:s.xs.length<t.xs.length
  ·rw[if_pos h2,if_pos (by decide)]at hq
   rw[decide_eq_false (by omega)]at hg
   subst hq
   exact⟨fun _=>hg,fun h=>absurd h (by decide)⟩
  ·rw[if_neg h2,if_pos (show t.xs.length<s.xs.length by omega),if_pos (by decide)]at hq
   rw[decide_eq_true (by omega)]at hg
   subst hq
   exact⟨fun _=>hg,fun h=>absurd h (by decide)⟩
theorem BH (s t:Tm) (hs:bz s) (ht:bz t) (mw:wT s<=1000000) (pQ:wT t<=1000000):aI Tryz.prog 168 [bq s,bq t] (Bv (lx s t)):=by
 have cq:=eT.1 hs
 have sP:=eT.1 ht
 have hg:=GX s t
 have kF:=FT s hs mw
 have qK:=FT t ht pQ
 have fw:=NR (dP (b7 s)) (dP (b7 t)) (x9 _) (x9 _)
 rw[NO]at fw
 refine ak.walk [0,1,2,3,4,5,6,7,8,9,10,21,26,33,57,62,63,64,77] [] Tryz.func168 rfl Tryz.ntmps168 (by kernel_rfl) (by rfl) rfl fun W own I0 ax lay=>?_
 refine gO ?_
 refine AQ.o_ (by kernel_rfl) rfl rfl rfl kF fun r' H' ⟨e1,e2⟩=>?_
 subst e1;subst e2
 refine sI ?_
 refine gO ?_
 refine AQ.o_ (by kernel_rfl) rfl rfl rfl qK fun r' H' ⟨e1,e2⟩=>?_
 subst e1;subst e2
 refine sI ?_
 refine gO ?_
 refine AQ.bN [(1,1),(0,0)] (by kernel_rfl) rfl rfl rfl rfl rfl rfl (by refine⟨?_,?_,trivial⟩<;>(rw[fo,wG];rfl)) rfl fw fun r' H' ⟨e1,e2⟩=>?_
 subst e1;subst e2
 refine sH ?_
 refine gO ?_
 refine AP.cond rfl rfl (fun h1=>?_) (fun h1=>?_)
 ·refine gO ?_
  exact AE.aV [1,0] rfl ⟨rfl,trivial⟩ (by simp only[go_sem,Nat.reduceAdd,Nat.reduceLeDiff,Nat.reduceSub,Int.reduceToNat,reduceCtorEq,dK,noMen,AV.mens,AV.men,gB,Bool.or_false];first|done|rfl) ⟨rfl,by rw[hg,if_pos (by simpa using h1)];rfl⟩
 rw[if_neg (by simpa using h1)]at hg
 refine gO ?_
 refine AP.cond rfl rfl (fun h2=>?_) (fun h2=>?_)
 ·refine gO ?_
  refine AE.aV [1,0] rfl ⟨rfl,trivial⟩ (by simp only[go_sem,Nat.reduceAdd,Nat.reduceLeDiff,Nat.reduceSub,Int.reduceToNat,reduceCtorEq,dK,noMen,AV.mens,AV.men,gB,Bool.or_false];first|done|rfl) ⟨rfl,?_⟩
  rw[hg,if_pos (by simp at h2;omega),show decide (wT t<wT s)=decide ((wT t:Int)<wT s) by rw[decide_eq_decide];omega]
  simp[dN];rfl
 rw[if_neg (by simp at h2;omega)]at hg
 refine gO ?_
 refine AP.cond rfl rfl (fun h3=>?_) (fun h3=>?_)
 ·refine gO ?_
  exact AE.aV [1,0] rfl ⟨rfl,trivial⟩ (by simp only[go_sem,Nat.reduceAdd,Nat.reduceLeDiff,Nat.reduceSub,Int.reduceToNat,reduceCtorEq,dK,noMen,AV.mens,AV.men,gB,Bool.or_false];first|done|rfl) ⟨rfl,by rw[hg,if_pos (by simpa using h3)];rfl⟩
 rw[if_neg (by simpa using h3)]at hg
 refine gE @ai ?_
 refine AP.bC 15 (Tree.node [] [0,1,2,3,4,5,7,8,9,10] [6] [Tree.node [7,8,9,10] [] [11] [Tree.node [] [] [12] [Tree.node [] [] [13] [Tree.node [] [14] [] []]]]]) (by kernel_rfl) rfl (by kernel_rfl) (by kernel_rfl) ?_
 refine bA ?_
 refine sE @ai ?_
 refine AQ.fn (by kernel_rfl) rfl rfl rfl (NG s.xs.length t.xs.length) rfl ?_
 refine sI ?_
 refine AQ.nx rfl ?_
 refine sI ?_
 refine AQ.fn (by kernel_rfl) rfl rfl rfl (FM s.nm t.nm) rfl ?_
 refine sI ?_
 refine AQ.nx rfl ?_
 refine sI ?_
 refine AQ.go (by kernel_rfl) ?_
 refine sI ?_
 refine AQ.nx rfl ?_
 refine sI ?_
 refine AQ.fn (by kernel_rfl) rfl rfl rfl (SQ (me s.xs.length t.xs.length) (jY s.nm t.nm)) rfl ?_
 refine sI ?_
 refine AQ.nx rfl ?_
 refine sI ?_
 refine AQ.done ?_
 obtain⟨q,hq⟩:∃q,(if me s.xs.length t.xs.length≠0 then me s.xs.length t.xs.length else jY s.nm t.nm)=q:=⟨_,rfl⟩
 obtain⟨q1,q2⟩:=NH hg hq
 rw[hq]
 refine gO ?_
 refine AP.cond rfl rfl (fun h4=>?_) (fun h4=>?_)
 ·refine gO ?_
  exact AE.aV [1,0] rfl ⟨rfl,trivial⟩ (by simp only[go_sem,Nat.reduceAdd,Nat.reduceLeDiff,Nat.reduceSub,Int.reduceToNat,reduceCtorEq,dK,noMen,AV.mens,AV.men,gB,Bool.or_false];first|done|rfl) ⟨rfl,by rw[q1 (by simpa using h4)];simp[dN];rfl⟩
 obtain⟨hl,hn,hm⟩:=q2 (by simpa using h4)
 refine gE @ai ?_
 refine AP.loop rfl (α:=Nat) (fun k=>[(2,.im (gW s)),(3,.im (gW t)),(62,Iv s.xs.length),(63,Iv k)]) (fun _=>[(1,.var (.map (kI (dP (b7 t)))) (vN (dP (b7 t)))),(0,.var (.map (kI (dP (b7 s)))) (vN (dP (b7 s))))]) (fun k=>k<=s.xs.length/\lx s t=mj (s.xs.drop k) (t.xs.drop k)) (fun k=>s.xs.length-k) 0 ⟨by omega,hm⟩ (sU) rfl fun k ⟨hk,hm⟩=>?_
 rcases Nat.eq_or_lt_of_le hk with aG|ah
 ·rw[aG,List.drop_length,hl,List.drop_length,mj]at hm
  refine gE @ai ?_
  refine cF ?_
  refine gO ?_
  exact AE.aV [1,0] rfl ⟨rfl,trivial⟩ (by simp only[go_sem,Nat.reduceAdd,Nat.reduceLeDiff,Nat.reduceSub,Int.reduceToNat,reduceCtorEq,dK,noMen,AV.mens,AV.men,gB,Bool.or_false];first|done|rfl) ⟨rfl,by rw[hm];rfl⟩
  all_goals simp
 ·obtain⟨u,hu,aj⟩:=cm s.xs k ah
  obtain⟨w,a8,cg⟩:=cm t.xs k (by omega)
  rw[drop_cons hu,drop_cons a8,mj]at hm
  have hw:=wr (x:=(k:Int)+1) (by omega)
  have bM:=cN cq.2.2 hu
  have jH:=cN sP.2.2 a8
  have vB:wT u<wT s:=As (List.mem_of_getElem? hu)
  have H6:wT w<wT t:=As (List.mem_of_getElem? a8)
  refine gE @ai ?_
  refine cT ?_
  refine gO ?_
  refine AP.bC 12 (Tree.node [] [0,1,2,3,4,5,6,7,8,9] [10] [Tree.node [] [11] [] []]) (by kernel_rfl) rfl (by kernel_rfl) (by kernel_rfl) ?_
  refine bA ?_
  refine sE (an @aj (an @cg @ai)) ?_
  refine⟨by omega,by omega,?_⟩
  refine AQ.fn (by kernel_rfl) rfl rfl rfl (uH u w bM) rfl ?_
  refine sI ?_
  refine AQ.nx rfl ?_
  refine sI ?_
  refine AQ.done ?_
  refine gO ?_
  refine AP.cond rfl rfl (fun h5=>?_) (fun h5=>?_)
  ·have h5:cS u w=false:=by simpa using h5
   rw[h5,if_neg (by decide)]at hm
   refine gO ?_
   refine AP.bC 12 (Tree.node [] [0,1,2,3,4,5,6,7,8,9] [10] [Tree.node [] [11] [] []]) (by kernel_rfl) rfl (by kernel_rfl) (by kernel_rfl) ?_
   refine bA ?_
   refine sE (an @aj (an @cg @ai)) ?_
   refine⟨by omega,by omega,?_⟩
   refine AQ.fn (by kernel_rfl) rfl rfl rfl (BH u w bM jH (by omega) (by omega)) rfl ?_
   refine sI ?_
   refine AQ.nx rfl ?_
   refine sI ?_
   refine AQ.done ?_
   refine gO ?_
   exact AE.aV [1,0] rfl ⟨rfl,trivial⟩ (by simp only[go_sem,Nat.reduceAdd,Nat.reduceLeDiff,Nat.reduceSub,Int.reduceToNat,reduceCtorEq,dK,noMen,AV.mens,AV.men,gB,Bool.or_false];first|done|rfl) ⟨rfl,by rw[hm];rfl⟩
  ·have h5:cS u w=true:=by simpa using h5
   rw[if_pos h5]at hm
   refine gE @hw ?_
   exact AE.round (k+1) ⟨by omega,hm⟩ (by omega) (sU) rfl
termination_by SizeOf.sizeOf s
decreasing_by exact gX hu
theorem FO (s t:Tm) (hs:bz s) (ht:bz t) (mw:wT s<=1000000) (pQ:wT t<=1000000):aI Tryz.prog 101 [bq s,bq t] (Iv (gL s t)):=by
 refine ak.walk [0,1,2,3,4,5,9,13] [] Tryz.func101 rfl Tryz.ntmps101 (by kernel_rfl) (by rfl) rfl fun W own I0 ax lay=>?_
 refine gO ?_
 refine AQ.fn (by kernel_rfl) rfl rfl rfl (uH s t hs) rfl ?_
 refine sI ?_
 refine gO ?_
 refine AP.cond rfl rfl (fun h1=>?_) (fun h1=>?_)
 ·refine gO ?_
  exact AE.ay rfl ⟨rfl,trivial⟩ rfl ⟨rfl,by rw[gL,if_pos (by simpa using h1)];rfl⟩
 refine gO ?_
 refine AQ.fn (by kernel_rfl) rfl rfl rfl (BH s t hs ht mw pQ) rfl ?_
 refine sI ?_
 refine gO ?_
 refine AP.cond rfl rfl (fun h2=>?_) (fun h2=>?_)
 ·refine gO ?_
  exact AE.ay rfl ⟨rfl,trivial⟩ rfl ⟨rfl,by rw[gL,if_neg (by simpa using h1),if_pos (by simpa using h2)];rfl⟩
 refine gO ?_
 refine AQ.fn (by kernel_rfl) rfl rfl rfl (BH t s ht hs pQ mw) rfl ?_
 refine sI ?_
 refine gO ?_
 refine AP.cond rfl rfl (fun h3=>?_) (fun h3=>?_)
 ·refine gO ?_
  exact AE.ay rfl ⟨rfl,trivial⟩ rfl ⟨rfl,by rw[gL,if_neg (by simpa using h1),if_neg (by simpa using h2),if_pos (by simpa using h3)];rfl⟩
 ·refine gO ?_
  exact AE.ay rfl ⟨rfl,trivial⟩ rfl ⟨rfl,by rw[gL,if_neg (by simpa using h1),if_neg (by simpa using h2),if_neg (by simpa using h3)];rfl⟩
theorem TN (t:Tm):aI Tryz.prog 173 [bq t] (aJ (kl t)):=by
 have e:aJ (kl t)= .im (.sl 3 [[Bi false,Si [80],.sl 3 [[Si t.nm,Ii t.ix,.sl 3 (aw t.xs)]]]]):=by
  rw[aJ,aF,kl,List.map_cons,List.map_nil,iR]
  simp only[aw,lX]
 rw[e]
 refine ak.walk [0,1,2] [] Tryz.func173 rfl Tryz.ntmps173 (by kernel_rfl) (by rfl) rfl fun W own I0 ax lay=>?_
 refine gO ?_
 exact AE.ay rfl ⟨rfl,trivial⟩ rfl ⟨rfl,rfl⟩
def lh:List Tm->Int
 |[]=>0
 |t::l=>if bl 4 9 2 3 (kl t)≠0 then bl 4 9 2 3 (kl t)else lh l
theorem Nu (l:List Tm) (hl:l.length<=1000000) (hs:∀t∈l,bz t):aI Tryz.prog 111 [.im (.sl 3 (aw l))] (Iv (lh l)):=by
 refine ak.walk [0,2,4,5,6,7,8,9,16] [4] Tryz.func111 rfl Tryz.ntmps111 (by kernel_rfl) (by rfl) rfl fun W own I0 ax lay=>?_
 refine gE @ai ?_
 refine AP.loop rfl (α:=Nat) (fun k=>[(6,.im (.sl 3 (aw l))),(7,Iv l.length),(8,Iv k)]) (fun _=>[]) (fun k=>k<=l.length/\lh l=lh (l.drop k)) (fun k=>l.length-k) 0 ⟨by omega,rfl⟩ (sU) rfl fun k ⟨hk,hm⟩=>?_
 rcases Nat.eq_or_lt_of_le hk with aG|ah
 ·rw[aG,List.drop_length,lh]at hm
  refine gO ?_
  refine cF ?_
  refine gO ?_
  exact AE.ay rfl ⟨rfl,trivial⟩ rfl ⟨rfl,by rw[hm];rfl⟩
 ·obtain⟨u,hu,aj⟩:=cm l k ah
  have hw:=wr (x:=(k:Int)+1) (by omega)
  rw[drop_cons hu,lh]at hm
  refine gE @ai ?_
  refine cT ?_
  refine gE (an @aj @ai) ?_
  refine AQ.fix 0 rfl rfl ?_
  refine sI ?_
  refine AQ.fn (by kernel_rfl) rfl rfl rfl (TN u) rfl ?_
  refine sI ?_
  refine gO ?_
  refine AQ.fn (by kernel_rfl) rfl rfl rfl (nR (kl u) (TF (hs u (List.mem_of_getElem? hu)))) rfl ?_
  refine sI ?_
  refine gO ?_
  refine AP.cond rfl rfl (fun h=>?_) (fun h=>?_)
  ·rw[if_pos (by simpa using h)]at hm
   refine gO ?_
   exact AE.ay rfl ⟨rfl,trivial⟩ rfl ⟨rfl,by rw[hm];rfl⟩
  ·rw[if_neg (by simpa using h)]at hm
   refine gE @hw ?_
   exact AE.round (k+1) ⟨by omega,hm⟩ (by omega) (sU) rfl
def uy (s t:Tm):Int×Int:=if lh [s,t]≠0 then(0,lh [s,t])else(gL s t,0)
theorem FL {s:Tm} (h:¬bl 4 9 2 3 (kl s)≠0):wT s<=4000:=by
 have h0:bl 4 9 2 3 (kl s)=0:=by simpa using h
 rw[A_ (by decide) (by decide) (by decide) (by decide)]at h0
 have:=h0.2.1
 simp only[kl,b5,lQ,List.map_cons,List.map_nil,List.sum_cons,List.sum_nil,aH]at this
 omega
theorem Mf (s t:Tm) (hs:bz s) (ht:bz t):aI Tryz.prog 37 [bq s,bq t] (.aD [Iv (uy s t).1,Iv (uy s t).2]):=by
 have hc:=Nu [s,t] (by simp) (fun u hu=>by
  rcases List.mem_cons.1 hu with rfl|hu
  ·exact hs
  ·rcases List.mem_cons.1 hu with rfl|hu
   ·exact ht
   ·cases hu)
 have e:(.im (.sl 3 (aw [s,t])):AV)= .im (.sl 3 [[Si s.nm,Ii s.ix,.sl 3 (aw s.xs)],[Si t.nm,Ii t.ix,.sl 3 (aw t.xs)]]):=by simp only[aw,lX]
 rw[e]at hc
 refine ak.walk [0,1,2,3,4,5,6,12] [] Tryz.func37 rfl Tryz.ntmps37 (by kernel_rfl) (by rfl) rfl fun W own I0 ax lay=>?_
 refine gO ?_
 refine AQ.fn (by kernel_rfl) rfl rfl rfl (hc) rfl ?_
 refine sI ?_
 refine gO ?_
 refine AP.cond rfl rfl (fun h=>?_) (fun h=>?_)
 ·refine gO ?_
  exact AE.ay rfl ⟨rfl,rfl,trivial⟩ rfl ⟨rfl,by rw[uy,if_pos (by simpa using h)];rfl⟩
 ·have h:¬lh [s,t]≠0:=by simpa using h
  have hb:wT s<=4000/\wT t<=4000:=by
   rw[lh,lh,lh]at h
   have h1:¬bl 4 9 2 3 (kl s)≠0:=fun hc=>h (by rw[if_pos hc];exact hc)
   rw[if_neg h1]at h
   have h2:¬bl 4 9 2 3 (kl t)≠0:=fun hc=>h (by rw[if_pos hc];exact hc)
   exact⟨FL h1,FL h2⟩
  refine gO ?_
  refine AQ.fn (by kernel_rfl) rfl rfl rfl (FO s t hs ht (by omega) (by omega)) rfl ?_
  refine sI ?_
  refine gO ?_
  exact AE.ay rfl ⟨rfl,rfl,trivial⟩ rfl ⟨rfl,by rw[uy,if_neg h];rfl⟩
theorem UA (n:Int):aI Tryz.prog 95 [Iv n] (.agg [Sv [],Iv n,dm]):=by
 refine ak.walk [0,2] [2] Tryz.func95 rfl Tryz.ntmps95 (by kernel_rfl) (by rfl) rfl fun W own I0 ax lay=>?_
 refine gO ?_
 exact AE.aV [0] rfl ⟨⟨rfl,Nat.le_of_ble_eq_true (by kernel_rfl)⟩,trivial⟩ rfl ⟨rfl,rfl⟩
theorem LB (n:Int):aI Tryz.prog 95 [Iv n] (bq (bW n)):=(show aI Tryz.prog 95 [Iv n] (.agg [Sv [],Iv n,.im (.sl 3 [])]) from aI.told (UA n) (by repeat' (first|with_reducible exact bX.refl _|with_reducible exact da.refl _|exact da.nil _|with_reducible exact bO.refl _|with_reducible exact fp.refl _|with_reducible exact eI.refl _|refine bO.lj ?_ ?_|refine bX.agg ?_|refine bX.im ?_|refine da.sl ?_|refine eI.cons ?_ ?_|refine fp.cons ?_ ?_)))


theorem LX:∀(l:List Tm) (k:Nat),aH (l.take k)<=aH l
 |[],k=>by rw[List.take_nil];exact Nat.le_refl _
 |t::l,0=>by rw[List.take_zero,aH];omega
 |t::l,k+1=>by rw[List.take_succ_cons,aH,aH];have:=LX l k;omega

def RM (w d:Int->Nat):List Tm->Nat->Option Nat
 |[],n=>some n
 |t::l,n=>if 4000<n+BG w t\/100<GU d t then none else RM w d l (n+BG w t)
theorem DO {l:Lt} (h:cu l=true):bL l.xs=true:=by
 rw[cu]at h
 split at h<;>exact(Bool.and_eq_true _ _▸h).2
theorem kz {c:List Lt} (h:bl 4 9 2 3 c=0):c.length<=40/\b5 c<=4000/\dC c<=100/\∀l∈c,cu l=true:=by
 rw[A_ (by decide) (by decide) (by decide) (by decide)]at h
 exact⟨h.1,h.2.1,h.2.2.1,List.all_eq_true.1 h.2.2.2⟩
theorem ak.DR {P:Program} {f:FuncId} {xs:List AV} {H:aa} {c:List Lt} {e:AV} {H0:aa} (h:ak P f xs H (fun r H'=>H'=H0/\(r= .aD [aJ c,e]\/c=[]/\r= .aD [dm,e]))):ak P f xs H (fun r H'=>H'=H0/\r= .aD [aJ c,e]):=
 ak.told h fun r H' ⟨hH,hr⟩=>⟨_,⟨hH,rfl⟩,by
  rcases hr with rfl|⟨hc,rfl⟩
  ·exact fun _ _ _ _ h=>h
  ·subst hc;exact Ny _⟩
@[go_sem] theorem TL (k:Nat):∀m:List (Int×Tm),AV.jR k (vT m)=vT m
 |[]=>rfl
 |_::m=>by rw[vT,List.map_cons,AV.jR,<-vT,TL k m];rfl
end Go.Proofs.YtpfohmboflcneaaGreatDoor
end
section
namespace Go.Proofs.YtpfohmboflcneaaGreatDoor
open Go Go.AL Go.RowKit
set_option maxRecDepth 10000
set_option linter.unusedSimpArgs false
set_option maxHeartbeats 4000000 in
set_option maxRecDepth 100000 in
theorem Nc (l:List UInt8) (h0:l≠[]) (b g cap:Nat) (p sv:Value) (rest:List Value) (w:World) (own:Nat->Prop) (bE:own g)
  (iI:w.heap[b]?=some (.cells #[p,.slice (some ⟨g,0,none⟩) l.length cap,sv] 234 (0,0))) (hg:w.heap[g]?=some (.cells (Lib.byteCells l++rest).toArray 5 (0,0)))
  (pK:l.length<=cap) (yE:cap<=maxLen):
  Calls Tryz.prog 154 #[.pointer (some ⟨b,0,none⟩)] w fun e w'=>e= .returned (.string ⟨l.toArray⟩)/\Ext own w w':=by
 have i5:(Tryz.prog.info? 5).map (fun i=>(i.zero,i.size,i.bytes))=some (some (Value.int IntKind.u8 0),1,1):=by kernel_rfl
 obtain⟨i0,hi,WQ,lN,vO⟩:=info_parts i5
 have Pl:Tryz.prog.cellsOf 5=1:=by simp[Program.cellsOf,hi,lN]
 have oh:l.length≠0:=by simpa using h0
 have c1:w.drew.cell? ⟨b,1,none⟩=some (.slice (some ⟨g,0,none⟩) l.length cap):=by
  have:w.drew.heap[b]?=some (.cells #[p,.slice (some ⟨g,0,none⟩) l.length cap,sv] 234 (0,0)):=iI
  rw[Lib.cell_of_heap this];rfl
 have pD:(Builtin.unsafeSliceData_ #[230] 278 #[.slice (some ⟨g,0,none⟩) l.length cap]).run Tryz.prog w.drew= .ok (.pointer (some ⟨g,0,none⟩)) w.drew:=
  Lib.run_unsafeSliceData_row _ _ _ _ _ _ (by omega)
 have BT:(Builtin.unsafeString_ #[278,3] 9 #[.pointer (some ⟨g,0,none⟩),.int .i64 l.length]).run Tryz.prog w.drew= .ok (.string ⟨l.toArray⟩) (w.drew.freeze ⟨g,0,none⟩ l.length):=by
  have cC:w.drew.heap[g]?=some (.cells (Lib.byteCells l++rest).toArray 5 (0,0)):=hg
  refine Lib.run_unsafeString_row w.drew 278 3 9 5 Tryz.underlying278 Pl g (Lib.byteCells l++rest).toArray.size (by simp[World.shape?,cC]) l h0 (by simp[Lib.byteCells_length]) (by unfold maxLen at yE;omega) ?_
  intro j x hx
  have ah:j<l.length:=by
   rcases Nat.lt_or_ge j l.length with h|h
   ·exact h
   ·rw[List.getElem?_eq_none h]at hx;cases hx
  have e1:(⟨g,0,none⟩:Addr).add j=⟨g,j,none⟩:=by unfold Addr.add;by_cases hj:j=0<;>simp[hj]
  rw[e1,Lib.cell_of_heap cC,List.getElem?_toArray,List.getElem?_append_left (by rw[Lib.byteCells_length];exact ah)]
  simp[Lib.byteCells,hx]
 go_enter Tryz.func154,Tryz.ntmps154
 go_wp2
 go_region
 all_goals(go_wp2;go_ret;exact⟨rfl,(Bt w).trans (N5 w.drew ⟨g,0,none⟩ l.length bE) (fun _ h=> .inl h)⟩)
set_option maxHeartbeats 4000000 in
set_option maxRecDepth 100000 in
theorem M_ (b:Nat) (p sv:Value) (w:World) (own:Nat->Prop) (iI:w.heap[b]?=some (.cells #[p,.slice none 0 0,sv] 234 (0,0))):
  Calls Tryz.prog 154 #[.pointer (some ⟨b,0,none⟩)] w fun e w'=>e= .returned (.string ⟨#[]⟩)/\Ext own w w':=by
 have BT:∀(W:World) (q:Option Addr),(Builtin.unsafeString_ #[278,3] 9 #[.pointer q,.int .i64 0]).run Tryz.prog W= .ok (.string .empty) W:=fun W q=>Lib.run_unsafeString_none W _ _ _ q
 have c1:w.drew.cell? ⟨b,1,none⟩=some (.slice none 0 0):=by
  have:w.drew.heap[b]?=some (.cells #[p,.slice none 0 0,sv] 234 (0,0)):=iI
  rw[Lib.cell_of_heap this];rfl
 have pD:(Builtin.unsafeSliceData_ #[230] 278 #[.slice none 0 0]).run Tryz.prog w.drew= .ok (.pointer none) w.drew:=rfl
 go_enter Tryz.func154,Tryz.ntmps154
 go_wp2
 go_region
 all_goals(go_wp2;go_ret;exact⟨rfl,Bt w⟩)
set_option maxHeartbeats 4000000 in
set_option maxRecDepth 100000 in
theorem Na (b g:Nat) (p sv:Value) (cur:Array Value) (w:World) (own:Nat->Prop) (iI:w.heap[b]?=some (.cells #[p,.slice (some ⟨g,0,none⟩) 0 0,sv] 234 (0,0))) (hg:w.heap[g]?=some (.cells cur 5 (0,0))):
  Calls Tryz.prog 154 #[.pointer (some ⟨b,0,none⟩)] w fun e w'=>e= .returned (.string ⟨#[]⟩)/\Ext own w w':=by
 have BT:∀(W:World) (q:Option Addr),(Builtin.unsafeString_ #[278,3] 9 #[.pointer q,.int .i64 0]).run Tryz.prog W= .ok (.string .empty) W:=fun W q=>Lib.run_unsafeString_none W _ _ _ q
 have ah:b<w.heap.size:=by
  rcases Nat.lt_or_ge b w.heap.size with h'|h'
  ·exact h'
  ·simp[Array.getElem?_eq_none h']at iI
 have c1:w.drew.cell? ⟨b,1,none⟩=some (.slice (some ⟨g,0,none⟩) 0 0):=by
  have:w.drew.heap[b]?=some (.cells #[p,.slice (some ⟨g,0,none⟩) 0 0,sv] 234 (0,0)):=iI
  rw[Lib.cell_of_heap this];rfl
 have pD:(Builtin.unsafeSliceData_ #[230] 278 #[.slice (some ⟨g,0,none⟩) 0 0]).run Tryz.prog w.drew= .ok (.pointer (some ⟨w.drew.heap.size,0,none⟩)) (w.drew.alloc (.view ⟨g,0,none⟩ 5)):=
  Lib.run_unsafeSliceData_zero w.drew _ _ 5 Tryz.underlying278 ⟨g,0,none⟩ 0 (5,cur.size) (by have cC:w.drew.heap[g]?=some (.cells cur 5 (0,0)):=hg;simp[World.shape?,cC])
 have c2:(w.drew.alloc (.view ⟨g,0,none⟩ 5)).cell? ⟨b,1,none⟩=some (.slice (some ⟨g,0,none⟩) 0 0):=by
  have:(w.drew.alloc (.view ⟨g,0,none⟩ 5)).heap[b]?=_:=(Lib.alloc_old w.drew _ b ah).trans iI
  rw[Lib.cell_of_heap this];rfl
 have c3:(w.alloc (.view ⟨g,0,none⟩ 5)).drew.cell? ⟨b,1,none⟩=some (.slice (some ⟨g,0,none⟩) 0 0):=c2
 have c0:w.cell? ⟨b,1,none⟩=some (.slice (some ⟨g,0,none⟩) 0 0):=c1
 go_enter Tryz.func154,Tryz.ntmps154
 go_wp2
 go_region
 all_goals(go_wp2;go_ret;exact⟨rfl,uI (w:=w) _⟩)
set_option maxHeartbeats 4000000 in
set_option maxRecDepth 100000 in
theorem Nb (b g cap:Nat) (p sv:Value) (w:World) (own:Nat->Prop) (se:cap≠0) (iI:w.heap[b]?=some (.cells #[p,.slice (some ⟨g,0,none⟩) 0 cap,sv] 234 (0,0))):
  Calls Tryz.prog 154 #[.pointer (some ⟨b,0,none⟩)] w fun e w'=>e= .returned (.string ⟨#[]⟩)/\Ext own w w':=by
 have BT:∀(W:World) (q:Option Addr),(Builtin.unsafeString_ #[278,3] 9 #[.pointer q,.int .i64 0]).run Tryz.prog W= .ok (.string .empty) W:=fun W q=>Lib.run_unsafeString_none W _ _ _ q
 have c1:w.drew.cell? ⟨b,1,none⟩=some (.slice (some ⟨g,0,none⟩) 0 cap):=by
  have:w.drew.heap[b]?=some (.cells #[p,.slice (some ⟨g,0,none⟩) 0 cap,sv] 234 (0,0)):=iI
  rw[Lib.cell_of_heap this];rfl
 have pD:(Builtin.unsafeSliceData_ #[230] 278 #[.slice (some ⟨g,0,none⟩) 0 cap]).run Tryz.prog w.drew= .ok (.pointer (some ⟨g,0,none⟩)) w.drew:=
  Lib.run_unsafeSliceData_row _ _ _ _ _ _ se
 clear se
 go_enter Tryz.func154,Tryz.ntmps154
 go_wp2
 go_region
 all_goals(go_wp2;go_ret;exact⟨rfl,Bt w⟩)
theorem FB {w:World} {I:Nat->Prop}:∀(l:List UInt8) (ag:List (List Value)),IV.aQ w I (de l) ag->ag.flatten=Lib.byteCells l
 |[],ag,h=>by simp only[de,List.map_nil,IV.aQ]at h;subst h;rfl
 |x::l,ag,h=>by
  simp only[de,List.map_cons,IV.aQ,IV.ab,IV.den]at h
  obtain⟨u,au,rfl,⟨v,vs,rfl,⟨rfl,_⟩,rfl⟩,h2⟩:=h
  have:=FB l au h2
  simp[Lib.byteCells,this]
theorem Nf (l:List UInt8) (p:AV) (sh:Bool):ak Tryz.prog 154 [.ob 0 0] [(0,.var 234 [p,.os 1 1 0 l.length,Bv sh]),(1,.vec 5 1 (de l))] (fun r H'=>H'=[]/\r=Sv l):=by
 refine ak.drop (r:=Sv l) (by rfl) rfl ⟨rfl,rfl⟩ fun w φ I vs hd hR _=>?_
 simp only[AV.ab,AV.den]at hd
 obtain⟨u,us,rfl,⟨b,hb,rfl⟩,rfl⟩:=hd
 have h0:=hR.own 0 _ _ rfl hb
 simp only[Ob.at,Sh.has,AV.ab,AV.den]at h0
 obtain⟨b',us,BZ,iI,⟨u,qg,rfl,_,v,ED,rfl,hv,sv,Ux,rfl,_,rfl⟩,_⟩:=h0
 cases BZ
 have key:Calls Tryz.prog 154 #[.pointer (some ⟨b,0,none⟩)] w fun e' w'=>e'= .returned (.string ⟨l.toArray⟩)/\Ext (c6 φ) w w':=by
  rcases hv with⟨_,_,hl,rfl⟩|⟨g,c,hg,rfl,h2,h3,h4⟩
  ·have:l=[]:=List.eq_nil_of_length_eq_zero hl
   subst this
   exact M_ b u sv w _ iI
  ·have h1:=hR.own 1 _ _ rfl hg
   simp only[Ob.at]at h1
   rcases h1 with⟨h1,_⟩|⟨g',ag,rest,fM,Cg,hr,_⟩
   ·cases h1
   cases fM
   have eN:=FB l ag hr
   rw[eN]at Cg
   simp only[Nat.zero_mul]at iI
   by_cases hl:l=[]
   ·subst hl
    by_cases hc:c=0
    ·subst hc
     exact Na b g u sv _ w _ iI Cg
    ·exact Nb b g c u sv w _ hc iI
   ·exact Nc l hl b g c u sv rest w _ ⟨1,hg⟩ iI Cg h2 h3
 refine key.mono fun e w' ⟨he,hx⟩=>⟨_,he,?_,hx⟩
 rw[kA]
 rfl
theorem FA:∃j,Tryz.prog.info? 232=some j/\j.size≠0:=by
 have h:(Tryz.prog.info? 232).map (·.size)=some 2:=by kernel_rfl
 obtain⟨j,hj,hs⟩:=Option.map_eq_some_iff.1 h
 exact⟨j,hj,by rw[hs];decide⟩
theorem Ng:liesAt Tryz.prog Tryz.prog.depth 234 (3/Tryz.prog.cellsOf 234) 0 232 1=true:=by kernel_rfl
theorem KK {w:World} {φ:aq} {I:Nat->Prop} {H:aa} {b g:Nat} {p q:AV} {sh:Bool} (hR:Real w φ I H) (hl:lk H b=some (.var 234 [p,q,Bv sh])) (hb:φ b=some (some g)):w.shape? g=some (234,3):=by
 have h0:=hR.own b _ _ hl hb
 simp only[Ob.at,Sh.has,AV.ab]at h0
 obtain⟨b',us,BZ,iI,⟨u,qg,rfl,_,v,ED,rfl,hv,sv,Ux,rfl,_,rfl⟩,_⟩:=h0
 cases BZ
 simp[World.shape?,iI]
theorem DM {C:Cx} {φ:aq} {I:Nat->Prop} {E:Env} {H:aa} {a:Act} {w:World} (hs:br C φ I E H a w) {t:Nat} (ht:lk E t=some (.ob 0 0)):∃g,φ 0=some (some g)/\a.eval (.tmp t)= .pointer (some ⟨g,0,none⟩):=by
 obtain⟨u,hu,hd⟩:=hs.env _ _ ht
 simp only[AV.den]at hd
 obtain⟨g,hg,rfl⟩:=hd
 exact⟨g,hg,by simp only[Act.eval,Array.getD_eq_getD_getElem?,hu,Option.getD_some]⟩
set_option maxRecDepth 10000
set_option maxHeartbeats 1000000
theorem FQ (q:AV) (sh:Bool) (rows:List (List IV)):ak Tryz.prog 196 [.ob 0 0] [(0,.var 234 [.im (.v (.pointer none)),q,Bv sh]),(1,.vec 5 1 rows)] (fun r H'=>H'=[(0,.var 234 [.ob 0 0,q,Bv sh]),(1,.vec 5 1 rows)]/\r= .aD []):=by
 obtain⟨j,hj,Ck⟩:=FA
 refine ak.walk [0,6,19] [] Tryz.func196 rfl Tryz.ntmps196 (by kernel_rfl) (by rfl) rfl fun W own I0 ax lay=>?_
 refine gO ?_
 refine AQ.val (.ob 0 0) (by kernel_rfl) rfl (fun φ I a w hs=>?_) ?_
 ·obtain⟨g,hg,lA⟩:=DM (t:=8) hs rfl
  have dv:=KK hs.st.real rfl hg
  refine⟨_,?_,by simp only[AV.den];exact⟨g,hg,rfl⟩⟩
  simp only[execOp,lA,Sem.run_bind]
  rw[Lib.run_to_unsafe w ⟨g,0,none⟩ Tryz.underlying229 Tryz.underlying300 hj Ck dv (Nat.zero_lt_succ _)]
  rfl
 refine gO ?_
 refine AQ.val (.ob 0 0) (by kernel_rfl) rfl (fun φ I a w hs=>?_) ?_
 ·obtain⟨g,hg,lA⟩:=DM (t:=9) hs rfl
  refine⟨_,?_,by simp only[AV.den];exact⟨g,hg,rfl⟩⟩
  simp only[execOp,Sem.run_bind,resolve,invoke,Sem.run_pure,Result.andThen_ok,List.map_toArray,List.map_cons,List.map_nil,lA]
  have hf:a.eval (Operand.func 224)= .func (.func 224) #[] #[]:=rfl
  simp only[hf,Deferred.ofValue,Sem.run_pure,Result.andThen_ok,Array.append_empty,Array.empty_append]
  rw[run_callFunc_extern Tryz.func224 (by kernel_rfl) (by kernel_rfl) (by kernel_rfl) (e:=Extern.AbiNoEscape.same) (by kernel_rfl)]
  rw[Lib.run_noEscape]
  rfl
 refine gO ?_
 refine AQ.val (.ob 0 0) (by kernel_rfl) rfl (fun φ I a w hs=>?_) ?_
 ·obtain⟨g,hg,lA⟩:=DM (t:=10) hs rfl
  have dv:=KK hs.st.real rfl hg
  refine⟨_,?_,by simp only[AV.den];exact⟨g,hg,rfl⟩⟩
  simp only[execOp,lA,Sem.run_bind]
  rw[Lib.run_from_unsafe w ⟨g,0,none⟩ Tryz.underlying300 Tryz.underlying229 hj dv Ng]
  rfl
 refine gO ?_
 exact AE.fv rfl trivial ⟨rfl,rfl⟩
theorem FR (q:AV) (sh:Bool) (rows:List (List IV)):ak Tryz.prog 196 [.ob 0 0] [(0,.var 234 [.ob 0 0,q,Bv sh]),(1,.vec 5 1 rows)] (fun r H'=>H'=[(0,.var 234 [.ob 0 0,q,Bv sh]),(1,.vec 5 1 rows)]/\r= .aD []):=by
 obtain⟨j,hj,Ck⟩:=FA
 refine ak.walk [0,6,19] [] Tryz.func196 rfl Tryz.ntmps196 (by kernel_rfl) (by rfl) rfl fun W own I0 ax lay=>?_
 refine gO ?_
 exact AE.fv rfl trivial ⟨rfl,rfl⟩
theorem UX (p:AV) (hp:p= .im (.v (.pointer none))\/p= .ob 0 0) (sh:Bool) (l m:List UInt8) (n:Nat) (hn:n=l.length) (hb:l.length+m.length<=1000000000):
  ak Tryz.prog 152 [.ob 0 0,Sv m] [(0,.var 234 [p,.os 1 1 0 n,Bv sh]),(1,.vec 5 1 (de l))]
   (fun r H'=>H'=[(0,.var 234 [.ob 0 0,.os 2 1 0 (n+m.length),Bv sh]),(2,.vec 5 1 (de (l++m)))]/\r= .aD [Iv m.length,.im (.v .nilIface)]):=by
 subst hn
 have iJ:ak Tryz.prog 196 [.ob 0 0] [(0,.var 234 [p,.os 1 1 0 l.length,Bv sh]),(1,.vec 5 1 (de l))] (fun r H'=>H'=[(0,.var 234 [.ob 0 0,.os 1 1 0 l.length,Bv sh]),(1,.vec 5 1 (de l))]/\r= .aD []):=by
  rcases hp with rfl|rfl
  ·exact FQ _ _ _
  ·exact FR _ _ _
 have CF:jP (bp [(0,0),(1,1)] 2) [(0,.var 234 [p,.os 1 1 0 l.length,Bv sh]),(1,.vec 5 1 (de l))] [(0,.var 234 [p,.os 1 1 0 l.length,Bv sh]),(1,.vec 5 1 (de l))]:=by
  rcases hp with rfl|rfl
  ·exact⟨rfl,rfl,trivial⟩
  ·exact⟨rfl,rfl,trivial⟩
 refine ak.walk [0,1,4,5] [] Tryz.func152 rfl Tryz.ntmps152 (by kernel_rfl) (by rfl) rfl fun W own I0 ax lay=>?_
 refine gO ?_
 refine AQ.bN [(0,0),(1,1)] (by kernel_rfl) rfl rfl rfl rfl rfl rfl CF rfl iJ ?_
 rintro r H1 ⟨rfl,rfl⟩
 refine⟨rfl,?_⟩
 refine gO ?_
 refine AQ.rename 1 2 rfl rfl rfl ?_
 refine sI ?_
 refine AQ.kill 2 ?_
 refine sI ?_
 refine AQ.ML (hnb:=rfl) (l:=m) (by kernel_rfl) rfl rfl rfl rfl (by kernel_rfl) (by kernel_rfl) (by kernel_rfl) (by kernel_rfl) (by kernel_rfl) (mQ l).symm (by rw[mQ];omega) ?_
 refine gO ?_
 exact AE.ret rfl ⟨rfl,rfl,trivial⟩ ⟨by rw[mQ,show de (l++m)=de l++de m by simp[de]],rfl⟩
end Go.Proofs.YtpfohmboflcneaaGreatDoor
end
section
namespace Go.Proofs
open Go.Shelf
def Tryz.Rt:Go.Shelf.Ren:=⟨fun|171=>202|243=>227|246=>249|283=>259|284=>260|285=>261|286=>262|129=>240|317=>266|318=>267|319=>268|320=>269|337=>270|338=>271|n=>n,fun|3=>3|9=>9|2=>2|4=>4|171=>338|0=>0|53=>314|37=>230|5=>5|173=>340|212=>350|51=>312|20=>20|213=>351|46=>295|232=>352|233=>353|n=>n,fun|17=>3|18=>4|19=>5|n=>n⟩
theorem Tryz.Rs:Go.Proofs.LaysM.n171 Tryz.prog Tryz.Rt:={
 mixed:=by kernel_rfl
 f129:=Tryz.func240.trans (congrArg some (by kernel_rfl))
 f171:=Tryz.func202.trans (congrArg some (by kernel_rfl))
 f243:=Tryz.func227.trans (congrArg some (by kernel_rfl))
 f246:=Tryz.func249.trans (congrArg some (by kernel_rfl))
 f283:=Tryz.func259.trans (congrArg some (by kernel_rfl))
 f284:=Tryz.func260.trans (congrArg some (by kernel_rfl))
 f285:=Tryz.func261.trans (congrArg some (by kernel_rfl))
 f286:=Tryz.func262.trans (congrArg some (by kernel_rfl))
 f317:=Tryz.func266.trans (congrArg some (by kernel_rfl))
 f318:=Tryz.func267.trans (congrArg some (by kernel_rfl))
 f319:=Tryz.func268.trans (congrArg some (by kernel_rfl))
 f320:=Tryz.func269.trans (congrArg some (by kernel_rfl))
 f337:=Tryz.func270.trans (congrArg some (by kernel_rfl))
 f338:=Tryz.func271.trans (congrArg some (by kernel_rfl))
 t0:=Tryz.underlying0
 a0:=Tryz.isAgg0
 z0:=Tryz.sizeOf0
 v0:=Tryz.zeroValue0
 t2:=Tryz.underlying2
 a2:=Tryz.isAgg2
 z2:=Tryz.sizeOf2
 v2:=Tryz.zeroValue2
 t3:=Tryz.underlying3
 a3:=Tryz.isAgg3
 z3:=Tryz.sizeOf3
 v3:=Tryz.zeroValue3
 t4:=Tryz.underlying4
 a4:=Tryz.isAgg4
 z4:=Tryz.sizeOf4
 v4:=Tryz.zeroValue4
 t5:=Tryz.underlying5
 a5:=Tryz.isAgg5
 z5:=Tryz.sizeOf5
 v5:=Tryz.zeroValue5
 t9:=Tryz.underlying9
 a9:=Tryz.isAgg9
 z9:=Tryz.sizeOf9
 v9:=Tryz.zeroValue9
 t20:=Tryz.underlying20
 a20:=Tryz.isAgg20
 z20:=Tryz.sizeOf20
 v20:=Tryz.zeroValue20
 t37:=Tryz.underlying230
 a37:=Tryz.isAgg230
 z37:=Tryz.sizeOf230
 v37:=Tryz.zeroValue230
 t46:=Tryz.underlying295
 a46:=Tryz.isAgg295
 z46:=Tryz.sizeOf295
 v46:=Tryz.zeroValue295
 t51:=Tryz.underlying312
 a51:=Tryz.isAgg312
 z51:=Tryz.sizeOf312
 v51:=Tryz.zeroValue312
 t53:=Tryz.underlying314
 a53:=Tryz.isAgg314
 z53:=Tryz.sizeOf314
 v53:=Tryz.zeroValue314
 t171:=Tryz.underlying338
 a171:=Tryz.isAgg338
 z171:=Tryz.sizeOf338
 v171:=Tryz.zeroValue338
 t173:=Tryz.underlying340
 a173:=Tryz.isAgg340
 z173:=Tryz.sizeOf340
 v173:=Tryz.zeroValue340
 t212:=Tryz.underlying350
 a212:=Tryz.isAgg350
 z212:=Tryz.sizeOf350
 v212:=Tryz.zeroValue350
 t213:=Tryz.underlying351
 a213:=Tryz.isAgg351
 z213:=Tryz.sizeOf351
 t232:=Tryz.underlying352
 a232:=Tryz.isAgg352
 z232:=Tryz.sizeOf352
 v232:=Tryz.zeroValue352
 t233:=Tryz.underlying353
 a233:=Tryz.isAgg353
 z233:=Tryz.sizeOf353
 v233:=Tryz.zeroValue353
 g17:=by kernel_rfl
 g18:=by kernel_rfl
 g19:=by kernel_rfl
 i0:=by kernel_rfl
 i2:=by kernel_rfl
 i3:=by kernel_rfl
 i4:=by kernel_rfl
 i5:=by kernel_rfl
 i9:=by kernel_rfl
 i20:=by kernel_rfl
 i37:=by kernel_rfl
 i46:=by kernel_rfl
 i51:=by kernel_rfl
 i53:=by kernel_rfl
 i171:=by kernel_rfl
 i173:=by kernel_rfl
 i212:=by kernel_rfl
 i232:=by kernel_rfl
 i233:=by kernel_rfl
 m17:=by kernel_rfl
 m18:=by kernel_rfl
 m19:=by kernel_rfl}
open Go.RowKit Go.Sort Go.Lib in
theorem Tryz.strconv_Itoa (n:Int) (h0:-9223372036854775808<=n) (h1:n<=9223372036854775807) (w:World) (QD:Lib.TabIs Tryz.prog w "internal/strconv.uint64pow10" .u64 Lib.pow10Tab):
  Calls Tryz.prog 202 #[.int .i64 n] w fun e w'=>e= .returned (.string ⟨(Lib.itoa n).toArray⟩)/\∃k os,w'=grow (w.drewN k) os:=Any.strconv_Itoa Tryz.Rs n h0 h1 w QD
def Tryz.Rr:Go.Shelf.Ren:=⟨fun|172=>201|244=>225|245=>226|247=>244|279=>245|280=>246|281=>247|282=>248|287=>256|316=>257|171=>202|205=>258|321=>264|322=>265|243=>227|246=>249|283=>259|284=>260|285=>261|286=>262|129=>240|317=>266|318=>267|319=>268|320=>269|337=>270|338=>271|n=>n,fun|9=>9|3=>3|75=>236|76=>237|4=>4|5=>5|167=>319|37=>230|0=>0|85=>320|2=>2|168=>322|53=>314|175=>332|46=>295|210=>336|127=>278|145=>348|143=>346|21=>21|171=>338|173=>340|212=>350|51=>312|20=>20|213=>351|232=>352|233=>353|80=>240|n=>n,fun|15=>1|16=>2|17=>3|18=>4|19=>5|n=>n⟩
theorem Tryz.zo:Go.Proofs.LaysC.n172 Tryz.prog Tryz.Rr:={
 mixed:=by kernel_rfl
 f129:=Tryz.func240.trans (congrArg some (by kernel_rfl))
 f171:=Tryz.func202.trans (congrArg some (by kernel_rfl))
 f172:=Tryz.func201.trans (congrArg some (by kernel_rfl))
 f205:=Tryz.func258.trans (congrArg some (by kernel_rfl))
 f243:=Tryz.func227.trans (congrArg some (by kernel_rfl))
 f244:=Tryz.func225.trans (congrArg some (by kernel_rfl))
 f245:=Tryz.func226.trans (congrArg some (by kernel_rfl))
 f246:=Tryz.func249.trans (congrArg some (by kernel_rfl))
 f247:=Tryz.func244.trans (congrArg some (by kernel_rfl))
 f279:=Tryz.func245.trans (congrArg some (by kernel_rfl))
 f280:=Tryz.func246.trans (congrArg some (by kernel_rfl))
 f281:=Tryz.func247.trans (congrArg some (by kernel_rfl))
 f282:=Tryz.func248.trans (congrArg some (by kernel_rfl))
 f283:=Tryz.func259.trans (congrArg some (by kernel_rfl))
 f284:=Tryz.func260.trans (congrArg some (by kernel_rfl))
 f285:=Tryz.func261.trans (congrArg some (by kernel_rfl))
 f286:=Tryz.func262.trans (congrArg some (by kernel_rfl))
 f287:=Tryz.func256.trans (congrArg some (by kernel_rfl))
 f316:=Tryz.func257.trans (congrArg some (by kernel_rfl))
 f317:=Tryz.func266.trans (congrArg some (by kernel_rfl))
 f318:=Tryz.func267.trans (congrArg some (by kernel_rfl))
 f319:=Tryz.func268.trans (congrArg some (by kernel_rfl))
 f320:=Tryz.func269.trans (congrArg some (by kernel_rfl))
 f321:=Tryz.func264.trans (congrArg some (by kernel_rfl))
 f322:=Tryz.func265.trans (congrArg some (by kernel_rfl))
 f337:=Tryz.func270.trans (congrArg some (by kernel_rfl))
 f338:=Tryz.func271.trans (congrArg some (by kernel_rfl))
 t0:=Tryz.underlying0
 a0:=Tryz.isAgg0
 z0:=Tryz.sizeOf0
 v0:=Tryz.zeroValue0
 t2:=Tryz.underlying2
 a2:=Tryz.isAgg2
 z2:=Tryz.sizeOf2
 v2:=Tryz.zeroValue2
 t3:=Tryz.underlying3
 a3:=Tryz.isAgg3
 z3:=Tryz.sizeOf3
 v3:=Tryz.zeroValue3
 t4:=Tryz.underlying4
 a4:=Tryz.isAgg4
 z4:=Tryz.sizeOf4
 v4:=Tryz.zeroValue4
 t5:=Tryz.underlying5
 a5:=Tryz.isAgg5
 z5:=Tryz.sizeOf5
 v5:=Tryz.zeroValue5
 t9:=Tryz.underlying9
 a9:=Tryz.isAgg9
 z9:=Tryz.sizeOf9
 v9:=Tryz.zeroValue9
 t20:=Tryz.underlying20
 a20:=Tryz.isAgg20
 z20:=Tryz.sizeOf20
 v20:=Tryz.zeroValue20
 t21:=Tryz.underlying21
 a21:=Tryz.isAgg21
 z21:=Tryz.sizeOf21
 v21:=Tryz.zeroValue21
 t37:=Tryz.underlying230
 a37:=Tryz.isAgg230
 z37:=Tryz.sizeOf230
 v37:=Tryz.zeroValue230
 t46:=Tryz.underlying295
 a46:=Tryz.isAgg295
 z46:=Tryz.sizeOf295
 v46:=Tryz.zeroValue295
 t51:=Tryz.underlying312
 a51:=Tryz.isAgg312
 z51:=Tryz.sizeOf312
 v51:=Tryz.zeroValue312
 t53:=Tryz.underlying314
 a53:=Tryz.isAgg314
 z53:=Tryz.sizeOf314
 v53:=Tryz.zeroValue314
 t75:=Tryz.underlying236
 a75:=Tryz.isAgg236
 z75:=Tryz.sizeOf236
 v75:=Tryz.zeroValue236
 t76:=Tryz.underlying237
 a76:=Tryz.isAgg237
 z76:=Tryz.sizeOf237
 v76:=Tryz.zeroValue237
 t85:=Tryz.underlying320
 a85:=Tryz.isAgg320
 z85:=Tryz.sizeOf320
 v85:=Tryz.zeroValue320
 t127:=Tryz.underlying278
 a127:=Tryz.isAgg278
 z127:=Tryz.sizeOf278
 v127:=Tryz.zeroValue278
 t143:=Tryz.underlying346
 a143:=Tryz.isAgg346
 z143:=Tryz.sizeOf346
 v143:=Tryz.zeroValue346
 t145:=Tryz.underlying348
 a145:=Tryz.isAgg348
 z145:=Tryz.sizeOf348
 v145:=Tryz.zeroValue348
 t167:=Tryz.underlying319
 a167:=Tryz.isAgg319
 z167:=Tryz.sizeOf319
 v167:=Tryz.zeroValue319
 t168:=Tryz.underlying322
 a168:=Tryz.isAgg322
 z168:=Tryz.sizeOf322
 v168:=Tryz.zeroValue322
 t171:=Tryz.underlying338
 a171:=Tryz.isAgg338
 z171:=Tryz.sizeOf338
 v171:=Tryz.zeroValue338
 t173:=Tryz.underlying340
 a173:=Tryz.isAgg340
 z173:=Tryz.sizeOf340
 v173:=Tryz.zeroValue340
 t175:=Tryz.underlying332
 a175:=Tryz.isAgg332
 z175:=Tryz.sizeOf332
 v175:=Tryz.zeroValue332
 t210:=Tryz.underlying336
 a210:=Tryz.isAgg336
 z210:=Tryz.sizeOf336
 v210:=Tryz.zeroValue336
 t212:=Tryz.underlying350
 a212:=Tryz.isAgg350
 z212:=Tryz.sizeOf350
 v212:=Tryz.zeroValue350
 t213:=Tryz.underlying351
 a213:=Tryz.isAgg351
 z213:=Tryz.sizeOf351
 t232:=Tryz.underlying352
 a232:=Tryz.isAgg352
 z232:=Tryz.sizeOf352
 v232:=Tryz.zeroValue352
 t233:=Tryz.underlying353
 a233:=Tryz.isAgg353
 z233:=Tryz.sizeOf353
 v233:=Tryz.zeroValue353
 g15:=by kernel_rfl
 g16:=by kernel_rfl
 g17:=by kernel_rfl
 g18:=by kernel_rfl
 g19:=by kernel_rfl
 t80:=Tryz.underlying240
 a80:=Tryz.isAgg240
 z80:=Tryz.sizeOf240
 v80:=Tryz.zeroValue240
 i0:=by kernel_rfl
 i2:=by kernel_rfl
 i3:=by kernel_rfl
 i4:=by kernel_rfl
 i5:=by kernel_rfl
 i9:=by kernel_rfl
 i20:=by kernel_rfl
 i21:=by kernel_rfl
 i37:=by kernel_rfl
 i46:=by kernel_rfl
 i51:=by kernel_rfl
 i53:=by kernel_rfl
 i75:=by kernel_rfl
 i76:=by kernel_rfl
 i80:=by kernel_rfl
 i85:=by kernel_rfl
 i127:=by kernel_rfl
 i143:=by kernel_rfl
 i145:=by kernel_rfl
 i167:=by kernel_rfl
 i168:=by kernel_rfl
 i171:=by kernel_rfl
 i173:=by kernel_rfl
 i175:=by kernel_rfl
 i210:=by kernel_rfl
 i212:=by kernel_rfl
 i232:=by kernel_rfl
 i233:=by kernel_rfl
 m15:=by kernel_rfl
 m16:=by kernel_rfl
 m17:=by kernel_rfl
 m18:=by kernel_rfl
 m19:=by kernel_rfl
 c0:=by kernel_rfl
 c2:=by kernel_rfl
 c3:=by kernel_rfl
 c4:=by kernel_rfl
 c5:=by kernel_rfl
 c9:=by kernel_rfl
 c20:=by kernel_rfl
 c21:=by kernel_rfl
 c37:=by kernel_rfl
 c46:=by kernel_rfl
 c51:=by kernel_rfl
 c53:=by kernel_rfl
 c75:=by kernel_rfl
 c76:=by kernel_rfl
 c80:=by kernel_rfl
 c85:=by kernel_rfl
 c127:=by kernel_rfl
 c143:=by kernel_rfl
 c145:=by kernel_rfl
 c167:=by kernel_rfl
 c168:=by kernel_rfl
 c171:=by kernel_rfl
 c173:=by kernel_rfl
 c175:=by kernel_rfl
 c210:=by kernel_rfl
 c212:=by kernel_rfl
 c213:=by kernel_rfl
 c232:=by kernel_rfl
 c233:=by kernel_rfl}
open Go.RowKit in
theorem Tryz.strconv_Atoi_ok (s:ByteArray) (PY:s.size<=9223372036854775806) (v:Int) (h:Lib.atoiAll s.data.toList= .ok v) (w:World):
  Calls Tryz.prog 201 #[.string s] w fun e w'=>e= .returned (.tuple #[.int .i64 v,.nilIface])/\(w'=w\/∃t,w'=Lib.bytesWorld w 5 t):=Any.strconv_Atoi_ok Tryz.zo s PY v h w
open Go.RowKit in
theorem Tryz.strconv_Atoi_syntax_var (s:ByteArray) (Cr:s.size<=281474976710656) (h:Lib.atoiAll s.data.toList= .«syntax») (tp:TypeId) (p:Value) (w:World) (sR:w.var? Tryz.prog "strconv.ErrSyntax" =some #[.iface tp p]):
  Calls Tryz.prog 201 #[.string s] w fun e w'=>∃N,e= .returned (.tuple #[.int .i64 0,.iface 322 (.pointer (some ⟨N,0,none⟩))])/\w.heap.size<=N/\w'.heap[N]?=some (.cells #[.string ⟨#[65,116,111,105]⟩,.string s,.iface tp p] 336 (0,0))/\Below w.heap.size w w':=Any.strconv_Atoi_syntax_var Tryz.zo s Cr h tp p w sR
open Go.RowKit in
theorem Tryz.strconv_Atoi_range_var (s:ByteArray) (Cr:s.size<=281474976710656) (h:Lib.atoiAll s.data.toList= .range) (tp:TypeId) (p:Value) (w:World) (sR:w.var? Tryz.prog "strconv.ErrRange" =some #[.iface tp p]):
  Calls Tryz.prog 201 #[.string s] w fun e w'=>∃N,e= .returned (.tuple #[.int .i64 (Lib.atoiSat s.data.toList),.iface 322 (.pointer (some ⟨N,0,none⟩))])/\w.heap.size<=N/\w'.heap[N]?=some (.cells #[.string ⟨#[65,116,111,105]⟩,.string s,.iface tp p] 336 (0,0))/\Below w.heap.size w w':=Any.strconv_Atoi_range_var Tryz.zo s Cr h tp p w sR
def Tryz.Rq:Go.Shelf.Ren:=⟨fun|99=>160|206=>203|n=>n,fun|9=>9|4=>4|3=>3|n=>n,fun|n=>n⟩
theorem Tryz.Rp:Go.Proofs.Lays.n99 Tryz.prog Tryz.Rq:={
 mixed:=by kernel_rfl
 f99:=Tryz.func160.trans (congrArg some (by kernel_rfl))
 f206:=Tryz.func203.trans (congrArg some (by kernel_rfl))
 t3:=Tryz.underlying3
 a3:=Tryz.isAgg3
 z3:=Tryz.sizeOf3
 v3:=Tryz.zeroValue3
 t4:=Tryz.underlying4
 a4:=Tryz.isAgg4
 z4:=Tryz.sizeOf4
 v4:=Tryz.zeroValue4
 t9:=Tryz.underlying9
 a9:=Tryz.isAgg9
 z9:=Tryz.sizeOf9
 v9:=Tryz.zeroValue9}
open Go.RowKit Go.Lib in
theorem Tryz.strings_HasPrefix (s p:ByteArray) (w:World):
  Calls Tryz.prog 160 #[.string s,.string p] w fun e w'=>e= .returned (.bool (Lib.hasPrefix s.data.toList p.data.toList))/\w'=w:=Any.strings_HasPrefix Tryz.Rp s p w
end Go.Proofs
end
section
namespace Go.Proofs.YtpfohmboflcneaaGreatDoor
open Go Go.AL Go.RowKit
set_option maxRecDepth 10000
set_option maxHeartbeats 4000000
def gk (l:List UInt8):Int×Bool:=match Lib.atoiAll l with
 | .ok v=>(v,true)
 | .range=>(Lib.atoiSat l,false)
 |_=>(0,false)
def lq (b:Bool):AV:=bif b then .im (.v .nilIface)else .wr (.iface 322) .top
theorem EH {P:Program} {w:World} {I:Nat->Prop} {n:String} {Q:Obj->Prop} (hV:VK P w I) (hm:(n,Q)∈ri) (hs:(P.globalNamed n).isSome=true):∃g o,P.globalNamed n=some g/\w.heap[g]?=some o/\Q o:=by
 obtain⟨g,hg⟩:=Option.isSome_iff_exists.1 hs
 obtain⟨_,o,h1,h2⟩:=hV _ hm g hg
 exact⟨g,o,hg,h1,h2⟩
theorem Fo (l:List UInt8) (hl:l.length<=1000000000):aI Tryz.prog 201 [Sv l] (.aD [Iv (gk l).1,lq (gk l).2]):=by
 refine aI.DN (by rfl) (by cases(gk l).2<;>rfl) fun w φ I vs hd hI hV=>?_
 simp only[AV.ab]at hd
 obtain⟨u,us,rfl,hu,rfl⟩:=hd
 rw[kA]at hu
 subst hu
 have hb:(BA l).data.toList=l:=rN l
 have a7:(BA l).size=l.length:=rfl
 cases h:Lib.atoiAll l with
 |ok v=>
  have e:gk l=(v,true):=by simp[gk,h]
  rw[e]
  refine(Tryz.strconv_Atoi_ok (BA l) (by omega) v (by rw[hb];exact h) w).mono fun e w' ⟨he,hw⟩=>⟨_,he,?_,?_⟩
  ·simp only[AV.den,AV.ab,IV.den,lq,cond_true]
   exact⟨_,⟨_,_,rfl,⟨rfl,rfl⟩,_,_,rfl,⟨rfl,rfl⟩,rfl⟩,rfl⟩
  ·rcases hw with rfl|⟨t,rfl⟩
   ·exact Below.refl _ _
   ·exact Lib.bytesWorld_below _ _ _
 |range=>
  have e:gk l=(Lib.atoiSat l,false):=by simp[gk,h]
  rw[e]
  obtain⟨g,o,hg,ho,tp,p,T,fz,rfl⟩:=EH (n:= "strconv.ErrRange") hV (by simp only[ri,List.mem_cons];exact .inr (.inl rfl)) (by rfl)
  refine(Tryz.strconv_Atoi_range_var (BA l) (by omega) (by rw[hb];exact h) tp p w (by simp only[World.var?,hg,Option.bind_some,ho])).mono fun e w' ⟨N,he,_,_,hw⟩=>⟨_,he,?_,hw⟩
  rw[hb]
  simp only[AV.den,AV.ab,IV.den,lq,cond_false,WK.rel]
  exact⟨_,⟨_,_,rfl,⟨rfl,rfl⟩,_,_,rfl,⟨_,rfl,trivial⟩,rfl⟩,rfl⟩
 |_=>
  have e:gk l=(0,false):=by simp[gk,h]
  rw[e]
  obtain⟨g,o,hg,ho,tp,p,T,fz,rfl⟩:=EH (n:= "strconv.ErrSyntax") hV (by simp only[ri,List.mem_cons];exact .inl rfl) (by rfl)
  refine(Any.strconv_Atoi_syntax_var Tryz.zo (BA l) (by omega) (by rw[hb];exact h) tp p w (by simp only[World.var?,hg,Option.bind_some,ho])).mono fun e w' ⟨N,he,_,_,hw⟩=>⟨_,he,?_,hw⟩
  simp only[AV.den,AV.ab,IV.den,lq,cond_false,WK.rel]
  exact⟨_,⟨_,_,rfl,⟨rfl,rfl⟩,_,_,rfl,⟨_,rfl,trivial⟩,rfl⟩,rfl⟩
theorem Fm (l:List UInt8):-9223372036854775808<=(gk l).1/\(gk l).1<=9223372036854775807:=by
 unfold gk
 split
 ·rename_i v h;exact Lib.atoiAll_bounds h
 ·exact Lib.atoiSat_bounds l
 ·simp
theorem C9 (n:Int) (h:-9223372036854775808<=n/\n<=9223372036854775807):aI Tryz.prog 202 [Iv n] (Sv (Lib.itoa n)):=by
 refine aI.DN (by rfl) rfl fun w φ I vs hd hI hV=>?_
 simp only[AV.ab]at hd
 obtain⟨u,us,rfl,hu,rfl⟩:=hd
 rw[fF]at hu
 subst hu
 obtain⟨g,o,hg,ho,T,fz,rfl⟩:=EH (n:= "internal/strconv.uint64pow10") hV (by simp only[ri,List.mem_cons];exact .inr (.inr (.inl rfl))) (by rfl)
 refine(Tryz.strconv_Itoa n h.1 h.2 w (by simp only[Lib.TabIs,World.var?,hg,Option.bind_some,ho];rfl)).mono fun e w' ⟨he,k,os,hw⟩=>⟨_,he,by rw[kA];rfl,?_⟩
 subst hw
 refine⟨rfl,rfl,rfl,?_,fun j hj=>?_⟩
 ·show w.heap.size<=(w.heap++os).size;rw[Array.size_append];exact Nat.le_add_right _ _
 ·show(w.heap++os)[j]?=_
  rw[Array.getElem?_append_left hj]
theorem Pd (l m:List UInt8):aI Tryz.prog 160 [Sv l,Sv m] (Bv (Lib.hasPrefix l m)):=by
 refine aI.DN (by rfl) rfl fun w φ I vs hd hI hV=>?_
 simp only[AV.ab]at hd
 obtain⟨u,us,rfl,hu,u2,ED,rfl,kd,rfl⟩:=hd
 rw[kA]at hu kd
 subst hu;subst kd
 refine(Tryz.strings_HasPrefix (BA l) (BA m) w).mono fun e w' ⟨he,hw⟩=>⟨_,he,?_,?_⟩
 ·have h1:(BA l).data.toList=l:=rN l
  have h2:(BA m).data.toList=m:=rN m
  rw[h1,h2]
  simp only[AV.den,IV.den]
  exact⟨trivial,rfl⟩
 ·subst hw;exact Below.refl _ _
theorem UW (p:AV) (hp:p= .im (.v (.pointer none))\/p= .ob 0 0) (sh:Bool) (l:List UInt8) (m:UInt8) (n:Nat) (hn:n=l.length) (hb:l.length+1<=1000000000):
  ak Tryz.prog 198 [.ob 0 0,Uv m] [(0,.var 234 [p,.os 1 1 0 n,Bv sh]),(1,.vec 5 1 (de l))]
   (fun r H'=>H'=[(0,.var 234 [.ob 0 0,.os 2 1 0 (n+1),Bv sh]),(2,.vec 5 1 (de (l++[m])))]/\r= .im (.v .nilIface)):=by
 subst hn
 have iJ:ak Tryz.prog 196 [.ob 0 0] [(0,.var 234 [p,.os 1 1 0 l.length,Bv sh]),(1,.vec 5 1 (de l))] (fun r H'=>H'=[(0,.var 234 [.ob 0 0,.os 1 1 0 l.length,Bv sh]),(1,.vec 5 1 (de l))]/\r= .aD []):=by
  rcases hp with rfl|rfl
  ·exact FQ _ _ _
  ·exact FR _ _ _
 have CF:jP (bp [(0,0),(1,1)] 2) [(0,.var 234 [p,.os 1 1 0 l.length,Bv sh]),(1,.vec 5 1 (de l))] [(0,.var 234 [p,.os 1 1 0 l.length,Bv sh]),(1,.vec 5 1 (de l))]:=by
  rcases hp with rfl|rfl
  ·exact⟨rfl,rfl,trivial⟩
  ·exact⟨rfl,rfl,trivial⟩
 refine ak.walk [0,1,4] [] Tryz.func198 rfl Tryz.ntmps198 (by kernel_rfl) (by rfl) rfl fun W own I0 ax lay=>?_
 refine gO ?_
 refine AQ.bN [(0,0),(1,1)] (by kernel_rfl) rfl rfl rfl rfl rfl rfl CF rfl iJ ?_
 rintro r H1 ⟨rfl,rfl⟩
 refine⟨rfl,?_⟩
 refine gO ?_
 refine AQ.rename 1 2 rfl rfl rfl ?_
 refine sI ?_
 refine AQ.kill 2 ?_
 refine sI ?_
 refine AQ.append (hnb:=rfl) (rows:=de l) (es:=0) (by kernel_rfl) rfl rfl rfl (by rfl) Tryz.Ua Tryz.T3 (by show Option.map _ (aC Tryz.prog 5)=_;rw[Tryz.U4];rfl) Tryz.Nj (by first|rfl|(simp only[mQ,List.length_cons,List.length_nil];done)|(simp only[mQ,List.length_cons,List.length_nil];omega)) (by simp only[mQ,List.length_cons,List.length_nil];omega) (by simp only[mQ,List.length_cons,List.length_nil];omega) ?_
 refine sI ?_
 refine gO ?_
 exact AE.ret rfl ⟨rfl,trivial⟩ ⟨by rw[mQ,show de (l++[m])=de l++[[.v (.int .u8 m.toNat)]] by simp[de]],rfl⟩
abbrev eo (sh:Bool) (p:AV) (i:Nat) (l:List UInt8):aa:=[(0,.var 234 [p,.os i 1 0 l.length,Bv sh]),(i,.vec 5 1 (de l))]
def oO (p:AV):Prop:=p= .im (.v (.pointer none))\/p= .ob 0 0
theorem rL {p:AV} (hp:oO p) (sh:Bool) (l m:List UInt8) (hb:l.length+m.length<=1000000000):
  ak Tryz.prog 152 [.ob 0 0,Sv m] (eo sh p 1 l) (fun r H'=>H'=eo sh (.ob 0 0) 2 (l++m)/\r= .aD [Iv m.length,.im (.v .nilIface)]):=by
 have:=UX p hp sh l m l.length rfl hb
 rw[show l.length+m.length=(l++m).length by simp]at this
 exact this
theorem Av {p:AV} (hp:oO p) (sh:Bool) (l:List UInt8) (m:UInt8) (hb:l.length+1<=1000000000):
  ak Tryz.prog 198 [.ob 0 0,Uv m] (eo sh p 1 l) (fun r H'=>H'=eo sh (.ob 0 0) 2 (l++[m])/\r= .im (.v .nilIface)):=by
 have:=UW p hp sh l m l.length rfl hb
 rw[show l.length+1=(l++[m]).length by simp]at this
 exact this
theorem J1 {p:AV} (hp:oO p) (sh:Bool) (l:List UInt8) (n:Nat):jP (bp [(0,0),(1,4)] n) (eo sh p 4 l) (eo sh p 1 l):=by
 rcases hp with rfl|rfl
 ·exact⟨rfl,rfl,trivial⟩
 ·exact⟨rfl,rfl,trivial⟩
theorem TW {C:Cx} {K:List PK} {q:List Nat} {t:Tm} {p:AV} (hp:oO p) {sh:Bool} {l:List UInt8} (hnb:C.B.nb=2) (h:AP C q K [(0,.ob 0 0),(1,bq t)] (eo sh p 4 l)):AP C q K [(0,.ob 0 0),(1,bq t)] (eo sh p 1 l):=by
 have hb:Nat.ble C.B.nb 4=true:=by rw[hnb];rfl
 rcases hp with rfl|rfl
 ·exact AP.rename 1 4 rfl rfl hb h
 ·exact AP.rename 1 4 rfl rfl hb h
theorem TV {C:Cx} {K:List PK} {q:List Nat} {t:Lt} {p:AV} (hp:oO p) {sh:Bool} {l:List UInt8} (hnb:C.B.nb=2) (h:AP C q K [(0,.ob 0 0),(1,fc t)] (eo sh p 4 l)):AP C q K [(0,.ob 0 0),(1,fc t)] (eo sh p 1 l):=by
 have hb:Nat.ble C.B.nb 4=true:=by rw[hnb];rfl
 rcases hp with rfl|rfl
 ·exact AP.rename 1 4 rfl rfl hb h
 ·exact AP.rename 1 4 rfl rfl hb h
theorem Um (sh:Bool) (t:Tm):dn sh t=if t.nm=[]then 63::(if sh then[]else Lib.itoa t.ix)else t.nm++eU sh t.xs:=by cases t;rw[dn];rfl
theorem S5 (sh:Bool) (t:Tm) (hs:bz t) (ho:cw t=true) (p:AV) (hp:oO p) (l:List UInt8) (hb:l.length+(dn sh t).length<=1000000000)
  (hl:t.nm≠[]->∀l:List UInt8,l.length+(eU sh t.xs).length<=1000000000->ak Tryz.prog 199 [.ob 0 0,.im (.sl 3 (aw t.xs))] (eo sh (.ob 0 0) 1 l) (fun r H'=>H'=eo sh (.ob 0 0) 2 (l++eU sh t.xs)/\r= .aD [])):
  ak Tryz.prog 197 [.ob 0 0,bq t] (eo sh p 1 l) (fun r H'=>H'=eo sh (.ob 0 0) 2 (l++dn sh t)/\r= .aD []):=by
 have hT:=Um sh t
 have al:=DP t
 rw[ho]at al
 have qZ:=J1 hp sh l
 refine ak.walk [0,1,3,6,15] [] Tryz.func197 rfl Tryz.ntmps197 (by kernel_rfl) (by rfl) rfl fun W own I0 ax lay=>?_
 refine TW hp rfl ?_
 refine gO ?_
 refine AP.cond rfl rfl (fun h=>?_) (fun h=>?_)
 ·have h:t.nm=[]:=by simpa using h
  rw[if_pos h]at hT al
  rw[hT]at hb
  have mA:=Av hp sh l 63 (by simp at hb;omega)
  refine gO ?_
  refine AQ.bN [(0,0),(1,4)] (by kernel_rfl) rfl rfl rfl rfl rfl rfl (qZ _) rfl (mA) ?_
  rintro r H1 ⟨rfl,rfl⟩;refine⟨rfl,?_⟩;refine sH ?_;refine AQ.rename 7 4 rfl rfl rfl ?_;refine sI ?_;refine AQ.order [0,4] rfl ?_;refine sI ?_
  cases sh with
  |true=>
   refine gO ?_
   refine AE.rename 4 2 rfl rfl rfl ?_;refine sI ?_
   exact AE.ret rfl trivial ⟨by rw[hT];rfl,rfl⟩
  |false=>
   have al:=al.symm
   rw[Bool.and_eq_true,Bool.and_eq_true,decide_eq_true_iff,decide_eq_true_iff]at al
   have hit:=C9 t.ix (by omega)
   have hT:dn false t=63::Lib.itoa t.ix:=hT
   have y9:=rL (.inr rfl) false (l++[63]) (Lib.itoa t.ix) (by simp at hb⊢;omega)
   refine gO ?_
   refine AP.bC 7 (Tree.node [] [0,1,2,3,4] [5] [Tree.node [0,1,2] [] [6] [Tree.node [] [] [] []]]) (by kernel_rfl) rfl (by kernel_rfl) (by kernel_rfl) ?_
   refine bA ?_
   refine sI ?_
   refine AQ.fn (by kernel_rfl) rfl rfl rfl (hit) rfl ?_
   refine sI ?_
   refine AQ.nx rfl ?_
   refine sI ?_
   refine AQ.bN [(0,0),(1,4)] (by kernel_rfl) rfl rfl rfl rfl rfl rfl (by exact⟨rfl,rfl,trivial⟩) rfl (y9) ?_
   rintro r H1 ⟨rfl,rfl⟩;refine⟨rfl,?_⟩;refine sH ?_;refine AQ.rename 7 4 rfl rfl rfl ?_;refine sI ?_;refine AQ.order [0,4] rfl ?_;refine sI ?_
   refine AQ.nx rfl ?_
   refine sI ?_
   refine AQ.done ?_
   refine gO ?_
   refine AE.rename 4 2 rfl rfl rfl ?_;refine sI ?_
   exact AE.ret rfl trivial ⟨by rw[hT,show l++63::Lib.itoa t.ix=l++[63]++Lib.itoa t.ix by simp];rfl,rfl⟩
 ·have h:¬t.nm=[]:=by simpa using h
  rw[if_neg h]at hT
  rw[hT,List.length_append]at hb
  have vI:=rL hp sh l t.nm (by omega)
  have eA:=hl h (l++t.nm) (by rw[List.length_append];omega)
  refine gO ?_
  refine AP.bC 6 (Tree.node [] [0,1,2,3,4] [5] [Tree.node [] [] [] []]) (by kernel_rfl) rfl (by kernel_rfl) (by kernel_rfl) ?_
  refine bA ?_
  refine sI ?_
  refine AQ.bN [(0,0),(1,4)] (by kernel_rfl) rfl rfl rfl rfl rfl rfl (qZ _) rfl (vI) ?_
  rintro r H1 ⟨rfl,rfl⟩;refine⟨rfl,?_⟩;refine sH ?_;refine AQ.rename 7 4 rfl rfl rfl ?_;refine sI ?_;refine AQ.order [0,4] rfl ?_;refine sI ?_
  refine AQ.nx rfl ?_
  refine sI ?_
  refine AQ.done ?_
  refine gO ?_
  refine AQ.bN [(0,0),(1,4)] (by kernel_rfl) rfl rfl rfl rfl rfl rfl (by exact⟨rfl,rfl,trivial⟩) rfl (eA) ?_
  rintro r H1 ⟨rfl,rfl⟩;refine⟨rfl,?_⟩;refine sH ?_;refine AQ.rename 7 4 rfl rfl rfl ?_;refine sI ?_;refine AQ.order [0,4] rfl ?_;refine sI ?_
  refine gO ?_
  refine AE.rename 4 2 rfl rfl rfl ?_;refine sI ?_
  exact AE.fv rfl trivial ⟨by rw[hT,<-List.append_assoc];rfl,rfl⟩
def oZ (sh:Bool) (l:List Tm):List UInt8:=l.flatMap fun t=>44::32::dn sh t
def fe (sh:Bool):List Tm->List UInt8
 |[]=>[]
 |t::l=>40::(dn sh t++oZ sh l)
theorem Lm (sh:Bool):∀l,k8 sh l=oZ sh l++[41]
 |[]=>by rw[k8];rfl
 |t::l=>by rw[k8,Lm sh l,oZ,oZ,List.flatMap_cons];simp
theorem Eu (sh:Bool) {l:List Tm} (h:l≠[]):eU sh l=fe sh l++[41]:=by
 cases l with
 |nil=>exact absurd rfl h
 |cons t l=>rw[eU,Lm,fe];simp
theorem Lk (sh:Bool) {l:List Tm} {k:Nat} {u:Tm} (h:l[k]?=some u):fe sh (l.take (k+1))=fe sh (l.take k)++((if k=0 then[40]else[44,32])++dn sh u):=by
 rw[cK h]
 cases l with
 |nil=>simp at h
 |cons t l=>
  cases k with
  |zero=>simp[fe,oZ]
  |succ k=>rw[List.take_succ_cons,List.cons_append,fe,fe];simp[oZ]
theorem Ul (sh:Bool) (l:List Tm) (k:Nat):∃r,fe sh l=fe sh (l.take k)++r:=by
 cases l with
 |nil=>exact⟨[],by rw[List.take_nil];rfl⟩
 |cons t l=>
  cases k with
  |zero=>exact⟨_,rfl⟩
  |succ k=>exact⟨oZ sh (l.drop k),by
    rw[List.take_succ_cons,fe,fe]
    conv=>lhs;rw[<-List.take_append_drop k l,oZ,List.flatMap_append]
    simp[oZ]⟩
theorem Lj (sh:Bool) (l:List Tm) (k:Nat):(fe sh (l.take k)).length<=(fe sh l).length:=by
 obtain⟨r,h⟩:=Ul sh l k
 rw[h,List.length_append];omega
theorem J5 (sh:Bool) (xs:List Tm) (mB:xs.length<=1000000000) (l:List UInt8) (hb:l.length+(eU sh xs).length<=1000000000)
  (ih:∀(k:Nat) (t:Tm) (l:List UInt8),xs[k]?=some t->l.length+(dn sh t).length<=1000000000->ak Tryz.prog 197 [.ob 0 0,bq t] (eo sh (.ob 0 0) 1 l) (fun r H'=>H'=eo sh (.ob 0 0) 2 (l++dn sh t)/\r= .aD [])):
  ak Tryz.prog 199 [.ob 0 0,.im (.sl 3 (aw xs))] (eo sh (.ob 0 0) 1 l) (fun r H'=>H'=eo sh (.ob 0 0) 2 (l++eU sh xs)/\r= .aD []):=by
 refine ak.walk [0,1,4,5,8,9,10,11,12,17] [5] Tryz.func199 rfl Tryz.ntmps199 (by kernel_rfl) (by rfl) rfl fun W own I0 ax lay=>?_
 refine AP.rename 1 4 rfl rfl rfl ?_
 refine sI ?_
 refine gE @ai ?_
 refine AP.cond rfl rfl (fun h=>?_) (fun h=>?_)
 ·have h:xs=[]:=by cases xs with|nil=>rfl|cons a b=>simp at h;omega
  subst h
  refine gO ?_
  refine AE.rename 4 2 rfl rfl rfl ?_;refine sI ?_
  exact AE.ret rfl trivial ⟨by rw[eU,List.append_nil];rfl,rfl⟩
 have h:xs≠[]:=fun e=>by subst e;simp at h
 rw[Eu sh h,List.length_append,List.length_singleton]at hb
 refine gE @ai ?_
 refine AP.loop rfl (α:=Nat) (fun k=>[(0,.ob 0 0),(9,.im (.sl 3 (aw xs))),(10,Iv xs.length),(11,Iv k)]) (fun k=>eo sh (.ob 0 0) 4 (l++fe sh (xs.take k))) (fun k=>k<=xs.length) (fun k=>xs.length-k) 0 (by omega) (sU) (by rw[List.take_zero,fe,List.append_nil];rfl) fun k hk=>?_
 rcases Nat.eq_or_lt_of_le hk with aG|ah
 ·subst aG
  rw[List.take_length]
  have mA:=Av (.inr rfl) sh (l++fe sh xs) 41 (by rw[List.length_append];omega)
  refine gO ?_
  refine cF ?_
  refine gO ?_
  refine AQ.bN [(0,0),(1,4)] (by kernel_rfl) rfl rfl rfl rfl rfl rfl (by exact⟨rfl,rfl,trivial⟩) rfl (mA) ?_
  rintro r H1 ⟨rfl,rfl⟩;refine⟨rfl,?_⟩;refine sH ?_;refine AQ.rename 7 4 rfl rfl rfl ?_;refine sI ?_;refine AQ.order [0,4] rfl ?_;refine sI ?_
  refine gO ?_
  refine AE.rename 4 2 rfl rfl rfl ?_;refine sI ?_
  exact AE.fv rfl trivial ⟨by rw[Eu sh h,<-List.append_assoc];rfl,rfl⟩
 ·obtain⟨u,hu,aj⟩:=cm xs k ah
  have hw:=wr (x:=(k:Int)+1) (by omega)
  have aS:=Lk sh hu
  have hle:=Lj sh xs (k+1)
  rw[aS,List.length_append,List.length_append]at hle
  refine gO ?_
  refine cT ?_
  refine gE @aj ?_
  refine⟨by rw[ai];omega,?_⟩
  refine gO ?_
  refine AP.fix 5 rfl rfl ?_
  refine sI ?_
  by_cases dE:k=0
  ·subst dE
   rw[if_pos rfl]at aS hle
   have mA:=Av (.inr rfl) sh (l++fe sh (xs.take 0)) 40 (by simp at hle⊢;omega)
   have hit:=ih 0 u (l++fe sh (xs.take 0)++[40]) hu (by simp at hle⊢;omega)
   refine cT ?_
   refine gO ?_
   refine AQ.bN [(0,0),(1,4)] (by kernel_rfl) rfl rfl rfl rfl rfl rfl (by exact⟨rfl,rfl,trivial⟩) rfl (mA) ?_
   rintro r H1 ⟨rfl,rfl⟩;refine⟨rfl,?_⟩;refine sH ?_;refine AQ.rename 7 4 rfl rfl rfl ?_;refine sI ?_;refine AQ.order [0,4] rfl ?_;refine sI ?_
   refine gO ?_
   refine AQ.bN [(0,0),(1,4)] (by kernel_rfl) rfl rfl rfl rfl rfl rfl (by exact⟨rfl,rfl,trivial⟩) rfl (hit) ?_
   rintro r H1 ⟨rfl,rfl⟩;refine⟨rfl,?_⟩;refine sH ?_;refine AQ.rename 7 4 rfl rfl rfl ?_;refine sI ?_;refine AQ.order [0,4] rfl ?_;refine sI ?_
   refine gO ?_
   refine AE.round 1 (by omega) (by omega) (sU) ?_
   rw[aS];simp only[List.append_assoc];rfl
  ·rw[if_neg dE]at aS hle
   have mA:=rL (.inr rfl) sh (l++fe sh (xs.take k)) [44,32] (by simp at hle⊢;omega)
   have hit:=ih k u (l++fe sh (xs.take k)++[44,32]) hu (by simp at hle⊢;omega)
   refine cF ?_
   refine gO ?_
   refine AQ.bN [(0,0),(1,4)] (by kernel_rfl) rfl rfl rfl rfl rfl rfl (by exact⟨rfl,rfl,trivial⟩) rfl (mA) ?_
   rintro r H1 ⟨rfl,rfl⟩;refine⟨rfl,?_⟩;refine sH ?_;refine AQ.rename 7 4 rfl rfl rfl ?_;refine sI ?_;refine AQ.order [0,4] rfl ?_;refine sI ?_
   refine gO ?_
   refine AQ.bN [(0,0),(1,4)] (by kernel_rfl) rfl rfl rfl rfl rfl rfl (by exact⟨rfl,rfl,trivial⟩) rfl (hit) ?_
   rintro r H1 ⟨rfl,rfl⟩;refine⟨rfl,?_⟩;refine sH ?_;refine AQ.rename 7 4 rfl rfl rfl ?_;refine sI ?_;refine AQ.order [0,4] rfl ?_;refine sI ?_
   refine gE @hw ?_
   refine AE.round (k+1) (by omega) (by omega) (sU) ?_
   rw[aS];simp only[List.append_assoc];rfl
theorem JP {t:Tm} (h:cw t=true) (hn:t.nm≠[]):bL t.xs=true:=by
 rw[DP,if_neg hn,Bool.and_eq_true]at h;exact h.2
theorem zP (sh:Bool) (t:Tm) (hs:bz t) (ho:cw t=true) (p:AV) (hp:oO p) (l:List UInt8) (hb:l.length+(dn sh t).length<=1000000000):
  ak Tryz.prog 197 [.ob 0 0,bq t] (eo sh p 1 l) (fun r H'=>H'=eo sh (.ob 0 0) 2 (l++dn sh t)/\r= .aD []):=
 S5 sh t hs ho p hp l hb fun hn l hb=>J5 sh t.xs (eT.1 hs).2.1 l hb fun k u l hu hb=>
  zP sh u (cN (eT.1 hs).2.2 hu) (wx (JP ho hn) u (List.mem_of_getElem? hu)) _ (.inr rfl) l hb
termination_by SizeOf.sizeOf t
decreasing_by exact gX hu
theorem J4 (sh:Bool) (xs:List Tm) (mB:xs.length<=1000000000) (hs:cf xs) (ho:bL xs=true) (l:List UInt8) (hb:l.length+(eU sh xs).length<=1000000000):
  ak Tryz.prog 199 [.ob 0 0,.im (.sl 3 (aw xs))] (eo sh (.ob 0 0) 1 l) (fun r H'=>H'=eo sh (.ob 0 0) 2 (l++eU sh xs)/\r= .aD []):=
 J5 sh xs mB l hb fun k u l hu hb=>zP sh u (cN hs hu) (wx ho u (List.mem_of_getElem? hu)) _ (.inr rfl) l hb
theorem J6 (sh:Bool) (x:Lt) (hs:gA x) (ho:cu x=true) (p:AV) (hp:oO p) (l:List UInt8) (hb:l.length+(fD sh x).length<=1000000000):
  ak Tryz.prog 153 [.ob 0 0,fc x] (eo sh p 1 l) (fun r H'=>H'=eo sh (.ob 0 0) 2 (l++fD sh x)/\r= .aD []):=by
 have al:=DO ho
 have hT:fD sh x=_:=fD.eq_def sh x
 have qZ:=J1 hp sh l
 rw[hT]at hb
 refine ak.walk [0,1,3,6,14,30] [] Tryz.func153 rfl Tryz.ntmps153 (by kernel_rfl) (by rfl) rfl fun W own I0 ax lay=>?_
 refine TV hp rfl ?_
 refine gO ?_
 refine AP.cond rfl rfl (fun h=>?_) (fun h=>?_)
 ·have h:x.pd=[61]:=by simpa using h
  rw[cu,if_pos h,Bool.and_eq_true,decide_eq_true_iff]at ho
  rw[if_pos h]at hb hT
  obtain⟨a,b,fJ⟩:∃a b,x.xs=[a,b]:=by
   have:=ho.1
   match x.xs,this with
   |[a,b],_=>exact⟨a,b,rfl⟩
  have y7:=hs.2.2
  rw[fJ]at al y7 hb hT
  simp only[List.getD_cons_zero,List.getD_cons_succ]at hb hT
  rw[bL,bL,Bool.and_eq_true,Bool.and_eq_true]at al
  rw[cf,cf]at y7
  have aj:aw x.xs=[qe a,qe b]:=by rw[fJ];simp only[aw,lX]
  have e0:[qe a,qe b].getD 0 []=[Si a.nm,Ii a.ix,.sl 3 (aw a.xs)]:=rfl
  have e1:[qe a,qe b].getD 1 []=[Si b.nm,Ii b.ix,.sl 3 (aw b.xs)]:=rfl
  have ha:=zP sh a y7.1 al.1 p hp l (by simp only[List.length_append]at hb;omega)
  have hw:=rL (.inr rfl) sh (l++dn sh a) (ln x.ng) (by simp only[List.length_append]at hb⊢;omega)
  have ao:=zP sh b y7.2.1 al.2.1 (.ob 0 0) (.inr rfl) (l++dn sh a++ln x.ng) (by simp only[List.length_append]at hb⊢;omega)
  rw[aj]
  refine gE (an @e0 (an @List.length_cons.{0} @List.length_nil.{0})) ?_
  refine AQ.bN [(0,0),(1,4)] (by kernel_rfl) rfl rfl rfl rfl rfl rfl (qZ _) rfl (ha) ?_
  rintro r H1 ⟨rfl,rfl⟩;refine⟨rfl,?_⟩;refine sH ?_;refine AQ.rename 7 4 rfl rfl rfl ?_;refine sI ?_;refine AQ.order [0,4] rfl ?_;refine sI ?_
  refine gO ?_
  cases e6:x.ng with
  |true=>
   rw[e6]at hw ao hT
   refine gO ?_
   refine AQ.bN [(0,0),(1,4)] (by kernel_rfl) rfl rfl rfl rfl rfl rfl (by exact⟨rfl,rfl,trivial⟩) rfl (hw) ?_
   rintro r H1 ⟨rfl,rfl⟩;refine⟨rfl,?_⟩;refine sH ?_;refine AQ.rename 7 4 rfl rfl rfl ?_;refine sI ?_;refine AQ.order [0,4] rfl ?_;refine sI ?_
   refine gE (an @e1 (an @List.length_cons.{0} @List.length_nil.{0})) ?_
   refine AQ.bN [(0,0),(1,4)] (by kernel_rfl) rfl rfl rfl rfl rfl rfl (by exact⟨rfl,rfl,trivial⟩) rfl (ao) ?_
   rintro r H1 ⟨rfl,rfl⟩;refine⟨rfl,?_⟩;refine sH ?_;refine AQ.rename 7 4 rfl rfl rfl ?_;refine sI ?_;refine AQ.order [0,4] rfl ?_;refine sI ?_
   refine gO ?_
   refine AE.rename 4 2 rfl rfl rfl ?_;refine sI ?_
   exact AE.ret rfl trivial ⟨by rw[hT];simp only[List.append_assoc];rfl,rfl⟩
  |false=>
   rw[e6]at hw ao hT
   refine gO ?_
   refine AQ.bN [(0,0),(1,4)] (by kernel_rfl) rfl rfl rfl rfl rfl rfl (by exact⟨rfl,rfl,trivial⟩) rfl (hw) ?_
   rintro r H1 ⟨rfl,rfl⟩;refine⟨rfl,?_⟩;refine sH ?_;refine AQ.rename 7 4 rfl rfl rfl ?_;refine sI ?_;refine AQ.order [0,4] rfl ?_;refine sI ?_
   refine gE (an @e1 (an @List.length_cons.{0} @List.length_nil.{0})) ?_
   refine AQ.bN [(0,0),(1,4)] (by kernel_rfl) rfl rfl rfl rfl rfl rfl (by exact⟨rfl,rfl,trivial⟩) rfl (ao) ?_
   rintro r H1 ⟨rfl,rfl⟩;refine⟨rfl,?_⟩;refine sH ?_;refine AQ.rename 7 4 rfl rfl rfl ?_;refine sI ?_;refine AQ.order [0,4] rfl ?_;refine sI ?_
   refine gO ?_
   refine AE.rename 4 2 rfl rfl rfl ?_;refine sI ?_
   exact AE.ret rfl trivial ⟨by rw[hT];simp only[List.append_assoc];rfl,rfl⟩
 ·have h:¬x.pd=[61]:=by simpa using h
  rw[if_neg h]at hb hT
  cases e6:x.ng with
  |true=>
   rw[e6,if_pos rfl]at hb hT
   have mA:=Av hp sh l 126 (by simp only[List.length_append,List.length_singleton]at hb;omega)
   have vI:=rL (.inr rfl) sh (l++[126]) x.pd (by simp only[List.length_append,List.length_singleton]at hb⊢;omega)
   have eA:=J4 sh x.xs hs.2.1 hs.2.2 al (l++[126]++x.pd) (by simp only[List.length_append,List.length_singleton]at hb⊢;omega)
   refine gO ?_
   refine AQ.bN [(0,0),(1,4)] (by kernel_rfl) rfl rfl rfl rfl rfl rfl (qZ _) rfl (mA) ?_
   rintro r H1 ⟨rfl,rfl⟩;refine⟨rfl,?_⟩;refine sH ?_;refine AQ.rename 7 4 rfl rfl rfl ?_;refine sI ?_;refine AQ.order [0,4] rfl ?_;refine sI ?_
   refine gO ?_
   refine AP.bC 6 (Tree.node [] [0,1,2,3,4] [5] [Tree.node [] [] [] []]) (by kernel_rfl) rfl (by kernel_rfl) (by kernel_rfl) ?_
   refine bA ?_
   refine sI ?_
   refine AQ.bN [(0,0),(1,4)] (by kernel_rfl) rfl rfl rfl rfl rfl rfl (by exact⟨rfl,rfl,trivial⟩) rfl (vI) ?_
   rintro r H1 ⟨rfl,rfl⟩;refine⟨rfl,?_⟩;refine sH ?_;refine AQ.rename 7 4 rfl rfl rfl ?_;refine sI ?_;refine AQ.order [0,4] rfl ?_;refine sI ?_
   refine AQ.nx rfl ?_
   refine sI ?_
   refine AQ.done ?_
   refine gO ?_
   refine AQ.bN [(0,0),(1,4)] (by kernel_rfl) rfl rfl rfl rfl rfl rfl (by exact⟨rfl,rfl,trivial⟩) rfl (eA) ?_
   rintro r H1 ⟨rfl,rfl⟩;refine⟨rfl,?_⟩;refine sH ?_;refine AQ.rename 7 4 rfl rfl rfl ?_;refine sI ?_;refine AQ.order [0,4] rfl ?_;refine sI ?_
   refine gO ?_
   refine AE.rename 4 2 rfl rfl rfl ?_;refine sI ?_
   exact AE.fv rfl trivial ⟨by rw[hT];simp only[List.append_assoc];rfl,rfl⟩
  |false=>
   rw[e6,if_neg (by decide),List.nil_append]at hb hT
   have vI:=rL hp sh l x.pd (by simp only[List.length_append]at hb⊢;omega)
   have eA:=J4 sh x.xs hs.2.1 hs.2.2 al (l++x.pd) (by simp only[List.length_append]at hb⊢;omega)
   refine gO ?_
   refine AP.bC 6 (Tree.node [] [0,1,2,3,4] [5] [Tree.node [] [] [] []]) (by kernel_rfl) rfl (by kernel_rfl) (by kernel_rfl) ?_
   refine bA ?_
   refine sI ?_
   refine AQ.bN [(0,0),(1,4)] (by kernel_rfl) rfl rfl rfl rfl rfl rfl (qZ _) rfl (vI) ?_
   rintro r H1 ⟨rfl,rfl⟩;refine⟨rfl,?_⟩;refine sH ?_;refine AQ.rename 7 4 rfl rfl rfl ?_;refine sI ?_;refine AQ.order [0,4] rfl ?_;refine sI ?_
   refine AQ.nx rfl ?_
   refine sI ?_
   refine AQ.done ?_
   refine gO ?_
   refine AQ.bN [(0,0),(1,4)] (by kernel_rfl) rfl rfl rfl rfl rfl rfl (by exact⟨rfl,rfl,trivial⟩) rfl (eA) ?_
   rintro r H1 ⟨rfl,rfl⟩;refine⟨rfl,?_⟩;refine sH ?_;refine AQ.rename 7 4 rfl rfl rfl ?_;refine sI ?_;refine AQ.order [0,4] rfl ?_;refine sI ?_
   refine gO ?_
   refine AE.rename 4 2 rfl rfl rfl ?_;refine sI ?_
   exact AE.fv rfl trivial ⟨by rw[hT];simp only[List.append_assoc];rfl,rfl⟩
theorem DK {n:List UInt8} (h:dV n=true):n.length<=60:=by
 rw[dV,Bool.and_eq_true,Bool.and_eq_true,decide_eq_true_iff,decide_eq_true_iff]at h;exact h.1.2
theorem Rb {n:Int} (h:0<=n/\n<1000):(Lib.itoa n).length<=3:=by
 rw[Lib.itoa,if_neg (by omega)]
 exact(yd n.toNat).2.2.2.1 3 (by omega) (by omega)
mutual
theorem rI (sh:Bool):∀t:Tm,cw t=true->(dn sh t).length+2<=70*wT t
 | .mk n i xs,h=>by
  rw[cw]at h
  rw[dn,wT]
  by_cases hn:n=[]
  ·rw[if_pos hn,Bool.and_eq_true,Bool.and_eq_true,decide_eq_true_iff,decide_eq_true_iff]at h
   rw[if_pos hn]
   have:=Rb h.2
   cases sh<;>simp<;>omega
  ·rw[if_neg hn,Bool.and_eq_true,Bool.and_eq_true]at h
   rw[if_neg hn,List.length_append]
   have h1:=DK h.1.1
   have h2:=w6 sh xs h.2
   omega
theorem w6 (sh:Bool):∀l:List Tm,bL l=true->(eU sh l).length<=2+70*aH l
 |[],_=>by rw[eU];simp
 |t::l,h=>by
  rw[bL,Bool.and_eq_true]at h
  have h1:=rI sh t h.1
  have h2:=Ln sh l h.2
  rw[eU,aH,List.length_cons,List.length_append];omega
theorem Ln (sh:Bool):∀l:List Tm,bL l=true->(k8 sh l).length<=1+70*aH l
 |[],_=>by rw[k8];simp
 |t::l,h=>by
  rw[bL,Bool.and_eq_true]at h
  have h1:=rI sh t h.1
  have h2:=Ln sh l h.2
  rw[k8,aH,List.length_cons,List.length_cons,List.length_append];omega
end
theorem Al (sh:Bool) {x:Lt} (h:cu x=true):(fD sh x).length<=70*lQ x:=by
 have al:=DO h
 rw[cu]at h
 rw[fD,lQ]
 by_cases hp:x.pd=[61]
 ·rw[if_pos hp,Bool.and_eq_true,decide_eq_true_iff]at h
  rw[if_pos hp]
  obtain⟨a,b,fJ⟩:∃a b,x.xs=[a,b]:=by
   have:=h.1
   match x.xs,this with
   |[a,b],_=>exact⟨a,b,rfl⟩
  rw[fJ]at al⊢
  rw[bL,bL,Bool.and_eq_true,Bool.and_eq_true]at al
  have h1:=rI sh a al.1
  have h2:=rI sh b al.2.1
  simp only[List.getD_cons_zero,List.getD_cons_succ,List.length_append,aH]
  have:(ln x.ng).length<=4:=by cases x.ng<;>simp[ln]
  omega
 ·rw[if_neg hp,Bool.and_eq_true]at h
  rw[if_neg hp]
  have h1:=DK h.1
  have h2:=w6 sh x.xs al
  simp only[List.length_append]
  cases x.ng<;>simp<;>omega
def ff (sh:Bool):List Lt->List UInt8
 |[]=>[]
 |l::r=>fD sh l++jk sh r
theorem Lp (sh:Bool):∀c:List Lt,(∀l∈c,cu l=true)->(jk sh c).length<=3*c.length+70*b5 c
 |[],_=>by rw[jk];simp
 |l::c,h=>by
  have h1:=Al sh (h l (List.mem_cons_self ..))
  have h2:=Lp sh c fun x hx=>h x (List.mem_cons_of_mem _ hx)
  have e:b5 (l::c)=lQ l+b5 c:=by rw[jd,lQ]
  rw[jk,e]
  simp only[List.length_cons,List.length_append];omega
theorem Ev (sh:Bool) {c:List Lt} (h:∀l∈c,cu l=true):(ff sh c).length<=3*c.length+70*b5 c:=by
 cases c with
 |nil=>simp[ff]
 |cons l c=>
  have h1:=Al sh (h l (List.mem_cons_self ..))
  have h2:=Lp sh c fun x hx=>h x (List.mem_cons_of_mem _ hx)
  have e:b5 (l::c)=lQ l+b5 c:=by rw[jd,lQ]
  rw[ff,e]
  simp only[List.length_cons,List.length_append];omega
theorem Lo (sh:Bool):∀a b:List Lt,jk sh (a++b)=jk sh a++jk sh b
 |[],b=>by rw[jk];rfl
 |l::a,b=>by rw[List.cons_append,jk,jk,Lo sh a b];simp
theorem Ll (sh:Bool) {c:List Lt} {k:Nat} {u:Lt} (h:c[k]?=some u):ff sh (c.take (k+1))=ff sh (c.take k)++((if k=0 then[]else[32,124,32])++fD sh u):=by
 rw[cK h]
 cases c with
 |nil=>simp at h
 |cons l c=>
  cases k with
  |zero=>simp[ff,jk]
  |succ k=>rw[List.take_succ_cons,List.cons_append,ff,ff,Lo];simp[jk]
theorem DE (c:List Lt) (k:Nat):b5 (c.take k)<=b5 c:=wk (List.take_sublist k c)
def lS (k:Nat):AV:=if k=0 then .im (.v (.pointer none))else .ob 0 0
theorem JO (k:Nat):oO (lS k):=by
 rw[lS]
 split
 ·exact .inl rfl
 ·exact .inr rfl
theorem S2 (k:Nat) (sh:Bool) (l:List UInt8) (n:Nat):jP (bp [(0,0),(1,1)] n) (eo sh (lS k) 1 l) (eo sh (lS k) 1 l):=by
 rcases JO k with h|h<;>rw[h]<;>exact⟨rfl,rfl,trivial⟩
theorem L5 (c:List Lt) (sh:Bool) (hs:cG c) (uN:c.length<=4000) (eg:b5 c<=8000) (al:∀l∈c,cu l=true):aI Tryz.prog 79 [aJ c,Bv sh] (Sv (kq sh c)):=by
 refine ak.walk [0,1,4,5,6,7,10,14,15,16,17,22] [5,7,13] Tryz.func79 rfl Tryz.ntmps79 (by kernel_rfl) (by rfl) rfl fun W own I0 ax lay=>?_
 refine gE @ae ?_
 refine AP.cond rfl rfl (fun h=>?_) (fun h=>?_)
 ·have h:c=[]:=by cases c with|nil=>rfl|cons a b=>simp at h;omega
  subst h
  refine gO ?_
  exact AE.ay rfl ⟨rfl,trivial⟩ rfl ⟨rfl,rfl⟩
 have h:c≠[]:=fun e=>by subst e;simp at h
 have hE:kq sh c=ff sh c:=by
  cases c with
  |nil=>exact absurd rfl h
  |cons l r=>rfl
 refine gE @ae ?_
 refine AP.jN 0 1 5 1 rfl rfl ?_
 refine sI ?_
 refine AP.order [0,1] rfl ?_
 refine sI ?_
 refine AP.loop rfl (α:=Nat) (fun k=>[(5,.ob 0 0),(14,aJ c),(15,Iv c.length),(16,Iv k)]) (fun k=>eo sh (lS k) 1 (ff sh (c.take k))) (fun k=>k<=c.length) (fun k=>c.length-k) 0 (by omega) (sU) rfl fun k hk=>?_
 have qZ:=S2 k sh (ff sh (c.take k))
 have WI:=JO k
 rcases Nat.eq_or_lt_of_le hk with aG|ah
 ·subst aG
  have e_:lS c.length= .ob 0 0:=by rw[lS,if_neg (by cases c with|nil=>exact absurd rfl h|cons a b=>simp)]
  rw[List.take_length,e_,<-hE]
  refine gO ?_
  refine cF ?_
  refine gO ?_
  refine AQ.bN [(0,0),(1,1)] (by kernel_rfl) rfl rfl rfl rfl rfl rfl (by exact⟨rfl,rfl,trivial⟩) rfl (Nf (kq sh c) (.ob 0 0) sh) ?_
  rintro r H1 ⟨rfl,rfl⟩;refine⟨rfl,?_⟩;refine sH ?_
  refine gO ?_
  exact AE.ay rfl ⟨rfl,trivial⟩ rfl ⟨rfl,rfl⟩
 ·obtain⟨u,hu,aj⟩:=dI c k ah
  have hw:=wr (x:=(k:Int)+1) (by omega)
  have bM:=jt hs hu
  have my:=al u (List.mem_of_getElem? hu)
  have aS:=Ll sh hu
  have hle:=Ev sh (c:=c.take (k+1)) fun l hl=>al l (List.mem_of_mem_take hl)
  have ik:=DE c (k+1)
  have ec:(c.take (k+1)).length<=c.length:=by rw[List.length_take];omega
  rw[aS,List.length_append,List.length_append]at hle
  have HM:lS (k+1)= .ob 0 0:=by rw[lS,if_neg (by omega)]
  by_cases dE:k=0
  ·subst dE
   rw[if_pos rfl,List.nil_append]at aS
   have eA:=J6 sh u bM my _ (.inl rfl) (ff sh (c.take 0)) (by simp only[List.take_zero,ff,List.length_nil]at hle⊢;omega)
   rw[show lS 0= .im (.v (.pointer none)) from rfl]
   refine gO ?_
   refine cT ?_
   refine gE @aj ?_
   refine⟨by rw[ae];omega,?_⟩
   refine gO ?_
   refine AQ.fix 2 rfl rfl ?_
   refine sI ?_
   refine AQ.bN [(0,0),(1,1)] (by kernel_rfl) rfl rfl rfl rfl rfl rfl (by exact⟨rfl,rfl,trivial⟩) rfl (eA) ?_
   rintro r H1 ⟨rfl,rfl⟩;refine⟨rfl,?_⟩;refine sH ?_;refine AQ.rename 4 1 rfl rfl rfl ?_;refine sI ?_;refine AQ.order [0,1] rfl ?_;refine sI ?_
   refine gO ?_
   refine AE.round 1 (by omega) (by omega) (sU) ?_
   rw[aS,HM];rfl
  ·rw[if_neg dE]at aS hle
   rw[show lS k= .ob 0 0 by rw[lS,if_neg dE]]
   have QU:=rL (.inr rfl) sh (ff sh (c.take k)) [32,124,32] (by simp at hle⊢;omega)
   have eA:=J6 sh u bM my _ (.inr rfl) (ff sh (c.take k)++[32,124,32]) (by simp at hle⊢;omega)
   refine gO ?_
   refine cT ?_
   refine gE @aj ?_
   refine⟨by rw[ae];omega,?_⟩
   refine gO ?_
   refine AP.fix 2 rfl rfl ?_
   refine sI ?_
   refine cT ?_
   refine gO ?_
   refine AQ.bN [(0,0),(1,1)] (by kernel_rfl) rfl rfl rfl rfl rfl rfl (by exact⟨rfl,rfl,trivial⟩) rfl (QU) ?_
   rintro r H1 ⟨rfl,rfl⟩;refine⟨rfl,?_⟩;refine sH ?_;refine AQ.rename 4 1 rfl rfl rfl ?_;refine sI ?_;refine AQ.order [0,1] rfl ?_;refine sI ?_
   refine gO ?_
   refine AQ.bN [(0,0),(1,1)] (by kernel_rfl) rfl rfl rfl rfl rfl rfl (by exact⟨rfl,rfl,trivial⟩) rfl (eA) ?_
   rintro r H1 ⟨rfl,rfl⟩;refine⟨rfl,?_⟩;refine sH ?_;refine AQ.rename 4 1 rfl rfl rfl ?_;refine sI ?_;refine AQ.order [0,1] rfl ?_;refine sI ?_
   refine gE @hw ?_
   refine AE.round (k+1) (by omega) (by omega) (sU) ?_
   rw[aS,HM];simp only[List.append_assoc];rfl
def oW (c:List Lt):List UInt8:=if bl 4 9 2 3 c≠0 then[]else if 40000<(kq false c).length then[]else kq false c
def oV (c:List Lt):Int:=if bl 4 9 2 3 c≠0 then bl 4 9 2 3 c else if 40000<(kq false c).length then 15 else 0
theorem Le (c:List Lt) (hs:cG c):aI Tryz.prog 17 [aJ c] (.aD [Sv (oW c),Iv (oV c)]):=by
 have hS:oW c=_:=oW.eq_def c
 have hE:oV c=_:=oV.eq_def c
 refine ak.walk [0,2,3,4,5,9,15] [] Tryz.func17 rfl Tryz.ntmps17 (by kernel_rfl) (by rfl) rfl fun W own I0 ax lay=>?_
 refine gO ?_
 refine AQ.fn (by kernel_rfl) rfl rfl rfl (nR c hs) rfl ?_
 refine sI ?_
 refine gO ?_
 refine AP.cond rfl rfl (fun h=>?_) (fun h=>?_)
 ·rw[if_pos (by simpa using h)]at hS hE
  refine gO ?_
  exact AE.ay rfl ⟨rfl,rfl,trivial⟩ rfl ⟨rfl,by rw[hS,hE];rfl⟩
 have h:bl 4 9 2 3 c=0:=by simpa using h
 rw[if_neg (by simpa using h)]at hS hE
 obtain⟨h1,h2,h3,h4⟩:=kz h
 refine gO ?_
 refine AQ.fn (by kernel_rfl) rfl rfl rfl (L5 c false hs (by omega) (by omega) h4) rfl ?_
 refine sI ?_
 refine gO ?_
 refine AP.cond rfl rfl (fun h5=>?_) (fun h5=>?_)
 ·rw[if_pos (by simp at h5;omega)]at hS hE
  refine gO ?_
  exact AE.ay rfl ⟨rfl,rfl,trivial⟩ rfl ⟨rfl,by rw[hS,hE];rfl⟩
 ·rw[if_neg (by simp at h5;omega)]at hS hE
  refine gO ?_
  exact AE.ay rfl ⟨rfl,rfl,trivial⟩ rfl ⟨rfl,by rw[hS,hE];rfl⟩
abbrev KQ (l:Lt):List IV:=[Bi l.ng,Si l.pd,.sl 3 (aw l.xs),Si (aA l)]
abbrev KR (l:Lt):AV:= .agg [Bv l.ng,Sv l.pd,.im (.sl 3 (aw l.xs)),Sv (aA l)]
def dz (c:List Lt):List (List IV):=c.map KQ
theorem ji (l:List Lt):(dz l).length=l.length:=by rw[dz,List.length_map]
theorem tF {l:List Lt} {k:Nat} {x:Lt} (h:l[k]?=some x):(dz l).getD k []=[Bi x.ng,Si x.pd,.sl 3 (aw x.xs),Si (aA x)]:=by
 rw[List.getD_eq_getElem?_getD,dz,List.getElem?_map,h];rfl
theorem Ee (l:List Lt) (k:Nat) (x:Lt):(dz l).set k (KQ x)=dz (l.set k x):=by simp only[dz,List.map_set]
theorem x_ (a b:Lt):aI Tryz.prog 91 [KR a,KR b] (Iv (jY (aA a) (aA b))):=by
 refine ak.walk [0,1,2,3,4] [] Tryz.func91 rfl Tryz.ntmps91 (by kernel_rfl) (by rfl) rfl fun W own I0 ax lay=>?_
 refine gO ?_
 refine AQ.fn (by kernel_rfl) rfl rfl rfl (FM (aA a) (aA b)) rfl ?_
 refine sI ?_
 refine gO ?_
 exact AE.ay rfl ⟨rfl,trivial⟩ rfl ⟨rfl,rfl⟩
abbrev b8 (l:List Lt):aa:=[(0,.vec 145 4 (dz l))]
theorem vY (pre mid post:List Lt) (hn:(pre++mid++post).length<=1000000):
  ak Tryz.prog 205 [.os 0 4 0 (pre++mid++post).length,Iv pre.length,Iv (pre.length+mid.length),.fn 91 [] []] (b8 (pre++mid++post)) (fun r H'=>r= .aD []/\H'=b8 (pre++aR [] mid++post)):=by
 obtain⟨n,pM⟩:∃n,(pre++mid++post).length=n:=⟨_,rfl⟩
 have hlen:pre.length+mid.length+post.length=n:=by rw[<-pM];simp only[List.length_append]
 rw[pM]at hn⊢
 have CU:=wr (x:=(pre.length:Int)+1) (by omega)
 refine ak.walk [0,1,2,3,8,9,14,34] [] Tryz.func205 rfl Tryz.ntmps205 (by kernel_rfl) (by rfl) rfl fun W own I0 ax lay=>?_
 refine gE @CU ?_
 refine AP.loop rfl (α:=Nat) (fun k=>[(0,.os 0 4 0 n),(1,Iv pre.length),(2,Iv (pre.length+mid.length)),(3,.fn 91 [] []),(8,Iv (pre.length+k))]) (fun k=>b8 (pre++aR [] (mid.take k)++(mid.drop k++post))) (fun k=>1<=k/\k<=mid.length+1) (fun k=>mid.length+1-k) 1 (by omega) (sU) (by
  cases mid with
  |nil=>simp[aR]
  |cons x r=>simp[aR,ga]) fun k ⟨ij,hk⟩=>?_
 by_cases ah:k<mid.length
 ·have hw:=wr (x:=(pre.length:Int)+k+1) (by omega)
  obtain⟨x,hx⟩:∃x,mid[k]?=some x:=⟨_,List.getElem?_eq_getElem ah⟩
  have hP:(aR [] (mid.take k)).length=k:=by rw[(kn _ _).length_eq];simp;omega
  have yB:(aR [] (mid.take k)).Pairwise eG:=wN _ _ List.Pairwise.nil
  have aS:aR [] (mid.take (k+1))=ga x (aR [] (mid.take k)):=by rw[cK hx,Ef]
  have cV:=drop_cons hx
  refine gO ?_
  refine cT ?_
  refine gO ?_
  refine AP.loop rfl (α:=List Lt×List Lt) (fun s=>[(0,.os 0 4 0 n),(1,Iv pre.length),(2,Iv (pre.length+mid.length)),(3,.fn 91 [] []),(8,Iv (pre.length+k)),(9,Iv (pre.length+s.1.length))]) (fun s=>b8 (pre++s.1++x::(s.2++(mid.drop (k+1)++post)))) (fun s=>s.1++s.2=aR [] (mid.take k)/\∀y∈s.2,aA x<aA y) (fun s=>s.1.length) (aR [] (mid.take k),[]) ⟨List.append_nil _,fun y hy=>by cases hy⟩ (by rw[hP];exact(sU)) (by rw[cV];rfl) fun⟨o1,o2⟩ ⟨ho,j_⟩=>?_
  simp only at ho j_⊢
  rcases List.eq_nil_or_concat o1 with rfl|⟨W,y,rfl⟩
  ·have e9:(pre.length:Int)+(([]:List Lt).length:Nat)=(pre.length:Int):=by simp
   have hd:decide ((pre.length:Int)<(pre.length:Int))=false:=decide_eq_false (by omega)
   rw[e9]
   refine gO ?_
   refine AP.bC 17 (Tree.node [] [0,1,2,3,4,5,6,7,8,9,10,11,12,13] [14] [Tree.node [] [15,16] [] []]) (by kernel_rfl) rfl (by kernel_rfl) (by kernel_rfl) ?_
   refine bA ?_
   refine sE @hd ?_
   refine⟨fun h=>h.elim,fun h=>h.elim,fun h=>h.elim,fun h=>h.elim,?_⟩
   refine AQ.skip (by kernel_rfl) rfl ?_
   refine sI ?_
   refine AQ.nx rfl ?_
   refine sI ?_
   refine AQ.done ?_
   refine gE @hw ?_
   rw[List.nil_append]at ho
   refine AE.round (k+1) ⟨by omega,by omega⟩ (by omega) (sU) ?_
   have du:ga x (aR [] (mid.take k))=x::o2:=by
    rw[<-ho]
    exact vX [] o2 x (by rw[List.nil_append,ho];exact yB) j_ (fun y hy=>by cases hy)
   rw[aS,du];simp
  ·rw[List.concat_eq_append]at ho⊢
   obtain⟨q,hq⟩:∃q,pre.length+W.length=q:=⟨_,rfl⟩
   have e9:(pre.length:Int)+((W++[y]).length:Nat)=((q+1:Nat):Int):=by simp;omega
   obtain⟨T,hT⟩:∃T,o2++(mid.drop (k+1)++post)=T:=⟨_,rfl⟩
   obtain⟨Z,hZ⟩:∃Z,pre++W=Z:=⟨_,rfl⟩
   have n5:Z.length=q:=by rw[<-hZ,List.length_append];exact hq
   have eR:pre++(W++[y])++x::(o2++(mid.drop (k+1)++post))=Z++y::x::T:=by rw[hT,<-hZ];simp
   have iK:(dz (Z++y::x::T)).getD q []=[Bi y.ng,Si y.pd,.sl 3 (aw y.xs),Si (aA y)]:=tF (by rw[List.getElem?_append_right (by omega),n5,Nat.sub_self];rfl)
   have mm:(dz (Z++y::x::T)).getD (q+1) []=[Bi x.ng,Si x.pd,.sl 3 (aw x.xs),Si (aA x)]:=tF (by rw[List.getElem?_append_right (by omega),n5,Nat.add_sub_cancel_left];rfl)
   have e8:W.length+1+o2.length=k:=by
    have:=congrArg List.length ho
    rw[hP]at this;simp only[List.length_append,List.length_singleton]at this;exact this
   have CH:q+1<n:=by omega
   have lz:(dz (Z++y::x::T)).length=n:=by
    rw[ji,<-hT];simp only[List.length_append,List.length_cons,List.length_drop];omega
   have hd:decide ((pre.length:Int)<((q+1:Nat):Int))=true:=decide_eq_true (by omega)
   have a8:IntKind.i64.wrap (((q+1:Nat):Int)-1)=(q:Int):=by rw[wr (by omega)];omega
   rw[e9,eR]
   refine gE (an @hd @a8) ?_
   refine AP.bC 17 (Tree.node [] [0,1,2,3,4,5,6,7,8,9,10,11,12,13] [14] [Tree.node [] [15,16] [] []]) (by kernel_rfl) rfl (by kernel_rfl) (by kernel_rfl) ?_
   refine bA ?_
   refine sE (an @hd (an @a8 (an @iK (an @mm (an @Int.toNat_natCast @lz))))) ?_
   refine⟨⟨by omega,by omega⟩,CH,⟨by omega,by omega⟩,by omega,?_⟩
   refine AQ.opt 22 rfl ?_
   refine AQ.fI (by simp only[go_sem]) ?_
   refine AQ.nQ [] (by kernel_rfl) rfl rfl rfl rfl rfl rfl (fun k=>by exact trivial) (fun k=>rfl) (fun k=>rfl) (x_ x y) ?_
   refine sI ?_
   refine AQ.nx rfl ?_
   refine sI ?_
   refine AQ.done ?_
   refine gO ?_
   refine AP.cond rfl rfl (fun h5=>?_) (fun h5=>?_)
   ·have h5:aA x<aA y:=by
     have:jY (aA x) (aA y)<0:=by simpa using h5
     rw[jY]at this
     by_cases h6:aA x<aA y
     ·exact h6
     ·rw[if_neg h6]at this;split at this<;>omega
    refine gE @a8 ?_
    refine AP.bC 18 (Tree.node [] [0,1,2,3,4,5,6,7,8,9,10,11,12,13,14] [15] [Tree.node [2,3,4] [16] [17] [Tree.node [] [] [] []]]) (by kernel_rfl) rfl (by kernel_rfl) (by kernel_rfl) ?_
    refine bA ?_
    refine sE (an @a8 (an @iK (an @mm (an @Int.toNat_natCast @lz)))) ?_
    refine⟨⟨by omega,by omega⟩,by omega,⟨by omega,by omega⟩,CH,⟨by omega,by omega⟩,?_⟩
    refine AQ.go (by kernel_rfl) ?_
    refine sE @lz ?_
    have gR:(dz (Z++y::x::T)).set (q+1) (Bi y.ng::Si y.pd::IV.sl 3 (aw y.xs)::Si (aA y)::List.drop 4 ((dz (Z++y::x::T)).getD (q+1) []))=dz (Z++y::y::T):=by
     rw[mm]
     refine(Ee _ _ y).trans ?_
     rw[List.set_append_right _ _ (by omega),<-n5,Nat.add_sub_cancel_left];rfl
    have gS:(dz (Z++y::y::T)).set q (Bi x.ng::Si x.pd::IV.sl 3 (aw x.xs)::Si (aA x)::List.drop 4 ((dz (Z++y::y::T)).getD q []))=dz (Z++x::y::T):=by
     have PG:(dz (Z++y::y::T)).getD q []=[Bi y.ng,Si y.pd,.sl 3 (aw y.xs),Si (aA y)]:=tF (by rw[List.getElem?_append_right (by omega),n5,Nat.sub_self];rfl)
     rw[PG]
     refine(Ee _ _ x).trans ?_
     rw[List.set_append_right _ _ (by omega),<-n5,Nat.sub_self];rfl
    have py:(dz (Z++y::y::T)).length=n:=by rw[ji]at lz⊢;rw[<-lz];simp
    rw[gR]
    refine⟨CH,?_⟩
    refine AQ.nx rfl ?_
    refine sE (an @a8 (an @Int.toNat_natCast @py)) ?_
    refine⟨⟨by omega,by omega⟩,?_⟩
    refine AQ.go (by kernel_rfl) ?_
    refine sE @py ?_
    rw[gS]
    refine⟨by omega,?_⟩
    refine AQ.nx rfl ?_
    refine sI ?_
    refine AQ.done ?_
    refine gE @a8 ?_
    refine AE.round (W,y::o2) ⟨by rw[<-ho];simp,fun z hz=>?_⟩ (by simp) (by rw[<-hq];exact(sU)) (by rw[<-hZ,<-hT];simp)
    rcases List.mem_cons.1 hz with rfl|hz
    ·exact h5
    ·exact j_ z hz
   ·have h5:¬aA x<aA y:=fun h6=>by
     rw[jY,if_pos h6]at h5;simp at h5
    refine gE @hw ?_
    refine AE.round (k+1) ⟨by omega,by omega⟩ (by omega) (sU) ?_
    have du:ga x (aR [] (mid.take k))=W++[y]++x::o2:=by
     have:=vX (W++[y]) o2 x (by rw[ho];exact yB) j_ (fun z hz=>by rw[List.getLast?_concat]at hz;cases hz;exact h5)
     rw[ho]at this;exact this
    rw[aS,du,<-hZ,<-hT];simp
 ·have aG:mid.take k=mid:=List.take_of_length_le (by omega)
  have PS:mid.drop k=[]:=List.drop_eq_nil_of_le (by omega)
  rw[aG,PS,List.nil_append]
  refine gO ?_
  refine cF ?_
  refine gO ?_
  exact AE.fv rfl trivial ⟨rfl,rfl⟩
theorem TY (l:List Lt) (h:l.length<=20):ak Tryz.prog 164 [.os 0 4 0 l.length,Iv l.length,.fn 91 [] []] (b8 l) (fun r H'=>r= .aD []/\H'=b8 (aR [] l)):=by
 have h0:=vY [] l [] (by simp;omega)
 simp only[List.nil_append,List.append_nil,List.length_nil]at h0
 rw[show((0:Nat):Int)+(l.length:Int)=l.length by omega]at h0
 have h1:=vY (aR [] l) [] [] (by simp[(kn _ _).length_eq];omega)
 simp only[List.append_nil,List.length_nil]at h1
 have kc:(aR [] l).length=l.length:=by rw[(kn _ _).length_eq];rfl
 rw[kc,show((l.length:Nat):Int)+((0:Nat):Int)=l.length by omega,show aR [] []=[] from rfl,List.append_nil]at h1
 refine ak.walk [0,1,2,6,7,8,9,13,30,35,54] [] Tryz.func164 rfl Tryz.ntmps164 (by kernel_rfl) (by rfl) rfl fun W own I0 ax lay=>?_
 refine gO ?_
 refine AP.loop rfl (α:=Bool) (fun b=>[(0,.os 0 4 0 l.length),(1,Iv l.length),(2,.fn 91 [] []),(6,Iv 20),(7,Iv (if b then 20 else 0)),(8,Iv (if b then 40 else 20))]) (fun b=>b8 (if b then aR [] l else l)) (fun b=>b=true->l.length=20) (fun b=>if b then 0 else 1) false (by simp) (by exact(sU)) rfl fun b hb=>?_
 cases b with
 |false=>
  simp only[Bool.false_eq_true,if_false]
  by_cases sb:l.length=20
  ·rw[sb]at h0
   have GZ:ak Tryz.prog 205 [.os 0 4 0 20,Iv 0,Iv 20,.fn 91 [] []] (b8 l) (fun r H'=>r= .aD []/\H'=b8 (aR [] l)):=h0
   rw[sb]
   refine gO ?_
   refine AQ.bN [(0,0)] (by kernel_rfl) rfl rfl rfl rfl rfl rfl (by exact⟨rfl,trivial⟩) rfl (GZ) ?_;rintro r H1 ⟨rfl,rfl⟩;refine⟨rfl,?_⟩;refine sH ?_
   have H5:IntKind.i64.wrap (20+20)=40:=by rw[wr (by omega)];rfl
   refine gE @H5 ?_
   exact AE.round true (by simp) (by simp) (sU) rfl
  ·refine gO ?_
   refine cF ?_
   refine gO ?_
   refine AQ.bN [(0,0)] (by kernel_rfl) rfl rfl rfl rfl rfl rfl (by exact⟨rfl,trivial⟩) rfl (h0) ?_;rintro r H1 ⟨rfl,rfl⟩;refine⟨rfl,?_⟩;refine sH ?_
   refine gO ?_
   refine AP.loop rfl (α:=Unit) (fun _=>[(1,Iv l.length),(6,Iv 20)]) (fun _=>b8 (aR [] l)) (fun _=>True) (fun _=>0) () trivial (sU) rfl fun _ _=>?_
   refine gO ?_
   refine cF ?_
   refine gO ?_
   exact AE.fv rfl trivial ⟨rfl,rfl⟩
 |true=>
  simp only[if_true]
  have sb:=hb rfl
  rw[sb]at h1
  have G0:ak Tryz.prog 205 [.os 0 4 0 20,Iv 20,Iv 20,.fn 91 [] []] (b8 (aR [] l)) (fun r H'=>r= .aD []/\H'=b8 (aR [] l)):=h1
  rw[sb]
  refine gO ?_
  refine AQ.bN [(0,0)] (by kernel_rfl) rfl rfl rfl rfl rfl rfl (by exact⟨rfl,trivial⟩) rfl (G0) ?_;rintro r H1 ⟨rfl,rfl⟩;refine⟨rfl,?_⟩;refine sH ?_
  refine gO ?_
  refine AP.loop rfl (α:=Unit) (fun _=>[(1,Iv 20),(6,Iv 20)]) (fun _=>b8 (aR [] l)) (fun _=>True) (fun _=>0) () trivial (sU) rfl fun _ _=>?_
  refine gO ?_
  exact AE.fv rfl trivial ⟨rfl,rfl⟩
theorem KW (l:List Lt) (h:l.length<=20):ak Tryz.prog 90 [.os 0 4 0 l.length,.fn 91 [] []] (b8 l) (fun r H'=>r= .aD []/\H'=b8 (aR [] l)):=by
 refine ak.walk [0,1] [] Tryz.func90 rfl Tryz.ntmps90 (by kernel_rfl) (by rfl) rfl fun W own I0 ax lay=>?_
 refine gO ?_
 refine AQ.bN [(0,0)] (by kernel_rfl) rfl rfl rfl rfl rfl rfl (by exact⟨rfl,trivial⟩) rfl (TY l h) ?_;rintro r H1 ⟨rfl,rfl⟩;refine⟨rfl,?_⟩;refine sH ?_
 refine gO ?_
 exact AE.fv rfl trivial ⟨rfl,rfl⟩
def fm (k:Nat):List Int->List (Int×Int)
 |[]=>[]
 |v::o=>(v,(k:Int))::fm (k+1) o
theorem RR (o:List Int) (k:Nat):(fm k o).length=o.length:=by
 induction o generalizing k with
 |nil=>rfl
 |cons v o ih=>rw[fm,List.length_cons,List.length_cons,ih]
theorem RQ (o:List Int) (k:Nat):(fm k o).map (·.1)=o:=by
 induction o generalizing k with
 |nil=>rfl
 |cons v o ih=>rw[fm,List.map_cons,ih]
theorem RS (o:List Int) (v:Int) (k:Nat):fm k (o++[v])=fm k o++[(v,((k+o.length:Nat):Int))]:=by
 induction o generalizing k with
 |nil=>simp[fm]
 |cons w o ih=>
  rw[List.cons_append,fm,fm,ih,List.cons_append]
  simp only[List.length_cons]
  rw[show k+1+o.length=k+(o.length+1) by omega]
theorem Jc (o:List Int) (v:Int) (k:Nat):(v∈o->bY (fm k o) v=some ((k+o.idxOf v:Nat):Int))/\(v∉o->eO (fm k o) v=none):=by
 induction o generalizing k with
 |nil=>exact⟨fun h=>(by cases h),fun _=>rfl⟩
 |cons w o ih=>
  rw[fm,bY,eO,List.idxOf_cons]
  by_cases h:w=v
  ·subst h
   rw[if_pos rfl,if_pos rfl]
   exact⟨fun _=>by simp,fun h=>absurd (List.mem_cons_self ..) h⟩
  ·rw[if_neg h,if_neg h,show(w==v)=false by simpa using h]
   obtain⟨h1,h2⟩:=ih (k+1)
   refine⟨fun hv=>?_,fun hv=>?_⟩
   ·rcases List.mem_cons.1 hv with e|hv
    ·exact absurd e.symm h
    ·rw[h1 hv,cond_false];congr 1;omega
   ·rw[h2 (fun h3=>hv (List.mem_cons_of_mem _ h3))];rfl
def ej (F:List Int) (v:Int):Tm:=bW (F.idxOf v:Nat)
abbrev oM (o:List Int):aa:=[(1,.var 149 [.mp 0]),(0,.var (.map (kI (fm 0 o))) (vN (fm 0 o)))]
theorem Ij {o r:List Int} {v:Int} (h:v∈o):(o++r).idxOf v=o.idxOf v:=by rw[List.idxOf_append,if_pos h]
theorem SB (o F r:List Int) (v:Int) (hF:F=bg o [v]++r) (eg:o.Nodup) (hlen:o.length<=1000000):ak Tryz.prog 94 [Iv v,.ob 1 0] (oM o) (fun r H'=>r=bq (ej F v)/\H'=oM (bg o [v])):=by
 have hm:kZ (fm 0 o):=by rw[kZ,RQ];exact eg
 have pN:bg o [v]=if v∈o then o else o++[v]:=rfl
 refine ak.walk [0,1,3,4,5,13] [3] Tryz.func94 rfl Tryz.ntmps94 (by kernel_rfl) (by rfl) rfl fun W own I0 ax lay=>?_
 refine gO ?_
 by_cases hv:v∈o
 ·rw[if_pos hv]at pN
  have hl:=(Jc o v 0).1 hv
  rw[Nat.zero_add]at hl
  obtain⟨j,hj,hg⟩:=IL hl
  have he:ej F v=bW (o.idxOf v:Nat):=by rw[ej,hF,pN,Ij hv]
  refine AQ.Dw j (by kernel_rfl) rfl rfl rfl mM u3 (oF _) rfl (List.mem_of_getElem? (show(kI (fm 0 o))[j]?=some (.int .i64 v) from zj hg)) (fun i hi=>zk hm hg hi) (An hg) ?_
  refine sI ?_
  refine gO ?_
  refine AQ.fn (by kernel_rfl) rfl rfl rfl (LB (o.idxOf v:Nat)) rfl ?_
  refine sI ?_
  refine gO ?_
  exact AE.aV [2] rfl ⟨⟨rfl,Nat.le_of_ble_eq_true (by kernel_rfl)⟩,trivial⟩ (by simp only[go_sem,Nat.reduceAdd,Nat.reduceLeDiff,Nat.reduceSub,Int.reduceToNat,reduceCtorEq,dK,noMen,AV.mens,AV.men,gB,Bool.or_false];first|done|rfl) ⟨by rw[he];rfl,by rw[pN];rfl⟩
 ·rw[if_neg hv]at pN
  have hl:=(Jc o v 0).2 hv
  have he:ej F v=bW (o.length:Nat):=by
   rw[ej,hF,pN,Ij (by simp),List.idxOf_append,if_neg hv];simp
  refine AQ.Dx (by kernel_rfl) rfl rfl rfl mM u3 (oF _) rfl (wb hl) rfl rfl ?_
  refine sI ?_
  refine gO ?_
  refine AQ.R9 (by kernel_rfl) rfl rfl mM ?_
  have PU:(kI (fm 0 o)).length=o.length:=by rw[Da,RR]
  rw[PU]
  refine sI ?_
  refine gO ?_
  refine AQ.Jm (by kernel_rfl) rfl rfl rfl rfl mM u3 (oF _) rfl (wb hl) ?_
  refine sI ?_
  refine gO ?_
  have e0:fm 0 (o++[v])=fm 0 o++[(v,((o.length:Nat):Int))]:=by rw[RS,Nat.zero_add]
  have e1:vN (fm 0 o)++[Iv (o.length:Nat)]=vN (fm 0 (o++[v])):=by rw[e0];simp only[vN,List.map_append];rfl
  have e2:kI (fm 0 o)++[.int .i64 v]=kI (fm 0 (o++[v])):=by rw[e0];simp only[kI,List.map_append];rfl
  rw[e1,e2]
  refine AQ.fn (by kernel_rfl) rfl rfl rfl (LB (o.length:Nat)) rfl ?_
  refine sI ?_
  refine gO ?_
  exact AE.aV [2] rfl ⟨⟨rfl,Nat.le_of_ble_eq_true (by kernel_rfl)⟩,trivial⟩ (by simp only[go_sem,Nat.reduceAdd,Nat.reduceLeDiff,Nat.reduceSub,Int.reduceToNat,reduceCtorEq,dK,noMen,AV.mens,AV.men,gB,Bool.or_false];first|done|rfl) ⟨by rw[he];rfl,by rw[pN];rfl⟩
theorem oN (o:List Int):∀(l m:List Int),bg o (l++m)=bg (bg o l) m
 |[],m=>rfl
 |v::l,m=>by rw[List.cons_append,bg,bg,oN _ l m]
theorem LM {l:List Tm} {k:Nat} {u:Tm} (h:l[k]?=some u):aM (l.take (k+1))=aM (l.take k)++bR u:=by
 rw[cK h]
 have:∀a:List Tm,aM (a++[u])=aM a++bR u:=fun a=>by
  induction a with
  |nil=>rw[List.nil_append,aM,aM,aM];simp
  |cons b a ih=>rw[List.cons_append,aM,aM,ih,List.append_assoc]
 exact this _
theorem LJ {l:List Tm} {k:Nat} {u:Tm} (h:l[k]?=some u):aM l=aM (l.take k)++(bR u++aM (l.drop (k+1))):=by
 have uU:∀a b:List Tm,aM (a++b)=aM a++aM b:=fun a b=>by
  induction a with
  |nil=>rw[List.nil_append,aM];rfl
  |cons c a ih=>rw[List.cons_append,aM,aM,ih,List.append_assoc]
 conv=>lhs;rw[<-List.take_append_drop k l,drop_cons h]
 rw[uU,aM]
theorem zI:∀(l o:List Int),(bg o l).length<=o.length+l.length
 |[],o=>by rw[bg];simp
 |v::l,o=>by
  rw[bg]
  have:=zI l (if v∈o then o else o++[v])
  by_cases h:v∈o
  ·rw[if_pos h]at this⊢;simp only[List.length_cons];omega
  ·rw[if_neg h]at this⊢;simp only[List.length_cons,List.length_append,List.length_nil]at this⊢;omega
theorem JM {o F r a b c:List Int} (h:F=bg o (a++(b++c))++r):∃r',F=bg (bg o a) b++r':=by
 rw[oN,oN]at h
 obtain⟨q,hq⟩:=JL c (bg (bg o a) b)
 exact⟨q++r,by rw[h,hq,List.append_assoc]⟩
theorem FK (F:List Int) (x:Tm) (o r:List Int) (hF:F=bg o (bR x)++r) (eg:o.Nodup) (hlen:o.length+(bR x).length<=1000000) (hs:bz x) (al:cw x=true):ak Tryz.prog 140 [bq x,.fn 94 [] [.ob 1 0]] (oM o) (fun r H'=>r=bq (aO (ej F) x)/\H'=oM (bg o (bR x))):=by
 have cq:=eT.1 hs
 have hc:=pa (ej F) x
 have c_:=EM x
 have yY:=DP x
 rw[al]at yY
 refine ak.walk [0,1,2,4,5,7,10,19,20,21,22] [4,5,7] Tryz.func140 rfl Tryz.ntmps140 (by kernel_rfl) (by rfl) rfl fun W own I0 ax lay=>?_
 refine gO ?_
 refine AP.cond rfl rfl (fun h=>?_) (fun h=>?_)
 ·have h:x.nm=[]:=by simpa using h
  rw[if_pos h]at hc yY c_
  have nj:x.xs=[]:=by
   have:=yY.symm
   rw[Bool.and_eq_true,List.isEmpty_iff]at this;exact this.1
  rw[nj,aM,List.append_nil]at c_
  rw[c_]at hF hlen⊢
  have P9:=SB o F r x.ix hF eg (by omega)
  refine gO ?_
  refine AQ.bN [(1,1),(0,0)] (by kernel_rfl) rfl rfl rfl rfl rfl rfl (by refine⟨?_,?_,trivial⟩<;>(simp only[fo,AV.dJ,AV.rn,wG];rfl)) rfl P9 fun r' H' ⟨e1,e2⟩=>?_
  subst e1;subst e2
  refine sH ?_
  refine gO ?_
  exact AE.aV [2] rfl ⟨⟨rfl,Nat.le_of_ble_eq_true (by kernel_rfl)⟩,trivial⟩ (by simp only[go_sem,Nat.reduceAdd,Nat.reduceLeDiff,Nat.reduceSub,Int.reduceToNat,reduceCtorEq,dK,noMen,AV.mens,AV.men,gB,Bool.or_false];first|done|rfl) ⟨by rw[hc];rfl,rfl⟩
 have h:¬x.nm=[]:=by simpa using h
 rw[if_neg h,List.nil_append]at c_
 rw[if_neg h]at hc
 rw[c_]at hF hlen⊢
 have CD:=JP al h
 refine gE @ai ?_
 rw[mc]at hc
 refine AP.jN 3 2 71 3 rfl rfl ?_
 refine sI ?_
 refine AP.loop rfl (α:=Nat) (fun k=>[(1,.fn 94 [] [.ob 1 0]),(4,.ob 2 0),(5,.ob 3 0),(19,.im (.sl 3 (aw x.xs))),(20,Iv x.xs.length),(21,Iv k)]) (fun k=>(4,.vec 71 3 (aw ((x.xs.take k).map (aO (ej F)))))::(3,.var 71 [Sv x.nm,Iv 0,.os 4 3 0 k])::(2,.var 71 [Sv [],Iv 0,dm])::oM (bg o (aM (x.xs.take k)))) (fun k=>k<=x.xs.length) (fun k=>x.xs.length-k) 0 (by omega) (sU) (by rw[List.take_zero,aM];rfl) fun k hk=>?_
 rcases Nat.eq_or_lt_of_le hk with aG|ah
 ·subst aG
  rw[List.take_length]
  refine gE @ai ?_
  refine cF ?_
  refine gO ?_
  refine AE.freeze 4 (el:=71) (es:=3) (rows:=aw (x.xs.map (aO (ej F)))) rfl (by simp only[go_sem,Nat.reduceAdd,Nat.reduceLeDiff,Nat.reduceSub,Int.reduceToNat,reduceCtorEq,ai,List.length_map];first|done|trivial|omega|(simp;done)|(simp;omega)) (by simp only[go_sem,Nat.reduceAdd,Nat.reduceLeDiff,Nat.reduceSub,Int.reduceToNat,reduceCtorEq,ai,List.length_map];first|done|trivial|omega|(simp;done)|(simp;omega)) ?_;simp only[go_sem,Nat.reduceAdd,Nat.reduceLeDiff,Nat.reduceSub,Int.reduceToNat,reduceCtorEq,ai,List.length_map]
  rw[List.take_of_length_le (by rw[ai,List.length_map];omega)]
  exact AE.aV [3,2] rfl ⟨⟨rfl,Nat.le_of_ble_eq_true (by kernel_rfl)⟩,trivial⟩ (by simp only[go_sem,Nat.reduceAdd,Nat.reduceLeDiff,Nat.reduceSub,Int.reduceToNat,reduceCtorEq,dK,noMen,AV.mens,AV.men,gB,Bool.or_false];first|done|rfl) ⟨by rw[hc];rfl,rfl⟩
 ·obtain⟨u,hu,aj⟩:=cm x.xs k ah
  have hw:=wr (x:=(k:Int)+1) (by omega)
  have bF:=k7 (l:=x.xs) (k:=k) (by omega)
  have CT:=LM hu
  have q6:=LJ hu
  obtain⟨r',nZ⟩:=JM (q6▸hF)
  have kK:(aM x.xs).length=(aM (x.xs.take k)).length+((bR u).length+(aM (x.xs.drop (k+1))).length):=by rw[q6,List.length_append,List.length_append]
  have e7:=zI (aM (x.xs.take k)) o
  have ih:=FK F u (bg o (aM (x.xs.take k))) r' nZ (wu _ _ eg) (by omega) (cN cq.2.2 hu) (wx CD u (List.mem_of_getElem? hu))
  rw[<-oN,<-CT]at ih
  have aS:=te (aO (ej F)) hu
  obtain⟨w,oC⟩:∃w,aO (ej F) u=w:=⟨_,rfl⟩
  rw[oC]at ih aS
  clear q6 nZ kK e7 hF hc c_ yY
  refine gE @ai ?_
  refine cT ?_
  refine gE @aj ?_
  refine⟨by rw[ai];omega,?_⟩
  refine gO ?_
  refine AP.bC 9 (Tree.node [] [0,1,2,3] [4] [Tree.node [0,1] [] [5] [Tree.node [0,1] [] [6] [Tree.node [] [7] [8] [Tree.node [] [] [] []]]]]) (by kernel_rfl) rfl (by kernel_rfl) (by kernel_rfl) ?_
  refine bA ?_
  refine sI ?_
  refine AQ.bN [(1,1),(0,0)] (by kernel_rfl) rfl rfl rfl rfl rfl rfl (by refine⟨?_,?_,trivial⟩<;>(simp only[fo,AV.dJ,AV.rn,wG];rfl)) rfl ih fun r' H' ⟨e1,e2⟩=>?_
  subst e1;subst e2
  refine sH ?_
  refine AQ.nx rfl ?_
  refine sI ?_
  refine AQ.go (by kernel_rfl) ?_
  refine sI ?_
  refine AQ.nx rfl ?_
  refine sI ?_
  refine AQ.kill 4 ?_
  refine sI ?_
  refine AQ.append (hnb:=rfl) (rows:=aw ((x.xs.take k).map (aO (ej F)))) (es:=2) (by kernel_rfl) rfl rfl rfl (by first|(simp only[go_sem,noMen,AV.mens,AV.men,Bool.or_false];done)|(simp only[go_sem,noMen,AV.mens,AV.men,Bool.or_false];rfl)) Tryz.wY Tryz.wS (by show Option.map _ (aC Tryz.prog 71)=_;rw[Tryz.xh];rfl) Tryz.uo (by first|rfl|(simp only[ai,List.length_map,bF,List.length_cons,List.length_nil];done)|(simp only[ai,List.length_map,bF,List.length_cons,List.length_nil];omega)) (by simp only[ai,List.length_map,bF,List.length_cons,List.length_nil];omega) (by simp only[ai,List.length_map,bF,List.length_cons,List.length_nil];omega) ?_
  refine sI ?_
  refine AQ.nx rfl ?_
  refine sI ?_
  refine AQ.go (by kernel_rfl) ?_
  refine sI ?_
  refine AQ.nx rfl ?_
  refine sI ?_
  refine AQ.done ?_
  refine gE @hw ?_
  refine AE.ew [5] (by simp only[go_sem,Nat.reduceAdd,Nat.reduceLeDiff,Nat.reduceSub,Int.reduceToNat,reduceCtorEq,dK,noMen,AV.mens,AV.men,gB,Bool.or_false];first|done|rfl) ?_
  refine sI ?_
  refine AE.round (k+1) (by omega) (by omega) (sU) ?_
  rw[aS,nG,ai,List.length_map,bF];rfl
termination_by SizeOf.sizeOf x
decreasing_by exact gX hu
theorem LF:∀a b:List Lt,bQ (a++b)=bQ a++bQ b:=fun a b=>by rw[bQ,List.flatMap_append];rfl
theorem UI {c:List Lt} {k:Nat} {u:Lt} (h:c[k]?=some u):bQ (c.take (k+1))=bQ (c.take k)++aM u.xs:=by
 rw[cK h,LF];simp[bQ]
theorem UE {c:List Lt} {k j:Nat} {u:Lt} {v:Tm} (h:c[k]?=some u) (hv:u.xs[j]?=some v):∃q,bQ c=(bQ (c.take k)++aM (u.xs.take j))++(bR v++q):=by
 have h1:bQ c=bQ (c.take k)++(aM u.xs++bQ (c.drop (k+1))):=by
  conv=>lhs;rw[<-List.take_append_drop k c,drop_cons h]
  rw[LF,LG]
 rw[h1,LJ hv]
 exact⟨aM (u.xs.drop (j+1))++bQ (c.drop (k+1)),by simp only[List.append_assoc]⟩
theorem Nt (F:List Int) (c:List Lt) (hF:F=bg [] (bQ c)) (hlen:(bQ c).length<=1000000) (hs:cG c) (al:∀l∈c,cu l=true):ak Tryz.prog 93 [aJ c,.fn 94 [] [.ob 1 0]] (oM []) (fun r H'=>r=aJ (o7 (ej F) c)/\H'=oM F):=by
 have cB:=hs.1
 refine ak.walk [0,1,4,5,7,8,10,11,12,13,14,23,24,25,26] [7,8,10] Tryz.func93 rfl Tryz.ntmps93 (by kernel_rfl) (by rfl) rfl fun W own I0 ax lay=>?_
 refine gE @ae ?_
 refine AP.own 5 119 3 rfl ?_
 refine sI ?_
 refine AP.loop rfl (α:=Nat) (fun k=>[(1,.fn 94 [] [.ob 1 0]),(5,.os 2 3 0 k),(11,aJ c),(12,Iv c.length),(13,Iv k)]) (fun k=>(2,.vec 119 3 (aF ((c.take k).map (jX (ej F)))))::oM (bg [] (bQ (c.take k)))) (fun k=>k<=c.length) (fun k=>c.length-k) 0 (by omega) (sU) rfl fun k hk=>?_
 rcases Nat.eq_or_lt_of_le hk with aG|ah
 ·subst aG
  rw[List.take_length]
  refine gE @ae ?_
  refine cF ?_
  refine gO ?_
  refine AE.freeze 2 (el:=119) (es:=3) (rows:=aF (c.map (jX (ej F)))) rfl (by simp only[go_sem,Nat.reduceAdd,Nat.reduceLeDiff,Nat.reduceSub,Int.reduceToNat,reduceCtorEq,ae,List.length_map];first|done|trivial|omega|(simp;done)|(simp;omega)) (by simp only[go_sem,Nat.reduceAdd,Nat.reduceLeDiff,Nat.reduceSub,Int.reduceToNat,reduceCtorEq,ae,List.length_map];first|done|trivial|omega|(simp;done)|(simp;omega)) ?_;simp only[go_sem,Nat.reduceAdd,Nat.reduceLeDiff,Nat.reduceSub,Int.reduceToNat,reduceCtorEq,ae,List.length_map]
  rw[List.take_of_length_le (by rw[ae,List.length_map];omega)]
  exact AE.aV [] rfl ⟨rfl,trivial⟩ rfl ⟨rfl,by rw[hF];rfl⟩
 ·obtain⟨u,hu,aj⟩:=dI c k ah
  have hw:=wr (x:=(k:Int)+1) (by omega)
  have bF:=k7 (l:=c) (k:=k) (by omega)
  have bM:=jt hs hu
  have lI:=bM.2.1
  have aS:=te (jX (ej F)) hu
  refine gE @ae ?_
  refine cT ?_
  refine gE @aj ?_
  refine⟨by rw[ae];omega,?_⟩
  refine gE @ai ?_
  refine AP.jN 4 2 71 3 rfl rfl ?_
  refine sI ?_
  have Hi:jX (ej F) u=⟨u.ng,u.pd,u.xs.map (aO (ej F))⟩:=by rw[jX,mc]
  refine AP.loop rfl (α:=Nat) (fun j=>[(1,.fn 94 [] [.ob 1 0]),(5,.os 2 3 0 k),(8,.ob 4 0),(11,aJ c),(12,Iv c.length),(13,Iv k),(23,.im (.sl 3 (aw u.xs))),(24,Iv u.xs.length),(25,Iv j)]) (fun j=>(5,.vec 71 3 (aw ((u.xs.take j).map (aO (ej F)))))::(4,.var 119 [Bv u.ng,Sv u.pd,.os 5 3 0 j])::(3,.var 119 [Bv u.ng,Sv u.pd,.im (.sl 3 (aw u.xs))])::(2,.vec 119 3 (aF ((c.take k).map (jX (ej F)))))::oM (bg (bg [] (bQ (c.take k))) (aM (u.xs.take j)))) (fun j=>j<=u.xs.length) (fun j=>u.xs.length-j) 0 (by omega) (sU) (by rw[List.take_zero (l:=u.xs),aM];rfl) fun j hj=>?_
  rcases Nat.eq_or_lt_of_le hj with cY|fZ
  ·subst cY
   rw[List.take_length]
   refine gE @ai ?_
   refine cF ?_
   refine sI ?_
   refine AP.freeze 5 (el:=71) (es:=3) (rows:=aw (u.xs.map (aO (ej F)))) rfl (by simp only[go_sem,Nat.reduceAdd,Nat.reduceLeDiff,Nat.reduceSub,Int.reduceToNat,reduceCtorEq,ai,List.length_map];first|done|trivial|omega|(simp;done)|(simp;omega)) (by simp only[go_sem,Nat.reduceAdd,Nat.reduceLeDiff,Nat.reduceSub,Int.reduceToNat,reduceCtorEq,ai,List.length_map];first|done|trivial|omega|(simp;done)|(simp;omega)) ?_;simp only[go_sem,Nat.reduceAdd,Nat.reduceLeDiff,Nat.reduceSub,Int.reduceToNat,reduceCtorEq,ai,List.length_map]
   rw[show List.take u.xs.length (aw (u.xs.map (aO (ej F))))=aw (u.xs.map (aO (ej F))) from List.take_of_length_le (by rw[ai,List.length_map];omega)]
   refine gO ?_
   refine AQ.append (hnb:=rfl) (rows:=aF ((c.take k).map (jX (ej F)))) (es:=2) (by kernel_rfl) rfl rfl rfl (by first|(simp only[go_sem,noMen,AV.mens,AV.men,Bool.or_false];done)|(simp only[go_sem,noMen,AV.mens,AV.men,Bool.or_false];rfl)) Tryz.Ah Tryz.Ad (by show Option.map _ (aC Tryz.prog 119)=_;rw[Tryz.Ay];rfl) Tryz.x6 (by first|rfl|(simp only[ae,List.length_map,bF,List.length_cons,List.length_nil];done)|(simp only[ae,List.length_map,bF,List.length_cons,List.length_nil];omega)) (by simp only[ae,List.length_map,bF,List.length_cons,List.length_nil];omega) (by simp only[ae,List.length_map,bF,List.length_cons,List.length_nil];omega) ?_
   refine sI ?_
   refine gE @hw ?_
   refine AE.ew [4,3] (by simp only[go_sem,Nat.reduceAdd,Nat.reduceLeDiff,Nat.reduceSub,Int.reduceToNat,reduceCtorEq,dK,noMen,AV.mens,AV.men,gB,Bool.or_false];first|done|rfl) ?_
   refine sE (an @ae (an @List.length_map.{0,0} @bF)) ?_
   refine AE.round (k+1) (by omega) (by omega) (sU) ?_
   rw[aS,tc,Hi,UI hu,oN];rfl
  ·obtain⟨v,hv,cg⟩:=cm u.xs j fZ
   have cJ:=wr (x:=(j:Int)+1) (by have:=bM.2.1;omega)
   have fA:=k7 (l:=u.xs) (k:=j) (by omega)
   obtain⟨q,hq⟩:=UE hu hv
   have CT:=LM hv
   have G8:F=bg (bg (bg [] (bQ (c.take k))) (aM (u.xs.take j))) (bR v++q)++[]:=by rw[hF,hq,oN _ (_++_),oN _ (bQ _),List.append_nil]
   obtain⟨r',nZ⟩:=JM (a:=[]) G8
   have kK:=congrArg List.length hq
   simp only[List.length_append]at kK
   have e7:=zI (bQ (c.take k)++aM (u.xs.take j)) []
   rw[oN,List.length_append,List.length_nil]at e7
   have ih:=FK F v (bg (bg [] (bQ (c.take k))) (aM (u.xs.take j))) r' nZ (wu _ _ (wu _ _ List.nodup_nil)) (by omega) (cN bM.2.2 hv) (wx (DO (al u (List.mem_of_getElem? hu))) v (List.mem_of_getElem? hv))
   rw[<-oN (bg [] (bQ (c.take k))),<-CT]at ih
   clear G8 nZ kK e7 hq
   have lG:=te (aO (ej F)) hv
   obtain⟨w,oC⟩:∃w,aO (ej F) v=w:=⟨_,rfl⟩
   rw[oC]at ih lG
   refine gE @ai ?_
   refine cT ?_
   refine gE @cg ?_
   refine⟨by rw[ai];omega,?_⟩
   refine gO ?_
   refine AP.bC 9 (Tree.node [] [0,1,2,3] [4] [Tree.node [0,1] [] [5] [Tree.node [0,1] [] [6] [Tree.node [] [7] [8] [Tree.node [] [] [] []]]]]) (by kernel_rfl) rfl (by kernel_rfl) (by kernel_rfl) ?_
   refine bA ?_
   refine sI ?_
   refine AQ.bN [(1,1),(0,0)] (by kernel_rfl) rfl rfl rfl rfl rfl rfl (by refine⟨?_,?_,trivial⟩<;>(simp only[fo,AV.dJ,AV.rn,wG];rfl)) rfl ih fun r' H' ⟨e1,e2⟩=>?_
   subst e1;subst e2
   refine sH ?_
   refine AQ.nx rfl ?_
   refine sI ?_
   refine AQ.go (by kernel_rfl) ?_
   refine sI ?_
   refine AQ.nx rfl ?_
   refine sI ?_
   refine AQ.kill 5 ?_
   refine sI ?_
   refine AQ.append (hnb:=rfl) (rows:=aw ((u.xs.take j).map (aO (ej F)))) (es:=2) (by kernel_rfl) rfl rfl rfl (by first|(simp only[go_sem,noMen,AV.mens,AV.men,Bool.or_false];done)|(simp only[go_sem,noMen,AV.mens,AV.men,Bool.or_false];rfl)) Tryz.wY Tryz.wS (by show Option.map _ (aC Tryz.prog 71)=_;rw[Tryz.xh];rfl) Tryz.uo (by first|rfl|(simp only[ai,List.length_map,fA,List.length_cons,List.length_nil];done)|(simp only[ai,List.length_map,fA,List.length_cons,List.length_nil];omega)) (by simp only[ai,List.length_map,fA,List.length_cons,List.length_nil];omega) (by simp only[ai,List.length_map,fA,List.length_cons,List.length_nil];omega) ?_
   refine sI ?_
   refine AQ.nx rfl ?_
   refine sI ?_
   refine AQ.go (by kernel_rfl) ?_
   refine sI ?_
   refine AQ.nx rfl ?_
   refine sI ?_
   refine AQ.done ?_
   refine gE @cJ ?_
   refine AE.ew [6] (by simp only[go_sem,Nat.reduceAdd,Nat.reduceLeDiff,Nat.reduceSub,Int.reduceToNat,reduceCtorEq,dK,noMen,AV.mens,AV.men,gB,Bool.or_false];first|done|rfl) ?_
   refine sI ?_
   refine AE.round (j+1) (by omega) (by omega) (sU) ?_
   rw[lG,nG,ai,List.length_map,fA];rfl
theorem Sl (x y:Lt) (hs:gA x):aI Tryz.prog 88 [fc y,.im (kW x)] (Bv (cy x y)):=by
 refine ak.walk [0,1,2,3] [] Tryz.func88 rfl Tryz.ntmps88 (by kernel_rfl) (by rfl) rfl fun W own I0 ax lay=>?_
 refine gO ?_
 refine AQ.fn (by kernel_rfl) rfl rfl rfl (D_ x y hs) rfl ?_
 refine sI ?_
 refine gO ?_
 exact AE.ay rfl ⟨rfl,trivial⟩ rfl ⟨rfl,rfl⟩
theorem Rf (l:List Lt) (x:Lt) (hl:l.length<=1000000000) (hs:gA x):
  aI Tryz.prog 162 [aJ l,.fn 88 [] [.im (kW x)]] (Iv (dG (cy x) l 0)):=by
 refine ak.walk [0,1,4,5,7,8,9,16] [] Tryz.func162 rfl Tryz.ntmps162 (by kernel_rfl) (by rfl) rfl fun W own I0 ax lay=>?_
 refine gE @ae ?_
 refine AP.loop rfl (α:=Nat) (fun k=>[(0,aJ l),(1,.fn 88 [] [.im (kW x)]),(7,Iv l.length),(8,Iv k)]) (fun _=>[]) (fun k=>k<=l.length/\dG (cy x) l 0=dG (cy x) (l.drop k) k) (fun k=>l.length-k) 0 ⟨by omega,rfl⟩ (sU) rfl fun k ⟨hk,hm⟩=>?_
 rcases Nat.eq_or_lt_of_le hk with aG|ah
 ·refine gO ?_
  refine cF ?_
  refine gO ?_
  exact AE.ay rfl ⟨rfl,trivial⟩ rfl ⟨rfl,by rw[hm,aG,List.drop_length,dG];rfl⟩
 ·obtain⟨u,hu,aj⟩:=dI l k ah
  have hw:=wr (x:=(k:Int)+1) (by omega)
  have cV:=v_ (cy x) hu
  refine gO ?_
  refine cT ?_
  refine gE @aj ?_
  refine⟨by rw[ae];omega,?_⟩
  refine gO ?_
  refine AQ.nQ [] (by kernel_rfl) rfl rfl rfl rfl rfl rfl (fun k=>by exact trivial) (fun k=>rfl) (fun k=>rfl) (Sl x u hs) ?_
  refine sI ?_
  refine gO ?_
  refine AP.cond rfl rfl (fun h1=>?_) (fun h1=>?_)
  ·refine gO ?_
   exact AE.ay rfl ⟨rfl,trivial⟩ rfl ⟨rfl,by rw[hm,cV,if_pos (by simpa using h1)];rfl⟩
  ·refine gE @hw ?_
   exact AE.round (k+1) ⟨by omega,by rw[hm,cV,if_neg (by simpa using h1)]⟩ (by omega) (sU) rfl
theorem MJ (l:List Lt) (x:Lt) (hl:l.length<=1000000000) (hs:gA x):aI Tryz.prog 87 [aJ l,.fn 88 [] [.im (kW x)]] (Bv (l.any (cy x))):=by
 refine ak.walk [0,1,4] [] Tryz.func87 rfl Tryz.ntmps87 (by kernel_rfl) (by rfl) rfl fun W own I0 ax lay=>?_
 refine gO ?_
 refine AQ.fn (by kernel_rfl) rfl rfl rfl (Rf l x hl hs) rfl ?_
 refine sI ?_
 refine gO ?_
 exact AE.ay rfl ⟨rfl,trivial⟩ rfl ⟨rfl,by rw[<-v8 (cy x) l 0];rfl⟩
mutual
theorem UJ:∀t:Tm,(bR t).length<=wT t
 | .mk n i xs=>by
  rw[bR,wT,List.length_append]
  have:=EN xs
  split<;>simp<;>omega
theorem EN:∀l:List Tm,(aM l).length<=aH l
 |[]=>by rw[aM,aH];simp
 |t::l=>by rw[aM,aH,List.length_append];have:=UJ t;have:=EN l;omega
end
theorem Ar:∀c:List Lt,(bQ c).length<=b5 c
 |[]=>by simp[bQ]
 |l::c=>by rw[LG,List.length_append,jd];have:=EN l.xs;have:=Ar c;omega
theorem Sq (N:Nat) (CP:∀l:List Lt,l.length<=N->ak Tryz.prog 90 [.os 0 4 0 l.length,.fn 91 [] []] (b8 l) (fun r H'=>r= .aD []/\H'=b8 (aR [] l))) (c:List Lt) (hN:c.length<=N) (hs:cG c) (bD:bl 4 9 2 3 c=0):
  aI Tryz.prog 22 [aJ c] (.aD [aJ (gC c),Iv 0]):=by
 obtain⟨h1,h2,h3,h4⟩:=kz bD
 refine ak.walk [0,2,3,4,5,6,7,8,10,11,15,17,18,19,20,29,44,45,46,47] [7,10,11] Tryz.func22 rfl Tryz.ntmps22 (by kernel_rfl) (by rfl) rfl fun W own I0 ax lay=>?_
 refine gO ?_
 refine AQ.fn (by kernel_rfl) rfl rfl rfl (nR c hs) rfl ?_
 refine sE @bD ?_
 refine gE (an @bD @ae) ?_
 refine AP.own 5 145 4 rfl ?_
 refine sI ?_
 refine AP.loop rfl (α:=Nat) (fun k=>[(0,aJ c),(5,.os 0 4 0 (dp [] (c.take k)).length),(17,aJ c),(18,Iv c.length),(19,Iv k)]) (fun k=>b8 (dp [] (c.take k))) (fun k=>k<=c.length) (fun k=>c.length-k) 0 (by omega) (sU) rfl fun k hk=>?_
 rcases Nat.eq_or_lt_of_le hk with aG|ah
 ·subst aG
  rw[List.take_length]
  have qM:(dp [] c).length<=c.length:=(mf c []).length_le
  have y5:=CP (dp [] c) (by omega)
  have e8:(bx c).length=(dp [] c).length:=by rw[bx,(kn _ _).length_eq];rfl
  have HH:∀l∈bx c,gA l:=fun l hl=>hs.2 l (rq.1 hl)
  have Qc:∀l∈bx c,cu l=true:=fun l hl=>h4 l (rq.1 hl)
  have Hg:cG (bx c):=⟨by omega,HH⟩
  have HE:bx c=aR [] (dp [] c):=rfl
  rw[<-HE]at y5
  have eC:(bQ (bx c)).length<=1000000:=by
   have h5:=Ar (bx c)
   have h6:b5 (bx c)=b5 (dp [] c):=by rw[HE];exact DD (kn _ _)
   have h7:=wk (mf c [])
   omega
  have qL:=Nt (bg [] (bQ (bx c))) (bx c) rfl eC Hg Qc
  have P8:o7 (ej (bg [] (bQ (bx c)))) (bx c)=gC c:=rfl
  rw[P8]at qL
  rw[<-e8]at y5
  obtain⟨o,ho⟩:∃o,bx c=o:=⟨_,rfl⟩
  rw[ho]at y5 e8 HH Hg qL
  rw[<-e8]
  refine gO ?_
  refine cF ?_
  refine gO ?_
  refine AQ.bN [(0,0)] (by kernel_rfl) rfl rfl rfl rfl rfl rfl (by exact⟨rfl,trivial⟩) rfl y5 ?_
  rintro r H1 ⟨rfl,rfl⟩
  refine⟨rfl,?_⟩
  refine sH ?_
  refine gE @ji ?_
  refine AP.own 8 119 3 rfl ?_
  refine sI ?_
  refine AP.loop rfl (α:=Nat) (fun k=>[(8,.os 1 3 0 k),(44,.os 0 4 0 o.length),(45,Iv o.length),(46,Iv k)]) (fun k=>(1,.vec 119 3 (aF (o.take k)))::b8 o) (fun k=>k<=o.length) (fun k=>o.length-k) 0 (by omega) (sU) rfl fun k hk=>?_
  rcases Nat.eq_or_lt_of_le hk with aG|ah
  ·subst aG
   rw[List.take_length]
   refine gO ?_
   refine cF ?_
   refine gO ?_
   refine AQ.freeze 1 (el:=119) (es:=3) (rows:=aF o) rfl (by simp only[go_sem,Nat.reduceAdd,Nat.reduceLeDiff,Nat.reduceSub,Int.reduceToNat,reduceCtorEq,ae];first|done|trivial|omega|(simp;done)|(simp;omega)) (by simp only[go_sem,Nat.reduceAdd,Nat.reduceLeDiff,Nat.reduceSub,Int.reduceToNat,reduceCtorEq,ae];first|done|trivial|omega|(simp;done)|(simp;omega)) ?_;simp only[go_sem,Nat.reduceAdd,Nat.reduceLeDiff,Nat.reduceSub,Int.reduceToNat,reduceCtorEq,ae]
   rw[List.take_of_length_le (by rw[ae];omega)]
   refine AQ.Ji (by kernel_rfl) ?_
   refine sI ?_
   refine gO ?_
   refine AQ.bN [(1,2),(0,1)] (by kernel_rfl) rfl rfl rfl rfl rfl rfl (by exact⟨rfl,rfl,trivial⟩) rfl qL ?_
   rintro r H1 ⟨rfl,rfl⟩
   refine⟨rfl,?_⟩
   refine sH ?_
   refine gO ?_
   exact AE.aV [2,1,0] rfl ⟨rfl,rfl,trivial⟩ (by simp only[go_sem,Nat.reduceAdd,Nat.reduceLeDiff,Nat.reduceSub,Int.reduceToNat,reduceCtorEq,dK,noMen,AV.mens,AV.men,gB,Bool.or_false];first|done|rfl) ⟨rfl,rfl⟩
  ·obtain⟨u,hu,_⟩:=dI o k ah
   have aj:=tF hu
   have hw:=wr (x:=(k:Int)+1) (by omega)
   have aS:=cK hu
   have bF:=k7 (l:=o) (k:=k) (by omega)
   refine gO ?_
   refine cT ?_
   refine gE @aj ?_
   refine⟨by rw[ji];omega,?_⟩
   refine gO ?_
   refine AQ.append (hnb:=rfl) (rows:=aF (o.take k)) (es:=2) (by kernel_rfl) rfl rfl rfl (by rfl) Tryz.Ah Tryz.Ad (by show Option.map _ (aC Tryz.prog 119)=_;rw[Tryz.Ay];rfl) Tryz.x6 (by first|rfl|(simp only[ae,bF,List.length_cons,List.length_nil];done)|(simp only[ae,bF,List.length_cons,List.length_nil];omega)) (by simp only[ae,bF,List.length_cons,List.length_nil];omega) (by simp only[ae,bF,List.length_cons,List.length_nil];omega) ?_
   refine sI ?_
   refine gE @hw ?_
   refine AE.ew [2] rfl ?_
   refine sI ?_
   refine AE.round (k+1) (by omega) (by omega) (by simp only[ae,bF];exact(sU)) ?_
   rw[aS,tc]
 ·obtain⟨u,hu,aj⟩:=dI c k ah
  have hw:=wr (x:=(k:Int)+1) (by omega)
  have bM:=jt hs hu
  have my:=h4 u (List.mem_of_getElem? hu)
  have eY:=Bf (c.take k) [] u
  rw[<-cK hu,List.nil_append]at eY
  refine gE @ae ?_
  refine cT ?_
  refine gE @aj ?_
  refine⟨by rw[ae];omega,?_⟩
  refine gO ?_
  refine⟨⟨by omega,by rw[ae];omega⟩,?_⟩
  have bF:List.take k (aF c)=aF (c.take k):=by rw[aF,aF,List.map_take]
  have vx:List.drop k (List.take (k+1) (aF c))=aF [u]:=by
   rw[aF,<-List.map_take,<-List.map_drop,cK hu,List.drop_append_of_le_length (by rw[List.length_take];omega),List.drop_take_self];rfl
  have gz:((k:Int)+1).toNat=k+1:=by omega
  have sV:=L5 [u] true ⟨by simp,fun l hl=>by rw[List.mem_singleton]at hl;subst hl;exact bM⟩ (by simp) (by
   have h6:=Jr c u (List.mem_of_getElem? hu)
   simp only[b5,List.map_cons,List.map_nil,List.sum_cons,List.sum_nil];omega) (fun l hl=>by rw[List.mem_singleton]at hl;subst hl;exact my)
  have yT:kq true [u]=aA u:=by rw[kq,jk,List.append_nil,aA]
  rw[yT]at sV
  have n9:(dp [] (c.take k)).length<=k:=by
   have:=(mf (c.take k) []).length_le
   rw[List.length_take]at this;omega
  rw[bF]
  refine AQ.fix 1 rfl rfl ?_
  refine sI ?_
  refine AQ.fn (by kernel_rfl) rfl rfl rfl (MJ (c.take k) u (by rw[List.length_take];omega) bM) rfl ?_
  refine sI ?_
  refine gO ?_
  refine AP.cond rfl rfl (fun h5=>?_) (fun h5=>?_)
  ·have h5:(c.take k).any (cy u)=false:=by simpa using h5
   rw[h5,if_neg (by decide)]at eY
   refine gO ?_
   refine AP.bC 11 (Tree.node [] [0,1,2,3,4,5,6] [7] [Tree.node [0,1] [8] [9] [Tree.node [0] [] [10] [Tree.node [] [] [] []]]]) (by kernel_rfl) rfl (by kernel_rfl) (by kernel_rfl) ?_
   refine bA ?_
   refine sE (an @hw (an @gz (an @vx @ae))) ?_
   refine⟨⟨by omega,by omega,by omega⟩,?_⟩
   refine AQ.fn (by kernel_rfl) rfl rfl rfl (sV) rfl ?_
   refine sI ?_
   refine AQ.nx rfl ?_
   refine sI ?_
   refine AQ.go (by kernel_rfl) ?_
   refine sI ?_
   refine AQ.nx rfl ?_
   refine sI ?_
   refine AQ.append (hnb:=rfl) (rows:=dz (dp [] (c.take k))) (es:=3) (by kernel_rfl) rfl rfl rfl (by rfl) Tryz.T_ Tryz.T2 (by show Option.map _ (aC Tryz.prog 145)=_;rw[Tryz.U3];rfl) Tryz.Ni (by first|rfl|(simp only[ji,List.length_cons,List.length_nil];done)|(simp only[ji,List.length_cons,List.length_nil];omega)) (by simp only[ji,List.length_cons,List.length_nil];omega) (by simp only[ji,List.length_cons,List.length_nil];omega) ?_
   refine sI ?_
   refine AQ.nx rfl ?_
   refine sI ?_
   refine AQ.done ?_
   refine gE @hw ?_
   have hlen:(dp [] (c.take (k+1))).length=(dp [] (c.take k)).length+1:=by rw[eY,List.length_append];rfl
   refine AE.round (k+1) (by omega) (by omega) (by rw[hlen];simp only[ji];exact(sU)) ?_
   rw[eY];simp only[b8,dz,List.map_append];rfl
  ·have h5:(c.take k).any (cy u)=true:=by simpa using h5
   rw[if_pos h5,List.append_nil]at eY
   refine gE @hw ?_
   exact AE.round (k+1) (by omega) (by omega) (by rw[eY];exact(sU)) (by rw[eY])
abbrev gD (s:List UInt8) (i:Nat):aa:=[(0,.var 135 [Sv s,Iv i])]
abbrev wj:AV:= .wr (.iface 131) (.agg [])
abbrev zT:aa:=[(0,.var 135 [.top,.top])]
theorem pY (a b:AV):bO [a,b] [.top,.top]:=fun w φ I us h=>by
 simp only[AV.ab,AV.den]at h⊢
 obtain⟨u1,qg,rfl,_,u2,ED,rfl,_,rfl⟩:=h
 exact⟨_,_,rfl,trivial,_,_,rfl,trivial,rfl⟩
theorem iV {s:List UInt8} {i:Nat} {w:List UInt8} (h:bt s i w=true) (hi:i<=s.length):i+w.length<=s.length:=by
 rcases Fl h with h|h
 ·exact h
 ·subst h;simpa using hi
theorem pg (s w:List UInt8) (i:Nat) (hi:i<=s.length) (hs:s.length<=1000000) (hw:w.length<=1000):ak Tryz.prog 83 [.ob 0 0,Sv w] (gD s i) (fun r H'=>r=Bv (bt s i w)/\H'=gD s (if bt s i w then i+w.length else i)):=by
 have hp:=Pd (s.drop i) w
 have he:Lib.hasPrefix (s.drop i) w=bt s i w:=rfl
 have bF:List.take (s.length-i) (List.drop i s)=List.drop i s:=List.take_of_length_le (by rw[List.length_drop];exact Nat.le_refl _)
 rw[he,<-bF]at hp
 clear he
 refine ak.walk [0,1,4,16] [] Tryz.func83 rfl Tryz.ntmps83 (by kernel_rfl) (by rfl) rfl fun W own I0 ax lay=>?_
 refine gO ?_
 refine AP.bC 12 (Tree.node [] [0,1,2,3,4,5,6,7,8,9] [10] [Tree.node [] [11] [] []]) (by kernel_rfl) rfl (by kernel_rfl) (by kernel_rfl) ?_
 refine bA ?_
 refine sI ?_
 refine⟨by omega,?_⟩
 refine AQ.fn (by kernel_rfl) rfl rfl rfl (hp) rfl ?_
 refine sI ?_
 refine AQ.nx rfl ?_
 refine sI ?_
 refine AQ.done ?_
 refine gO ?_
 refine AP.cond rfl rfl (fun h=>?_) (fun h=>?_)
 ·have h:bt s i w=false:=by simpa using h
  refine gO ?_
  exact AE.ret rfl ⟨rfl,trivial⟩ ⟨by rw[h];rfl,by rw[h];rfl⟩
 ·have h:bt s i w=true:=by simpa using h
  have hle:=iV h hi
  have a8:=wr (x:=(i:Int)+w.length) (by omega)
  refine gE @a8 ?_
  exact AE.ret rfl ⟨rfl,trivial⟩ ⟨by rw[h];rfl,by rw[h,if_pos rfl];rfl⟩
theorem GS {l:List UInt8} {k:Nat} (h:k<l.length):l.drop k=l.getD k 0::l.drop (k+1):=by
 rw[List.drop_eq_getElem_cons h,List.getD_eq_getElem?_getD,List.getElem?_eq_getElem h];rfl
theorem Jy {s:List UInt8} {k:Nat} (b:Bool) (h:k<s.length):b6 b (s.drop k)=if jc (s.getD k 0) b then 1+b6 false (s.drop (k+1))else 0:=by
 rw[GS h,b6]
theorem Jn (s:List UInt8) (i:Nat) (hi:i<=s.length) (hs:s.length<=1000000):c7 Tryz.prog 157 [.ob 0 0] (gD s i) (fun r H'=>b6 true (s.drop i)≠0/\r=Sv ((s.drop i).take (b6 true (s.drop i)))/\H'=gD s (i+b6 true (s.drop i))) (fun r H'=>b6 true (s.drop i)=0/\r=wj/\H'=zT):=by
 refine c7.walk [0,2,3,35,48] [] Tryz.func157 rfl Tryz.ntmps157 (by kernel_rfl) (by rfl) rfl fun W own I0 ax lay=>?_
 refine gO ?_
 refine AP.loop rfl (α:=Nat) (fun k=>[(0,.ob 0 0),(3,Iv i)]) (fun k=>gD s (i+k)) (fun k=>i+k<=s.length/\b6 true (s.drop i)=k+b6 (decide (k=0)) (s.drop (i+k))) (fun k=>s.length-(i+k)) 0 ⟨by omega,by simp⟩ (sU) rfl fun k ⟨hk,hm⟩=>?_
 by_cases ah:i+k<s.length
 ·have hw:=wr (x:=((i+k:Nat):Int)+1) (by omega)
  have hd:decide (((i+k:Nat):Int)<(s.length:Int))=true:=decide_eq_true (by omega)
  have he:decide (((i+k:Nat):Int)=(i:Int))=decide (k=0):=by rw[decide_eq_decide];omega
  rw[Jy _ ah]at hm
  refine gE @hd ?_
  refine AP.bC 28 (Tree.node [] [0,1,2,3,4,5,6,7,8,9,10,11,12,13,14,15,16,17,18,19,20,21,22,23,24,25] [26] [Tree.node [] [27] [] []]) (by kernel_rfl) rfl (by kernel_rfl) (by kernel_rfl) ?_
  refine bA ?_
  refine sE @hd ?_
  refine⟨⟨by omega,by omega⟩,?_⟩
  refine AQ.fI (by simp only[go_sem]) ?_
  refine AQ.fn (by kernel_rfl) rfl rfl rfl (Ir (s.getD (i+k) 0) (((i+k:Nat):Int)==(i:Int))) rfl ?_
  refine sI ?_
  refine AQ.nx rfl ?_
  refine sI ?_
  refine AQ.done ?_
  have B0:(((i+k:Nat):Int)==(i:Int))=decide (k=0):=by
   rw[Bool.eq_iff_iff,beq_iff_eq,decide_eq_true_iff];omega
  rw[B0]
  refine gO ?_
  refine AP.cond rfl rfl (fun h5=>?_) (fun h5=>?_)
  ·have h5:jc (s.getD (i+k) 0) (decide (k=0))=true:=by simpa using h5
   rw[if_pos h5]at hm
   refine gE @hw ?_
   refine AE.round (k+1) ⟨by omega,?_⟩ (by omega) (sU) rfl
   rw[hm,show decide (k+1=0)=false from decide_eq_false (by omega)];simp only[Nat.add_assoc];
  ·have h5:jc (s.getD (i+k) 0) (decide (k=0))=false:=by simpa using h5
   rw[if_neg (by rw[h5];decide)]at hm
   refine gO ?_
   have gQ:b6 true (s.drop i)=k:=hm
   by_cases dE:k=0
   ·subst dE
    refine cT ?_
    refine gO ?_
    refine xI ?_;refine sI ?_
    refine gO ?_
    refine AQ.fu 0 _ rfl (pY _ _) ?_
    refine sI ?_
    refine AQ.panic rfl ?_
    exact cX.out [] rfl rfl ⟨gQ,rfl,rfl⟩
   ·refine cF ?_
    refine gO ?_
    exact AE.ret rfl ⟨rfl,trivial⟩ ⟨by omega,by rw[gQ,Nat.add_sub_cancel_left];rfl,by rw[gQ]⟩
 ·have hd:decide (((i+k:Nat):Int)<(s.length:Int))=false:=decide_eq_false (by omega)
  refine gE @hd ?_
  refine AP.bC 28 (Tree.node [] [0,1,2,3,4,5,6,7,8,9,10,11,12,13,14,15,16,17,18,19,20,21,22,23,24,25] [26] [Tree.node [] [27] [] []]) (by kernel_rfl) rfl (by kernel_rfl) (by kernel_rfl) ?_
  refine bA ?_
  refine sE @hd ?_
  refine⟨fun h=>h.elim,fun h=>h.elim,?_⟩
  refine AQ.skip (by kernel_rfl) rfl ?_
  refine sI ?_
  refine AQ.nx rfl ?_
  refine sI ?_
  refine AQ.done ?_
  have hm:b6 true (s.drop i)=k:=by rw[hm,List.drop_eq_nil_of_le (by omega),b6];rfl
  refine gO ?_
  have gQ:b6 true (s.drop i)=k:=hm
  by_cases dE:k=0
  ·subst dE
   refine cT ?_
   refine gO ?_
   refine xI ?_;refine sI ?_
   refine gO ?_
   refine AQ.fu 0 _ rfl (pY _ _) ?_
   refine sI ?_
   refine AQ.panic rfl ?_
   exact cX.out [] rfl rfl ⟨gQ,rfl,rfl⟩
  ·refine cF ?_
   refine gO ?_
   exact AE.ret rfl ⟨rfl,trivial⟩ ⟨by omega,by rw[gQ,Nat.add_sub_cancel_left];rfl,by rw[gQ]⟩
theorem c7.told {P:Program} {f:FuncId} {xs:List AV} {H:aa} {R R' X:AV->aa->Prop} (h:c7 P f xs H R X) (hr:∀r H',R r H'->∃r',R' r' H'/\bX r r'):c7 P f xs H R' X:=
 ⟨h.gl,fun w φ I vs hd hR hV=>(h.run w φ I vs hd hR hV).mono fun _ _ h=>by
  rcases h with⟨r,H',φ',I',v,h1,h2,h3,h4⟩|h
  ·obtain⟨r',ov,eM⟩:=hr _ _ h1
   exact .inl ⟨r',H',φ',I',v,ov,h2,eM _ _ _ _ h3,h4⟩
  ·exact .inr h⟩
def RT (s:List UInt8) (f i:Nat) (r:AV) (H':aa):Prop:=∃t j,pT s f i=some (t,j)/\r=bq t/\H'=gD s j
def XT (s:List UInt8) (f i:Nat) (r:AV) (H':aa):Prop:=pT s f i=none/\r=wj/\H'=zT
def RA (s:List UInt8) (f i:Nat) (r:AV) (H':aa):Prop:=∃l j,pA s f i=some (l,j)/\r= .im (.sl 3 (aw l))/\H'=gD s j
def XA (s:List UInt8) (f i:Nat) (r:AV) (H':aa):Prop:=pA s f i=none/\r=wj/\H'=zT
theorem JV (s:List UInt8) (f i:Nat):pR s (f+1) i=if bt s i [44,32]then
   match pT s f (i+2)with
   |none=>none
   |some (t,j)=>match pR s f j with
    |none=>none
    |some (l,k)=>some (t::l,k)
  else if bt s i [41]then some ([],i+1)else none:=by rw[pR];rfl
def rz (a:List Tm):Option (List Tm×Nat)->Option (List Tm×Nat)
 |none=>none
 |some (l,k)=>some (a++l,k)
theorem Kf (s:List UInt8) (hs:s.length<=1000000) (f i:Nat) (hi:i<=s.length) (hf:s.length<f+i)
  (ih:∀f' i',f'<=f->i'<=s.length->s.length<f'+i'->c7 Tryz.prog 159 [.ob 0 0] (gD s i') (RT s f' i') (XT s f' i')):
  c7 Tryz.prog 158 [.ob 0 0] (gD s i) (RA s f i) (XA s f i):=by
 refine c7.told (R:=fun r H'=>∃l j,pA s f i=some (l,j)/\(r= .im (.sl 3 (aw l))\/l=[]/\r=dm)/\H'=gD s j) ?_ (fun r H' ⟨l,j,h1,h2,h3⟩=>⟨_,⟨l,j,h1,rfl,h3⟩,by
  rcases h2 with rfl|⟨rfl,rfl⟩
  ·exact bX.refl _
  ·exact fun w φ I u h=>DG 3 w φ I u h⟩)
 have hA:pA s f i=_:=pA.eq_def s f i
 have he:=pg s [40] i hi hs (by simp)
 refine c7.walk [0,2,3,6,11,19] [3,9] Tryz.func158 rfl Tryz.ntmps158 (by kernel_rfl) (by rfl) rfl fun W own I0 ax lay=>?_
 refine gO ?_
 refine AQ.bN [(0,0)] (by kernel_rfl) rfl rfl rfl rfl rfl rfl (by exact⟨rfl,trivial⟩) rfl (he) ?_;rintro r H1 ⟨rfl,rfl⟩;refine⟨rfl,?_⟩;refine sH ?_
 refine gO ?_
 refine AP.cond rfl rfl (fun h=>?_) (fun h=>?_)
 ·have h:bt s i [40]=false:=by simpa using h
  rw[h,if_neg (by decide)]at hA
  rw[h,if_neg (by decide)]
  refine gO ?_
  exact AE.ret rfl ⟨rfl,trivial⟩ ⟨[],i,hA,.inr ⟨rfl,rfl⟩,rfl⟩
 have h:bt s i [40]=true:=by simpa using h
 have hle:=iV h hi
 simp only[List.length_cons,List.length_nil]at hle
 rw[if_pos h]at hA
 rw[if_pos h]
 have it:=ih f (i+1) (Nat.le_refl _) (by omega) (by omega)
 refine gO ?_
 refine AQ.mb [(0,0)] (by kernel_rfl) rfl rfl rfl rfl rfl rfl (by exact⟨rfl,trivial⟩) rfl (it) ?_ ?_
 ·rintro r H' ⟨hp,rfl,rfl⟩
  rw[hp]at hA
  refine⟨rfl,?_⟩;refine sH ?_
  exact cX.out [] rfl rfl ⟨hA,rfl,rfl⟩
 ·rintro r H' ⟨t,j,hp,rfl,rfl⟩
  have fP:=nA hp
  rw[hp]at hA
  simp only at hA
  refine⟨rfl,?_⟩;refine sH ?_
  refine AQ.go (by kernel_rfl) ?_
  refine sI ?_
  refine gO ?_
  have uP:pA s f i=rz [t] (pR s f j):=by rw[hA];cases pR s f j<;>rfl
  refine AP.loop rfl (α:=List Tm×Nat×Nat) (fun z=>[(0,.ob 0 0),(3,.os 1 3 0 z.1.length)]) (fun z=>(1,.vec 71 3 (aw z.1))::gD s z.2.1) (fun z=>z.1.length<=z.2.1/\z.2.1<=s.length/\s.length<z.2.2+z.2.1/\z.2.2<=f/\pA s f i=rz z.1 (pR s z.2.2 z.2.1)) (fun z=>s.length-z.2.1) ([t],j,f) ⟨by simp only[List.length_singleton];omega,fP.2.2,by simp only;omega,Nat.le_refl _,uP⟩ (sU) (by simp only[aw,lX];rfl) fun⟨a,j,g⟩ ⟨z1,z2,z3,z4,z5⟩=>?_
  simp only at z1 z2 z3 z4 z5⊢
  clear hA uP fP hp it he hle
  obtain⟨g,rfl⟩:∃q,g=q+1:=⟨g-1,by omega⟩
  rw[JV]at z5
  have he:=pg s [44,32] j z2 hs (by simp)
  refine gO ?_
  refine AQ.bN [(0,0)] (by kernel_rfl) rfl rfl rfl rfl rfl rfl (by exact⟨rfl,trivial⟩) rfl (he) ?_;rintro r H1 ⟨rfl,rfl⟩;refine⟨rfl,?_⟩;refine sH ?_
  refine gO ?_
  refine AP.cond rfl rfl (fun h2=>?_) (fun h2=>?_)
  ·have h2:bt s j [44,32]=true:=by simpa using h2
   have hle:=iV h2 z2
   simp only[List.length_cons,List.length_nil]at hle
   have it:=ih g (j+2) (by omega) (by omega) (by omega)
   rw[if_pos h2]at z5
   rw[if_pos h2]
   refine gO ?_
   refine AQ.mb [(0,0)] (by kernel_rfl) rfl rfl rfl rfl rfl rfl (by exact⟨rfl,trivial⟩) rfl (it) ?_ ?_
   ·rintro r H' ⟨hp,rfl,rfl⟩
    rw[hp]at z5
    refine⟨rfl,?_⟩;refine sH ?_
    exact cX.out [1] rfl rfl ⟨z5,rfl,rfl⟩
   ·rintro r H' ⟨u,k,hp,rfl,rfl⟩
    have fP:=nA hp
    rw[hp]at z5
    refine⟨rfl,?_⟩;refine sH ?_
    refine AQ.go (by kernel_rfl) ?_
    refine sI ?_
    refine gO ?_
    refine AQ.append (hnb:=rfl) (rows:=aw a) (es:=2) (by kernel_rfl) rfl rfl rfl (by rfl) Tryz.wY Tryz.wS (by show Option.map _ (aC Tryz.prog 71)=_;rw[Tryz.xh];rfl) Tryz.uo (by first|rfl|(simp only[ai,List.length_cons,List.length_nil];done)|(simp only[ai,List.length_cons,List.length_nil];omega)) (by simp only[ai,List.length_cons,List.length_nil];omega) (by simp only[ai,List.length_cons,List.length_nil];omega) ?_
    refine sE @ai ?_
    refine gO ?_
    refine AE.round (a++[u],k,g) ⟨by simp only[List.length_append,List.length_singleton];omega,fP.2.2,by simp only;omega,by simp only;omega,?_⟩ (by simp only;omega) (by simp only[List.length_append,List.length_singleton];exact(sU)) (by simp only[nG];rfl)
    simp only at z5⊢
    rw[z5]
    cases hq:pR s g k with
    |none=>rfl
    |some x=>simp[rz]
  ·have h2:¬bt s j [44,32]=true:=by simpa using h2
   rw[if_neg h2]at z5
   rw[if_neg h2]
   have Pu:=pg s [41] j z2 hs (by simp)
   refine gO ?_
   refine AQ.bN [(0,0)] (by kernel_rfl) rfl rfl rfl rfl rfl rfl (by exact⟨rfl,trivial⟩) rfl (Pu) ?_;rintro r H1 ⟨rfl,rfl⟩;refine⟨rfl,?_⟩;refine sH ?_
   refine gO ?_
   refine AP.cond rfl rfl (fun h3=>?_) (fun h3=>?_)
   ·have h3:¬bt s j [41]=true:=by simpa using h3
    rw[if_neg h3]at z5
    rw[if_neg h3]
    refine gO ?_;refine xI ?_;refine sI ?_;refine gO ?_;refine AQ.fu 0 _ rfl (pY _ _) ?_;refine sI ?_;refine AQ.panic rfl ?_
    exact cX.out [1] rfl rfl ⟨z5,rfl,rfl⟩
   ·have h3:bt s j [41]=true:=by simpa using h3
    rw[if_pos h3]at z5
    rw[if_pos h3]
    refine gO ?_
    refine AE.freeze 1 (el:=71) (es:=3) (rows:=aw a) rfl (by simp only[go_sem,Nat.reduceAdd,Nat.reduceLeDiff,Nat.reduceSub,Int.reduceToNat,reduceCtorEq,ai];first|done|trivial|omega|(simp;done)|(simp;omega)) (by simp only[go_sem,Nat.reduceAdd,Nat.reduceLeDiff,Nat.reduceSub,Int.reduceToNat,reduceCtorEq,ai];first|done|trivial|omega|(simp;done)|(simp;omega)) ?_;simp only[go_sem,Nat.reduceAdd,Nat.reduceLeDiff,Nat.reduceSub,Int.reduceToNat,reduceCtorEq,ai]
    rw[List.take_of_length_le (by rw[ai];exact Nat.le_refl _)]
    exact AE.ret rfl ⟨rfl,trivial⟩ ⟨a,j+1,by rw[z5];simp[rz],.inl rfl,rfl⟩
theorem J7:∀(l:List UInt8) (acc k:Nat),acc<10^k->l.length+k<=18->(∀c∈l,dF c=true)->Lib.parseUint10 acc l= .ok (l.foldl (fun n c=>10*n+(c.toNat-48)) acc)
 |[],acc,k,_,_,_=>rfl
 |c::r,acc,k,ha,hl,hd=>by
  have hc:=hd c (List.mem_cons_self ..)
  rw[dF,Bool.and_eq_true,decide_eq_true_iff,decide_eq_true_iff]at hc
  have hk:10^k<=10^17:=Nat.pow_le_pow_right (by decide) (by simp only[List.length_cons]at hl;omega)
  have hn:acc*10+(c.toNat-48)<10^(k+1):=by rw[Nat.pow_succ];omega
  have Ws:(10:Nat)^17=100000000000000000:=by decide
  rw[Lib.parseUint10,if_pos hc,if_neg (by omega),if_neg (by omega),J7 r _ (k+1) hn (by simp only[List.length_cons]at hl;omega) (fun x hx=>hd x (List.mem_cons_of_mem _ hx)),List.foldl_cons,Nat.mul_comm acc 10]
theorem MT {d:List UInt8} (hd:∀c∈d,dF c=true) (h0:d≠[]) (hl:d.length<=18):gk d=((dQ d:Int),true):=by
 have hp:=J7 d 0 0 (by decide) (by omega) hd
 have ah:dQ d<10^18:=by
  have:∀(l:List UInt8) (acc k:Nat),acc<10^k->(∀c∈l,dF c=true)->l.foldl (fun n c=>10*n+(c.toNat-48)) acc<10^(k+l.length):=by
   intro l
   induction l with
   |nil=>intro acc k h _;exact h
   |cons c r ih=>
    intro acc k h hd
    have hc:=hd c (List.mem_cons_self ..)
    rw[dF,Bool.and_eq_true,decide_eq_true_iff,decide_eq_true_iff]at hc
    have:=ih (10*acc+(c.toNat-48)) (k+1) (by rw[Nat.pow_succ];omega) fun x hx=>hd x (List.mem_cons_of_mem _ hx)
    rw[List.foldl_cons,List.length_cons,show k+(r.length+1)=k+1+r.length by omega]
    exact this
  have h1:=this d 0 0 (by decide) hd
  rw[Nat.zero_add]at h1
  exact Nat.lt_of_lt_of_le h1 (Nat.pow_le_pow_right (by decide) hl)
 have Wt:(10:Nat)^18=1000000000000000000:=by decide
 cases d with
 |nil=>exact absurd rfl h0
 |cons c r=>
  have hc:=hd c (List.mem_cons_self ..)
  rw[dF,Bool.and_eq_true,decide_eq_true_iff,decide_eq_true_iff]at hc
  have OK:¬(c.toNat=43\/c.toNat=45):=by omega
  have G1:¬c.toNat=45:=by omega
  have hA:Lib.atoiAll (c::r)= .ok ((dQ (c::r):Nat):Int):=by
   rw[Lib.atoiAll]
   simp only[if_neg OK,Lib.parseMag,if_neg (List.cons_ne_nil c r)]
   rw[hp]
   simp only
   rw[if_neg,if_neg,if_neg G1]
   ·rfl
   ·exact fun h=>G1 h.1
   ·rintro⟨_,h⟩
    have:dQ (c::r)<1000000000000000000:=by omega
    unfold dQ at this
    omega
  rw[gk,hA]
def tn (d:List UInt8):Bool:=(gk d).2&&!decide (9<d.length)&&(Lib.itoa (gk d).1==d)
theorem JE {d:List UInt8} (hd:∀c∈d,dF c=true):tn d=en d/\(en d=true->(gk d).1=(dQ d:Int)):=by
 rcases Decidable.em (d=[])with rfl|h0
 ·have:gk []=(0,false):=rfl
  refine⟨by rw[tn,this];rfl,fun h=>?_⟩
  exact absurd h (by decide)
 ·have CG:1<=d.length:=by cases d with|nil=>exact absurd rfl h0|cons c r=>simp
  by_cases h9:9<d.length
  ·rw[tn,en,decide_eq_true h9,decide_eq_false (by omega:¬d.length<=9)]
   simp
  ·have ha:=MT hd h0 (by omega)
   have hi:Lib.itoa (dQ d:Int)=Lib.decDigits (dQ d):=by rw[Lib.itoa,if_neg (by omega)];rfl
   refine⟨?_,fun _=>by rw[ha]⟩
   rw[tn,ha,en,decide_eq_false h9,decide_eq_true CG,decide_eq_true (by omega:d.length<=9)]
   simp only[Bool.true_and,Bool.not_false,hi]
   rw[Bool.eq_iff_iff,beq_iff_eq,Bool.or_eq_true,decide_eq_true_iff,decide_eq_true_iff]
   obtain⟨_,_,_,_,h5,h6⟩:=yd (dQ d)
   constructor
   ·intro h
    rw[h]at h5 h6
    by_cases h1:d.length=1
    ·exact .inl h1
    ·exact .inr (h5 (h6 (by omega)))
   ·intro h
    obtain⟨n,hn⟩:∃n,d.length=n+1:=⟨d.length-1,by omega⟩
    exact(Bg n d hn hd (fun h1=>by
     rcases h with h|h
     ·omega
     ·exact h)).1
theorem yl:∀l:List UInt8,∀c∈l.take (df l),dF c=true
 |[],c,h=>by simp at h
 |x::l,c,h=>by
  rw[df]at h
  by_cases hx:dF x=true
  ·rw[if_pos hx,Nat.add_comm,List.take_succ_cons]at h
   rcases List.mem_cons.1 h with rfl|h
   ·exact hx
   ·exact yl l c h
  ·rw[if_neg hx]at h;simp at h
theorem Gb {s:List UInt8} {k:Nat} (h:k<s.length):df (s.drop k)=if dF (s.getD k 0)then 1+df (s.drop (k+1))else 0:=by
 rw[GS h,df]
theorem Tv (s:List UInt8) (hs:s.length<=1000000) (f i:Nat) (hi:i<=s.length)
  (hl:∀i',i<i'->i'<=s.length->c7 Tryz.prog 158 [.ob 0 0] (gD s i') (RA s f i') (XA s f i')):
  c7 Tryz.prog 159 [.ob 0 0] (gD s i) (RT s (f+1) i) (XT s (f+1) i):=by
 refine c7.told (R:=fun r H'=>∃t j,pT s (f+1) i=some (t,j)/\(r=bq t\/t.xs=[]/\r= .agg [Sv t.nm,Iv t.ix,dm])/\H'=gD s j) ?_ (fun r H' ⟨t,j,h1,h2,h3⟩=>⟨_,⟨t,j,h1,rfl,h3⟩,by
  rcases h2 with rfl|⟨hx,rfl⟩
  ·exact bX.refl _
  ·rw[bq,hx,aw];exact(by repeat' (first|with_reducible exact bX.refl _|with_reducible exact da.refl _|exact da.nil _|with_reducible exact bO.refl _|with_reducible exact fp.refl _|with_reducible exact eI.refl _|refine bO.lj ?_ ?_|refine bX.agg ?_|refine bX.im ?_|refine da.sl ?_|refine eI.cons ?_ ?_|refine fp.cons ?_ ?_))⟩)
 have hT:=zN s f i
 have he:=pg s [63] i hi hs (by simp)
 refine c7.walk [0,2,3,4,5,6,7,10,54,89] [2] Tryz.func159 rfl Tryz.ntmps159 (by kernel_rfl) (by rfl) rfl fun W own I0 ax lay=>?_
 refine gO ?_
 refine AQ.bN [(0,0)] (by kernel_rfl) rfl rfl rfl rfl rfl rfl (by exact⟨rfl,trivial⟩) rfl (he) ?_;rintro r H1 ⟨rfl,rfl⟩;refine⟨rfl,?_⟩;refine sH ?_
 refine gO ?_
 refine AP.cond rfl rfl (fun h=>?_) (fun h=>?_)
 ·have h:bt s i [63]=false:=by simpa using h
  rw[h,if_neg (by decide)]at hT
  rw[h,if_neg (by decide)]
  have hn:=Jn s i hi hs
  refine gO ?_
  refine AQ.mb [(0,0)] (by kernel_rfl) rfl rfl rfl rfl rfl rfl (by exact⟨rfl,trivial⟩) rfl (hn) ?_ ?_
  ·rintro r H' ⟨hp,rfl,rfl⟩
   rw[if_pos hp]at hT
   refine⟨rfl,?_⟩;refine sH ?_
   exact cX.out [1] rfl rfl ⟨hT,rfl,rfl⟩
  ·rintro r H' ⟨hp,rfl,rfl⟩
   rw[if_neg hp]at hT
   have e7:=wm true (s.drop i)
   rw[List.length_drop]at e7
   have eA:=hl (i+b6 true (s.drop i)) (by omega) (by omega)
   refine⟨rfl,?_⟩;refine sH ?_
   refine AQ.go (by kernel_rfl) ?_
   refine sI ?_
   refine gO ?_
   refine AQ.mb [(0,0)] (by kernel_rfl) rfl rfl rfl rfl rfl rfl (by exact⟨rfl,trivial⟩) rfl (eA) ?_ ?_
   ·rintro r H' ⟨hp,rfl,rfl⟩
    rw[hp]at hT
    refine⟨rfl,?_⟩;refine sH ?_
    exact cX.out [1] rfl rfl ⟨hT,rfl,rfl⟩
   ·rintro r H' ⟨l,k,hp,rfl,rfl⟩
    rw[hp]at hT
    refine⟨rfl,?_⟩;refine sH ?_
    refine AQ.go (by kernel_rfl) ?_
    refine sI ?_
    refine gO ?_
    exact AE.aV [1] rfl ⟨⟨rfl,Nat.le_of_ble_eq_true (by kernel_rfl)⟩,trivial⟩ rfl ⟨_,k,hT,.inl rfl,rfl⟩
 ·have h:bt s i [63]=true:=by simpa using h
  have hle:=iV h hi
  simp only[List.length_cons,List.length_nil]at hle
  rw[if_pos h]at hT
  rw[if_pos h]
  refine gO ?_
  refine AP.loop rfl (α:=Nat) (fun k=>[(0,.ob 0 0),(2,.ob 1 0),(4,Iv (i+1:Nat))]) (fun k=>(1,.var 71 [Sv [],Iv 0,dm])::gD s (i+1+k)) (fun k=>i+1+k<=s.length/\df (s.drop (i+1))=k+df (s.drop (i+1+k))) (fun k=>s.length-(i+1+k)) 0 ⟨by omega,by simp⟩ (sU) rfl fun k ⟨hk,hm⟩=>?_
  by_cases ah:i+1+k<s.length
  ·have hw:=wr (x:=((i+1+k:Nat):Int)+1) (by omega)
   have hd:decide (((i+1+k:Nat):Int)<(s.length:Int))=true:=decide_eq_true (by omega)
   rw[Gb ah]at hm
   refine gE @hd ?_
   refine AP.cond rfl rfl (fun h5=>?_) (fun h5=>?_)
   ·have h5:dF (s.getD (i+1+k) 0)=true:=by
     rw[dF];simp only[Bool.and_eq_true,decide_eq_true_eq]at h5⊢;omega
    rw[if_pos h5]at hm
    refine gE @hw ?_
    refine AE.round (k+1) ⟨by omega,by rw[hm];simp only[Nat.add_assoc]⟩ (by omega) (sU) rfl
   ·have h5:dF (s.getD (i+1+k) 0)=false:=by
     rw[dF,<-Bool.not_eq_true];intro hc;rw[<-Bool.not_eq_true]at h5;apply h5
     simp only[Bool.and_eq_true,decide_eq_true_eq]at hc⊢;omega
    rw[if_neg (by rw[h5];decide)]at hm
    refine gO ?_
    have gQ:df (s.drop (i+1))=k:=hm
    have ek:i+1+k-(i+1)=k:=Nat.add_sub_cancel_left ..
    have mW:=yl (s.drop (i+1))
    rw[gQ]at mW
    have hV:pV s (i+1)=_:=pV.eq_def s (i+1)
    rw[gQ]at hV
    rw[ek]
    have qM:((s.drop (i+1)).take k).length<=1000000:=by rw[List.length_take,List.length_drop];omega
    obtain⟨d,kG⟩:∃d,(s.drop (i+1)).take k=d:=⟨_,rfl⟩
    rw[kG]at mW hV qM⊢
    obtain⟨ik,qR⟩:=JE mW
    have aZ:=Fo d (by omega)
    have gn:=Fm d
    rw[tn]at ik
    obtain⟨⟨n,ok⟩,hq⟩:∃q,gk d=q:=⟨_,rfl⟩
    rw[hq]at aZ gn ik qR
    simp only at aZ gn ik qR
    have hit:=C9 n gn
    cases ok with
    |false=>
     have bj:en d=false:=by rw[<-ik];rfl
     rw[bj,if_neg (by decide)]at hV
     refine AQ.fn (by kernel_rfl) rfl rfl rfl (aZ) rfl ?_
     refine sI ?_
     repeat(first|refine xA ?_|refine xB ?_|refine xC ?_|refine xE ?_|refine xD ?_|refine xK ?_|refine xS ?_|refine xM ?_|refine xT ?_|refine xF ?_|((first|refine xR ?_|refine xW ?_|refine fE ?_);simp only[go_sem,Nat.reduceAdd,Nat.reduceLeDiff,Nat.reduceSub,Int.reduceToNat,reduceCtorEq,lq])|(refine⟨by first|omega|(intros;simp_all;done)|(intros;simp_all;omega),?_⟩;try simp only[go_sem,Nat.reduceAdd,Nat.reduceLeDiff,Nat.reduceSub,Int.reduceToNat,reduceCtorEq,lq]))
     refine xI ?_;refine sI ?_
     refine gO ?_
     refine AQ.fu 0 _ rfl (pY _ _) ?_
     refine sI ?_
     refine AQ.panic rfl ?_
     exact cX.out [1] rfl rfl ⟨by rw[hT,hV],rfl,rfl⟩
    |true=>
     refine AQ.fn (by kernel_rfl) rfl rfl rfl (aZ) rfl ?_
     refine sI ?_
     repeat(first|refine xA ?_|refine xB ?_|refine xC ?_|refine xE ?_|refine xD ?_|refine xK ?_|refine xS ?_|refine xM ?_|refine xT ?_|refine xF ?_|((first|refine xR ?_|refine xW ?_|refine fE ?_);simp only[go_sem,Nat.reduceAdd,Nat.reduceLeDiff,Nat.reduceSub,Int.reduceToNat,reduceCtorEq,lq])|(refine⟨by first|omega|(intros;simp_all;done)|(intros;simp_all;omega),?_⟩;try simp only[go_sem,Nat.reduceAdd,Nat.reduceLeDiff,Nat.reduceSub,Int.reduceToNat,reduceCtorEq,lq]))
     refine AQ.lu (by kernel_rfl) rfl rfl (fun h=>by first|(simp[gs,AV.g];done)|(simp[gs,AV.g,bH];done)|(simp[gs,AV.g,bH,bw]at h⊢;done)|(simp[gs,AV.g,bH,bw]at h⊢;exact h)|(simp[gs,AV.g,bH,bw]at h⊢;simp[h];done)|(simp[bw]at h;done)|(simp[gs,AV.g,bw]at h⊢;simp[h];done)|(simp[gs,AV.g,bw]at h⊢;exact h.1)|(simp[gs,AV.g];rfl)|(simp[gs,AV.g,bw]at h⊢;rfl)|(simp[gs,AV.g,bw]at h⊢;simp[h];rfl)|(simp[gs,AV.g,bw]at h⊢;simp_all)) rfl (fun _=>hit) rfl ?_
     refine sI ?_
     refine gO ?_
     refine AP.cond rfl rfl (fun h6=>?_) (fun h6=>?_)
     ·have bj:en d=false:=by
       rw[<-ik]
       by_cases h7:9<d.length
       ·rw[decide_eq_true h7];rfl
       ·rw[decide_eq_false h7]
        have h8:¬Lib.itoa n=d:=fun e=>by rw[e]at h6;simp at h6;omega
        rw[show(Lib.itoa n==d)=false by simpa using h8];rfl
      rw[bj,if_neg (by decide)]at hV
      refine gO ?_
      refine xI ?_;refine sI ?_
      refine gO ?_
      refine AQ.fu 0 _ rfl (pY _ _) ?_
      refine sI ?_
      refine AQ.panic rfl ?_
      exact cX.out [1] rfl rfl ⟨by rw[hT,hV],rfl,rfl⟩
     ·have vL:en d=true:=by
       rw[<-ik]
       have h7:¬9<d.length/\Lib.itoa n=d:=by simp at h6;exact⟨by omega,h6.2⟩
       rw[decide_eq_false h7.1,h7.2];simp
      have pM:=qR vL
      rw[vL,if_pos rfl]at hV
      subst pM
      refine gO ?_
      exact AE.aV [1] rfl ⟨⟨rfl,Nat.le_of_ble_eq_true (by kernel_rfl)⟩,trivial⟩ rfl ⟨_,_,by rw[hT,hV],.inr ⟨rfl,rfl⟩,rfl⟩
  ·have hd:decide (((i+1+k:Nat):Int)<(s.length:Int))=false:=decide_eq_false (by omega)
   have hm:df (s.drop (i+1))=k:=by rw[hm,List.drop_eq_nil_of_le (by omega),df];rfl
   refine gE @hd ?_
   have gQ:df (s.drop (i+1))=k:=hm
   have ek:i+1+k-(i+1)=k:=Nat.add_sub_cancel_left ..
   have mW:=yl (s.drop (i+1))
   rw[gQ]at mW
   have hV:pV s (i+1)=_:=pV.eq_def s (i+1)
   rw[gQ]at hV
   rw[ek]
   have qM:((s.drop (i+1)).take k).length<=1000000:=by rw[List.length_take,List.length_drop];omega
   obtain⟨d,kG⟩:∃d,(s.drop (i+1)).take k=d:=⟨_,rfl⟩
   rw[kG]at mW hV qM⊢
   obtain⟨ik,qR⟩:=JE mW
   have aZ:=Fo d (by omega)
   have gn:=Fm d
   rw[tn]at ik
   obtain⟨⟨n,ok⟩,hq⟩:∃q,gk d=q:=⟨_,rfl⟩
   rw[hq]at aZ gn ik qR
   simp only at aZ gn ik qR
   have hit:=C9 n gn
   cases ok with
   |false=>
    have bj:en d=false:=by rw[<-ik];rfl
    rw[bj,if_neg (by decide)]at hV
    refine AQ.fn (by kernel_rfl) rfl rfl rfl (aZ) rfl ?_
    refine sI ?_
    repeat(first|refine xA ?_|refine xB ?_|refine xC ?_|refine xE ?_|refine xD ?_|refine xK ?_|refine xS ?_|refine xM ?_|refine xT ?_|refine xF ?_|((first|refine xR ?_|refine xW ?_|refine fE ?_);simp only[go_sem,Nat.reduceAdd,Nat.reduceLeDiff,Nat.reduceSub,Int.reduceToNat,reduceCtorEq,lq])|(refine⟨by first|omega|(intros;simp_all;done)|(intros;simp_all;omega),?_⟩;try simp only[go_sem,Nat.reduceAdd,Nat.reduceLeDiff,Nat.reduceSub,Int.reduceToNat,reduceCtorEq,lq]))
    refine xI ?_;refine sI ?_
    refine gO ?_
    refine AQ.fu 0 _ rfl (pY _ _) ?_
    refine sI ?_
    refine AQ.panic rfl ?_
    exact cX.out [1] rfl rfl ⟨by rw[hT,hV],rfl,rfl⟩
   |true=>
    refine AQ.fn (by kernel_rfl) rfl rfl rfl (aZ) rfl ?_
    refine sI ?_
    repeat(first|refine xA ?_|refine xB ?_|refine xC ?_|refine xE ?_|refine xD ?_|refine xK ?_|refine xS ?_|refine xM ?_|refine xT ?_|refine xF ?_|((first|refine xR ?_|refine xW ?_|refine fE ?_);simp only[go_sem,Nat.reduceAdd,Nat.reduceLeDiff,Nat.reduceSub,Int.reduceToNat,reduceCtorEq,lq])|(refine⟨by first|omega|(intros;simp_all;done)|(intros;simp_all;omega),?_⟩;try simp only[go_sem,Nat.reduceAdd,Nat.reduceLeDiff,Nat.reduceSub,Int.reduceToNat,reduceCtorEq,lq]))
    refine AQ.lu (by kernel_rfl) rfl rfl (fun h=>by first|(simp[gs,AV.g];done)|(simp[gs,AV.g,bH];done)|(simp[gs,AV.g,bH,bw]at h⊢;done)|(simp[gs,AV.g,bH,bw]at h⊢;exact h)|(simp[gs,AV.g,bH,bw]at h⊢;simp[h];done)|(simp[bw]at h;done)|(simp[gs,AV.g,bw]at h⊢;simp[h];done)|(simp[gs,AV.g,bw]at h⊢;exact h.1)|(simp[gs,AV.g];rfl)|(simp[gs,AV.g,bw]at h⊢;rfl)|(simp[gs,AV.g,bw]at h⊢;simp[h];rfl)|(simp[gs,AV.g,bw]at h⊢;simp_all)) rfl (fun _=>hit) rfl ?_
    refine sI ?_
    refine gO ?_
    refine AP.cond rfl rfl (fun h6=>?_) (fun h6=>?_)
    ·have bj:en d=false:=by
      rw[<-ik]
      by_cases h7:9<d.length
      ·rw[decide_eq_true h7];rfl
      ·rw[decide_eq_false h7]
       have h8:¬Lib.itoa n=d:=fun e=>by rw[e]at h6;simp at h6;omega
       rw[show(Lib.itoa n==d)=false by simpa using h8];rfl
     rw[bj,if_neg (by decide)]at hV
     refine gO ?_
     refine xI ?_;refine sI ?_
     refine gO ?_
     refine AQ.fu 0 _ rfl (pY _ _) ?_
     refine sI ?_
     refine AQ.panic rfl ?_
     exact cX.out [1] rfl rfl ⟨by rw[hT,hV],rfl,rfl⟩
    ·have vL:en d=true:=by
      rw[<-ik]
      have h7:¬9<d.length/\Lib.itoa n=d:=by simp at h6;exact⟨by omega,h6.2⟩
      rw[decide_eq_false h7.1,h7.2];simp
     have pM:=qR vL
     rw[vL,if_pos rfl]at hV
     subst pM
     refine gO ?_
     exact AE.aV [1] rfl ⟨⟨rfl,Nat.le_of_ble_eq_true (by kernel_rfl)⟩,trivial⟩ rfl ⟨_,_,by rw[hT,hV],.inr ⟨rfl,rfl⟩,rfl⟩
theorem wI (s:List UInt8) (hs:s.length<=1000000):∀(f i:Nat),i<=s.length->s.length<f+i->c7 Tryz.prog 159 [.ob 0 0] (gD s i) (RT s f i) (XT s f i)
 |0,i,hi,hf=>by omega
 |f+1,i,hi,hf=>Tv s hs f i hi fun i' h1 h2=>Kf s hs f i' h2 (by omega) fun f' Q6 h3 h4 h5=>wI s hs f' Q6 h4 h5
termination_by f=>f
decreasing_by omega
theorem Tg (s:List UInt8) (hs:s.length<=1000000) (f i:Nat) (hi:i<=s.length) (hf:s.length<f+i):c7 Tryz.prog 158 [.ob 0 0] (gD s i) (RA s f i) (XA s f i):=
 Kf s hs f i hi hf fun f' i' _ h4 h5=>wI s hs f' i' h4 h5
def RL (s:List UInt8) (i:Nat) (r:AV) (H':aa):Prop:=∃l j,pL s i=some (l,j)/\r=fc l/\H'=gD s j
def XL (s:List UInt8) (i:Nat) (r:AV) (H':aa):Prop:=pL s i=none/\r=wj/\H'=zT
theorem Kg (s:List UInt8) (hs:s.length<=1000000) (i:Nat) (hi:i<=s.length):c7 Tryz.prog 82 [.ob 0 0] (gD s i) (RL s i) (XL s i):=by
 have hL:pL s i=_:=pL.eq_def s i
 have he:=pg s [126] i hi hs (by simp)
 refine c7.walk [0,2,3,4,6,8,19,20,21,22,28,39] [2,4,6] Tryz.func82 rfl Tryz.ntmps82 (by kernel_rfl) (by rfl) rfl fun W own I0 ax lay=>?_
 refine gO ?_
 refine AQ.bN [(0,0)] (by kernel_rfl) rfl rfl rfl rfl rfl rfl (by exact⟨rfl,trivial⟩) rfl (he) ?_;rintro r H1 ⟨rfl,rfl⟩;refine⟨rfl,?_⟩;refine sH ?_
 refine gO ?_
 refine AP.cond rfl rfl (fun h=>?_) (fun h=>?_)
 ·have h:bt s i [126]=true:=by simpa using h
  have hle:=iV h hi
  simp only[List.length_cons,List.length_nil]at hle
  rw[if_pos h]at hL
  rw[if_pos h]
  have hn:=Jn s (i+1) (by omega) hs
  refine gO ?_
  refine AQ.mb [(0,0)] (by kernel_rfl) rfl rfl rfl rfl rfl rfl (by exact⟨rfl,trivial⟩) rfl (hn) ?_ ?_
  ·rintro r H' ⟨hp,rfl,rfl⟩
   rw[if_pos hp]at hL
   refine⟨rfl,?_⟩;refine sH ?_
   exact cX.out [1] rfl rfl ⟨hL,rfl,rfl⟩
  ·rintro r H' ⟨hp,rfl,rfl⟩
   rw[if_neg hp]at hL
   have e7:=wm true (s.drop (i+1))
   rw[List.length_drop]at e7
   have eA:=Tg s hs (s.length+1) (i+1+b6 true (s.drop (i+1))) (by omega) (by omega)
   refine⟨rfl,?_⟩;refine sH ?_
   refine AQ.go (by kernel_rfl) ?_
   refine sI ?_
   refine gO ?_
   refine AQ.mb [(0,0)] (by kernel_rfl) rfl rfl rfl rfl rfl rfl (by exact⟨rfl,trivial⟩) rfl (eA) ?_ ?_
   ·rintro r H' ⟨hp,rfl,rfl⟩
    rw[hp]at hL
    refine⟨rfl,?_⟩;refine sH ?_
    exact cX.out [1] rfl rfl ⟨hL,rfl,rfl⟩
   ·rintro r H' ⟨l,k,hp,rfl,rfl⟩
    rw[hp]at hL
    refine⟨rfl,?_⟩;refine sH ?_
    refine AQ.go (by kernel_rfl) ?_
    refine sI ?_
    refine gO ?_
    exact AE.aV [1] rfl ⟨⟨rfl,Nat.le_of_ble_eq_true (by kernel_rfl)⟩,trivial⟩ rfl ⟨_,k,hL,rfl,rfl⟩
 ·have h:bt s i [126]=false:=by simpa using h
  rw[h,if_neg (by decide)]at hL
  rw[h,if_neg (by decide)]
  have ht:=wI s hs (s.length+1) i hi (by omega)
  refine gO ?_
  refine AQ.mb [(0,0)] (by kernel_rfl) rfl rfl rfl rfl rfl rfl (by exact⟨rfl,trivial⟩) rfl (ht) ?_ ?_
  ·rintro r H' ⟨hp,rfl,rfl⟩
   rw[hp]at hL
   refine⟨rfl,?_⟩;refine sH ?_
   exact cX.out [1] rfl rfl ⟨hL,rfl,rfl⟩
  ·rintro r H' ⟨t,j,hp,rfl,rfl⟩
   have fP:=nA hp
   rw[hp]at hL
   simp only at hL
   refine⟨rfl,?_⟩;refine sH ?_
   refine AQ.go (by kernel_rfl) ?_
   refine sI ?_
   refine gO ?_
   have ow:([[IV.v (Value.string (BA [32,61,32])),IV.v (Value.bool false)],[IV.v (Value.string (BA [32,33,61,32])),IV.v (Value.bool true)]]:List (List IV)).getD 0 []=[Si [32,61,32],Bi false]:=rfl
   have sM:([[IV.v (Value.string (BA [32,61,32])),IV.v (Value.bool false)],[IV.v (Value.string (BA [32,33,61,32])),IV.v (Value.bool true)]]:List (List IV)).getD 1 []=[Si [32,33,61,32],Bi true]:=rfl
   refine AP.loop rfl (α:=Nat) (fun k=>[(0,.ob 0 0),(2,.ob 1 0),(4,.ob 2 0),(19,.im (.sl 2 [[.v (.string (BA [32,61,32])),.v (.bool false)],[.v (.string (BA [32,33,61,32])),.v (.bool true)]])),(20,Iv 2),(21,Iv k)]) (fun _=>(2,.var 71 [Sv t.nm,Iv t.ix,.im (.sl 3 (aw t.xs))])::(1,.var 119 [Bv false,Sv [],dm])::gD s j) (fun k=>k<=2/\(0<k->bt s j [32,61,32]=false)/\(1<k->bt s j [32,33,61,32]=false)) (fun k=>2-k) 0 ⟨by omega,by omega,by omega⟩ (sU) rfl fun k ⟨hk,k1,k2⟩=>?_
   obtain rfl|rfl|rfl:k=0\/k=1\/k=2:=by omega
   ·have he:=pg s [32,61,32] j fP.2.2 hs (by simp)
    refine gE (an @ow (an @List.length_cons.{0} @List.length_nil.{0})) ?_
    refine AQ.fix 3 rfl rfl ?_
    refine sI ?_
    refine AQ.bN [(0,0)] (by kernel_rfl) rfl rfl rfl rfl rfl rfl (by exact⟨rfl,trivial⟩) rfl (he) ?_;rintro r H1 ⟨rfl,rfl⟩;refine⟨rfl,?_⟩;refine sH ?_
    refine gO ?_
    refine AP.cond rfl rfl (fun h1=>?_) (fun h1=>?_)
    ·have h1:bt s j [32,61,32]=true:=by simpa using h1
     have hle:=iV h1 fP.2.2
     simp only[List.length_cons,List.length_nil]at hle
     rw[if_pos h1]at hL
     rw[if_pos h1]
     have it:=wI s hs (s.length+1) (j+3) (by omega) (by omega)
     refine gO ?_
     refine AP.bC 8 (Tree.node [] [0,1,2,3] [4] [Tree.node [0,1,2] [] [5] [Tree.node [0,1] [6] [7] [Tree.node [] [] [] []]]]) (by kernel_rfl) rfl (by kernel_rfl) (by kernel_rfl) ?_
     refine bA ?_
     refine sI ?_
     refine AQ.mb [(0,0)] (by kernel_rfl) rfl rfl rfl rfl rfl rfl (by exact⟨rfl,trivial⟩) rfl (it) ?_ ?_
     ·rintro r H' ⟨aP,rfl,rfl⟩
      rw[aP]at hL
      refine⟨rfl,?_⟩;refine sH ?_
      exact cX.JU [2,1] rfl rfl rfl ⟨hL,rfl,rfl⟩
     ·rintro r H' ⟨u,k,aP,rfl,rfl⟩
      rw[aP]at hL
      refine⟨rfl,?_⟩;refine sH ?_
      refine AQ.nx rfl ?_
      refine sI ?_
      refine AQ.go (by kernel_rfl) ?_
      refine sI ?_
      refine AQ.nx rfl ?_
      refine sI ?_
      refine AQ.go (by kernel_rfl) ?_
      refine sI ?_
      refine AQ.nx rfl ?_
      refine sI ?_
      refine AQ.done ?_
      refine gO ?_
      exact AE.aV [2,1] rfl ⟨⟨rfl,Nat.le_of_ble_eq_true (by kernel_rfl)⟩,trivial⟩ rfl ⟨_,k,hL,by simp only[fc,aw,lX];rfl,rfl⟩
    ·have h1:bt s j [32,61,32]=false:=by simpa using h1
     rw[h1,if_neg (by decide)]
     refine gO ?_
     exact AE.round 1 ⟨by omega,by omega⟩ (by omega) (sU) rfl
   ·have he:=pg s [32,33,61,32] j fP.2.2 hs (by simp)
    refine gE (an @sM (an @List.length_cons.{0} @List.length_nil.{0})) ?_
    refine AQ.fix 3 rfl rfl ?_
    refine sI ?_
    refine AQ.bN [(0,0)] (by kernel_rfl) rfl rfl rfl rfl rfl rfl (by exact⟨rfl,trivial⟩) rfl (he) ?_;rintro r H1 ⟨rfl,rfl⟩;refine⟨rfl,?_⟩;refine sH ?_
    refine gO ?_
    refine AP.cond rfl rfl (fun h1=>?_) (fun h1=>?_)
    ·have h1:bt s j [32,33,61,32]=true:=by simpa using h1
     have hle:=iV h1 fP.2.2
     simp only[List.length_cons,List.length_nil]at hle
     rw[if_neg (by rw[k1 (by omega)];decide),if_pos h1]at hL
     rw[if_pos h1]
     have it:=wI s hs (s.length+1) (j+4) (by omega) (by omega)
     refine gO ?_
     refine AP.bC 8 (Tree.node [] [0,1,2,3] [4] [Tree.node [0,1,2] [] [5] [Tree.node [0,1] [6] [7] [Tree.node [] [] [] []]]]) (by kernel_rfl) rfl (by kernel_rfl) (by kernel_rfl) ?_
     refine bA ?_
     refine sI ?_
     refine AQ.mb [(0,0)] (by kernel_rfl) rfl rfl rfl rfl rfl rfl (by exact⟨rfl,trivial⟩) rfl (it) ?_ ?_
     ·rintro r H' ⟨aP,rfl,rfl⟩
      rw[aP]at hL
      refine⟨rfl,?_⟩;refine sH ?_
      exact cX.JU [2,1] rfl rfl rfl ⟨hL,rfl,rfl⟩
     ·rintro r H' ⟨u,k,aP,rfl,rfl⟩
      rw[aP]at hL
      refine⟨rfl,?_⟩;refine sH ?_
      refine AQ.nx rfl ?_
      refine sI ?_
      refine AQ.go (by kernel_rfl) ?_
      refine sI ?_
      refine AQ.nx rfl ?_
      refine sI ?_
      refine AQ.go (by kernel_rfl) ?_
      refine sI ?_
      refine AQ.nx rfl ?_
      refine sI ?_
      refine AQ.done ?_
      refine gO ?_
      exact AE.aV [2,1] rfl ⟨⟨rfl,Nat.le_of_ble_eq_true (by kernel_rfl)⟩,trivial⟩ rfl ⟨_,k,hL,by simp only[fc,aw,lX];rfl,rfl⟩
    ·have h1:bt s j [32,33,61,32]=false:=by simpa using h1
     rw[h1,if_neg (by decide)]
     refine gO ?_
     exact AE.round 2 ⟨by omega,fun _=>k1 (by omega)⟩ (by omega) (sU) rfl
   ·rw[if_neg (by rw[k1 (by omega)];decide),if_neg (by rw[k2 (by omega)];decide)]at hL
    refine gO ?_
    refine AP.cond rfl rfl (fun h3=>?_) (fun h3=>?_)
    ·rw[if_pos (by simpa using h3)]at hL
     refine gO ?_;refine xI ?_;refine sI ?_;refine gO ?_;refine AQ.fu 0 _ rfl (pY _ _) ?_;refine sI ?_;refine AQ.panic rfl ?_
     exact cX.out [2,1] rfl rfl ⟨hL,rfl,rfl⟩
    ·rw[if_neg (by simpa using h3)]at hL
     refine gO ?_
     exact AE.aV [2,1] rfl ⟨⟨rfl,Nat.le_of_ble_eq_true (by kernel_rfl)⟩,trivial⟩ rfl ⟨_,j,hL,rfl,rfl⟩
abbrev oQ (a:AV) (e:Int):aa:=[(1,.var 30 [Iv e]),(0,.var 27 [a])]
theorem DX (x:IV) (e:Int):l5 Tryz.prog 81 [.ob 0 0,.ob 1 0] (oQ (.im x) e) none (fun H'=>H'=oQ (.im x) e):=by
 refine l5.walk [0,1,2,3,4,7,14] [3] Tryz.func81 rfl Tryz.ntmps81 ⟨rfl,rfl,rfl⟩ ⟨rfl,rfl,rfl⟩ rfl (by kernel_rfl) (by rfl) rfl fun W own I0 ax lay=>?_
 simp only[go_sem,Nat.reduceAdd,Nat.reduceLeDiff,Nat.reduceSub,Int.reduceToNat,reduceCtorEq,p_]
 refine gO ?_
 exact AE.Ke [] (.inr rfl) rfl rfl trivial rfl rfl
theorem JZ (e:Int):l5 Tryz.prog 81 [.ob 0 0,.ob 1 0] (oQ .top e) (some wj) (fun H'=>H'=oQ (.im (.sl 3 [])) 2):=by
 refine l5.walk [0,1,2,3,4,7,14] [3] Tryz.func81 rfl Tryz.ntmps81 ⟨rfl,rfl,rfl⟩ ⟨rfl,rfl,rfl⟩ rfl (by kernel_rfl) (by rfl) rfl fun W own I0 ax lay=>?_
 simp only[go_sem,Nat.reduceAdd,Nat.reduceLeDiff,Nat.reduceSub,Int.reduceToNat,reduceCtorEq,p_]
 refine gO ?_
 refine AQ.MQ (by kernel_rfl) rfl rfl ?_;refine sI ?_
 refine gO ?_
 refine AE.fu 0 [.im (.sl 3 [])] rfl (bO.nil (bO.refl _)) ?_
 refine sI ?_
 exact AE.Ke [2] (.inr rfl) rfl rfl trivial rfl rfl
def l6 (s:List UInt8) (g j:Nat):Option (List Lt):=if bt s j [32,124,32]then pS s g (j+3)else if j<s.length then none else some []
def nB (a:List Lt):Option (List Lt)->Option (List Lt)
 |none=>none
 |some l=>some (a++l)
theorem zM (s:List UInt8) (f i:Nat):pS s (f+1) i=match pL s i with
  |none=>none
  |some (l,j)=>nB [l] (l6 s f j):=by
 rw[pS]
 cases pL s i with
 |none=>rfl
 |some x=>
  obtain⟨l,j⟩:=x
  simp only[l6]
  split
  ·cases pS s f (j+3)<;>rfl
  ·split<;>rfl
def jO (s:List UInt8):Int:=if 40000<s.length then 15 else match pC s with
 |none=>2
 |some c=>bl 4 9 2 3 c
def jf (s:List UInt8):List Lt:=if 40000<s.length then[]else match pC s with
 |none=>[]
 |some c=>if bl 4 9 2 3 c≠0 then[]else c
theorem cX.fu {C:Cx} {r:AV} {K:List PK} {E:Env} {H:aa} (b:Nat) (cs':List AV) {s:Sh} {cs:List AV} (hl:lk H b=some (.var s cs)) (hc:bO cs cs') (h:cX C r K E (bK H b (.var s cs'))):cX C r K E H:=by
 unfold cX at h⊢
 exact fun φ I a w v hs hd=>h _ _ _ _ _ ⟨hs.bI,hs.bJ,hs.env,hs.st.fu hl hc⟩ hd
theorem IE (a:AV):bO [a] [.top]:=fun w φ I us h=>by
 simp only[AV.ab,AV.den]at h⊢
 obtain⟨u1,qg,rfl,_,rfl⟩:=h
 exact⟨_,_,rfl,trivial,rfl⟩
theorem S1 (s:List UInt8) (hs:s.length<=1000000) (cB:∀c,pC s=some c->cG c):c7 Tryz.prog 19 [Sv s] [] (fun r H'=>H'=[]/\r= .aD [aJ (jf s),Iv (jO s)]) (fun _ _=>False):=by
 have hE:jO s=_:=jO.eq_def s
 have hR:jf s=_:=jf.eq_def s
 refine c7.UN [0,2,3,4,5,8,10,11,19,31,35] [2,3,4,14,17] Tryz.func19 rfl Tryz.ntmps19 (by kernel_rfl) (by rfl) rfl fun W own I0 ax lay=>?_
 refine gO ?_
 refine AP.cond rfl rfl (fun h=>?_) (fun h=>?_)
 ·rw[if_pos (by simp at h;omega)]at hE hR
  refine gO ?_
  refine AE.fu 0 [.im (.sl 3 [])] rfl (bO.nil (bO.refl _)) ?_
  refine sI ?_
  exact AE.IF (.inl rfl) rfl<|LV.aV [1,0] rfl ⟨⟨rfl,Nat.le_of_ble_eq_true (by kernel_rfl)⟩,⟨rfl,Nat.le_of_ble_eq_true (by kernel_rfl)⟩,trivial⟩ rfl ⟨rfl,by rw[hE,hR];rfl⟩
 rw[if_neg (by simp at h;omega)]at hE hR
 refine gO ?_
 refine AP.cond rfl rfl (fun h1=>?_) (fun h1=>?_)
 ·have h1:s=[91,93]:=by simpa using h1
  have hC:pC s=some []:=by rw[pC,if_pos h1]
  rw[hC]at hE hR
  have e0:bl 4 9 2 3 []=0:=by decide
  simp only[e0]at hE hR
  refine gO ?_
  refine AE.fu 0 [.im (.sl 3 [])] rfl (bO.nil (bO.refl _)) ?_
  refine sI ?_
  exact AE.IF (.inl rfl) rfl<|LV.aV [1,0] rfl ⟨⟨rfl,Nat.le_of_ble_eq_true (by kernel_rfl)⟩,⟨rfl,Nat.le_of_ble_eq_true (by kernel_rfl)⟩,trivial⟩ rfl ⟨rfl,by rw[hE,hR];rfl⟩
 ·have h1:¬s=[91,93]:=by simpa using h1
  have hC:pC s=pS s (s.length+1) 0:=by rw[pC,if_neg h1]
  rw[zM]at hC
  refine sI ?_
  refine xA ?_
  refine AP.Td rfl rfl ?_
  refine AQ.OC (by kernel_rfl) rfl rfl ?_ ?_
  ·simp only[go_sem]
   done
  refine sI ?_
  refine AQ.defer rfl rfl rfl fun u=>?_
  refine sI ?_
  refine gO ?_
  refine AQ.mb [(0,2)] (by kernel_rfl) rfl rfl rfl rfl rfl rfl (by exact⟨rfl,trivial⟩) rfl (Kg s hs 0 (by omega)) ?_ ?_
  ·rintro r H' ⟨hp,rfl,rfl⟩
   rw[hp]at hC
   rw[hC]at hE hR
   simp only at hE hR
   refine⟨rfl,?_⟩;refine sH ?_
   refine cX.fu 0 _ rfl (IE _) ?_
   refine sI ?_
   refine cX.s6 [(1,1),(0,0)] (K':=[_]) (t:=11) (Hc:=oQ .top 0) rfl rfl rfl rfl rfl (by exact⟨rfl,rfl,trivial⟩) rfl (JZ _) rfl ?_ rfl
   rintro H1 rfl
   refine⟨rfl,?_⟩
   refine sH ?_
   exact LV.aV [2,1,0] rfl ⟨⟨rfl,Nat.le_of_ble_eq_true (by kernel_rfl)⟩,⟨rfl,Nat.le_of_ble_eq_true (by kernel_rfl)⟩,trivial⟩ rfl ⟨rfl,by rw[hE,hR];rfl⟩
  ·rintro r H' ⟨x,j,hp,rfl,rfl⟩
   rw[hp]at hC
   simp only at hC
   refine⟨rfl,?_⟩;refine sH ?_
   refine AQ.go (by kernel_rfl) ?_
   refine sI ?_
   refine gO ?_
   have Ht:=DT hp
   have uQ:pC s=nB [x] (l6 s s.length j):=hC
   refine AP.loop rfl (α:=List Lt×Nat×Nat) (fun z=>[(0,Sv s),(2,.ob 0 0),(3,.ob 1 0),(4,.ob 2 0),(11,.wr (.exact u) (.fn 81 [] [.ob 0 0,.ob 1 0]))]) (fun z=>[(3,.vec 119 3 (aF z.1)),(2,.var 135 [Sv s,Iv z.2.1]),(1,.var 30 [Iv 0]),(0,.var 27 [.os 3 3 0 z.1.length])]) (fun z=>z.1.length<=z.2.1/\z.2.1<=s.length/\s.length<z.2.2+z.2.1/\pC s=nB z.1 (l6 s z.2.2 z.2.1)) (fun z=>s.length-z.2.1) ([x],j,s.length) ⟨by simp only[List.length_singleton];omega,by simp only;omega,by simp only;omega,uQ⟩ (sU) rfl fun⟨a,j,g⟩ ⟨z1,z2,z3,z4⟩=>?_
   simp only at z1 z2 z3 z4⊢
   clear hC uQ Ht hp
   have he:=pg s [32,124,32] j z2 hs (by simp)
   rw[l6]at z4
   refine gO ?_
   refine AQ.bN [(0,2)] (by kernel_rfl) rfl rfl rfl rfl rfl rfl (by exact⟨rfl,trivial⟩) rfl he ?_
   rintro r H1 ⟨rfl,rfl⟩
   refine⟨rfl,?_⟩
   refine sH ?_
   refine gO ?_
   refine AP.cond rfl rfl (fun h2=>?_) (fun h2=>?_)
   ·have h2:bt s j [32,124,32]=true:=by simpa using h2
    have hle:=iV h2 z2
    simp only[List.length_cons,List.length_nil]at hle
    obtain⟨g,rfl⟩:∃q,g=q+1:=⟨g-1,by omega⟩
    rw[if_pos h2,zM]at z4
    rw[if_pos h2]
    refine gO ?_
    refine AP.bC 6 (Tree.node [] [0,1] [2] [Tree.node [0] [] [3] [Tree.node [0] [] [4] [Tree.node [] [] [5] [Tree.node [] [] [] []]]]]) (by kernel_rfl) rfl (by kernel_rfl) (by kernel_rfl) ?_
    refine bA ?_
    refine sI ?_
    refine AQ.mb [(0,2)] (by kernel_rfl) rfl rfl rfl rfl rfl rfl (by exact⟨rfl,trivial⟩) rfl (Kg s hs (j+3) (by omega)) ?_ ?_
    ·rintro r H' ⟨hp,rfl,rfl⟩
     rw[hp]at z4
     rw[z4]at hE hR
     simp only[nB]at hE hR
     refine⟨rfl,?_⟩;refine sH ?_
     refine cX.draw [2,3,11] rfl (by kernel_rfl) ?_
     refine sI ?_
     refine cX.fu 0 _ rfl (IE _) ?_
     refine sI ?_
     refine cX.s6 [(1,1),(0,0)] (K':=[_,_,_,_]) (t:=11) (Hc:=oQ .top 0) rfl rfl rfl rfl rfl (by exact⟨rfl,rfl,trivial⟩) rfl (JZ _) rfl ?_ rfl
     rintro H1 rfl
     refine⟨rfl,?_⟩
     refine sH ?_
     exact LV.aV [3,2,1,0] rfl ⟨⟨rfl,Nat.le_of_ble_eq_true (by kernel_rfl)⟩,⟨rfl,Nat.le_of_ble_eq_true (by kernel_rfl)⟩,trivial⟩ rfl ⟨rfl,by rw[hE,hR];rfl⟩
    ·rintro r H' ⟨y,k,hp,rfl,rfl⟩
     rw[hp]at z4
     simp only at z4
     have Ht:=DT hp
     refine⟨rfl,?_⟩;refine sH ?_
     refine AQ.nx rfl ?_
     refine sI ?_
     refine AQ.go (by kernel_rfl) ?_
     refine sI ?_
     refine AQ.nx rfl ?_
     refine sI ?_
     refine AQ.kill 3 ?_
     refine sI ?_
     refine AQ.append (hnb:=rfl) (rows:=aF a) (es:=2) (by kernel_rfl) rfl rfl rfl (by rfl) Tryz.Ah Tryz.Ad (by show Option.map _ (aC Tryz.prog 119)=_;rw[Tryz.Ay];rfl) Tryz.x6 (by first|rfl|(simp only[ae,List.length_cons,List.length_nil];done)|(simp only[ae,List.length_cons,List.length_nil];omega)) (by simp only[ae,List.length_cons,List.length_nil];omega) (by simp only[ae,List.length_cons,List.length_nil];omega) ?_
     refine sI ?_
     refine AQ.nx rfl ?_
     refine sI ?_
     refine AQ.go (by kernel_rfl) ?_
     refine sI ?_
     refine AQ.nx rfl ?_
     refine sI ?_
     refine AQ.done ?_
     refine gO ?_
     refine AE.round (a++[y],k,g) ⟨by simp only[List.length_append,List.length_singleton];omega,by simp only;omega,by simp only;omega,?_⟩ (by simp only;omega) (sU) ?_
     ·simp only
      rw[z4]
      cases l6 s g k with
      |none=>rfl
      |some q=>simp[nB]
     ·simp only[tc,List.length_append,List.length_singleton,ae]
   ·have h2:¬bt s j [32,124,32]=true:=by simpa using h2
    rw[if_neg h2]at z4
    rw[if_neg h2]
    refine gO ?_
    refine AP.cond rfl rfl (fun h3=>?_) (fun h3=>?_)
    ·rw[if_pos (by simp at h3;omega)]at z4
     rw[z4]at hE hR
     simp only[nB]at hE hR
     refine gO ?_
     refine AE.fu 0 [.im (.sl 3 [])] rfl (bO.nil (bO.refl _)) ?_
     refine sI ?_
     refine AE.s6 [(1,1),(0,0)] (t:=11) (Hc:=oQ (.im (.sl 3 [])) 2) (.inl rfl) rfl rfl rfl rfl rfl (by exact⟨rfl,rfl,trivial⟩) rfl (DX _ _) ?_
     rintro H1 rfl
     refine⟨rfl,?_⟩
     refine sH ?_
     exact LV.aV [3,2,1,0] rfl ⟨⟨rfl,Nat.le_of_ble_eq_true (by kernel_rfl)⟩,⟨rfl,Nat.le_of_ble_eq_true (by kernel_rfl)⟩,trivial⟩ rfl ⟨rfl,by rw[hE,hR];rfl⟩
    ·rw[if_neg (by simp at h3;omega)]at z4
     rw[z4]at hE hR
     simp only[nB,List.append_nil]at hE hR z4
     have sf:=cB a z4
     refine gO ?_
     refine AQ.freeze 3 (el:=119) (es:=3) (rows:=aF a) rfl (by simp only[go_sem,Nat.reduceAdd,Nat.reduceLeDiff,Nat.reduceSub,Int.reduceToNat,reduceCtorEq,ae];first|done|trivial|omega|(simp;done)|(simp;omega)) (by simp only[go_sem,Nat.reduceAdd,Nat.reduceLeDiff,Nat.reduceSub,Int.reduceToNat,reduceCtorEq,ae];first|done|trivial|omega|(simp;done)|(simp;omega)) ?_;simp only[go_sem,Nat.reduceAdd,Nat.reduceLeDiff,Nat.reduceSub,Int.reduceToNat,reduceCtorEq,ae]
     rw[List.take_of_length_le (by rw[ae];exact Nat.le_refl _)]
     refine AQ.fn (by kernel_rfl) rfl rfl rfl (nR a sf) rfl ?_
     refine sI ?_
     refine gO ?_
     refine AP.cond rfl rfl (fun h4=>?_) (fun h4=>?_)
     ·have h4:bl 4 9 2 3 a≠0:=by simpa using h4
      rw[if_pos h4]at hR
      refine gO ?_
      refine AE.fu 0 [.im (.sl 3 [])] rfl (bO.nil (bO.refl _)) ?_
      refine sI ?_
      refine AE.s6 [(1,1),(0,0)] (t:=11) (Hc:=oQ (.im (.sl 3 [])) (bl 4 9 2 3 a)) (.inl rfl) rfl rfl rfl rfl rfl (by exact⟨rfl,rfl,trivial⟩) rfl (DX _ _) ?_
      rintro H1 rfl
      refine⟨rfl,?_⟩
      refine sH ?_
      exact LV.aV [2,1,0] rfl ⟨⟨rfl,Nat.le_of_ble_eq_true (by kernel_rfl)⟩,⟨rfl,Nat.le_of_ble_eq_true (by kernel_rfl)⟩,trivial⟩ rfl ⟨rfl,by rw[hE,hR];rfl⟩
     ·have h4:¬bl 4 9 2 3 a≠0:=by simpa using h4
      have h5:bl 4 9 2 3 a=0:=by simpa using h4
      rw[if_neg h4]at hR
      refine gO ?_
      refine AE.s6 [(1,1),(0,0)] (t:=11) (Hc:=oQ (.im (.sl 3 (aF a))) 0) (.inl rfl) rfl rfl rfl rfl rfl (by exact⟨rfl,rfl,trivial⟩) rfl (DX _ _) ?_
      rintro H1 rfl
      refine⟨rfl,?_⟩
      refine sH ?_
      exact LV.aV [2,1,0] rfl ⟨⟨rfl,Nat.le_of_ble_eq_true (by kernel_rfl)⟩,⟨rfl,Nat.le_of_ble_eq_true (by kernel_rfl)⟩,trivial⟩ rfl ⟨rfl,by rw[hE,hR,h5];rfl⟩
theorem Eo {l:List UInt8} {n i:Nat} {s:List UInt8} (h:l=s.drop i) (hs:s.length<=1000000):(l.take n).length<=1000000000:=by
 rw[List.length_take,h,List.length_drop];omega
theorem tv (s:List UInt8) (hs:s.length<=1000000):∀f,(∀i t j,pT s f i=some (t,j)->bz t)/\(∀i l j,pR s f i=some (l,j)->cf l/\l.length+i<=j)
 |0=>⟨fun i t j h=>(by rw[pT]at h;cases h),fun i l j h=>(by rw[pR]at h;cases h)⟩
 |f+1=>by
  obtain⟨Ik,Il⟩:=tv s hs f
  refine⟨fun i t j h=>?_,fun i l j h=>?_⟩
  ·rw[pT]at h
   split at h
   ·rw[pV]at h
    split at h
    ·cases h;rw[bz,cf];simp
    ·cases h
   ·split at h
    ·cases h
    ·split at h
     ·cases hq:pT s f (i+b6 true (s.drop i)+1)with
      |none=>rw[hq]at h;cases h
      |some x=>
       obtain⟨t1,j1⟩:=x
       rw[hq]at h
       simp only at h
       cases hr:pR s f j1 with
       |none=>rw[hr]at h;cases h
       |some y=>
        obtain⟨l1,k1⟩:=y
        rw[hr]at h
        cases h
        have h1:=Ik _ _ _ hq
        have h2:=Il _ _ _ hr
        have h3:=DU hr
        rw[bz,cf]
        exact⟨Eo rfl hs,by simp only[List.length_cons];omega,h1,h2.1⟩
     ·cases h
      rw[bz,cf]
      exact⟨Eo rfl hs,by simp,trivial⟩
  ·rw[pR]at h
   split at h
   ·cases hq:pT s f (i+2)with
    |none=>rw[hq]at h;cases h
    |some x=>
     obtain⟨t1,j1⟩:=x
     rw[hq]at h
     simp only at h
     cases hr:pR s f j1 with
     |none=>rw[hr]at h;cases h
     |some y=>
      obtain⟨l1,k1⟩:=y
      rw[hr]at h
      cases h
      have h1:=Ik _ _ _ hq
      have h2:=Il _ _ _ hr
      have h3:=nA hq
      rw[cf]
      exact⟨⟨h1,h2.1⟩,by simp only[List.length_cons];omega⟩
   ·split at h
    ·cases h;rw[cf];simp
    ·cases h
theorem SU {s:List UInt8} (hs:s.length<=1000000) {f i j:Nat} {l:List Tm} (h:pA s f i=some (l,j)):cf l/\l.length<=1000000000:=by
 rw[pA]at h
 split at h
 ·cases hq:pT s f (i+1)with
  |none=>rw[hq]at h;cases h
  |some x=>
   obtain⟨t1,j1⟩:=x
   rw[hq]at h
   simp only at h
   cases hr:pR s f j1 with
   |none=>rw[hr]at h;cases h
   |some y=>
    obtain⟨l1,k1⟩:=y
    rw[hr]at h
    cases h
    have h1:=(tv s hs f).1 _ _ _ hq
    have h2:=(tv s hs f).2 _ _ _ hr
    have h3:=DU hr
    rw[cf]
    exact⟨⟨h1,h2.1⟩,by simp only[List.length_cons];omega⟩
 ·cases h;rw[cf];simp
theorem SW {s:List UInt8} (hs:s.length<=1000000) {i j:Nat} {x:Lt} (h:pL s i=some (x,j)):gA x:=by
 rw[pL]at h
 split at h
 ·split at h
  ·cases h
  ·cases hq:pA s (s.length+1) (i+1+b6 true (s.drop (i+1)))with
   |none=>rw[hq]at h;cases h
   |some y=>
    obtain⟨l1,k1⟩:=y
    rw[hq]at h
    cases h
    have:=SU hs hq
    exact⟨Eo rfl hs,this.2,this.1⟩
 ·cases hq:pT s (s.length+1) i with
  |none=>rw[hq]at h;cases h
  |some y=>
   obtain⟨t1,k1⟩:=y
   rw[hq]at h
   simp only at h
   have h1:=(tv s hs _).1 _ _ _ hq
   split at h
   ·cases hr:pT s (s.length+1) (k1+3)with
    |none=>rw[hr]at h;cases h
    |some z=>
     obtain⟨t2,k2⟩:=z
     rw[hr]at h
     cases h
     have h2:=(tv s hs _).1 _ _ _ hr
     exact⟨by simp,by simp,by rw[cf,cf,cf];exact⟨h1,h2,trivial⟩⟩
   ·split at h
    ·cases hr:pT s (s.length+1) (k1+4)with
     |none=>rw[hr]at h;cases h
     |some z=>
      obtain⟨t2,k2⟩:=z
      rw[hr]at h
      cases h
      have h2:=(tv s hs _).1 _ _ _ hr
      exact⟨by simp,by simp,by rw[cf,cf,cf];exact⟨h1,h2,trivial⟩⟩
    ·split at h
     ·cases h
     ·cases h
      have:=eT.1 h1
      exact⟨this.1,this.2.1,this.2.2⟩
theorem JW {s:List UInt8} (hs:s.length<=1000000):∀(f i:Nat) (c:List Lt),pS s f i=some c->c.length<=f/\∀l∈c,gA l
 |0,i,c,h=>by rw[pS]at h;cases h
 |f+1,i,c,h=>by
  rw[pS]at h
  cases hq:pL s i with
  |none=>rw[hq]at h;cases h
  |some y=>
   obtain⟨x,j⟩:=y
   rw[hq]at h
   simp only at h
   have h1:=SW hs hq
   split at h
   ·cases hr:pS s f (j+3)with
    |none=>rw[hr]at h;cases h
    |some r=>
     rw[hr]at h
     cases h
     obtain⟨h2,h3⟩:=JW hs f _ _ hr
     refine⟨by simp only[List.length_cons];omega,fun l hl=>?_⟩
     rcases List.mem_cons.1 hl with rfl|hl
     ·exact h1
     ·exact h3 l hl
   ·split at h
    ·cases h
    ·cases h
     refine⟨by simp,fun l hl=>?_⟩
     rw[List.mem_singleton]at hl
     subst hl;exact h1
theorem DS {s:List UInt8} (hs:s.length<=1000000) {c:List Lt} (h:pC s=some c):cG c:=by
 rw[pC]at h
 split at h
 ·cases h;exact⟨by simp,fun l hl=>by cases hl⟩
 ·obtain⟨h1,h2⟩:=JW hs _ _ _ h
  exact⟨by omega,h2⟩
theorem JX {s:List UInt8} (hs:s.length<=1000000):cG (jf s):=by
 have h0:cG ([]:List Lt):=⟨by simp,fun l hl=>by cases hl⟩
 rw[jf]
 split
 ·exact h0
 ·cases hq:pC s with
  |none=>exact h0
  |some c=>
   simp only
   split
   ·exact h0
   ·exact DS hs hq
theorem J0 (s:List UInt8) (hs:s.length<=1000000):aI Tryz.prog 19 [Sv s] (.aD [aJ (jf s),Iv (jO s)]):=
 (S1 s hs fun c h=>DS hs h).Uf fun _ _ h=>h
def iu (c:List Lt):List Lt:=if bl 4 9 2 3 c≠0 then[]else gC c
theorem JD (N:Nat) (CP:∀l:List Lt,l.length<=N->ak Tryz.prog 90 [.os 0 4 0 l.length,.fn 91 [] []] (b8 l) (fun r H'=>r= .aD []/\H'=b8 (aR [] l))) (c:List Lt) (hN:c.length<=N) (hs:cG c):aI Tryz.prog 22 [aJ c] (.aD [aJ (iu c),Iv (bl 4 9 2 3 c)]):=by
 by_cases bD:bl 4 9 2 3 c=0
 ·rw[iu,if_neg (by simpa using bD),bD]
  exact Sq N CP c hN hs bD
 ·have hR:iu c=[]:=by rw[iu,if_pos bD]
  refine ak.DR ?_
  refine ak.walk [0,2,3,4,5,6,7,8,10,11,15,17,18,19,20,29,44,45,46,47] [7,10,11] Tryz.func22 rfl Tryz.ntmps22 (by kernel_rfl) (by rfl) rfl fun W own I0 ax lay=>?_
  refine gO ?_
  refine AQ.fn (by kernel_rfl) rfl rfl rfl (nR c hs) rfl ?_
  refine sI ?_
  refine gO ?_
  refine AP.cond rfl rfl (fun h=>?_) (fun h=>?_)
  ·refine gO ?_
   exact AE.ay rfl ⟨rfl,rfl,trivial⟩ rfl ⟨rfl,.inr ⟨hR,rfl⟩⟩
  ·exact absurd (by simpa using h) bD
def r3:List UInt8:=[80,40,63,53,41,32,124,32,126,81,40,63,51,41,32,124,32,80,40,63,53,41]
def pj:List Lt:=[⟨false,[80],[.mk [] 5 []]⟩,⟨true,[81],[.mk [] 3 []]⟩,⟨false,[80],[.mk [] 5 []]⟩]
def mh:List Lt:=[⟨false,[80],[.mk [] 0 []]⟩,⟨true,[81],[.mk [] 1 []]⟩]
def Gt:List UInt8:=[80,40,63,48,41,32,124,32,126,81,40,63,49,41]
theorem Gv:pC r3=some pj:=by kernel_rfl
theorem yq:bl 4 9 2 3 pj=0:=by kernel_rfl
theorem N3:gC pj=mh:=by kernel_rfl
theorem Gu:bl 4 9 2 3 mh=0:=by kernel_rfl
theorem FW {n:Nat} (h:n<10):Lib.itoa n=[UInt8.ofNat (48+n)]:=by
 rw[Lib.itoa,if_neg (by omega),Int.toNat_natCast,Lib.decDigits,dif_pos h]
theorem Gw:kq false mh=Gt:=by
 have h0:Lib.itoa 0=[48]:=FW (n:=0) (by decide)
 have h1:Lib.itoa 1=[49]:=FW (n:=1) (by decide)
 simp only[mh,kq,fD,jk,eU,dn,k8,h0,h1]
 rfl
theorem N4:uy (.mk [102] 0 [.mk [] 0 []]) (.mk [] 0 [])=(1,0):=by kernel_rfl
theorem AM:aI Tryz.prog 12 [] (Bv true):=by
 have hS:r3.length<=40000:=by decide
 have hp:=J0 r3 (by decide)
 have HK:jf r3=pj:=by rw[jf,if_neg (by omega),Gv];simp only[yq];rfl
 have Qh:jO r3=0:=by rw[jO,if_neg (by omega),Gv];exact yq
 rw[HK,Qh]at hp
 have cB:cG pj:=by have:=JX (s:=r3) (by decide);rw[HK]at this;exact this
 have hn:=JD 20 KW pj (by decide) cB
 have P3:iu pj=mh:=by rw[iu,yq,if_neg (by decide),N3]
 rw[P3,yq]at hn
 have yF:cG mh:=⟨by decide,fun l hl=>by
  simp only[mh,List.mem_cons,List.not_mem_nil,or_false]at hl
  rcases hl with rfl|rfl<;>exact⟨by decide,by decide,by simp[cf,bz]⟩⟩
 have ht:=Le mh yF
 have QC:oW mh=Gt:=by rw[oW,Gu,if_neg (by decide),Gw,if_neg (by decide)]
 have QB:oV mh=0:=by rw[oV,Gu,if_neg (by decide),Gw,if_neg (by decide)]
 rw[QC,QB]at ht
 have yW:=Mf (.mk [102] 0 [.mk [] 0 []]) (.mk [] 0 []) (by simp[bz,cf]) (by simp[bz,cf])
 rw[N4]at yW
 have m_:aI Tryz.prog 37 [.agg [Sv [102],Iv 0,.im (.sl 3 [[Si [],Ii 0,.sl 3 []]])],.agg [Sv [],Iv 0,.im (.sl 3 [])]] (.aD [Iv 1,Iv 0]):=yW
 have ho:=m_.uf (xs:=[.agg [Sv [102],Iv 0,.im (.sl 3 [[Si [],Ii 0,.v (.slice none 0 0)]])],.agg [Sv [],Iv 0,dm]]) (by repeat' (first|with_reducible exact bX.refl _|with_reducible exact da.refl _|exact da.nil _|with_reducible exact bO.refl _|with_reducible exact fp.refl _|with_reducible exact eI.refl _|refine bO.lj ?_ ?_|refine bX.agg ?_|refine bX.im ?_|refine da.sl ?_|refine eI.cons ?_ ?_|refine fp.cons ?_ ?_))
 have cp:aI Tryz.prog 19 [Sv [80,40,63,53,41,32,124,32,126,81,40,63,51,41,32,124,32,80,40,63,53,41]] (.aD [aJ pj,Iv 0]):=hp
 have pP:aI Tryz.prog 17 [aJ mh] (.aD [Sv [80,40,63,48,41,32,124,32,126,81,40,63,49,41],Iv 0]):=ht
 refine ak.walk [0,1,2,3,4,5,6,7,8] [] Tryz.func12 rfl Tryz.ntmps12 (by kernel_rfl) (by rfl) rfl fun W own I0 ax lay=>?_
 refine gO ?_
 refine AQ.fn (by kernel_rfl) rfl rfl rfl (cp) rfl ?_
 refine sI ?_
 refine gO ?_
 refine AQ.fn (by kernel_rfl) rfl rfl rfl (hn) rfl ?_
 refine sI ?_
 refine gO ?_
 refine AQ.fn (by kernel_rfl) rfl rfl rfl (pP) rfl ?_
 refine sI ?_
 refine gO ?_
 refine AQ.fn (by kernel_rfl) rfl rfl rfl (ho) rfl ?_
 refine sI ?_
 refine gO ?_
 exact AE.ay rfl ⟨rfl,trivial⟩ rfl ⟨rfl,rfl⟩
def Dy (l:Lt):Prop:=l.pd.length<=9223372036854775807/\l.xs.length<=9223372036854775807/\rH l.xs
def Nz (c:List Lt):Prop:=c.length<=9223372036854775807/\∀l∈c,Dy l
theorem Fg:∀c:List Lt,dc cy c c=true:=fun c=>(Ff c c).2 rfl
end Go.Proofs.YtpfohmboflcneaaGreatDoor
end
section
namespace Go.Proofs.YtpfohmboflcneaaGreatDoor
open Go Go.AL Go.RowKit
set_option maxRecDepth 100000
theorem Ex {P:Program} {n:Nat} {t e:TypeId} {xs:List IV} (ht:P.underlying t=some (.slice e)) (h:Typed P n t xs):∃rows m,n=m+1/\xs=[.sl (P.cellsOf e) rows]/\rows.length<=maxLen/\∀r∈rows,Typed P m e r:=by
 cases n with
 |zero=>exact h.elim
 |succ n=>
  simp only[Typed,ht]at h
  obtain⟨rows,h1,h2,h3⟩:=h
  exact⟨rows,n,rfl,h1,h2,h3⟩
theorem Lq {P:Program} {n:Nat} {t:TypeId} {fs:Array Field} {xs:List IV} (ht:P.underlying t=some (.struct fs)) (h:Typed P n t xs):
  ∃m,n=m+1/\xs.length=P.cellsOf t/\∀(i:Nat) (f:Field),fs.toList[i]?=some f->Typed P m f.type ((xs.drop f.offset).take (P.cellsOf f.type)):=by
 cases n with
 |zero=>exact h.elim
 |succ n=>
  simp only[Typed,ht]at h
  exact⟨n,rfl,h⟩
theorem Ei {n:Nat} {xs:List IV} (h:Typed Tryz.prog n 9 xs):∃l:List UInt8,xs=[Si l]/\l.length<=9223372036854775807:=by
 obtain⟨s,rfl,hs⟩:=Uq Tryz.underlying9 h
 refine⟨s.data.toList,congrArg (fun x=>[IV.v (Value.string x)]) (Me s),?_⟩
 have e:s.size=s.data.size:=rfl
 have e2:s.data.toList.length=s.data.size:=Array.length_toList
 unfold maxLen at hs
 omega
theorem Es:∀{l:List Tm},(∀t∈l,tM t)->rH l
 |[],_=>by rw[rH];trivial
 |t::l,h=>by rw[rH];exact⟨h t (List.mem_cons_self ..),Es fun u hu=>h u (List.mem_cons_of_mem _ hu)⟩
theorem Ud:∀(n:Nat) {xs:List IV},Typed Tryz.prog n 57 xs->∃t:Tm,xs=nF t/\tM t:=by
 intro n
 induction n using Nat.strongRecOn with
 |_ n ih=>
 intro xs h
 have hc:Tryz.prog.cellsOf 57=3:=by kernel_rfl
 have B2:Tryz.prog.cellsOf 9=1:=by kernel_rfl
 have Pj:Tryz.prog.cellsOf 3=1:=by kernel_rfl
 have B1:Tryz.prog.cellsOf 55=1:=by kernel_rfl
 obtain⟨m,rfl,hlen,hf⟩:=Lq Tryz.underlying57 h
 rw[hc]at hlen
 match xs,hlen with
 |[a,b,c],_=>
  have f0:=hf 0 _ rfl
  have f1:=hf 1 _ rfl
  have f2:=hf 2 _ rfl
  simp only[B2,Pj,B1,List.drop_zero,List.take_succ_cons,List.take_zero,List.drop_succ_cons]at f0 f1 f2
  obtain⟨nm,e0,l0⟩:=Ei f0
  obtain⟨ix,e1,_⟩:=Up Tryz.underlying3 f1
  obtain⟨rows,m',rfl,e2,hl,aj⟩:=Ex Tryz.underlying55 f2
  obtain⟨l,rfl,hp⟩:=zX (p:=tM) (f:=nF) rows fun r hr=>ih m' (by omega) (aj r hr)
  cases e0;cases e1;cases e2
  rw[List.length_map]at hl
  unfold maxLen at hl
  exact⟨.mk nm ix l,by rw[nF,rG,hc],by rw[tM];exact⟨l0,by omega,Es hp⟩⟩
theorem Ue (n:Nat) {xs:List IV} (h:Typed Tryz.prog n 55 xs):∃l:List Tm,xs=[.sl 3 (aw l)]/\l.length<=9223372036854775807/\rH l:=by
 have hc:Tryz.prog.cellsOf 57=3:=by kernel_rfl
 obtain⟨rows,m',rfl,rfl,hl,aj⟩:=Ex Tryz.underlying55 h
 obtain⟨l,rfl,hp⟩:=zX (p:=tM) (f:=nF) rows fun r hr=>Ud m' (aj r hr)
 rw[List.length_map]at hl
 unfold maxLen at hl
 exact⟨l,by rw[rG,hc],by omega,Es hp⟩
theorem RP (n:Nat) {xs:List IV} (h:Typed Tryz.prog n 61 xs):∃l:Lt,xs=iR l/\Dy l:=by
 have hc:Tryz.prog.cellsOf 61=3:=by kernel_rfl
 have B2:Tryz.prog.cellsOf 9=1:=by kernel_rfl
 have Pk:Tryz.prog.cellsOf 4=1:=by kernel_rfl
 have B1:Tryz.prog.cellsOf 55=1:=by kernel_rfl
 obtain⟨m,rfl,hlen,hf⟩:=Lq Tryz.underlying61 h
 rw[hc]at hlen
 match xs,hlen with
 |[a,b,c],_=>
  have f0:=hf 0 _ rfl
  have f1:=hf 1 _ rfl
  have f2:=hf 2 _ rfl
  simp only[B2,Pk,B1,List.drop_zero,List.take_succ_cons,List.take_zero,List.drop_succ_cons]at f0 f1 f2
  obtain⟨ng,e0⟩:=Uo Tryz.underlying4 f0
  obtain⟨pd,e1,l1⟩:=Ei f1
  obtain⟨l,e2,l2,l3⟩:=Ue m f2
  cases e0;cases e1;cases e2
  exact⟨⟨ng,pd,l⟩,rfl,l1,l2,l3⟩
theorem NB (n:Nat) {xs:List IV} (h:Typed Tryz.prog n 23 xs):∃c:List Lt,xs=[.sl 3 (aF c)]/\Nz c:=by
 have hc:Tryz.prog.cellsOf 61=3:=by kernel_rfl
 obtain⟨rows,m',rfl,rfl,hl,aj⟩:=Ex Tryz.underlying23 h
 obtain⟨l,rfl,hp⟩:=zX (p:=Dy) (f:=iR) rows fun r hr=>RP m' (aj r hr)
 rw[List.length_map]at hl
 unfold maxLen at hl
 exact⟨l,by rw[aF,hc],by omega,hp⟩
theorem Ow:Tryz.prog.globalNamed "strconv.ErrSyntax" =some 1:=by kernel_rfl
theorem Ou:Tryz.prog.globalNamed "strconv.ErrRange" =some 2:=by kernel_rfl
theorem Oq:Tryz.prog.globalNamed "internal/strconv.uint64pow10" =some 3:=by kernel_rfl
theorem Ox:(Tryz.prog.globals[1]?).map (·.type)=some 236:=by kernel_rfl
theorem Ov:(Tryz.prog.globals[2]?).map (·.type)=some 236:=by kernel_rfl
theorem Ot:(Tryz.prog.globals[3]?).map (·.type)=some 350:=by kernel_rfl
theorem Kp (u:TypeId) (h:Tryz.prog.typeName? 3 u=some "*errors.errorString"):u=346:=
 typeName_ptr_named (nm:= "errors.errorString") (by rw[show "*" ++ "errors.errorString" = "*errors.errorString" by decide];kernel_rfl) (by kernel_rfl) (by decide) u (by rw[show "*" ++ "errors.errorString" = "*errors.errorString" by decide];exact h)
theorem EG {P:Program} {W:World} {n:String} {g:Nat} {cs:Array Value} (hg:P.globalNamed n=some g) (h:W.var? P n=some cs):g<W.heap.size/\∃T fz,W.heap[g]?=some (.cells cs T fz):=by
 unfold World.var? at h
 rw[hg,Option.bind_some]at h
 split at h
 ·rename_i cs' T fz hh
  cases h
  refine⟨?_,T,fz,hh⟩
  rcases Nat.lt_or_ge g W.heap.size with h'|h'
  ·exact h'
  ·rw[Array.getElem?_eq_none h']at hh;cases hh
 ·cases h
theorem UD {W:World} (dv:W.ShapedOpen Tryz.prog) (h:laidMet Tryz.prog [("math/bits.deBruijn32tab",Rows.laid_math_bits_deBruijn32tab),("math/bits.deBruijn64tab",Rows.laid_math_bits_deBruijn64tab),("internal/strconv.uint64pow10",Rows.laid_internal_strconv_uint64pow10),("strconv.ErrRange",Rows.laid_strconv_ErrRange),("strconv.ErrSyntax",Rows.laid_strconv_ErrSyntax)] W):
  VK Tryz.prog W (fun g=>g<W.heap.size):=by
 have h3:=h.tail.tail
 have h4:=h3.tail
 have h5:=h4.tail
 intro x hx g hg
 simp only[ri,List.mem_cons,List.not_mem_nil,or_false]at hx
 rcases hx with rfl|rfl|rfl|rfl
 ·obtain⟨a,s,hv,_⟩:=laid_sentinel h5 Ow Ox Tryz.underlying236 Kp Tryz.underlying346 Tryz.underlying348 rfl rfl Tryz.underlying9 (by kernel_rfl) (by kernel_rfl)
  obtain⟨h1,T,fz,h2⟩:=EG hg hv
  exact⟨h1,_,h2,_,_,T,fz,rfl⟩
 ·obtain⟨a,s,hv,_⟩:=laid_sentinel h4 Ou Ov Tryz.underlying236 Kp Tryz.underlying346 Tryz.underlying348 rfl rfl Tryz.underlying9 (by kernel_rfl) (by kernel_rfl)
  obtain⟨h1,T,fz,h2⟩:=EG hg hv
  exact⟨h1,_,h2,_,_,T,fz,rfl⟩
 ·have ht:Lib.TabIs Tryz.prog W "internal/strconv.uint64pow10" .u64 Lib.pow10Tab:=Lib.tabIs_of_head (rest:=_) Oq Ot Tryz.underlying350 Tryz.underlying314 (by kernel_rfl) (by kernel_rfl) h3
  obtain⟨h1,T,fz,h2⟩:=EG hg ht
  exact⟨h1,_,h2,T,fz,rfl⟩
 ·have e:g=0:=by rw[show Tryz.prog.globalNamed "internal/bytealg.MaxLen" =some 0 by kernel_rfl]at hg;exact(Option.some.inj hg).symm
  subst e
  obtain⟨m,hm⟩:=cell_of_shapedOpen_int (k:= .i64) (g:=0) (t:=3) (zero:=#[.int .i64 0]) dv (of_decide_eq_true (by kernel_rfl)) (by kernel_rfl) rfl (by kernel_rfl) (by kernel_rfl) Tryz.underlying3
  cases hh:W.heap[0]? with
  |none=>simp[World.cell?,hh]at hm
  |some o=>cases o with
   |cells cs T fz=>exact⟨(Array.getElem?_eq_some_iff.1 hh).1,_,rfl,m,cs,T,fz,rfl,by simpa[World.cell?,hh]using hm⟩
   |_=>simp[World.cell?,hh]at hm
def T1:ByteArray:={data:=#[105,110,118,97,108,105,100,32,115,121,110,116,97,120]}
def Tk:ByteArray:={data:=#[118,97,108,117,101,32,111,117,116,32,111,102,32,114,97,110,103,101]}
noncomputable def low:Nat:=(World.holding Tryz.prog default ⟨#[],#[],[]⟩).heap.size
def Dk (d:DataW Unit):Array Value:=match d with
 | .agg l=>(l.map fun x=>match x with
  | .lit (.int k z)=>Value.int k z
  |_=> .nilIface).toArray
 |_=>#[]
def putCells (cs:Array Value):Obj->Obj
 | .cells _ t frozen=> .cells cs t frozen
 |o=>o
noncomputable def Dj (os:Os):World:=
 let w0:=World.holding Tryz.prog os ⟨#[.cells #[.string T1] 348,.cells #[.string Tk] 348],#[],[]⟩
 {w0 with heap:=((((w0.heap.modify 1 (putCells #[.iface 346 (.pointer (some ⟨low,0,none⟩))])).modify 2 (putCells #[.iface 346 (.pointer (some ⟨low+1,0,none⟩))])).modify 3 (putCells (Dk Rows.laid_internal_strconv_uint64pow10))).modify 4 (putCells (Dk Rows.laid_math_bits_deBruijn32tab))).modify 5 (putCells (Dk Rows.laid_math_bits_deBruijn64tab))}
end Go.Proofs.YtpfohmboflcneaaGreatDoor
end
section
namespace Go.Proofs.YtpfohmboflcneaaGreatDoor
open Go Go.AL Go.RowKit
set_option maxRecDepth 10000
set_option maxHeartbeats 4000000

def cL (l:List Int):List (List IV):=l.map fun v=>[Ii v]
theorem cj (l:List Int):(cL l).length=l.length:=by simp[cL]
theorem zf (l:List Int) (j:Nat) (h:j<l.length):(cL l).getD j []=[Ii (l.getD j 0)]:=by
 simp[cL,List.getD_eq_getElem?_getD,h]
theorem sX (l m:List Int):cL l++cL m=cL (l++m):=by simp[cL]
theorem sY (s:Int):[[Ii s]]=cL [s]:=rfl
theorem C2 (l:List Int) (n:Nat) (h:l.length<=n):(cL l).take n=cL l:=List.take_of_length_le (by rw[cj];exact h)
def jy (s:Int) (l:List Int):Bool:=l.any fun x=>x==s
mutual
def iy (l:List Int):Tm->List Int
 | .mk n i xs=>if n=[]then(if jy i l then l else l++[i])else ft l xs
def ft (l:List Int):List Tm->List Int
 |[]=>l
 |t::r=>ft (iy l t) r
end
theorem Lw (l:List Int) (t:Tm):iy l t=if t.nm=[]then(if jy t.ix l then l else l++[t.ix])else ft l t.xs:=by cases t;rw[iy];rfl
mutual
theorem Lx:∀(t:Tm) (l:List Int),l.length<=(iy l t).length/\(iy l t).length<=l.length+wT t
 | .mk n i xs,l=>by
  have:=Ao xs l
  rw[iy,wT]
  split
  ·split<;>simp
  ·omega
theorem Ao:∀(r:List Tm) (l:List Int),l.length<=(ft l r).length/\(ft l r).length<=l.length+aH r
 |[],l=>by rw[ft,aH];omega
 |t::r,l=>by
  have h1:=Lx t l
  have h2:=Ao r (iy l t)
  rw[ft,aH];omega
end
theorem Lz (t:Tm):∀(r:List Tm) (l:List Int),ft l (r++[t])=iy (ft l r) t
 |[],l=>by rw[List.nil_append,ft,ft,ft]
 |a::r,l=>by rw[List.cons_append,ft,ft,Lz t r]
theorem EI (x:Tm) (l:List Int) (hx:bz x) (hl:l.length+wT x<=1000000):aI Tryz.prog 40 [bq x,.im (.sl 1 (cL l))] (.im (.sl 1 (cL (iy l x)))):=by
 have nj:=eT.1 hx
 have hv:=Lw l x
 refine ak.walk [0,1,2,4,5,6,9,13,22,35] [] Tryz.func40 rfl Tryz.ntmps40 (by kernel_rfl) (by rfl) rfl fun W own I0 ax lay=>?_
 refine gO ?_
 refine AP.cond rfl rfl (fun hn=>?_) (fun hn=>?_)
 ·have hn:x.nm=[]:=by simpa[AD]using hn
  rw[if_pos hn]at hv
  have hm:∀v,v=jy x.ix l->jy x.ix l=jy x.ix (l.drop 0):=fun _ _=>rfl
  refine gO ?_
  refine AP.loop rfl (α:=Nat) (fun k=>[(1,.im (.sl 1 (cL l))),(2,.im (gW x)),(5,Iv k)]) (fun _=>[]) (fun k=>k<=l.length/\jy x.ix l=jy x.ix (l.drop k)) (fun k=>l.length-k) 0 ⟨by omega,rfl⟩ (sU) rfl fun k ⟨hk,hm⟩=>?_
  rcases Nat.eq_or_lt_of_le hk with aG|ah
  ·rw[aG,List.drop_length]at hm
   have hm:jy x.ix l=false:=hm
   rw[hm,if_neg (by simp)]at hv
   rw[hv]
   refine gE @cj ?_
   refine cF ?_
   refine gO ?_
   refine AP.bC 8 (Tree.node [] [1,3,4] [0,5] [Tree.node [1,3,4] [] [2,5] [Tree.node [3,4] [] [5] [Tree.node [] [] [6] [Tree.node [] [7] [] []]],Tree.node [1] [] [2] [Tree.node [] [] [6] [Tree.node [] [7] [] []]]],Tree.node [1] [] [0] [Tree.node [1] [] [2] [Tree.node [] [] [6] [Tree.node [] [7] [] []]]]]) (by kernel_rfl) rfl (by kernel_rfl) (by kernel_rfl) ?_
   refine bA ?_
   refine sI ?_
   repeat' (first|with_reducible exact True.intro|with_reducible refine And.intro (by omega) ?_|with_reducible refine And.intro ?_ ?_|(refine AQ.nx rfl ?_;refine sE (an @cj (an @sX (an @sY (an @List.nil_append.{0} @List.length_append.{0})))) ?_)|(refine AQ.append (hnb:=rfl) (rows:=[]) (es:=0) (by kernel_rfl) rfl rfl rfl (by rfl) Tryz.Ai Tryz.Ae (by show Option.map _ (aC Tryz.prog 3)=_;rw[Tryz.Az];rfl) Tryz.x7 (by first|rfl|(simp only[cj,List.length_cons,List.length_nil];done)|(simp only[cj,List.length_cons,List.length_nil];omega)) (by simp only[cj,List.length_cons,List.length_nil];omega) (by simp only[cj,List.length_cons,List.length_nil];omega) ?_;refine sE (an @List.nil_append.{0} @cj) ?_)|(refine AQ.append (hnb:=rfl) (rows:=cL l) (es:=0) (by kernel_rfl) rfl rfl rfl (by rfl) Tryz.Ai Tryz.Ae (by show Option.map _ (aC Tryz.prog 3)=_;rw[Tryz.Az];rfl) Tryz.x7 (by first|rfl|(simp only[cj,List.length_cons,List.length_nil];done)|(simp only[cj,List.length_cons,List.length_nil];omega)) (by simp only[cj,List.length_cons,List.length_nil];omega) (by simp only[cj,List.length_cons,List.length_nil];omega) ?_;refine sE (an @sX (an @sY (an @cj @List.length_append.{0}))) ?_)|refine AQ.done ?_|(refine AQ.go (by kernel_rfl) ?_;refine sE (an @cj (an @sX (an @sY (an @List.nil_append.{0} @List.length_append.{0})))) ?_;repeat(with_reducible refine And.intro (by omega) ?_);refine AQ.nx rfl ?_;refine sE (an @cj (an @sX (an @sY (an @List.nil_append.{0} @List.length_append.{0})))) ?_))
   all_goals refine gO ?_
   all_goals refine AE.freeze 0 (el:=3) (es:=1) (rows:=cL (l++[x.ix])) rfl (by simp only[go_sem,Nat.reduceAdd,Nat.reduceLeDiff,Nat.reduceSub,Int.reduceToNat,reduceCtorEq,cj,List.length_append];first|done|trivial|omega|(simp;done)|(simp;omega)) (by simp only[go_sem,Nat.reduceAdd,Nat.reduceLeDiff,Nat.reduceSub,Int.reduceToNat,reduceCtorEq,cj,List.length_append];first|done|trivial|omega|(simp;done)|(simp;omega)) ?_;simp only[go_sem,Nat.reduceAdd,Nat.reduceLeDiff,Nat.reduceSub,Int.reduceToNat,reduceCtorEq,cj,List.length_append]
   all_goals exact AE.ay rfl ⟨rfl,trivial⟩ rfl ⟨rfl,by rw[C2 _ _ (by simp)];rfl⟩
  ·have hd:l.drop k=l.getD k 0::l.drop (k+1):=by
    rw[List.drop_eq_getElem_cons ah,List.getD_eq_getElem?_getD,List.getElem?_eq_getElem ah];rfl
   have hg:=zf l k ah
   have hm:jy x.ix l=(l.getD k 0==x.ix||jy x.ix (l.drop (k+1))):=by rw[hm,hd];rfl
   clear hd
   have hw:=wr (x:=(k:Int)+1) (by omega)
   refine gE @cj ?_
   refine cT ?_
   refine gE @hg ?_
   refine⟨by rw[cj];omega,?_⟩
   refine gO ?_
   refine AP.cond rfl rfl (fun h5=>?_) (fun h5=>?_)
   ·rw[h5,Bool.true_or]at hm
    rw[hm,if_pos rfl]at hv
    refine gO ?_
    exact AE.ay rfl ⟨rfl,trivial⟩ rfl ⟨rfl,by rw[hv];rfl⟩
   ·rw[h5,Bool.false_or]at hm
    refine gE @hw ?_
    exact AE.round (k+1) ⟨by omega,hm⟩ (by omega) (sU) rfl
 ·have hn:¬x.nm=[]:=by simpa[AD]using hn
  rw[if_neg hn]at hv
  have H7:=w_ x
  refine gO ?_
  refine AP.loop rfl (α:=Nat) (fun k=>[(1,.im (.sl 1 (cL (ft l (x.xs.take k))))),(2,.im (gW x)),(6,Iv k)]) (fun _=>[]) (fun k=>k<=x.xs.length) (fun k=>x.xs.length-k) 0 (by omega) (sU) rfl fun k hk=>?_
  rcases Nat.eq_or_lt_of_le hk with aG|ah
  ·subst aG
   rw[List.take_length]
   refine gE @ai ?_
   refine cF ?_
   refine gO ?_
   exact AE.ay rfl ⟨rfl,trivial⟩ rfl ⟨rfl,by rw[hv];rfl⟩
  ·obtain⟨u,hu,aj⟩:=cm x.xs k ah
   have hw:=wr (x:=(k:Int)+1) (by omega)
   have aS:ft l (x.xs.take (k+1))=iy (ft l (x.xs.take k)) u:=by rw[cK hu,Lz]
   have hq:aH (x.xs.take k)+wT u<=aH x.xs:=by
    have e:x.xs.take (k+1)=x.xs.take k++[u]:=cK hu
    have:=LX x.xs (k+1)
    rw[e,EP,aH,aH]at this
    omega
   have a7:=(Ao (x.xs.take k) l).2
   have ih:=EI u (ft l (x.xs.take k)) (cN nj.2.2 hu) (by omega)
   refine gE @ai ?_
   refine cT ?_
   refine gE @aj ?_
   refine⟨by rw[ai];omega,?_⟩
   refine AQ.fn (by kernel_rfl) rfl rfl rfl (ih) rfl ?_
   refine sI ?_
   rw[<-aS]
   refine gE @hw ?_
   exact AE.round (k+1) (by omega) (by omega) (sU) rfl
termination_by wT x
decreasing_by
 have:=qh x.xs u (List.mem_of_getElem? hu)
 omega


end Go.Proofs.YtpfohmboflcneaaGreatDoor
end
section
namespace Go.Proofs.YtpfohmboflcneaaGreatDoor
open Go Go.AL Go.RowKit
theorem AN (l:List UInt8):(BA l).size=l.length:=by simp[BA,ByteArray.size]
theorem TM (l:List UInt8):IV.nn (Si l)=l.length+1:=by
 show(BA l).size+1=_
 rw[AN]
theorem Q9 (i:Int):IV.nn (Ii i)=1:=rfl
theorem Fx (b:Bool):IV.nn (Bi b)=1:=rfl
mutual
theorem Uc:∀(t:Tm),IV.eE (nF t)<=1048576->bz t
 | .mk nm ix xs,h=>by
  rw[nF]at h
  simp only[IV.eE,Q9,IV.nn,AN]at h
  obtain⟨h1,h2⟩:=Ep xs (by omega)
  rw[bz]
  exact⟨by omega,by omega,h2⟩
theorem Ep:∀(l:List Tm),IV.gT (aw l)<=1048576->l.length<=IV.gT (aw l)/\cf l
 |[],_=>by rw[cf];exact⟨by simp,trivial⟩
 |t::l,h=>by
  rw[aw,IV.gT]at h
  obtain⟨h1,h2⟩:=Ep l (by omega)
  have h3:=Uc t (by omega)
  have h4:1<=IV.eE (nF t):=by
   rw[lX];simp only[IV.eE,TM];omega
  rw[cf,aw,IV.gT,List.length_cons]
  exact⟨by omega,h3,h2⟩
end
theorem Jb:∀(c:List Lt),IV.gT (aF c)<=1048576->c.length<=IV.gT (aF c)/\∀l∈c,l.pd.length<=1000000000/\l.xs.length<=1000000000/\cf l.xs
 |[],_=>⟨by simp,fun b hb=>by cases hb⟩
 |b::l,h=>by
  have e:aF (b::l)=[Bi b.ng,Si b.pd,.sl 3 (aw b.xs)]::aF l:=rfl
  rw[e,IV.gT]at h⊢
  obtain⟨h1,h2⟩:=Jb l (by omega)
  have hb:b.pd.length<=1000000000/\b.xs.length<=1000000000/\cf b.xs:=by
   simp only[IV.eE,Fx,IV.nn,AN]at h
   obtain⟨h3,h4⟩:=Ep b.xs (by omega)
   exact⟨by omega,by omega,h4⟩
  refine⟨by rw[List.length_cons];simp only[IV.eE,Fx];omega,fun x hx=>?_⟩
  rcases List.mem_cons.1 hx with rfl|hx
  ·exact hb
  ·exact h2 x hx
theorem NA {c:List Lt} (h:IV.gT (aF c)<=1048576):cG c:=by
 obtain⟨h1,h2⟩:=Jb c h
 exact⟨by omega,h2⟩
end Go.Proofs.YtpfohmboflcneaaGreatDoor
end
section
namespace Go.Proofs.YtpfohmboflcneaaGreatDoor
open Go Go.AL Go.RowKit
set_option maxRecDepth 10000
set_option maxHeartbeats 4000000
theorem lU {R:List Lt} {k:Nat} {x:Lt} (h:R[k]?=some x):(dz R).getD k []=[Bi x.ng,Si x.pd,.sl 3 (aw x.xs),Si (aA x)]:=tF h
theorem tG {R:List Lt} {k:Nat} {z:Lt} (h:R[k]?=some z) (y:Lt):(dz R).set k (Bi y.ng::Si y.pd::IV.sl 3 (aw y.xs)::Si (aA y)::List.drop 4 ((dz R).getD k []))=dz (R.set k y):=by
 rw[tF h];exact Ee _ _ y
theorem Ej (P X M Y Q:List Lt) (fl:X.length=Y.length) (n p q:Nat) (hn:(P++X++M++Y++Q).length=n) (hp:P.length=p) (hq:P.length+X.length+M.length=q) (hN:n<=1000000):
  ak Tryz.prog 250 [.os 0 4 0 n,Iv p,Iv q,Iv X.length,.fn 91 [] []] (b8 (P++X++M++Y++Q)) (fun r H'=>r= .aD []/\H'=b8 (P++Y++M++X++Q)):=by
 have hlen:p+X.length+M.length+Y.length+Q.length=n:=by rw[<-hn,<-hp];simp only[List.length_append]
 refine ak.walk [0,1,2,3,4,10,13] [] Tryz.func250 rfl Tryz.ntmps250 (by kernel_rfl) (by rfl) rfl fun W own I0 ax lay=>?_
 refine gO ?_
 refine AP.loop rfl (α:=Nat) (fun k=>[(0,.os 0 4 0 n),(1,Iv p),(2,Iv q),(3,Iv X.length),(4,.fn 91 [] []),(10,Iv k)]) (fun k=>b8 (P++Y.take k++X.drop k++M++X.take k++Y.drop k++Q)) (fun k=>k<=X.length) (fun k=>X.length-k) 0 (by omega) (sU) (by simp) fun k hk=>?_
 rcases Nat.eq_or_lt_of_le hk with aG|ah
 ·subst aG
  rw[List.take_length,List.drop_length,fl,List.take_length,List.drop_length,List.append_nil,List.append_nil]
  refine gO ?_
  refine cF ?_
  refine gO ?_
  exact AE.fv rfl trivial ⟨rfl,rfl⟩
 ·obtain⟨x,hx⟩:∃x,X[k]?=some x:=⟨_,List.getElem?_eq_getElem ah⟩
  obtain⟨y,hy⟩:∃y,Y[k]?=some y:=⟨_,List.getElem?_eq_getElem (by omega)⟩
  have hw:=wr (x:=(k:Int)+1) (by omega)
  have a8:IntKind.i64.wrap ((p:Int)+k)=((p+k:Nat):Int):=by rw[wr (by omega)];omega
  have cJ:IntKind.i64.wrap ((q:Int)+k)=((q+k:Nat):Int):=by rw[wr (by omega)];omega
  obtain⟨R,hR⟩:∃R,P++Y.take k++X.drop k++M++X.take k++Y.drop k++Q=R:=⟨_,rfl⟩
  have pz:R.length=n:=by rw[<-hR];simp only[List.length_append,List.length_take,List.length_drop];omega
  have lz:(dz R).length=n:=by rw[ji,pz]
  have qE:R=(P++Y.take k)++x::(X.drop (k+1)++M++X.take k++y::(Y.drop (k+1)++Q)):=by
   rw[<-hR,drop_cons hx,drop_cons hy];simp
  have ec:(P++Y.take k).length=p+k:=by rw[List.length_append,List.length_take];omega
  have fx:(P++Y.take k++x::(X.drop (k+1)++M++X.take k)).length=q+k:=by
   simp only[List.length_append,List.length_take,List.length_cons,List.length_drop];omega
  have OZ:R=(P++Y.take k++x::(X.drop (k+1)++M++X.take k))++y::(Y.drop (k+1)++Q):=by rw[qE];simp
  have g1:R[p+k]?=some x:=by rw[qE,<-ec,List.getElem?_append_right (Nat.le_refl _),Nat.sub_self];rfl
  have g2:R[q+k]?=some y:=by rw[OZ,<-fx,List.getElem?_append_right (Nat.le_refl _),Nat.sub_self];rfl
  have e1:R.set (p+k) y=(P++Y.take k++y::(X.drop (k+1)++M++X.take k))++y::(Y.drop (k+1)++Q):=by
   rw[qE,<-ec,List.set_append_right _ _ (Nat.le_refl _),Nat.sub_self];simp
  have vi:(P++Y.take k++y::(X.drop (k+1)++M++X.take k)).length=q+k:=by rw[<-fx];simp
  have g3:(R.set (p+k) y)[q+k]?=some y:=by rw[e1,<-vi,List.getElem?_append_right (Nat.le_refl _),Nat.sub_self];rfl
  have e2:(R.set (p+k) y).set (q+k) x=P++Y.take (k+1)++X.drop (k+1)++M++X.take (k+1)++Y.drop (k+1)++Q:=by
   rw[e1,<-vi,List.set_append_right _ _ (Nat.le_refl _),Nat.sub_self,cK hx,cK hy];simp
  have s1:=tG g1 y
  have s2:=tG g3 x
  have hS:(dz (R.set (p+k) y)).length=n:=by rw[ji,List.length_set,pz]
  have iK:=lU g1
  have mm:=lU g2
  rw[hR]
  refine gO ?_
  refine cT ?_
  refine gO ?_
  refine AP.bC 24 (Tree.node [] [0,1,2,3,4,5,6,7,8,9,10,11,12,13,14,15,16,17,18,19,20] [21] [Tree.node [4,5,6,7] [22] [23] [Tree.node [] [] [] []]]) (by kernel_rfl) rfl (by kernel_rfl) (by kernel_rfl) ?_
  refine bA ?_
  refine sE (an @a8 (an @cJ (an @iK (an @mm (an @Int.toNat_natCast @lz))))) ?_
  refine⟨⟨by omega,by omega⟩,by omega,⟨by omega,by omega⟩,by omega,⟨by omega,by omega⟩,?_⟩
  refine AQ.go (by kernel_rfl) ?_
  refine sE @lz ?_
  rw[s1]
  refine⟨by omega,?_⟩
  refine AQ.nx rfl ?_
  refine sE (an @cJ (an @Int.toNat_natCast @hS)) ?_
  refine⟨⟨by omega,by omega⟩,?_⟩
  refine AQ.go (by kernel_rfl) ?_
  refine sE @hS ?_
  rw[s2]
  refine⟨by omega,?_⟩
  refine AQ.nx rfl ?_
  refine sI ?_
  refine AQ.done ?_
  refine gE @hw ?_
  exact AE.round (k+1) (by omega) (by omega) (sU) (by rw[e2])
theorem Tp (P A B Q:List Lt) (n a m b:Nat) (hn:(P++A++B++Q).length=n) (ha:P.length=a) (hm:a+A.length=m) (hb:m+B.length=b) (hA:0<A.length) (hB:0<B.length) (hN:n<=1000000):
  ak Tryz.prog 228 [.os 0 4 0 n,Iv a,Iv m,Iv b,.fn 91 [] []] (b8 (P++A++B++Q)) (fun r H'=>r= .aD []/\H'=b8 (P++B++A++Q)):=by
 have hlen:a+A.length+B.length+Q.length=n:=by rw[<-hn,<-ha];simp only[List.length_append]
 have a8:IntKind.i64.wrap ((m:Int)-a)=((A.length:Nat):Int):=by rw[wr (by omega)];omega
 have cJ:IntKind.i64.wrap ((b:Int)-m)=((B.length:Nat):Int):=by rw[wr (by omega)];omega
 refine ak.walk [0,1,2,3,4,10,11,20,23] [] Tryz.func228 rfl Tryz.ntmps228 (by kernel_rfl) (by rfl) rfl fun W own I0 ax lay=>?_
 refine gE (an @a8 @cJ) ?_
 refine AP.loop rfl (α:=List Lt×List Lt×List Lt×List Lt) (fun s=>[(0,.os 0 4 0 n),(2,Iv m),(4,.fn 91 [] []),(10,Iv s.2.1.length),(11,Iv s.2.2.1.length)]) (fun s=>b8 (s.1++s.2.1++s.2.2.1++s.2.2.2)) (fun s=>s.1.length+s.2.1.length=m/\0<s.2.1.length/\0<s.2.2.1.length/\(s.1++s.2.1++s.2.2.1++s.2.2.2).length=n/\s.1++s.2.2.1++s.2.1++s.2.2.2=P++B++A++Q) (fun s=>s.2.1.length+s.2.2.1.length) (P,A,B,Q) ⟨by simp only;omega,hA,hB,hn,rfl⟩ (sU) rfl fun⟨P',U,V,Q'⟩ ⟨i1,i2,i3,i4,i5⟩=>?_
 simp only at i1 i2 i3 i4 i5⊢
 have fx:P'.length+U.length+V.length+Q'.length=n:=by rw[<-i4];simp only[List.length_append]
 have CV:IntKind.i64.wrap ((m:Int)-(U.length:Nat))=((P'.length:Nat):Int):=by rw[wr (by omega)];omega
 by_cases he:U.length=V.length
 ·refine gO ?_
  refine cF ?_
  refine gE @CV ?_
  have h0:=Ej P' U [] V Q' he n P'.length m (by rw[List.append_nil];exact i4) rfl (by simp;omega) hN
  simp only[List.append_nil]at h0
  refine AQ.bN [(0,0)] (by kernel_rfl) rfl rfl rfl rfl rfl rfl (by exact⟨rfl,trivial⟩) rfl (h0) ?_;rintro r H1 ⟨rfl,rfl⟩;refine⟨rfl,?_⟩;refine sH ?_
  refine gO ?_
  exact AE.fv rfl trivial ⟨rfl,by rw[i5]⟩
 ·refine gO ?_
  refine cT ?_
  refine gO ?_
  refine AP.cond rfl rfl (fun h=>?_) (fun h=>?_)
  ·have h:V.length<U.length:=by simpa using h
   have h1:(U.take V.length).length=V.length:=by rw[List.length_take];omega
   have h2:(U.drop V.length).length=U.length-V.length:=List.length_drop ..
   have hU:U.take V.length++U.drop V.length=U:=List.take_append_drop ..
   have h0:=Ej P' (U.take V.length) (U.drop V.length) V Q' h1 n P'.length m (by rw[<-i4];simp only[List.length_append];omega) rfl (by rw[h1,h2];omega) hN
   rw[h1]at h0
   have hR:P'++U.take V.length++U.drop V.length++V++Q'=P'++U++V++Q':=by rw[List.append_assoc P',hU]
   rw[hR]at h0
   have lJ:IntKind.i64.wrap ((U.length:Int)-(V.length:Nat))=((U.length-V.length:Nat):Int):=by rw[wr (by omega)];omega
   refine gE @CV ?_
   refine AQ.bN [(0,0)] (by kernel_rfl) rfl rfl rfl rfl rfl rfl (by exact⟨rfl,trivial⟩) rfl (h0) ?_;rintro r H1 ⟨rfl,rfl⟩;refine⟨rfl,?_⟩;refine sH ?_
   refine gE @lJ ?_
   exact AE.round (P'++V,U.drop V.length,U.take V.length,Q') ⟨by simp only[List.length_append,h2];omega,by simp only[h2];omega,by simp only[h1];omega,by simp only[List.length_append,h1,h2];omega,by rw[<-i5];simp[hU]⟩ (by simp only[h1,h2];omega) (by simp only[h1,h2];exact(sU)) rfl
  ·have h:U.length<V.length:=by
    have:¬V.length<U.length:=by simpa using h
    omega
   obtain⟨j,hj⟩:∃j,V.length-U.length=j:=⟨_,rfl⟩
   have h1:(V.take j).length=j:=by rw[List.length_take];omega
   have h2:(V.drop j).length=U.length:=by rw[List.length_drop];omega
   have hV:V.take j++V.drop j=V:=List.take_append_drop ..
   have O4:∀Z,V.take j++(V.drop j++Z)=V++Z:=fun Z=>by rw[<-List.append_assoc,hV]
   have h0:=Ej P' U (V.take j) (V.drop j) Q' h2.symm n P'.length (m+j) (by rw[<-i4];simp only[List.length_append];omega) rfl (by rw[h1];omega) hN
   have hR:P'++U++V.take j++V.drop j++Q'=P'++U++V++Q':=by rw[List.append_assoc (P'++U),hV]
   rw[hR]at h0
   have lJ:IntKind.i64.wrap ((V.length:Int)-(U.length:Nat))=((j:Nat):Int):=by rw[wr (by omega)];omega
   have q8:IntKind.i64.wrap ((m:Int)+(V.length:Nat))=((m+V.length:Nat):Int):=by rw[wr (by omega)];omega
   have QO:IntKind.i64.wrap (((m+V.length:Nat):Int)-(U.length:Nat))=((m+j:Nat):Int):=by rw[wr (by omega)];omega
   refine gE (an @CV (an @q8 @QO)) ?_
   refine AQ.bN [(0,0)] (by kernel_rfl) rfl rfl rfl rfl rfl rfl (by exact⟨rfl,trivial⟩) rfl (h0) ?_;rintro r H1 ⟨rfl,rfl⟩;refine⟨rfl,?_⟩;refine sH ?_
   refine gE @lJ ?_
   exact AE.round (P',V.drop j,V.take j,U++Q') ⟨by simp only[h2];omega,by simp only[h2];omega,by simp only[h1];omega,by simp only[List.length_append,h1,h2];omega,by rw[<-i5];simp only[List.append_assoc,O4]⟩ (by simp only[h1,h2];omega) (by simp only[h1,h2];exact(sU)) (by simp)
theorem Ac {L M:List Lt} (h:cO aA L M):M=aR [] L:=cO.uniq aA h (tI L)
theorem De {x y z:Lt} (h:aA z<aA x) (k:¬aA y<aA x):aA z<aA y:=Classical.byContradiction fun c=>(dO.trans aA (show dO aA x y from k) (show dO aA y z from c)) h
theorem s4 {x y z:Lt} (h:¬aA y<aA x) (k:¬aA z<aA y):¬aA z<aA x:=dO.trans aA (show dO aA x y from h) (show dO aA y z from k)
theorem Df {x y z:Lt} (h:¬aA y<aA z) (k:aA y<aA x):aA z<aA x:=Classical.byContradiction fun c=>(dO.trans aA (show dO aA x z from c) (show dO aA z y from h)) k
theorem lV {L:List Lt} (h:L.Pairwise eG) {i j:Nat} {x y:Lt} (ig:i<=j) (hx:L[i]?=some x) (hy:L[j]?=some y):¬aA y<aA x:=by
 rcases Nat.eq_or_lt_of_le ig with rfl|ah
 ·rw[hx]at hy;cases hy;exact List.lt_irrefl _
 ·obtain⟨h1,rfl⟩:=List.getElem?_eq_some_iff.1 hx
  obtain⟨h2,rfl⟩:=List.getElem?_eq_some_iff.1 hy
  exact List.pairwise_iff_getElem.1 h i j h1 h2 ah
theorem rV {x y:Lt}:jY (aA x) (aA y)<0↔aA x<aA y:=by
 rw[jY]
 by_cases h:aA x<aA y
 ·rw[if_pos h];simp[h]
 ·rw[if_neg h]
  constructor
  ·intro h2;split at h2<;>omega
  ·intro h2;exact absurd h2 h
theorem R6 {x:Lt} {B:List Lt} {w:Nat} (hB:B.Pairwise eG) (h1:∀k y,k<w->B[k]?=some y->aA y<aA x) (h2:∀k y,w<=k->B[k]?=some y->¬aA y<aA x):B.take w++x::B.drop w=aR [] (x::B):=by
 refine Ac ?_
 have hs:B.take w++B.drop w=B:=List.take_append_drop ..
 have hT:∀y∈B.take w,aA y<aA x:=fun y hy=>by
  obtain⟨k,hk⟩:=List.mem_iff_getElem?.1 hy
  rw[List.getElem?_take]at hk
  split at hk
  ·rename_i Co;exact h1 k y Co hk
  ·cases hk
 have hD:∀y∈B.drop w,¬aA y<aA x:=fun y hy=>by
  obtain⟨k,hk⟩:=List.mem_iff_getElem?.1 hy
  rw[List.getElem?_drop]at hk
  exact h2 (w+k) y (by omega) hk
 have hp:=hB
 rw[<-hs]at hp
 have aP:=List.pairwise_append.1 hp
 have:=cO.merge aA (L1:=[]) (L2:=[x]) (R1:=B.take w) (R2:=B.drop w) (M1:=B.take w) (M2:=x::B.drop w) (by simp) hp (fun l hl r hr=>by rw[List.mem_singleton.1 hl];exact hT r hr) (fun l hl=>by cases hl) (cO.self aA aP.1) (cO.self aA (List.pairwise_cons.2 ⟨hD,aP.2.1⟩))
 rw[hs]at this
 exact this
theorem R5 {y:Lt} {A:List Lt} {w:Nat} (hA:A.Pairwise eG) (h1:∀k x,k<w->A[k]?=some x->¬aA y<aA x) (h2:∀k x,w<=k->A[k]?=some x->aA y<aA x):A.take w++y::A.drop w=aR [] (A++[y]):=by
 refine Ac ?_
 have hs:A.take w++A.drop w=A:=List.take_append_drop ..
 have hT:∀x∈A.take w,¬aA y<aA x:=fun x hx=>by
  obtain⟨k,hk⟩:=List.mem_iff_getElem?.1 hx
  rw[List.getElem?_take]at hk
  split at hk
  ·rename_i Co;exact h1 k x Co hk
  ·cases hk
 have hD:∀x∈A.drop w,aA y<aA x:=fun x hx=>by
  obtain⟨k,hk⟩:=List.mem_iff_getElem?.1 hx
  rw[List.getElem?_drop]at hk
  exact h2 (w+k) x (by omega) hk
 have hp:=hA
 rw[<-hs]at hp
 have aP:=List.pairwise_append.1 hp
 have:=cO.merge aA (L1:=A.take w) (L2:=A.drop w) (R1:=[y]) (R2:=[]) (M1:=A.take w++[y]) (M2:=A.drop w) hp (by simp) (fun l hl r hr=>by rw[List.mem_singleton.1 hr];exact hD l hl) (fun l _ r hr=>by cases hr)
  (cO.self aA (List.pairwise_append.2 ⟨aP.1,List.pairwise_singleton ..,fun l hl r hr=>by rw[List.mem_singleton.1 hr];exact hT l hl⟩)) (by rw[List.append_nil];exact cO.self aA aP.2.1)
 rw[hs,List.append_nil,List.append_assoc]at this
 exact this
theorem R7 {A B:List Lt} {s e:Nat} (hA:A.Pairwise eG) (hB:B.Pairwise eG)
  (h1:∀i j x y,s<=i->j<e->A[i]?=some x->B[j]?=some y->aA y<aA x) (h2:∀i j x y,i<s->e<=j->A[i]?=some x->B[j]?=some y->¬aA y<aA x):
  aR [] (A.take s++B.take e)++aR [] (A.drop s++B.drop e)=aR [] (A++B):=by
 refine Ac ?_
 have hs:A.take s++A.drop s=A:=List.take_append_drop ..
 have he:B.take e++B.drop e=B:=List.take_append_drop ..
 have HI:=hA
 rw[<-hs]at HI
 have HJ:=hB
 rw[<-he]at HJ
 have:=cO.merge aA (L1:=A.take s) (L2:=A.drop s) (R1:=B.take e) (R2:=B.drop e) HI HJ (fun l hl r hr=>by
  obtain⟨i,hi⟩:=List.mem_iff_getElem?.1 hl
  obtain⟨j,hj⟩:=List.mem_iff_getElem?.1 hr
  rw[List.getElem?_drop]at hi
  rw[List.getElem?_take]at hj
  split at hj
  ·rename_i cY;exact h1 (s+i) j l r (by omega) cY hi hj
  ·cases hj) (fun l hl r hr=>by
  obtain⟨i,hi⟩:=List.mem_iff_getElem?.1 hl
  obtain⟨j,hj⟩:=List.mem_iff_getElem?.1 hr
  rw[List.getElem?_take]at hi
  rw[List.getElem?_drop]at hj
  split at hi
  ·rename_i PM;exact h2 i (e+j) l r PM (by omega) hi hj
  ·cases hi) (tI _) (tI _)
 rw[hs,he]at this
 exact this
theorem rU {P A Q:List Lt} {i:Nat} {x:Lt} (h:A[i]?=some x):(P++A++Q)[P.length+i]?=some x:=by
 have hl:=(List.getElem?_eq_some_iff.1 h).1
 rw[List.append_assoc,List.getElem?_append_right (by omega),Nat.add_sub_cancel_left,List.getElem?_append_left hl];exact h
theorem zB {x y:Int} {c:Nat} (h0:0<=x+y) (h:x+y<=1000000000) (hc:(x+y)/2=(c:Int)):IntKind.i64.wrap ((IntKind.u64.wrap (IntKind.i64.wrap (x+y))).fdiv (2^min 1 64))=(c:Int):=by
 rw[wr (x:=x+y) (by omega)]
 have e1:IntKind.u64.wrap (x+y)=x+y:=by
  have:=Int.emod_eq_of_lt (a:=x+y) (b:=18446744073709551616) h0 (by omega)
  exact this
 rw[e1,show((2:Int)^min 1 64)=2 from rfl,Int.fdiv_eq_ediv_of_nonneg _ (by omega),hc,wr (by omega)]
theorem swp {Z T:List Lt} {x y:Lt} {p:Nat} (hZ:Z.length=p):(Z++x::y::T)[p]?=some x/\(Z++x::y::T)[p+1]?=some y/\((Z++x::y::T).set p y)[p+1]?=some y/\((Z++x::y::T).set p y).set (p+1) x=Z++y::x::T/\((Z++x::y::T).set (p+1) x)[p]?=some x/\((Z++x::y::T).set (p+1) x).set p y=Z++y::x::T:=by
 subst hZ
 have e1:(Z++x::y::T).set Z.length y=Z++y::y::T:=by rw[List.set_append_right _ _ (Nat.le_refl _),Nat.sub_self];rfl
 have e2:(Z++x::y::T).set (Z.length+1) x=Z++x::x::T:=by rw[List.set_append_right _ _ (by omega),Nat.add_sub_cancel_left];rfl
 rw[e1,e2]
 refine⟨?_,?_,?_,?_,?_,?_⟩
 ·rw[List.getElem?_append_right (Nat.le_refl _),Nat.sub_self];rfl
 ·rw[List.getElem?_append_right (by omega),Nat.add_sub_cancel_left];rfl
 ·rw[List.getElem?_append_right (by omega),Nat.add_sub_cancel_left];rfl
 ·rw[List.set_append_right _ _ (by omega),Nat.add_sub_cancel_left];rfl
 ·rw[List.getElem?_append_right (Nat.le_refl _),Nat.sub_self];rfl
 ·rw[List.set_append_right _ _ (Nat.le_refl _),Nat.sub_self];rfl
theorem Ek:∀(N:Nat) (P A B Q:List Lt) (n a m b:Nat),A.length+B.length<=N->(P++A++B++Q).length=n->P.length=a->a+A.length=m->m+B.length=b->0<A.length->0<B.length->A.Pairwise eG->B.Pairwise eG->n<=1000000->
  ak Tryz.prog 206 [.os 0 4 0 n,Iv a,Iv m,Iv b,.fn 91 [] []] (b8 (P++A++B++Q)) (fun r H'=>r= .aD []/\H'=b8 (P++aR [] (A++B)++Q))
 |0,P,A,B,Q,n,a,m,b,hN,_,_,_,_,hA,_,_,_,_=>by omega
 |N+1,P,A,B,Q,n,a,m,b,hN,hn,ha,hm,hb,hA,hB,sA,sB,Cy=>by
  have hlen:a+A.length+B.length+Q.length=n:=by rw[<-hn,<-ha];simp only[List.length_append]
  have a8:IntKind.i64.wrap ((m:Int)-a)=((A.length:Nat):Int):=by rw[wr (by omega)];omega
  have cJ:IntKind.i64.wrap ((b:Int)-m)=((B.length:Nat):Int):=by rw[wr (by omega)];omega
  have lz:(dz (P++A++B++Q)).length=n:=by rw[ji,hn]
  refine ak.walk [0,1,2,3,4,10,11,12,13,14,15,16,17,18,19,20,21,22,23,24,28,33,50,58,80,85,103,110,140,151,171,185,199,213] [] Tryz.func206 rfl Tryz.ntmps206 (by kernel_rfl) (by rfl) rfl fun W own I0 ax lay=>?_
  refine gE @a8 ?_
  refine AP.cond rfl rfl (fun h1=>?_) (fun h1=>?_)
  ·have h1:A.length=1:=by
    have:((A.length:Nat):Int)=1:=by simpa using h1
    omega
   obtain⟨x,rfl⟩:=List.length_eq_one_iff.1 h1
   have gx:(P++[x]++B++Q)[a]?=some x:=by
    have:=rU (P:=P) (Q:=B++Q) (i:=0) (x:=x) (A:=[x]) rfl
    rw[Nat.add_zero,ha,<-List.append_assoc]at this
    exact this
   have u7:=lU gx
   refine gO ?_
   refine AP.loop rfl (α:=Nat×Nat) (fun s=>[(0,.os 0 4 0 n),(1,Iv a),(4,.fn 91 [] []),(10,Iv (m+s.1:Nat)),(11,Iv (m+s.2:Nat))]) (fun _=>b8 (P++[x]++B++Q)) (fun s=>s.1<=s.2/\s.2<=B.length/\(∀k y,k<s.1->B[k]?=some y->aA y<aA x)/\(∀k y,s.2<=k->B[k]?=some y->¬aA y<aA x)) (fun s=>s.2-s.1) (0,B.length) ⟨by simp,by simp,fun k y hk=>by simp at hk,fun k y hk hy=>by have:=(List.getElem?_eq_some_iff.1 hy).1;omega⟩ (by rw[hb];exact(sU)) rfl fun⟨i,j⟩ ⟨k1,k2,k3,k4⟩=>?_
   simp only at k1 k2 k3 k4⊢
   rcases Nat.eq_or_lt_of_le k1 with rfl|ah
   ·have lE:=R6 sB k3 k4
    have hd:decide ((((m+i:Nat):Int))<((m+i:Nat):Int))=false:=decide_eq_false (by omega)
    refine gE @hd ?_
    have OQ:i<=B.length:=k2
    have y9:IntKind.i64.wrap (((m+i:Nat):Int)-1)=((a+i:Nat):Int):=by rw[wr (by omega)];simp at hm;omega
    refine AP.loop rfl (α:=Nat) (fun k=>[(0,.os 0 4 0 n),(10,Iv (m+i:Nat)),(13,Iv (a+k:Nat))]) (fun k=>b8 (P++B.take k++x::(B.drop k++Q))) (fun k=>k<=i) (fun k=>i-k) 0 (by omega) (sU) (by simp) fun k hk=>?_
    rcases Nat.eq_or_lt_of_le hk with rfl|ah
    ·have gp:decide (((a+k:Nat):Int)<((a+k:Nat):Int))=false:=decide_eq_false (by omega)
     refine gE (an @y9 @gp) ?_
     have hR:P++B.take k++x::(B.drop k++Q)=P++aR [] ([x]++B)++Q:=by
      rw[show[x]++B=x::B from rfl,<-lE];simp
     rw[hR]
     exact AE.ret rfl trivial ⟨rfl,rfl⟩
    ·obtain⟨y,hy⟩:∃y,B[k]?=some y:=⟨_,List.getElem?_eq_getElem (by omega)⟩
     have gp:decide (((a+k:Nat):Int)<((a+i:Nat):Int))=true:=decide_eq_true (by omega)
     have gz:IntKind.i64.wrap (((a+k:Nat):Int)+1)=((a+k+1:Nat):Int):=by rw[wr (by omega)];omega
     have n5:(P++B.take k).length=a+k:=by rw[List.length_append,List.length_take,ha];omega
     obtain⟨g1,g2,g3,e1,_,_⟩:=swp (x:=x) (y:=y) (T:=B.drop (k+1)++Q) n5
     have eR:P++B.take k++x::(B.drop k++Q)=P++B.take k++x::y::(B.drop (k+1)++Q):=by rw[drop_cons hy];rfl
     obtain⟨R,hR⟩:∃R,P++B.take k++x::y::(B.drop (k+1)++Q)=R:=⟨_,rfl⟩
     rw[eR,hR]
     rw[hR]at g1 g2 g3 e1
     have pz:R.length=n:=by rw[<-hR];simp only[List.length_append,List.length_cons,List.length_take,List.length_drop];simp at hlen;omega
     have py:(dz R).length=n:=by rw[ji,pz]
     have hS:(dz (R.set (a+k) y)).length=n:=by rw[ji,List.length_set,pz]
     have s1:=tG g1 y
     have s2:=tG g3 x
     have iK:=lU g1
     have mm:=lU g2
     refine gE (an @y9 @gp) ?_
     refine AP.bC 18 (Tree.node [] [0,1,2,3,4,5,6,7,8,9,10,11,12,13,14] [15] [Tree.node [2,3,4] [16] [17] [Tree.node [] [] [] []]]) (by kernel_rfl) rfl (by kernel_rfl) (by kernel_rfl) ?_
     refine bA ?_
     refine sE (an @gz (an @iK (an @mm (an @Int.toNat_natCast @py)))) ?_
     refine⟨⟨by omega,by omega⟩,by omega,⟨by omega,by omega⟩,by omega,⟨by omega,by omega⟩,?_⟩
     refine AQ.go (by kernel_rfl) ?_
     refine sE @py ?_
     rw[s1]
     refine⟨by omega,?_⟩
     refine AQ.nx rfl ?_
     refine sE (an @gz (an @Int.toNat_natCast @hS)) ?_
     refine⟨⟨by omega,by omega⟩,?_⟩
     refine AQ.go (by kernel_rfl) ?_
     refine sE @hS ?_
     rw[s2]
     refine⟨by omega,?_⟩
     refine AQ.nx rfl ?_
     refine sI ?_
     refine AQ.done ?_
     refine gE @gz ?_
     exact AE.round (k+1) (by omega) (by omega) (sU) (by rw[e1,cK hy];simp)
   ·have hd:decide ((((m+i:Nat):Int))<((m+j:Nat):Int))=true:=decide_eq_true (by omega)
    obtain⟨h,hh⟩:∃h,(i+j)/2=h:=⟨_,rfl⟩
    have vm:=zB (x:=((m+i:Nat):Int)) (y:=((m+j:Nat):Int)) (c:=m+h) (by omega) (by omega) (by omega)
    obtain⟨y,hy⟩:∃y,B[h]?=some y:=⟨_,List.getElem?_eq_getElem (by omega)⟩
    have gy:(P++[x]++B++Q)[m+h]?=some y:=by
     have:=rU (P:=P++[x]) (Q:=Q) hy
     rw[List.length_append,ha]at this
     rw[<-hm];exact this
    have u9:=lU gy
    have vG:IntKind.i64.wrap (((m+h:Nat):Int)+1)=((m+(h+1):Nat):Int):=by rw[wr (by omega)];omega
    refine gE (an @hd @vm) ?_
    refine AP.bC 11 (Tree.node [] [0,1,2,3,4,5,6,7,8] [9] [Tree.node [] [10] [] []]) (by kernel_rfl) rfl (by kernel_rfl) (by kernel_rfl) ?_
    refine bA ?_
    refine sE (an @u7 (an @u9 (an @Int.toNat_natCast @lz))) ?_
    refine⟨⟨by omega,by omega⟩,by omega,⟨by omega,by omega⟩,by omega,?_⟩
    refine AQ.nQ [] (by kernel_rfl) rfl rfl rfl rfl rfl rfl (fun k=>by exact trivial) (fun k=>rfl) (fun k=>rfl) (x_ y x) ?_
    refine sI ?_
    refine AQ.nx rfl ?_
    refine sI ?_
    refine AQ.done ?_
    refine gO ?_
    refine AP.cond rfl rfl (fun h5=>?_) (fun h5=>?_)
    ·have h5:aA y<aA x:=rV.1 (by simpa using h5)
     refine gE @vG ?_
     exact AE.round (h+1,j) ⟨by simp only;omega,k2,fun k z hk hz=>Df (lV sB (by omega) hz hy) h5,k4⟩ (by simp only;omega) (sU) rfl
    ·have h5:¬aA y<aA x:=fun hc=>by
      have:=rV.2 hc
      simp at h5;omega
     refine gO ?_
     exact AE.round (i,h) ⟨by simp only;omega,by simp only;omega,k3,fun k z hk hz=>s4 h5 (lV sB hk hy hz)⟩ (by simp only;omega) (sU) rfl
  ·refine gE @cJ ?_
   refine AP.cond rfl rfl (fun h2=>?_) (fun h2=>?_)
   ·have h2:B.length=1:=by
     have:((B.length:Nat):Int)=1:=by simpa using h2
     omega
    obtain⟨y,rfl⟩:=List.length_eq_one_iff.1 h2
    have gy:(P++A++[y]++Q)[m]?=some y:=by
     have:=rU (P:=P++A) (Q:=Q) (i:=0) (x:=y) (A:=[y]) rfl
     rw[Nat.add_zero,List.length_append,ha,hm]at this
     exact this
    have u9:=lU gy
    refine gO ?_
    refine AP.loop rfl (α:=Nat×Nat) (fun s=>[(0,.os 0 4 0 n),(2,Iv m),(4,.fn 91 [] []),(14,Iv (a+s.1:Nat)),(15,Iv (a+s.2:Nat))]) (fun _=>b8 (P++A++[y]++Q)) (fun s=>s.1<=s.2/\s.2<=A.length/\(∀k x,k<s.1->A[k]?=some x->¬aA y<aA x)/\(∀k x,s.2<=k->A[k]?=some x->aA y<aA x)) (fun s=>s.2-s.1) (0,A.length) ⟨by simp,by simp,fun k y hk=>by simp at hk,fun k y hk hy=>by have:=(List.getElem?_eq_some_iff.1 hy).1;omega⟩ (by rw[hm];exact(sU)) rfl fun⟨i,j⟩ ⟨k1,k2,k3,k4⟩=>?_
    simp only at k1 k2 k3 k4⊢
    rcases Nat.eq_or_lt_of_le k1 with rfl|ah
    ·have lE:=R5 sA k3 k4
     have hd:decide ((((a+i:Nat):Int))<((a+i:Nat):Int))=false:=decide_eq_false (by omega)
     refine gE @hd ?_
     refine AP.loop rfl (α:=Nat) (fun u=>[(0,.os 0 4 0 n),(14,Iv (a+i:Nat)),(17,Iv (a+u:Nat))]) (fun u=>b8 (P++A.take u++y::(A.drop u++Q))) (fun u=>i<=u/\u<=A.length) (fun u=>u-i) A.length ⟨k2,Nat.le_refl _⟩ (by rw[hm];exact(sU)) (by simp) fun u ⟨lH,kd⟩=>?_
     rcases Nat.eq_or_lt_of_le lH with rfl|ah
     ·have gp:decide (((a+i:Nat):Int)>((a+i:Nat):Int))=false:=decide_eq_false (by omega)
      refine gE @gp ?_
      have hR:P++A.take i++y::(A.drop i++Q)=P++aR [] (A++[y])++Q:=by rw[<-lE];simp
      rw[hR]
      exact AE.ret rfl trivial ⟨rfl,rfl⟩
     ·obtain⟨v,rfl⟩:∃v,u=v+1:=⟨u-1,by omega⟩
      obtain⟨x,hx⟩:∃x,A[v]?=some x:=⟨_,List.getElem?_eq_getElem (by omega)⟩
      have gp:decide (((a+(v+1):Nat):Int)>((a+i:Nat):Int))=true:=decide_eq_true (by omega)
      have gz:IntKind.i64.wrap (((a+(v+1):Nat):Int)-1)=((a+v:Nat):Int):=by rw[wr (by omega)];omega
      have n5:(P++A.take v).length=a+v:=by rw[List.length_append,List.length_take,ha];omega
      obtain⟨g1,g2,_,_,g3,e1⟩:=swp (x:=x) (y:=y) (T:=A.drop (v+1)++Q) n5
      have eR:P++A.take (v+1)++y::(A.drop (v+1)++Q)=P++A.take v++x::y::(A.drop (v+1)++Q):=by rw[cK hx];simp
      obtain⟨R,hR⟩:∃R,P++A.take v++x::y::(A.drop (v+1)++Q)=R:=⟨_,rfl⟩
      rw[eR,hR]
      rw[hR]at g1 g2 g3 e1
      have pz:R.length=n:=by rw[<-hR];simp only[List.length_append,List.length_cons,List.length_take,List.length_drop];simp at hlen;omega
      have py:(dz R).length=n:=by rw[ji,pz]
      have hS:(dz (R.set (a+v+1) x)).length=n:=by rw[ji,List.length_set,pz]
      have s1:=tG g2 x
      have s2:=tG g3 y
      have iK:=lU g1
      have mm:=lU g2
      have pF:a+(v+1)=a+v+1:=by omega
      refine gE @gp ?_
      rw[pF]at gz⊢
      refine AP.bC 18 (Tree.node [] [0,1,2,3,4,5,6,7,8,9,10,11,12,13,14] [15] [Tree.node [2,3,4] [16] [17] [Tree.node [] [] [] []]]) (by kernel_rfl) rfl (by kernel_rfl) (by kernel_rfl) ?_
      refine bA ?_
      refine sE (an @gz (an @iK (an @mm (an @Int.toNat_natCast @py)))) ?_
      refine⟨⟨by omega,by omega⟩,by omega,⟨by omega,by omega⟩,by omega,⟨by omega,by omega⟩,?_⟩
      refine AQ.go (by kernel_rfl) ?_
      refine sE @py ?_
      rw[s1]
      refine⟨by omega,?_⟩
      refine AQ.nx rfl ?_
      refine sE (an @gz (an @Int.toNat_natCast @hS)) ?_
      refine⟨⟨by omega,by omega⟩,?_⟩
      refine AQ.go (by kernel_rfl) ?_
      refine sE @hS ?_
      rw[s2]
      refine⟨by omega,?_⟩
      refine AQ.nx rfl ?_
      refine sI ?_
      refine AQ.done ?_
      refine gE @gz ?_
      exact AE.round v ⟨by omega,by omega⟩ (by omega) (sU) (by rw[e1,drop_cons hx];simp)
    ·have hd:decide ((((a+i:Nat):Int))<((a+j:Nat):Int))=true:=decide_eq_true (by omega)
     obtain⟨h,hh⟩:∃h,(i+j)/2=h:=⟨_,rfl⟩
     have vm:=zB (x:=((a+i:Nat):Int)) (y:=((a+j:Nat):Int)) (c:=a+h) (by omega) (by omega) (by omega)
     obtain⟨x,hx⟩:∃x,A[h]?=some x:=⟨_,List.getElem?_eq_getElem (by omega)⟩
     have gx:(P++A++[y]++Q)[a+h]?=some x:=by
      have:=rU (P:=P) (Q:=[y]++Q) hx
      rw[ha,<-List.append_assoc]at this
      exact this
     have u7:=lU gx
     have vG:IntKind.i64.wrap (((a+h:Nat):Int)+1)=((a+(h+1):Nat):Int):=by rw[wr (by omega)];omega
     refine gE (an @hd @vm) ?_
     refine AP.bC 12 (Tree.node [] [0,1,2,3,4,5,6,7,8] [9] [Tree.node [] [10,11] [] []]) (by kernel_rfl) rfl (by kernel_rfl) (by kernel_rfl) ?_
     refine bA ?_
     refine sE (an @u7 (an @u9 (an @Int.toNat_natCast @lz))) ?_
     refine⟨⟨by omega,by omega⟩,by omega,⟨by omega,by omega⟩,by omega,?_⟩
     refine AQ.nQ [] (by kernel_rfl) rfl rfl rfl rfl rfl rfl (fun k=>by exact trivial) (fun k=>rfl) (fun k=>rfl) (x_ y x) ?_
     refine sI ?_
     refine AQ.nx rfl ?_
     refine sI ?_
     refine AQ.done ?_
     refine gO ?_
     refine AP.cond rfl rfl (fun h5=>?_) (fun h5=>?_)
     ·have h5:¬aA y<aA x:=fun hc=>by
       have:=rV.2 hc
       simp at h5;omega
      refine gE @vG ?_
      exact AE.round (h+1,j) ⟨by simp only;omega,k2,fun k z hk hz=>s4 (lV sA (by omega) hz hx) h5,k4⟩ (by simp only;omega) (sU) rfl
     ·have h5:aA y<aA x:=rV.1 (by simpa using h5)
      refine gO ?_
      exact AE.round (i,h) ⟨by simp only;omega,by simp only;omega,k3,fun k z hk hz=>De h5 (lV sA hk hx hz)⟩ (by simp only;omega) (sU) rfl
   ·have G0:A.length≠1:=fun hc=>by rw[hc]at h1;simp at h1
    have Wv:B.length≠1:=fun hc=>by rw[hc]at h2;simp at h2
    obtain⟨c,hc⟩:∃c,(a+b)/2=c:=⟨_,rfl⟩
    have vm:=zB (x:=(a:Int)) (y:=(b:Int)) (c:=c) (by omega) (by omega) (by omega)
    have yE:IntKind.i64.wrap ((c:Int)+m)=((c+m:Nat):Int):=by rw[wr (by omega)];omega
    clear h1 h2
    refine gE (an @vm @yE) ?_
    refine AP.cut (α:=Nat×Nat) (fun q=>[(0,.os 0 4 0 n),(1,Iv a),(2,Iv m),(3,Iv b),(4,.fn 91 [] []),(18,Iv c),(19,Iv (c+m:Nat)),(20,Iv q.1),(21,Iv q.2)]) (fun _=>b8 (P++A++B++Q)) (fun q=>c<m/\q.1+b=c+m/\q.2=c\/m<=c/\q.1=a/\q.2=m) ?_ fun⟨s0,r0⟩ hq=>?_
    ·refine AP.cond rfl rfl (fun h3=>?_) (fun h3=>?_)
     ·have h3:c<m:=by
       have:(c:Int)<m:=by simpa using h3
       omega
      have mA:IntKind.i64.wrap (((c+m:Nat):Int)-b)=((c+m-b:Nat):Int):=by rw[wr (by omega)];omega
      refine gE @mA ?_
      exact AE.meet (c+m-b,c) (.inl ⟨h3,by simp only;omega,rfl⟩) (sU) rfl
     ·have h3:m<=c:=by
       have:¬(c:Int)<m:=by simpa using h3
       omega
      refine gO ?_
      exact AE.meet (a,m) (.inr ⟨h3,rfl,rfl⟩) (sU) rfl
    simp only at hq
    have Qz:a<=s0/\s0<=r0/\r0<=m/\r0<=c/\c+m<=s0+b:=by omega
    have QR:IntKind.i64.wrap (((c+m:Nat):Int)-1)=((c+m-1:Nat):Int):=by rw[wr (by omega)];omega
    refine gE @QR ?_
    refine AP.loop rfl (α:=Nat×Nat) (fun q=>[(0,.os 0 4 0 n),(1,Iv a),(2,Iv m),(3,Iv b),(4,.fn 91 [] []),(18,Iv c),(19,Iv (c+m:Nat)),(20,Iv q.1),(21,Iv q.2),(22,Iv (c+m-1:Nat))]) (fun _=>b8 (P++A++B++Q)) (fun q=>s0<=q.1/\q.1<=q.2/\q.2<=r0/\(∀k x y,s0<=k->k<q.1->A[k-a]?=some x->B[c-1-k]?=some y->¬aA y<aA x)/\(∀k x y,q.2<=k->k<r0->A[k-a]?=some x->B[c-1-k]?=some y->aA y<aA x)) (fun q=>q.2-q.1) (s0,r0) ⟨Nat.le_refl _,Qz.2.1,Nat.le_refl _,fun k x y h1 h2=>by simp only at h2;omega,fun k x y h1 h2=>by simp only at h1;omega⟩ (sU) rfl fun⟨s,r⟩ ⟨k1,k2,k3,k4,k5⟩=>?_
    simp only at k1 k2 k3 k4 k5⊢
    rcases Nat.eq_or_lt_of_le k2 with rfl|ah
    ·have hd:decide (((s:Nat):Int)<((s:Nat):Int))=false:=decide_eq_false (by omega)
     have oC:IntKind.i64.wrap (((c+m:Nat):Int)-s)=((c+m-s:Nat):Int):=by rw[wr (by omega)];omega
     refine gE (an @hd @oC) ?_
     obtain⟨L1,BP⟩:∃L1,A.take (s-a)=L1:=⟨_,rfl⟩
     obtain⟨L2,pw⟩:∃L2,A.drop (s-a)=L2:=⟨_,rfl⟩
     obtain⟨R1,uR⟩:∃R1,B.take (c-s)=R1:=⟨_,rfl⟩
     obtain⟨R2,qE⟩:∃R2,B.drop (c-s)=R2:=⟨_,rfl⟩
     have G3:L1++L2=A:=by rw[<-BP,<-pw,List.take_append_drop]
     have G7:R1++R2=B:=by rw[<-uR,<-qE,List.take_append_drop]
     have l1:L1.length=s-a:=by rw[<-BP,List.length_take];omega
     have l2:L2.length=m-s:=by rw[<-pw,List.length_drop];omega
     have l3:R1.length=c-s:=by rw[<-uR,List.length_take];omega
     have l4:R2.length=b-(c+m-s):=by rw[<-qE,List.length_drop];omega
     have hM:aR [] (L1++R1)++aR [] (L2++R2)=aR [] (A++B):=by
      rw[<-BP,<-pw,<-uR,<-qE]
      refine R7 sA sB (fun i j x y i1 i2 i3 i4=>?_) (fun i j x y i1 i2 i3 i4=>?_)
      ·have il:=(List.getElem?_eq_some_iff.1 i3).1
       obtain⟨x',dU⟩:∃x',A[s-a]?=some x':=⟨_,List.getElem?_eq_getElem (by omega)⟩
       obtain⟨y',oD⟩:∃y',B[c-1-s]?=some y':=⟨_,List.getElem?_eq_getElem (by omega)⟩
       exact Df (lV sB (by omega) i4 oD) (De (k5 s x' y' (Nat.le_refl _) (by omega) dU oD) (lV sA i1 dU i3))
      ·have jl:=(List.getElem?_eq_some_iff.1 i4).1
       obtain⟨x',dU⟩:∃x',A[s-1-a]?=some x':=⟨_,List.getElem?_eq_getElem (by omega)⟩
       obtain⟨y',oD⟩:∃y',B[c-1-(s-1)]?=some y':=⟨_,List.getElem?_eq_getElem (by omega)⟩
       exact s4 (s4 (lV sA (by omega) i3 dU) (k4 (s-1) x' y' (by omega) (by omega) dU oD)) (lV sB (by omega) oD i4)
     have pA:=sA
     rw[<-G3]at pA
     have pA:=List.pairwise_append.1 pA
     have pB:=sB
     rw[<-G7]at pB
     have pB:=List.pairwise_append.1 pB
     have Ha:P++A++B++Q=P++L1++L2++R1++(R2++Q):=by rw[<-G3,<-G7];simp
     have G_:(P++aR [] (L1++R1)).length=c:=by rw[List.length_append,(kn _ _).length_eq];simp only[List.nil_append,List.length_append];omega
     refine AP.cut (α:=Unit) (fun _=>[(0,.os 0 4 0 n),(1,Iv a),(3,Iv b),(4,.fn 91 [] []),(18,Iv c),(20,Iv s),(24,Iv (c+m-s:Nat))]) (fun _=>b8 (P++L1++R1++L2++R2++Q)) (fun _=>True) ?_ fun _ _=>?_
     ·rw[Ha]
      refine AP.cond rfl rfl (fun h6=>?_) (fun h6=>?_)
      ·simp only[Bool.and_eq_true,decide_eq_true_eq]at h6
       have h0:=Tp (P++L1) L2 R1 (R2++Q) n s m (c+m-s) (by rw[<-hn,Ha]) (by rw[List.length_append];omega) (by omega) (by omega) (by omega) (by omega) Cy
       refine gO ?_
       refine AQ.bN [(0,0)] (by kernel_rfl) rfl rfl rfl rfl rfl rfl (by exact⟨rfl,trivial⟩) rfl (h0) ?_;rintro r H1 ⟨rfl,rfl⟩;refine⟨rfl,?_⟩;refine sH ?_
       refine gO ?_
       exact AE.meet () trivial (sU) (by simp)
      ·simp only[Bool.and_eq_false_iff,decide_eq_false_iff_not]at h6
       refine gO ?_
       refine AE.meet () trivial (sU) ?_
       have:L2.length=0\/R1.length=0:=by omega
       rcases this with h|h<;>(rw[List.eq_nil_of_length_eq_zero h];simp)
     refine gO ?_
     refine AP.cut (α:=Unit) (fun _=>[(0,.os 0 4 0 n),(3,Iv b),(4,.fn 91 [] []),(18,Iv c),(24,Iv (c+m-s:Nat))]) (fun _=>b8 (P++aR [] (L1++R1)++L2++R2++Q)) (fun _=>True) ?_ fun _ _=>?_
     ·refine AP.cond rfl rfl (fun h6=>?_) (fun h6=>?_)
      ·simp only[Bool.and_eq_true,decide_eq_true_eq]at h6
       have h0:=Ek N P L1 R1 (L2++R2++Q) n a s c (by omega) (by simp only[List.length_append];omega) ha (by omega) (by omega) (by omega) (by omega) pA.1 pB.1 Cy
       have e1:P++L1++R1++(L2++R2++Q)=P++L1++R1++L2++R2++Q:=by simp
       rw[e1]at h0
       refine gO ?_
       refine AQ.bN [(0,0)] (by kernel_rfl) rfl rfl rfl rfl rfl rfl (by exact⟨rfl,trivial⟩) rfl (h0) ?_;rintro r H1 ⟨rfl,rfl⟩;refine⟨rfl,?_⟩;refine sH ?_
       refine gO ?_
       exact AE.meet () trivial (sU) (by simp)
      ·simp only[Bool.and_eq_false_iff,decide_eq_false_iff_not]at h6
       refine gO ?_
       refine AE.meet () trivial (sU) ?_
       have:L1.length=0\/R1.length=0:=by omega
       rcases this with h|h
       ·rw[List.eq_nil_of_length_eq_zero h,List.nil_append,wM R1 [] (by rw[List.nil_append];exact pB.1)];simp
       ·have e:=wM L1 [] (by rw[List.nil_append];exact pA.1)
        rw[List.nil_append]at e
        rw[List.eq_nil_of_length_eq_zero h,List.append_nil L1,e];simp
     refine gO ?_
     have j7:P++aR [] (L1++R1)++aR [] (L2++R2)++Q=P++aR [] (A++B)++Q:=by rw[<-hM];simp
     refine AP.cond rfl rfl (fun h6=>?_) (fun h6=>?_)
     ·simp only[Bool.and_eq_true,decide_eq_true_eq]at h6
      have h0:=Ek N (P++aR [] (L1++R1)) L2 R2 Q n c (c+m-s) b (by omega) (by rw[List.length_append,List.length_append,List.length_append,G_];omega) G_ (by omega) (by omega) (by omega) (by omega) pA.2.1 pB.2.1 Cy
      refine gO ?_
      refine AQ.bN [(0,0)] (by kernel_rfl) rfl rfl rfl rfl rfl rfl (by exact⟨rfl,trivial⟩) rfl (h0) ?_;rintro r H1 ⟨rfl,rfl⟩;refine⟨rfl,?_⟩;refine sH ?_
      refine gO ?_
      exact AE.fv rfl trivial ⟨rfl,by rw[j7]⟩
     ·simp only[Bool.and_eq_false_iff,decide_eq_false_iff_not]at h6
      have:aR [] (L2++R2)=L2++R2:=by
       have:L2.length=0\/R2.length=0:=by omega
       rcases this with h|h
       ·rw[List.eq_nil_of_length_eq_zero h,List.nil_append,wM R2 [] (by rw[List.nil_append];exact pB.2.1)];simp
       ·rw[List.eq_nil_of_length_eq_zero h,List.append_nil,wM L2 [] (by rw[List.nil_append];exact pA.2.1)];simp
      rw[this]at j7
      refine gO ?_
      exact AE.fv rfl trivial ⟨rfl,by rw[<-j7];simp⟩
    ·have hd:decide (((s:Nat):Int)<((r:Nat):Int))=true:=decide_eq_true (by omega)
     obtain⟨h,hh⟩:∃h,(s+r)/2=h:=⟨_,rfl⟩
     have P1:=zB (x:=(s:Int)) (y:=(r:Int)) (c:=h) (by omega) (by omega) (by omega)
     obtain⟨x,hx⟩:∃x,A[h-a]?=some x:=⟨_,List.getElem?_eq_getElem (by omega)⟩
     obtain⟨y,hy⟩:∃y,B[c-1-h]?=some y:=⟨_,List.getElem?_eq_getElem (by omega)⟩
     have gx:(P++A++B++Q)[h]?=some x:=by
      have:=rU (P:=P) (Q:=B++Q) hx
      rw[ha,<-List.append_assoc,show a+(h-a)=h by omega]at this
      exact this
     have gy:(P++A++B++Q)[c+m-1-h]?=some y:=by
      have:=rU (P:=P++A) (Q:=Q) hy
      rw[List.length_append,ha,hm,show m+(c-1-h)=c+m-1-h by omega]at this
      exact this
     have u7:=lU gx
     have u9:=lU gy
     have QS:IntKind.i64.wrap (((c+m-1:Nat):Int)-h)=((c+m-1-h:Nat):Int):=by rw[wr (by omega)];omega
     have vG:IntKind.i64.wrap ((h:Int)+1)=((h+1:Nat):Int):=by rw[wr (by omega)];omega
     refine gE (an @hd @P1) ?_
     refine AP.bC 14 (Tree.node [] [0,1,2,3,4,5,6,7,8,9,10] [11] [Tree.node [] [12,13] [] []]) (by kernel_rfl) rfl (by kernel_rfl) (by kernel_rfl) ?_
     refine bA ?_
     refine sE (an @QS (an @u7 (an @u9 (an @Int.toNat_natCast @lz)))) ?_
     refine⟨⟨by omega,by omega⟩,by omega,⟨by omega,by omega⟩,by omega,?_⟩
     refine AQ.nQ [] (by kernel_rfl) rfl rfl rfl rfl rfl rfl (fun k=>by exact trivial) (fun k=>rfl) (fun k=>rfl) (x_ y x) ?_
     refine sI ?_
     refine AQ.nx rfl ?_
     refine sI ?_
     refine AQ.done ?_
     refine gO ?_
     refine AP.cond rfl rfl (fun h5=>?_) (fun h5=>?_)
     ·have h5:¬aA y<aA x:=fun hc=>by
       have:=rV.2 hc
       simp at h5;omega
      refine gE @vG ?_
      exact AE.round (h+1,r) ⟨by simp only;omega,by simp only;omega,k3,fun k x' y' i1 i2 i3 i4=>s4 (s4 (lV sA (by omega) i3 hx) h5) (lV sB (by omega) hy i4),k5⟩ (by simp only;omega) (sU) rfl
     ·have h5:aA y<aA x:=rV.1 (by simpa using h5)
      refine gO ?_
      exact AE.round (s,h) ⟨k1,by simp only;omega,by simp only;omega,k4,fun k x' y' i1 i2 i3 i4=>Df (lV sB (by omega) i4 hy) (De h5 (lV sA (by omega) hx i3))⟩ (by simp only;omega) (sU) rfl
theorem TQ (A B:List Lt):aR [] (aR [] A++aR [] B)=aR [] (A++B):=Ac (cO.both aA (tI A) (tI B) (tI _))
theorem TX (l:List Lt) (sb:20<l.length) (uN:l.length<=40):ak Tryz.prog 164 [.os 0 4 0 l.length,Iv l.length,.fn 91 [] []] (b8 l) (fun r H'=>r= .aD []/\H'=b8 (aR [] l)):=by
 obtain⟨A,hA⟩:∃A,l.take 20=A:=⟨_,rfl⟩
 obtain⟨B,hB⟩:∃B,l.drop 20=B:=⟨_,rfl⟩
 have G4:A++B=l:=by rw[<-hA,<-hB,List.take_append_drop]
 have G5:A.length=20:=by rw[<-hA,List.length_take];omega
 have OQ:B.length=l.length-20:=by rw[<-hB,List.length_drop]
 obtain⟨n,hn⟩:∃n,l.length=n:=⟨_,rfl⟩
 have HT:(aR [] A).length=20:=by rw[(kn _ _).length_eq];simpa using G5
 have Qu:(aR [] B).length=n-20:=by rw[(kn _ _).length_eq];simp;omega
 have pA:(aR [] A).Pairwise eG:=wN _ _ List.Pairwise.nil
 have pB:(aR [] B).Pairwise eG:=wN _ _ List.Pairwise.nil
 have i1:=vY [] A B (by simp only[List.nil_append,List.length_append];omega)
 simp only[List.nil_append,List.length_nil]at i1
 rw[G4,hn,G5]at i1
 have Q7:ak Tryz.prog 205 [.os 0 4 0 n,Iv 0,Iv 20,.fn 91 [] []] (b8 l) (fun r H'=>r= .aD []/\H'=b8 (aR [] A++B)):=i1
 have i2:=vY (aR [] A) B [] (by simp only[List.length_append,List.append_nil];omega)
 simp only[List.append_nil]at i2
 rw[List.length_append,HT,show 20+B.length=n by omega]at i2
 rw[show(((20:Nat):Int)+(B.length:Nat))=(n:Int) by omega]at i2
 have Ia:ak Tryz.prog 205 [.os 0 4 0 n,Iv 20,Iv n,.fn 91 [] []] (b8 (aR [] A++B)) (fun r H'=>r= .aD []/\H'=b8 (aR [] A++aR [] B)):=i2
 have i3:=vY (aR [] A++aR [] B) [] [] (by simp only[List.length_append,List.append_nil];omega)
 simp only[List.append_nil]at i3
 rw[List.length_append,HT,Qu,show 20+(n-20)=n by omega,show aR [] []=[] from rfl,List.append_nil]at i3
 rw[show((n:Int)+(([]:List Lt).length:Nat))=(n:Int) by simp]at i3
 have mg:=Ek (n+20) [] (aR [] A) (aR [] B) [] n 0 20 n (by omega) (by simp only[List.nil_append,List.append_nil,List.length_append];omega) rfl (by omega) (by omega) (by omega) (by omega) pA pB (by omega)
 simp only[List.nil_append,List.append_nil]at mg
 rw[TQ,G4]at mg
 have Jh:ak Tryz.prog 206 [.os 0 4 0 n,Iv 0,Iv 20,Iv n,.fn 91 [] []] (b8 (aR [] A++aR [] B)) (fun r H'=>r= .aD []/\H'=b8 (aR [] l)):=mg
 have H5:IntKind.i64.wrap (20+20)=40:=by rw[wr (by omega)];rfl
 have WM:IntKind.i64.wrap (40+20)=60:=by rw[wr (by omega)];rfl
 rw[hn]
 refine ak.walk [0,1,2,6,7,8,9,13,30,35,54] [] Tryz.func164 rfl Tryz.ntmps164 (by kernel_rfl) (by rfl) rfl fun W own I0 ax lay=>?_
 refine gO ?_
 refine AP.loop rfl (α:=Nat) (fun r=>[(0,.os 0 4 0 n),(1,Iv n),(2,.fn 91 [] []),(6,Iv 20),(7,Iv (20*r:Nat)),(8,Iv (20*r+20:Nat))]) (fun r=>b8 (if r=0 then l else if r=1 then aR [] A++B else aR [] A++aR [] B)) (fun r=>20*r<=n/\r<=2) (fun r=>2-r) 0 ⟨by omega,by omega⟩ (by exact(sU)) rfl fun r ⟨sM,Qs⟩=>?_
 by_cases ah:20*r+20<=n
 ·have hd:decide (((20*r+20:Nat):Int)<=(n:Int))=true:=decide_eq_true (by omega)
  have hw:IntKind.i64.wrap (((20*r+20:Nat):Int)+20)=((20*(r+1)+20:Nat):Int):=by rw[wr (by omega)];omega
  have hr:r=0\/r=1/\n=40:=by omega
  rcases hr with rfl|⟨rfl,rfl⟩
  ·simp only[if_true]
   refine gE @hd ?_
   refine AQ.bN [(0,0)] (by kernel_rfl) rfl rfl rfl rfl rfl rfl (by exact⟨rfl,trivial⟩) rfl (Q7) ?_;rintro r H1 ⟨rfl,rfl⟩;refine⟨rfl,?_⟩;refine sH ?_
   refine gE @hw ?_
   exact AE.round 1 ⟨by omega,by omega⟩ (by omega) (by exact(sU)) (by simp)
  ·simp only[Nat.one_ne_zero,if_false,if_true]
   refine gE @hd ?_
   refine AQ.bN [(0,0)] (by kernel_rfl) rfl rfl rfl rfl rfl rfl (by exact⟨rfl,trivial⟩) rfl (Ia) ?_;rintro r H1 ⟨rfl,rfl⟩;refine⟨rfl,?_⟩;refine sH ?_
   refine gE @hw ?_
   exact AE.round 2 ⟨by omega,by omega⟩ (by omega) (by exact(sU)) (by simp)
 ·have hd:decide (((20*r+20:Nat):Int)<=(n:Int))=false:=decide_eq_false (by omega)
  have hr:r=1/\n<40\/r=2/\n=40:=by omega
  rcases hr with⟨rfl,WC⟩|⟨rfl,rfl⟩
  ·simp only[Nat.one_ne_zero,if_false,if_true]
   refine gE @hd ?_
   refine AQ.bN [(0,0)] (by kernel_rfl) rfl rfl rfl rfl rfl rfl (by exact⟨rfl,trivial⟩) rfl (Ia) ?_;rintro r H1 ⟨rfl,rfl⟩;refine⟨rfl,?_⟩;refine sH ?_
   refine gO ?_
   refine AP.loop rfl (α:=Bool) (fun b=>[(0,.os 0 4 0 n),(1,Iv n),(2,.fn 91 [] []),(6,Iv (if b then 40 else 20))]) (fun b=>b8 (if b then aR [] l else aR [] A++aR [] B)) (fun _=>True) (fun b=>if b then 0 else 1) false trivial (by exact(sU)) rfl fun b _=>?_
   have d1:decide ((20:Int)<(n:Int))=true:=decide_eq_true (by omega)
   have d2:decide ((40:Int)<(n:Int))=false:=decide_eq_false (by omega)
   have d3:decide ((40:Int)<=(n:Int))=false:=decide_eq_false (by omega)
   cases b with
   |true=>
    simp only[if_true]
    repeat(first|refine xA ?_|refine xB ?_|refine xC ?_|refine xE ?_|refine xD ?_|refine xK ?_|refine xS ?_|refine xM ?_|refine xT ?_|refine xF ?_|((first|refine xR ?_|refine xW ?_|refine fE ?_);simp only[go_sem,Nat.reduceAdd,Nat.reduceLeDiff,Nat.reduceSub,Int.reduceToNat,reduceCtorEq,d2])|(refine⟨by first|omega|(intros;simp_all;done)|(intros;simp_all;omega),?_⟩;try simp only[go_sem,Nat.reduceAdd,Nat.reduceLeDiff,Nat.reduceSub,Int.reduceToNat,reduceCtorEq,d2]))
    exact AE.fv rfl trivial ⟨rfl,rfl⟩
   |false=>
    simp only[Bool.false_eq_true,if_false]
    have w1:IntKind.i64.wrap (2*20)=40:=by rw[wr (by omega)];rfl
    have w2:IntKind.i64.wrap (0+20)=20:=by rw[wr (by omega)];rfl
    have w3:IntKind.i64.wrap (20*2)=40:=by rw[wr (by omega)];rfl
    repeat(first|refine xA ?_|refine xB ?_|refine xC ?_|refine xE ?_|refine xD ?_|refine xK ?_|refine xS ?_|refine xM ?_|refine xT ?_|refine xF ?_|((first|refine xR ?_|refine xW ?_|refine fE ?_);simp only[go_sem,Nat.reduceAdd,Nat.reduceLeDiff,Nat.reduceSub,Int.reduceToNat,reduceCtorEq,d1,w1])|(refine⟨by first|omega|(intros;simp_all;done)|(intros;simp_all;omega),?_⟩;try simp only[go_sem,Nat.reduceAdd,Nat.reduceLeDiff,Nat.reduceSub,Int.reduceToNat,reduceCtorEq,d1,w1]))
    refine AP.loop rfl (α:=Unit) (fun _=>[(0,.os 0 4 0 n),(1,Iv n),(2,.fn 91 [] []),(6,Iv 20),(7,Iv 0),(8,Iv 40)]) (fun _=>b8 (aR [] A++aR [] B)) (fun _=>True) (fun _=>0) () trivial (sU) rfl fun _ _=>?_
    repeat(first|refine xA ?_|refine xB ?_|refine xC ?_|refine xE ?_|refine xD ?_|refine xK ?_|refine xS ?_|refine xM ?_|refine xT ?_|refine xF ?_|((first|refine xR ?_|refine xW ?_|refine fE ?_);simp only[go_sem,Nat.reduceAdd,Nat.reduceLeDiff,Nat.reduceSub,Int.reduceToNat,reduceCtorEq,d3,w2,d1])|(refine⟨by first|omega|(intros;simp_all;done)|(intros;simp_all;omega),?_⟩;try simp only[go_sem,Nat.reduceAdd,Nat.reduceLeDiff,Nat.reduceSub,Int.reduceToNat,reduceCtorEq,d3,w2,d1]))
    refine AQ.bN [(0,0)] (by kernel_rfl) rfl rfl rfl rfl rfl rfl (by exact⟨rfl,trivial⟩) rfl (Jh) ?_;rintro r H1 ⟨rfl,rfl⟩;refine⟨rfl,?_⟩;refine sH ?_
    refine gE @w3 ?_
    exact AE.round true trivial (by simp) (sU) rfl
  ·simp only[show¬(2:Nat)=0 by omega,show¬(2:Nat)=1 by omega,if_false]
   refine gE @hd ?_
   refine AQ.bN [(0,0)] (by kernel_rfl) rfl rfl rfl rfl rfl rfl (by exact⟨rfl,trivial⟩) rfl (i3) ?_;rintro r H1 ⟨rfl,rfl⟩;refine⟨rfl,?_⟩;refine sH ?_
   refine gO ?_
   refine AP.loop rfl (α:=Bool) (fun b=>[(0,.os 0 4 0 40),(1,Iv 40),(2,.fn 91 [] []),(6,Iv (if b then 40 else 20))]) (fun b=>b8 (if b then aR [] l else aR [] A++aR [] B)) (fun _=>True) (fun b=>if b then 0 else 1) false trivial (by exact(sU)) rfl fun b _=>?_
   cases b with
   |true=>
    simp only[if_true]
    refine gO ?_
    exact AE.fv rfl trivial ⟨rfl,rfl⟩
   |false=>
    simp only[Bool.false_eq_true,if_false]
    have w1:IntKind.i64.wrap (2*20)=40:=by rw[wr (by omega)];rfl
    have w2:IntKind.i64.wrap (0+20)=20:=by rw[wr (by omega)];rfl
    have w3:IntKind.i64.wrap (20*2)=40:=by rw[wr (by omega)];rfl
    have w4:IntKind.i64.wrap (40+40)=80:=by rw[wr (by omega)];rfl
    have w5:IntKind.i64.wrap (40+20)=60:=by rw[wr (by omega)];rfl
    refine gE @w1 ?_
    refine AP.loop rfl (α:=Bool) (fun b=>[(0,.os 0 4 0 40),(1,Iv 40),(2,.fn 91 [] []),(6,Iv 20),(7,Iv (if b then 40 else 0)),(8,Iv (if b then 80 else 40))]) (fun b=>b8 (if b then aR [] l else aR [] A++aR [] B)) (fun _=>True) (fun b=>if b then 0 else 1) false trivial (by exact(sU)) rfl fun b _=>?_
    cases b with
    |false=>
     simp only[Bool.false_eq_true,if_false]
     refine gE @w2 ?_
     refine AQ.bN [(0,0)] (by kernel_rfl) rfl rfl rfl rfl rfl rfl (by exact⟨rfl,trivial⟩) rfl (Jh) ?_;rintro r H1 ⟨rfl,rfl⟩;refine⟨rfl,?_⟩;refine sH ?_
     refine gE (an @w1 @w4) ?_
     exact AE.round true trivial (by simp) (sU) rfl
    |true=>
     simp only[if_true]
     refine gE (an @w5 @w3) ?_
     exact AE.round true trivial (by simp) (sU) rfl
theorem TP (l:List Lt) (h:l.length<=40):ak Tryz.prog 90 [.os 0 4 0 l.length,.fn 91 [] []] (b8 l) (fun r H'=>r= .aD []/\H'=b8 (aR [] l)):=by
 by_cases h2:l.length<=20
 ·exact KW l h2
 ·refine ak.walk [0,1] [] Tryz.func90 rfl Tryz.ntmps90 (by kernel_rfl) (by rfl) rfl fun W own I0 ax lay=>?_
  refine gO ?_
  refine AQ.bN [(0,0)] (by kernel_rfl) rfl rfl rfl rfl rfl rfl (by exact⟨rfl,trivial⟩) rfl (TX l (by omega) h) ?_;rintro r H1 ⟨rfl,rfl⟩;refine⟨rfl,?_⟩;refine sH ?_
  refine gO ?_
  exact AE.fv rfl trivial ⟨rfl,rfl⟩
theorem BX {v:Int} {l:List Int}:jy v l=true↔v∈l:=by
 rw[jy,List.any_eq_true]
 constructor
 ·rintro⟨x,h,e⟩;exact(by simpa using e:x=v)▸h
 ·exact fun h=>⟨v,h,by simp⟩
mutual
theorem Uz:∀(t:Tm) (l:List Int),cw t=true->∀v,v∈iy l t↔v∈l\/v∈bR t
 | .mk n i xs,l,h,v=>by
  rw[cw]at h
  rw[iy,bR]
  by_cases hn:n=[]
  ·rw[if_pos hn]at h⊢
   rw[if_pos hn]
   simp only[Bool.and_eq_true,List.isEmpty_iff]at h
   rw[h.1,aM,List.append_nil]
   by_cases hi:jy i l=true
   ·rw[if_pos hi]
    have:=BX.1 hi
    constructor
    ·exact .inl
    ·rintro(k|k)
     ·exact k
     ·rw[List.mem_singleton.1 k];exact this
   ·rw[if_neg hi,List.mem_append]
  ·rw[if_neg hn]at h⊢
   rw[if_neg hn,List.nil_append]
   simp only[Bool.and_eq_true]at h
   exact EE xs l h.2 v
theorem EE:∀(r:List Tm) (l:List Int),bL r=true->∀v,v∈ft l r↔v∈l\/v∈aM r
 |[],l,_,v=>by rw[ft,aM];simp
 |t::r,l,h,v=>by
  rw[bL,Bool.and_eq_true]at h
  rw[ft,aM,EE r _ h.2,Uz t l h.1,List.mem_append,or_assoc]
end
def okW (t:Tm):Prop:=bL t.xs=true/\(t.nm=[]->t.xs=[])
theorem LA {t:Tm} (h:okW t) (v:Int):v∈iy [] t↔v∈bR t:=by
 rw[Lw,EM]
 by_cases hn:t.nm=[]
 ·rw[if_pos hn,if_pos hn,h.2 hn,aM,List.append_nil]
  have:jy t.ix []=false:=rfl
  rw[this];simp
 ·rw[if_neg hn,if_neg hn,EE t.xs [] h.1];simp
theorem NQ {s t:Tm} (h:okW t):nT s t=(iy [] t).all fun v=>decide ((bR t).count v<=(bR s).count v):=by
 rw[nT,Bool.eq_iff_iff,List.all_eq_true,List.all_eq_true]
 constructor
 ·exact fun k v hv=>k v ((LA h v).1 hv)
 ·exact fun k v hv=>k v ((LA h v).2 hv)
theorem LL {l:List Tm} {k:Nat} {u:Tm} (h:l[k]?=some u):aM (l.take (k+1))=aM (l.take k)++bR u:=by
 have uU:∀a:List Tm,aM (a++[u])=aM a++bR u:=fun a=>by
  induction a with
  |nil=>simp[aM]
  |cons x a ih=>rw[List.cons_append,aM,aM,ih,List.append_assoc]
 rw[cK h,uU]
theorem LN:∀t:Tm,(bR t).length<=wT t
 | .mk n i xs=>by
  have:=LO xs
  rw[bR,wT,List.length_append]
  split<;>simp<;>omega
where
 LO:∀l:List Tm,(aM l).length<=aH l
 |[]=>by rw[aM,aH];simp
 |t::l=>by have:=LN t;have:=LO l;rw[aM,aH,List.length_append];omega
theorem Bc (t:Tm) (v:Int) (hs:bz t) (hw:wT t<=1000000):aI Tryz.prog 212 [bq t,Iv v] (Iv ((bR t).count v:Nat)):=by
 have cq:=eT.1 hs
 have H6:=w_ t
 have eC:=LN t
 have q5:(bR t).count v=(if t.nm=[]/\t.ix=v then 1 else 0)+(aM t.xs).count v:=by
  rw[EM,List.count_append]
  by_cases h:t.nm=[]
  ·rw[if_pos h,List.count_singleton]
   by_cases k:t.ix=v
   ·simp[h,k]
   ·simp[h,k]
  ·rw[if_neg h];simp[h]
 obtain⟨d,hd⟩:∃d,(if t.nm=[]/\t.ix=v then 1 else 0:Nat)=d:=⟨_,rfl⟩
 have j5:d<=1:=by rw[<-hd];split<;>omega
 rw[hd]at q5
 refine ak.walk [0,1,2,4,5,6,15,20] [] Tryz.func212 rfl Tryz.ntmps212 (by kernel_rfl) (by rfl) rfl fun W own I0 ax lay=>?_
 refine gO ?_
 refine AP.cut (α:=Unit) (fun _=>[(1,Iv v),(2,.im (gW t)),(5,Iv d)]) (fun _=>[]) (fun _=>True) ?_ fun _ _=>?_
 ·refine AP.cond rfl rfl (fun h=>?_) (fun h=>?_)
  ·have h:t.nm=[]/\t.ix=v:=by simpa using h
   rw[if_pos h]at hd
   subst hd
   refine gO ?_
   exact AE.meet () trivial (sU) rfl
  ·have h:¬(t.nm=[]/\t.ix=v):=by
    intro hc
    simp[hc.1,hc.2]at h
   rw[if_neg h]at hd
   subst hd
   refine gO ?_
   exact AE.meet () trivial (sU) rfl
 refine gE @ai ?_
 refine AP.loop rfl (α:=Nat) (fun k=>[(1,Iv v),(2,.im (gW t)),(5,Iv (d+(aM (t.xs.take k)).count v:Nat)),(6,Iv k)]) (fun _=>[]) (fun k=>k<=t.xs.length) (fun k=>t.xs.length-k) 0 (by omega) (by rw[List.take_zero,aM];exact(sU)) rfl fun k hk=>?_
 have hx:=cq.2.1
 rcases Nat.eq_or_lt_of_le hk with aG|ah
 ·subst aG
  rw[List.take_length]
  refine gE @ai ?_
  refine cF ?_
  refine gO ?_
  exact AE.ay rfl ⟨rfl,trivial⟩ rfl ⟨rfl,by rw[q5];rfl⟩
 ·obtain⟨u,hu,aj⟩:=cm t.xs k ah
  have a8:=wr (x:=(k:Int)+1) (by omega)
  have aS:=LL hu
  have WN:=qh t.xs u (List.mem_of_getElem? hu)
  have ih:=Bc u v (cN cq.2.2 hu) (by omega)
  have vx:(aM (t.xs.take (k+1))).count v<=(aM t.xs).count v:=by
   have:aM t.xs=aM (t.xs.take (k+1))++aM (t.xs.drop (k+1)):=by
    conv=>lhs;rw[<-List.take_append_drop (k+1) t.xs]
    induction t.xs.take (k+1)with
    |nil=>rw[List.nil_append,aM];rfl
    |cons x a ih=>rw[List.cons_append,aM,aM,ih,List.append_assoc]
   rw[this,List.count_append];omega
  have cB:(bR t).count v<=(bR t).length:=List.count_le_length
  rw[aS,List.count_append]at vx
  have cJ:=wr (x:=((d+(aM (t.xs.take k)).count v:Nat):Int)+((bR u).count v:Nat)) (by omega)
  have e2:((d+(aM (t.xs.take k)).count v:Nat):Int)+((bR u).count v:Nat)=((d+(aM (t.xs.take (k+1))).count v:Nat):Int):=by rw[aS,List.count_append];omega
  refine gE @ai ?_
  refine cT ?_
  refine gE (an @aj @ai) ?_
  refine AQ.fn (by kernel_rfl) rfl rfl rfl (ih) rfl ?_
  refine sI ?_
  refine gE (an @a8 @cJ) ?_
  exact AE.round (k+1) (by omega) (by omega) (by rw[<-e2];exact(sU)) rfl
termination_by SizeOf.sizeOf t
decreasing_by exact gX hu
theorem GY (a b:List UInt8):(!(Op.bytesLess a b||a==b))=decide (b<a):=by
 rw[s8]
 rcases rj a b with h|h|h
 ·rw[decide_eq_true h,decide_eq_false (fun k=>List.lt_asymm h k)];rfl
 ·subst h
  rw[decide_eq_false (List.lt_irrefl _)];simp
 ·rw[decide_eq_false (fun k=>List.lt_asymm h k),decide_eq_true h,beq_eq_false_iff_ne.2 (fun e=>by rw[e]at h;exact List.lt_irrefl _ h)];rfl
theorem zK {t:Tm} (h:cw t=true):bL t.xs=true:=by
 cases t with
 |mk n i xs=>
  rw[cw]at h
  by_cases hn:n=[]
  ·rw[if_pos hn]at h
   simp only[Bool.and_eq_true,List.isEmpty_iff]at h
   show bL xs=true
   rw[h.1,bL]
  ·rw[if_neg hn]at h
   simp only[Bool.and_eq_true]at h
   exact h.2
theorem rm:∀{l:List Tm} {k:Nat} {u:Tm},bL l=true->l[k]?=some u->cw u=true
 |[],k,u,_,h=>by simp at h
 |t::l,0,u,h,k=>by
  rw[bL,Bool.and_eq_true]at h
  simp at k
  exact k▸h.1
 |t::l,j+1,u,h,k=>by
  rw[bL,Bool.and_eq_true]at h
  simp at k
  exact rm h.2 k
theorem JR {t:Tm} (h:cw t=true):okW t:=by
 refine⟨zK h,fun hn=>?_⟩
 cases t with
 |mk n i xs=>
  have hn:n=[]:=hn
  rw[cw,if_pos hn]at h
  simp only[Bool.and_eq_true,List.isEmpty_iff]at h
  exact h.1
theorem Cb (s t:Tm) (hs:bz s) (ht:bz t) (ho:okW t) (mw:wT s<=5000) (pQ:wT t<=5000):aI Tryz.prog 169 [bq s,bq t] (Bv (lx s t)):=by
 have cq:=eT.1 hs
 have sP:=eT.1 ht
 have hg:=GX s t
 have q6:=EI t [] ht (by simp;omega)
 have HZ:=q6.uf (xs:=[bq t,dm]) (by repeat' (first|with_reducible exact bX.refl _|with_reducible exact da.refl _|exact da.nil _|with_reducible exact bO.refl _|with_reducible exact fp.refl _|with_reducible exact eI.refl _|refine bO.lj ?_ ?_|refine bX.agg ?_|refine bX.im ?_|refine da.sl ?_|refine eI.cons ?_ ?_|refine fp.cons ?_ ?_))
 have fw:=NQ (s:=s) ho
 have eC:=(Lx t []).2
 obtain⟨l,hl⟩:∃l,iy [] t=l:=⟨_,rfl⟩
 rw[hl]at HZ fw eC
 have kK:l.length<=5000:=by simp at eC;omega
 have h1:=wo s 5000 hs (by omega)
 have h2:=wo t 5000 ht (by omega)
 rw[(mL s 5000 (by omega)).1 (by omega)]at h1
 rw[(mL t 5000 (by omega)).1 (by omega)]at h2
 refine ak.walk [0,1,2,3,4,5,6,7,8,9,15,30,37,48,55,67,77,91] [] Tryz.func169 rfl Tryz.ntmps169 (by kernel_rfl) (by rfl) rfl fun W own I0 ax lay=>?_
 refine gO ?_
 refine AQ.fn (by kernel_rfl) rfl rfl rfl (HZ) rfl ?_
 refine sI ?_
 refine gO ?_
 refine AP.loop rfl (α:=Nat) (fun k=>[(2,.im (gW s)),(3,.im (gW t)),(5,.im (.sl 1 (cL l))),(6,Iv k)]) (fun _=>[]) (fun k=>k<=l.length/\nT s t=(l.drop k).all fun v=>decide ((bR t).count v<=(bR s).count v)) (fun k=>l.length-k) 0 ⟨by omega,fw⟩ (sU) rfl fun k ⟨hk,hm⟩=>?_
 rcases Nat.eq_or_lt_of_le hk with aG|ah
 ·rw[aG,List.drop_length]at hm
  have hm:nT s t=true:=hm
  rw[hm,if_neg (by simp)]at hg
  refine gE @cj ?_
  refine cF ?_
  refine gO ?_
  refine AP.bC 6 (Tree.node [] [0,2] [1] [Tree.node [2] [] [3] [Tree.node [] [4,5] [] []]]) (by kernel_rfl) rfl (by kernel_rfl) (by kernel_rfl) ?_
  refine bA ?_
  refine sI ?_
  refine AQ.fn (by kernel_rfl) rfl rfl rfl (h1) rfl ?_
  refine sI ?_
  refine AQ.nx rfl ?_
  refine sI ?_
  refine AQ.fn (by kernel_rfl) rfl rfl rfl (h2) rfl ?_
  refine sI ?_
  refine AQ.nx rfl ?_
  refine sI ?_
  refine AQ.done ?_
  refine gO ?_
  refine AP.cond rfl rfl (fun h3=>?_) (fun h3=>?_)
  ·refine gO ?_
   refine AE.ay rfl ⟨rfl,trivial⟩ rfl ⟨rfl,?_⟩
   rw[hg,if_pos (by simp at h3;omega),show decide (wT t<wT s)=decide ((wT t:Int)<wT s) by rw[decide_eq_decide];omega]
   simp[dN];rfl
  rw[if_neg (by simp at h3;omega)]at hg
  refine gO ?_
  refine AP.cond rfl rfl (fun h4=>?_) (fun h4=>?_)
  ·refine gO ?_
   exact AE.ay rfl ⟨rfl,trivial⟩ rfl ⟨rfl,by rw[hg,if_pos (by simpa using h4)];rfl⟩
  rw[if_neg (by simpa using h4)]at hg
  refine gE @ai ?_
  refine AP.cond rfl rfl (fun h5=>?_) (fun h5=>?_)
  ·refine gE @ai ?_
   refine AE.ay rfl ⟨rfl,trivial⟩ rfl ⟨rfl,?_⟩
   rw[hg,if_pos (by simp at h5;omega),show decide (t.xs.length<s.xs.length)=decide ((t.xs.length:Int)<s.xs.length) by rw[decide_eq_decide];omega]
   simp[dN];rfl
  have mB:s.xs.length=t.xs.length:=by simp at h5;omega
  rw[if_neg (by omega)]at hg
  refine gE @ai ?_
  refine AP.cond rfl rfl (fun h6=>?_) (fun h6=>?_)
  ·refine gO ?_
   refine AE.ay rfl ⟨rfl,trivial⟩ rfl ⟨rfl,?_⟩
   rw[hg,if_pos (by simpa using h6)]
   rw[GY];rfl
  rw[if_neg (by simpa using h6)]at hg
  refine gO ?_
  refine AP.loop rfl (α:=Nat) (fun k=>[(2,.im (gW s)),(3,.im (gW t)),(9,Iv k)]) (fun _=>[]) (fun k=>k<=s.xs.length/\lx s t=mj (s.xs.drop k) (t.xs.drop k)) (fun k=>s.xs.length-k) 0 ⟨by omega,hg⟩ (sU) rfl fun k ⟨hk,hm⟩=>?_
  rcases Nat.eq_or_lt_of_le hk with aG|ah
  ·rw[aG,List.drop_length,mB,List.drop_length,mj]at hm
   refine gE @ai ?_
   refine cF ?_
   refine gO ?_
   exact AE.ay rfl ⟨rfl,trivial⟩ rfl ⟨rfl,by rw[hm];rfl⟩
   all_goals simp
  ·obtain⟨u,hu,aj⟩:=cm s.xs k ah
   obtain⟨w,a8,cg⟩:=cm t.xs k (by omega)
   rw[drop_cons hu,drop_cons a8,mj]at hm
   have hw:=wr (x:=(k:Int)+1) (by omega)
   have bM:=cN cq.2.2 hu
   have jH:=cN sP.2.2 a8
   have vB:wT u<wT s:=As (List.mem_of_getElem? hu)
   have H6:wT w<wT t:=As (List.mem_of_getElem? a8)
   refine gE @ai ?_
   refine cT ?_
   refine gO ?_
   refine AP.bC 12 (Tree.node [] [0,1,2,3,4,5,6,7,8,9] [10] [Tree.node [] [11] [] []]) (by kernel_rfl) rfl (by kernel_rfl) (by kernel_rfl) ?_
   refine bA ?_
   refine sE (an @aj (an @cg @ai)) ?_
   refine⟨by omega,by omega,?_⟩
   refine AQ.fn (by kernel_rfl) rfl rfl rfl (wJ u w bM) rfl ?_
   refine sI ?_
   refine AQ.nx rfl ?_
   refine sI ?_
   refine AQ.done ?_
   refine gO ?_
   refine AP.cond rfl rfl (fun h7=>?_) (fun h7=>?_)
   ·have h7:cS u w=false:=by simpa using h7
    rw[h7,if_neg (by simp)]at hm
    have Qf:okW w:=JR (rm ho.1 a8)
    have ih:=Cb u w bM jH Qf (by omega) (by omega)
    refine gO ?_
    refine AP.bC 12 (Tree.node [] [0,1,2,3,4,5,6,7,8,9] [10] [Tree.node [] [11] [] []]) (by kernel_rfl) rfl (by kernel_rfl) (by kernel_rfl) ?_
    refine bA ?_
    refine sE (an @aj (an @cg @ai)) ?_
    refine⟨by omega,by omega,?_⟩
    refine AQ.fn (by kernel_rfl) rfl rfl rfl (ih) rfl ?_
    refine sI ?_
    refine AQ.nx rfl ?_
    refine sI ?_
    refine AQ.done ?_
    refine gO ?_
    exact AE.ay rfl ⟨rfl,trivial⟩ rfl ⟨rfl,by rw[hm];rfl⟩
   ·have h7:cS u w=true:=by simpa using h7
    rw[if_pos h7]at hm
    refine gE @hw ?_
    exact AE.round (k+1) ⟨by omega,hm⟩ (by omega) (sU) rfl
 ·have hv:l[k]?=some (l.getD k 0):=by rw[List.getD_eq_getElem?_getD,List.getElem?_eq_getElem ah];rfl
  obtain⟨v,sS⟩:∃v,l.getD k 0=v:=⟨_,rfl⟩
  rw[sS]at hv
  have aj:=zf l k ah
  rw[sS]at aj
  have hw:=wr (x:=(k:Int)+1) (by omega)
  rw[drop_cons hv,List.all_cons]at hm
  have kF:=Bc t v ht (by omega)
  have qK:=Bc s v hs (by omega)
  refine gE @cj ?_
  refine cT ?_
  refine gO ?_
  refine AP.bC 13 (Tree.node [] [0,1,2,3,4,6,7,8,9,10] [5] [Tree.node [6,7,8,9,10] [] [11] [Tree.node [] [12] [] []]]) (by kernel_rfl) rfl (by kernel_rfl) (by kernel_rfl) ?_
  refine bA ?_
  refine sE (an @aj @cj) ?_
  refine⟨by omega,by omega,?_⟩
  refine AQ.fn (by kernel_rfl) rfl rfl rfl (kF) rfl ?_
  refine sI ?_
  refine AQ.nx rfl ?_
  refine sI ?_
  refine⟨⟨⟨by omega,by rw[cj];omega⟩,by rw[aj]⟩,?_⟩
  refine AQ.fn (by kernel_rfl) rfl rfl rfl (qK) rfl ?_
  refine sI ?_
  refine AQ.nx rfl ?_
  refine sI ?_
  refine AQ.done ?_
  refine gO ?_
  refine AP.cond rfl rfl (fun h5=>?_) (fun h5=>?_)
  ·have h5:¬(bR t).count v<=(bR s).count v:=by simp at h5;omega
   rw[decide_eq_false h5,Bool.false_and]at hm
   refine gO ?_
   exact AE.ay rfl ⟨rfl,trivial⟩ rfl ⟨rfl,by rw[hg,if_pos hm];rfl⟩
  ·have h5:(bR t).count v<=(bR s).count v:=by simp at h5;omega
   rw[decide_eq_true h5,Bool.true_and]at hm
   refine gE @hw ?_
   exact AE.round (k+1) ⟨by omega,hm⟩ (by omega) (sU) rfl
termination_by SizeOf.sizeOf t
decreasing_by exact gX a8
theorem NM (s t:Tm) (hs:bz s) (ht:bz t) (jE:okW s) (Qe:okW t) (mw:wT s<=5000) (pQ:wT t<=5000):aI Tryz.prog 102 [bq s,bq t] (Iv (gL s t)):=by
 have h1:=wJ s t hs
 have h2:=Cb s t hs ht Qe mw pQ
 have h3:=Cb t s ht hs jE pQ mw
 refine ak.walk [0,1,2,3,4,7,10,13] [] Tryz.func102 rfl Tryz.ntmps102 (by kernel_rfl) (by rfl) rfl fun W own I0 ax lay=>?_
 refine gO ?_
 refine AQ.fn (by kernel_rfl) rfl rfl rfl (h1) rfl ?_
 refine sI ?_
 refine gO ?_
 refine AP.cond rfl rfl (fun k1=>?_) (fun k1=>?_)
 ·refine gO ?_
  exact AE.ay rfl ⟨rfl,trivial⟩ rfl ⟨rfl,by rw[gL,if_pos k1];rfl⟩
 refine gO ?_
 refine AQ.fn (by kernel_rfl) rfl rfl rfl (h2) rfl ?_
 refine sI ?_
 refine gO ?_
 refine AP.cond rfl rfl (fun k2=>?_) (fun k2=>?_)
 ·refine gO ?_
  exact AE.ay rfl ⟨rfl,trivial⟩ rfl ⟨rfl,by rw[gL,k1,if_neg (by simp),if_pos k2];rfl⟩
 refine gO ?_
 refine AQ.fn (by kernel_rfl) rfl rfl rfl (h3) rfl ?_
 refine sI ?_
 refine gO ?_
 refine AP.cond rfl rfl (fun k3=>?_) (fun k3=>?_)
 ·refine gO ?_
  exact AE.ay rfl ⟨rfl,trivial⟩ rfl ⟨rfl,by rw[gL,k1,k2,if_neg (by simp),if_neg (by simp),if_pos k3];rfl⟩
 ·refine gO ?_
  exact AE.ay rfl ⟨rfl,trivial⟩ rfl ⟨rfl,by rw[gL,k1,k2,k3,if_neg (by simp),if_neg (by simp),if_neg (by simp)];rfl⟩
end Go.Proofs.YtpfohmboflcneaaGreatDoor
end
