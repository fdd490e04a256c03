import Derived.Test.YtpfohmboflcneaaGreatDoorW2
import Derived.Lib.IndexMore
import Derived.Shelf.Strings.Search3
set_option linter.unusedSimpArgs false
set_option linter.unusedVariables false
set_option linter.unnecessarySimpa false
section
namespace Go.Proofs.YtpfohmboflcneaaGreatDoor
open Go Go.AL Go.RowKit
set_option maxRecDepth 10000
set_option maxHeartbeats 4000000
noncomputable def jf (l:Nat) (st:iK):Ob:= .lp l 13 st Tryz.f214 [0,1,0,1] [7] [(2,.ob 2 0)]
noncomputable def wv (l:Nat) (m:Bd) (acc:List Int):aa:=[(5,jf l .ready),(4,.vec 3 1 (cj acc)),(2,.var 46 [.os 4 1 0 acc.length]),(1,.var 158 [.mp 0]),(0,.var (.map (kI m)) (vT m))]
noncomputable def uw (l:Nat) (m:Bd) (bs:List Nat) (clock:Nat) (seen:List Nat) (acc:List Int):aa:=[(3,.var (.raw (kJ clock seen clock)) [.mp 0]),(5,jf l .ready),(4,.vec 3 1 (cj acc)),(2,.var 46 [.os 4 1 0 acc.length]),(1,.var 158 [.mp 0]),(0,.var (.raw (lK (kI m) bs clock)) (vT m))]
theorem UF (l:Nat) (m:Bd) (bs:List Nat) (clock:Nat) (seen:List Nat) (acc:List Int) (v:Int) (hx:acc.length<=1000000):gp Tryz.prog 4 l [Iv v] (uw l m bs clock seen acc) (fun r H'=>r=Bv true/\H'=uw l m bs clock seen (acc++[v])):=by
 refine gp.walk (b:=5) [2,5,7,8,9,10,11] [] rfl rfl rfl fun w own I0 ao lay=>?_
 simp only[go_sem,Nat.reduceAdd,Nat.reduceLeDiff,Nat.reduceSub,Int.reduceToNat,reduceCtorEq,pQ,uw,jf]
 refine gO ?_
 refine AE.begin (b:=5) rfl rfl _ ?_
 refine sI ?_
 refine gO ?_
 refine AQ.kill 4 ?_
 refine sI ?_
 refine AQ.append (hnb:=rfl) (rows:=cj acc) (es:=0) (by kernel_rfl) rfl rfl rfl (by first|(simp only[go_sem,noMen,AV.mens,AV.men,Bool.or_false];done)|(simp only[go_sem,noMen,AV.mens,AV.men,Bool.or_false];rfl)) Tryz.BB Tryz.Bt (by show Option.map _ (ax Tryz.prog 3)=_;rw[Tryz.BN];rfl) Tryz.y4 (by first|rfl|(simp only[cI,List.length_cons,List.length_nil];done)|(simp only[cI,List.length_cons,List.length_nil];omega)) (by simp only[cI,List.length_cons,List.length_nil];omega) (by simp only[cI,List.length_cons,List.length_nil];omega) ?_
 refine sE (an @cI (an @vx @vy)) ?_
 refine gO ?_
 refine AE.vX (b:=5) rfl ⟨rfl,?_⟩
 simp only[go_sem,Nat.reduceAdd,Nat.reduceLeDiff,Nat.reduceSub,Int.reduceToNat,reduceCtorEq,uw,jf,List.length_append,List.length_singleton]
def tr (m:Bd) (js:List Nat):List Int:=js.map fun j=>(m.getD j (0,.mk [] 0 [])).1
def Bq (bs:List Nat) (js:List Nat):List Nat:=js.map fun j=>bs.getD j 0
theorem YP {m:Bd} {js:List Nat} (U:js.Nodup) (h2:∀j∈js,j<m.length) (h3:∀j,j<m.length->j∈js):(tr m js).Perm (m.map (·.1)):=by
 have hp:js.Perm (List.range m.length):=(List.perm_ext_iff_of_nodup U List.nodup_range).2 fun j=>by rw[List.mem_range];exact⟨h2 j,h3 j⟩
 refine(hp.map _).trans ?_
 have:(List.range m.length).map (fun j=>(m.getD j (0,.mk [] 0 [])).1)=m.map (·.1):=by
  apply List.ext_getElem (by simp)
  intro i h4 h5
  have h6:i<m.length:=by simpa using h5
  simp[List.getElem?_eq_getElem h6]
 rw[this]
theorem YU (l:Nat) (m:Bd) (hm:m.length<=4000):dz Tryz.prog 3 213 [Yl l,.ob 1 0] (wv l m []) (fun _ H'=>∃ks:List Int,ks.Perm (m.map (·.1))/\H'=wv l m ks):=by
 refine dz.walk [0,1,3,5,7,13] [] Tryz.func213 rfl Tryz.ntmps213 (by kernel_rfl) (by rfl) fun W own I0 ao lay=>?_
 simp only[go_sem,Nat.reduceAdd,Nat.reduceLeDiff,Nat.reduceSub,Int.reduceToNat,reduceCtorEq,wv,jf]
 refine gO ?_
 refine AQ.I5 (by kernel_rfl) rfl rfl BE fun bs clock bI=>?_
 have cG:(vT m).length=bs.length:=by rw[<-bI.len,Sw,AT]
 have oU:bs.length=m.length:=by rw[<-cG,Sw]
 have jJ:=Ip m
 refine sI ?_
 refine gO ?_
 refine AP.rename 6 3 rfl rfl rfl ?_
 refine sI ?_
 refine AP.loop rfl (α:=List Nat) (fun _=>[(0,Yl l),(5,.ob 3 0)]) (fun js=>uw l m bs clock (Bq bs js) (tr m js)) (fun js=>js.Nodup/\∀j∈js,j<m.length) (fun js=>m.length-js.length) [] ⟨List.nodup_nil,fun _ h=>by cases h⟩ (sU) rfl fun js ⟨hn,hj⟩=>?_
 have rC:js.length<=m.length:=by
  have:=(List.Nodup.length_le_of_subset hn (fun j h=>List.mem_range.2 (hj j h)):js.length<=(List.range m.length).length)
  simpa using this
 simp only[go_sem,Nat.reduceAdd,Nat.reduceLeDiff,Nat.reduceSub,Int.reduceToNat,reduceCtorEq,uw,jf]
 refine gO ?_
 refine AQ.IZ (by kernel_rfl) rfl rfl rfl bI rfl rfl jJ cG (fun iR=>?_) (fun j n key y ei s6 qd hy=>?_)
 ·refine sI ?_
  refine gO ?_
  refine AE.pz 0 rfl bI cG ?_
  refine sI ?_
  exact AE.Me [3] rfl trivial (by simp only[go_sem,Nat.reduceAdd,Nat.reduceLeDiff,Nat.reduceSub,Int.reduceToNat,reduceCtorEq,cw,noMen,AV.mens,AV.men,lM,Bool.or_false];first|done|rfl) ⟨tr m js,YP hn hj fun j h=>by
   have:=iR (bs.getD j 0) (by rw[List.getD_eq_getElem?_getD,List.getElem?_eq_getElem (by omega)];exact List.getElem_mem _)
   obtain⟨i,hi,e⟩:=List.mem_map.1 this
   have rA:=hj i hi
   rw[List.getD_eq_getElem?_getD,List.getElem?_eq_getElem (by omega:i<bs.length),List.getD_eq_getElem?_getD,List.getElem?_eq_getElem (by omega:j<bs.length)]at e
   have:=(List.getElem_inj bI.nd).1 e
   exact this▸hi,rfl⟩
 ·obtain⟨p,hp,rfl⟩:=DR qd
  have kF:=(List.getElem?_eq_some_iff.1 hp).1
  have u5:j∉js:=fun h=>s6 (List.mem_map.2 ⟨j,h,by rw[List.getD_eq_getElem?_getD,ei];rfl⟩)
  have e1:Bq bs js++[n]=Bq bs (js++[j]):=by simp[Bq,ei]
  have e2:tr m js++[p.1]=tr m (js++[j]):=by simp[tr,hp]
  have hr:=UF l m bs clock (Bq bs (js++[j])) (tr m js) p.1 (by rw[tr,List.length_map];omega)
  rw[e2]at hr
  refine sI ?_
  refine gO ?_
  refine AQ.IY (by kernel_rfl) rfl rfl rfl bI jJ cG ei qd hy ?_
  refine sI ?_
  refine gO ?_
  refine AQ.yL 4 rfl (by kernel_rfl) rfl ⟨rfl,rfl⟩ rfl rfl (by rw[e1];exact hr) (fun r H' h=>by rw[h.2];exact cE.of _ _ _ rfl) fun r H' h=>?_
  obtain⟨rfl,rfl⟩:=h
  simp only[go_sem,Nat.reduceAdd,Nat.reduceLeDiff,Nat.reduceSub,Int.reduceToNat,reduceCtorEq,uw,jf]
  refine AQ.go (by kernel_rfl) ?_
  refine gO ?_
  have nZ:(js++[j]).Nodup:=List.nodup_append.2 ⟨hn,List.pairwise_singleton ..,fun a ha b hb=>by rw[List.mem_singleton.1 hb];exact fun e=>u5 (e▸ha)⟩
  have eT:∀i∈js++[j],i<m.length:=fun i hi=>by
   rcases List.mem_append.1 hi with hi|hi
   ·exact hj i hi
   ·rw[List.mem_singleton.1 hi];exact kF
  have gV:(js++[j]).length<=m.length:=by
   have:=(List.Nodup.length_le_of_subset nZ (fun j h=>List.mem_range.2 (eT j h)):(js++[j]).length<=(List.range m.length).length)
   simpa using this
  exact AE.round (js++[j]) ⟨nZ,eT⟩ (by rw[List.length_append,List.length_singleton]at*;omega) (sU) rfl
theorem UJ (m:Bd) (hm:m.length<=4000):ai Tryz.prog 214 [ew,.fn 213 [] [.ob 1 0]] (kP m) (fun r H'=>∃ks:List Int,ks.Perm (m.map (·.1))/\r= .os 4 1 0 ks.length/\H'=(4,.vec 3 1 (cj ks))::kP m):=by
 refine ai.walk [0,1,2,4,5,6,7] [2] Tryz.func214 rfl Tryz.ntmps214 (by kernel_rfl) (by rfl) rfl fun W own I0 ao lay=>?_
 simp only[go_sem,Nat.reduceAdd,Nat.reduceLeDiff,Nat.reduceSub,Int.reduceToNat,reduceCtorEq,kP]
 refine gO ?_
 refine AP.jv 2 0 3 1 rfl rfl ?_
 refine sI ?_
 refine AP.rename 3 4 rfl rfl rfl ?_
 refine sI ?_
 refine AP.Bg 3 0 5 [(2,.ob 2 0)] (R:=fun l _ H'=>∃ks:List Int,ks.Perm (m.map fun p:Int×Tm=>p.1)/\H'=wv l m ks) rfl rfl (by kernel_rfl) (sU) rfl rfl (fun l=>YU l m hm) (fun l r H' hR=>?_)
 obtain⟨ks,hk,rfl⟩:=hR
 refine⟨cE.of _ _ _ rfl,.ready,_,rfl,by simp only[go_sem,Nat.reduceAdd,Nat.reduceLeDiff,Nat.reduceSub,Int.reduceToNat,reduceCtorEq,wv,jf,noMen,AV.mens,AV.men,lM,Bool.or_false];first|done|rfl,?_⟩
 simp only[go_sem,Nat.reduceAdd,Nat.reduceLeDiff,Nat.reduceSub,Int.reduceToNat,reduceCtorEq,wv,jf]
 refine gO ?_
 exact AE.a6 [2] rfl ⟨rfl,trivial⟩ (by simp only[go_sem,Nat.reduceAdd,Nat.reduceLeDiff,Nat.reduceSub,Int.reduceToNat,reduceCtorEq,cw,noMen,AV.mens,AV.men,lM,Bool.or_false];first|done|rfl) ⟨ks,hk,rfl,rfl⟩
theorem UG (m:Bd) (hm:m.length<=4000):ai Tryz.prog 180 [.fn 213 [] [.ob 1 0]] (kP m) (fun r H'=>∃ks:List Int,ks.Perm (m.map (·.1))/\r= .os 6 1 0 ks.length/\H'=(6,.vec 3 1 (cj ks))::kP m):=by
 refine ai.walk [0,2] [] Tryz.func180 rfl Tryz.ntmps180 (by kernel_rfl) (by rfl) rfl fun W own I0 ao lay=>?_
 simp only[go_sem,Nat.reduceAdd,Nat.reduceLeDiff,Nat.reduceSub,Int.reduceToNat,reduceCtorEq,kP]
 refine gO ?_
 refine AQ.bW [(1,1),(0,0)] (by kernel_rfl) rfl rfl rfl rfl rfl rfl (by refine⟨?_,?_,trivial⟩<;>(simp only[dY,AV.cU,AV.rn,tN];rfl)) rfl (UJ m hm) fun r' H' ⟨ks,hk,e1,e2⟩=>?_
 subst e1;subst e2
 simp only[go_sem,Nat.reduceAdd,Nat.reduceLeDiff,Nat.reduceSub,Int.reduceToNat,reduceCtorEq,dC,fo,cu,fV,kP]
 refine gO ?_
 exact AE.a6 [] rfl ⟨rfl,trivial⟩ (by simp only[go_sem,Nat.reduceAdd,Nat.reduceLeDiff,Nat.reduceSub,Int.reduceToNat,reduceCtorEq,cw,noMen,AV.mens,AV.men,lM,Bool.or_false];first|done|rfl) ⟨ks,hk,rfl,rfl⟩
theorem abm (m:Bd) (bX:fp m) (hm:m.length<=4000):ai Tryz.prog 120 [.fn 213 [] [.ob 1 0]] (kP m) (fun r H'=>r= .im (.sl 1 (cj ((cV [] m).map (·.1))))/\H'=kP m):=by
 refine ai.walk [0,2,3] [] Tryz.func120 rfl Tryz.ntmps120 (by kernel_rfl) (by rfl) rfl fun W own I0 ao lay=>?_
 simp only[go_sem,Nat.reduceAdd,Nat.reduceLeDiff,Nat.reduceSub,Int.reduceToNat,reduceCtorEq,kP]
 refine gO ?_
 refine AQ.bW [(1,1),(0,0)] (by kernel_rfl) rfl rfl rfl rfl rfl rfl (by refine⟨?_,?_,trivial⟩<;>(simp only[dY,AV.cU,AV.rn,tN];rfl)) rfl (UG m hm) fun r' H' ⟨ks,hk,e1,e2⟩=>?_
 subst e1;subst e2
 have u6:ks.length<=4000:=by rw[hk.length_eq,List.length_map];exact hm
 have fU:=YV bX hk
 simp only[go_sem,Nat.reduceAdd,Nat.reduceLeDiff,Nat.reduceSub,Int.reduceToNat,reduceCtorEq,dC,fo,cu,fV,kP]
 refine gO ?_
 refine AQ.bW [(0,8)] (by kernel_rfl) rfl rfl rfl rfl rfl rfl (by exact⟨rfl,trivial⟩) rfl (RB ks (by omega)) ?_
 rintro r H1 ⟨rfl,rfl⟩
 refine⟨rfl,?_⟩
 refine sH ?_
 refine gO ?_
 have Ab:(cj (db ks)).length=ks.length:=by rw[cI,ET]
 refine AE.freeze 8 (el:=3) (es:=1) (rows:=cj (db ks)) rfl (by simp[go_sem,Ab]) (by simp[go_sem,Ab]) ?_
 refine sI ?_
 rw[show List.take ks.length (cj (db ks))=cj ((cV [] m).map (·.1)) by rw[List.take_of_length_le (by omega),fU]]
 exact AE.a6 [] rfl ⟨rfl,trivial⟩ (by simp only[go_sem,Nat.reduceAdd,Nat.reduceLeDiff,Nat.reduceSub,Int.reduceToNat,reduceCtorEq,cw,noMen,AV.mens,AV.men,lM,Bool.or_false];first|done|rfl) ⟨rfl,rfl⟩
theorem Zj (m:Bd) (bX:fp m) (w9:∀b∈m,aE b.2/\bS b.2=true) (hl:m.length<=4000):ai Tryz.prog 114 [.mp 0] (tB m) (fun r H'=>r=cp (cV [] m)/\H'=tB m):=
 Zk (fun m U h2=>abm m U h2) m bX w9 hl
end Go.Proofs.YtpfohmboflcneaaGreatDoor
end
section
namespace Go.Proofs.YtpfohmboflcneaaGreatDoor
open Go

end Go.Proofs.YtpfohmboflcneaaGreatDoor
end
section
namespace Go.Proofs
open Go.Shelf
end Go.Proofs
namespace Go.Proofs.YtpfohmboflcneaaGreatDoor
open Go Go.AL Go.RowKit
set_option maxRecDepth 10000
set_option maxHeartbeats 4000000
end Go.Proofs.YtpfohmboflcneaaGreatDoor
end
section
namespace Go.Proofs.YtpfohmboflcneaaGreatDoor
open Go Go.AL Go.RowKit
set_option maxRecDepth 10000
set_option maxHeartbeats 4000000
theorem JS (f:Int->Tm) (hf:∀v,aE (f v)):∀t:Tm,aE t->aE (ak f t)
 | .mk n i xs,h=>by
  have h0:=dN.1 h
  rw[ak]
  split
  ·exact hf i
  ·rw[aE]
   have hl:(bn f xs).length=xs.length:=by rw[fy,List.length_map]
   refine⟨h0.1,by rw[hl];exact h0.2.1,?_⟩
   have U:b_ xs:=h0.2.2
   exact R7 f hf xs U
where
 R7 (f:Int->Tm) (hf:∀v,aE (f v)):∀l:List Tm,b_ l->b_ (bn f l)
 |[],_=>by rw[bn,b_];trivial
 |t::l,h=>by
  rw[b_]at h
  rw[bn,b_]
  exact⟨JS f hf t h.1,R7 f hf l h.2⟩



theorem FI (s t:Tm):ir [s,t]=fL s t:=by
 rw[ir,ir,ir,fL]
 by_cases h:ca 4 9 2 3 (b6 s)≠0
 ·rw[if_pos h,if_pos h]
 ·rw[if_neg h,if_neg h]
  by_cases k:ca 4 9 2 3 (b6 t)≠0
  ·rw[if_pos k]
  ·rw[if_neg k];exact(Classical.not_not.1 k).symm
theorem y_ {s t:Tm} (h:fL s t=0):ca 4 9 2 3 (b6 s)=0/\ca 4 9 2 3 (b6 t)=0:=by
 rw[fL]at h
 by_cases k:ca 4 9 2 3 (b6 s)≠0
 ·rw[if_pos k]at h;exact absurd h k
 ·rw[if_neg k]at h;exact⟨Classical.not_not.1 k,h⟩
def lL (s t:Tm):Int:=if fL s t≠0 then fL s t else if(cn s t []).2 then 0 else 5
def iZ (s t:Tm):Bd:=if lL s t=0 then cV [] (cn s t []).1 else[]
theorem JT {P:Program} {f:FuncId} {args:List AV} {m:Bd} {e:AV} (h:ai P f args [] (fun r H'=>H'=[]/\(r= .aI [cp m,e]\/m=[]/\r= .aI [ew,e]))):aS P f args (.aI [cp m,e]):=by
 refine ai.told h (fun r H' ⟨hH,hr⟩=>⟨_,⟨hH,rfl⟩,by
  rcases hr with rfl|⟨hc,rfl⟩
  ·exact fun _ _ _ _ h=>h
  ·rw[hc]
   exact(show c6 (.aI [ew,e]) (.aI [cp [],e]) from c6.aI (bP.k6 (c6.im (fK.nil 4)) (bP.refl _)))⟩)
theorem PJ (s t:Tm):fp (cn s t []).1:=(Ea s t []).2 List.nodup_nil
theorem ZH (s t:Tm) (hs:aE s) (ht:aE t) (hw:wT s<=4000):aS Tryz.prog 127 [aP s,aP t] (.aI [cp (if(cn s t []).2 then cV [] (cn s t []).1 else[]),Bv (cn s t []).2]):=by
 refine JT ?_
 have hm:=(PB s t [] hs ht (fun b hb=>by cases hb) (by simp;omega)).qT (xs:=[aP s,aP t,ew]) (bP.k6 (c6.refl _) (bP.k6 (c6.refl _) (bP.k6 (c6.im (fK.nil 4)) (bP.refl _))))
 obtain⟨e2,e1⟩:=I4 s t []
 rw[e2]at hm e1
 have hl:=x_ s t []
 cases hb:(cn s t []).2 with
 |false=>
  rw[hb]at hm
  refine ai.walk [0,1,2,3,4,5,6,7,15] [] Tryz.func127 rfl Tryz.ntmps127 (by kernel_rfl) (by rfl) rfl fun W own I0 ao lay=>?_
  refine gO ?_
  refine AQ.fn (by kernel_rfl) rfl rfl rfl (hm) rfl ?_
  refine sI ?_
  refine gO ?_
  exact AE.aG rfl ⟨rfl,rfl,trivial⟩ rfl ⟨rfl,.inr ⟨by simp,rfl⟩⟩
 |true=>
  rw[hb,e1 hb]at hm
  have fU:=RC (cn s t []).1 (PJ s t) (by simp at hl;omega)
  refine ai.walk [0,1,2,3,4,5,6,7,15] [] Tryz.func127 rfl Tryz.ntmps127 (by kernel_rfl) (by rfl) rfl fun W own I0 ao lay=>?_
  refine gO ?_
  refine AQ.fn (by kernel_rfl) rfl rfl rfl (hm) rfl ?_
  refine sI ?_
  refine gO ?_
  refine AQ.fn (by kernel_rfl) rfl rfl rfl (fU) rfl ?_
  refine sI ?_
  refine gO ?_
  exact AE.aG rfl ⟨rfl,rfl,trivial⟩ rfl ⟨rfl,.inl rfl⟩
theorem ZG (s t:Tm) (hs:aE s) (ht:aE t):aS Tryz.prog 52 [aP s,aP t] (.aI [cp (iZ s t),Iv (lL s t)]):=by
 refine JT ?_
 have hk:=JP s t hs ht
 refine ai.walk [0,1,2,3,4,5,6,7,8,13,22] [] Tryz.func52 rfl Tryz.ntmps52 (by kernel_rfl) (by rfl) rfl fun W own I0 ao lay=>?_
 refine gO ?_
 refine AQ.fn (by kernel_rfl) rfl rfl rfl (hk) rfl ?_
 refine sI ?_
 refine gO ?_
 refine AP.cond rfl rfl (fun U=>?_) (fun U=>?_)
 ·have U:fL s t≠0:=by simpa using U
  have hE:lL s t=fL s t:=by rw[lL,if_pos U]
  have hR:iZ s t=[]:=by rw[iZ,hE,if_neg U]
  refine gO ?_
  exact AE.aG rfl ⟨rfl,rfl,trivial⟩ rfl ⟨rfl,.inr ⟨hR,by rw[hE];rfl⟩⟩
 ·have U:fL s t=0:=by simpa using U
  have hw:wT s<=4000:=by have:=(qX (y_ U).1).2.1;omega
  have hm:=ZH s t hs ht hw
  cases hb:(cn s t []).2 with
  |false=>
   have hE:lL s t=5:=by rw[lL,if_neg (by simpa using U),hb];rfl
   have hR:iZ s t=[]:=by rw[iZ,hE,if_neg (by decide)]
   rw[hb]at hm
   refine gO ?_
   refine AQ.fn (by kernel_rfl) rfl rfl rfl (hm) rfl ?_
   refine sI ?_
   refine gO ?_
   exact AE.aG rfl ⟨rfl,rfl,trivial⟩ rfl ⟨rfl,.inr ⟨hR,by rw[hE];rfl⟩⟩
  |true=>
   have hE:lL s t=0:=by rw[lL,if_neg (by simpa using U),hb];rfl
   have hR:iZ s t=cV [] (cn s t []).1:=by rw[iZ,hE,if_pos rfl]
   rw[hb,if_pos rfl,<-hR]at hm
   refine gO ?_
   refine AQ.fn (by kernel_rfl) rfl rfl rfl (hm) rfl ?_
   refine sI ?_
   refine gO ?_
   exact AE.aG rfl ⟨rfl,rfl,trivial⟩ rfl ⟨rfl,.inl (by rw[hE];rfl)⟩
theorem ZF (s t:Tm) (hs:aE s) (ht:aE t):aS Tryz.prog 51 [aP s,aP t] (.aI [cp (iZ s t),Iv (lL s t)]):=by
 have hk:=FG [s,t] (by simp) (fun u hu=>by
  rcases List.mem_cons.1 hu with rfl|hu
  ·exact hs
  ·rw[List.mem_singleton.1 hu];exact ht)
 rw[FI]at hk
 have e:(.im (.sl 3 (aA [s,t])):AV)= .im (.sl 3 [[Si s.nm,Ii s.ix,.sl 3 (aA s.xs)],[Si t.nm,Ii t.ix,.sl 3 (aA t.xs)]]):=by simp only[aA,jx]
 rw[e]at hk
 refine JT ?_
 by_cases U:fL s t=0
 ·rw[U]at hk
  obtain⟨k1,k2⟩:=y_ U
  obtain⟨a1,a2,_⟩:=qX k1
  obtain⟨b1,b2,b3⟩:=qX k2
  have hm:=PC s t [] [] hs ht List.nodup_nil (by simp;omega) (fun b hb=>by cases hb)
  have hl:=x_ s t []
  have en:=Zj (cn s t []).1 (PJ s t) (fun b hb=>⟨A6 s t [] ht (fun b hb=>by cases hb) b hb,(PL s t [] a1 b1 b2 b3 (fun b hb=>by cases hb) b hb).2.2.1⟩) (by simp at hl;omega)
  refine ai.walk [0,1,2,3,4,5,6,7,13,22] [20] Tryz.func51 rfl Tryz.ntmps51 (by kernel_rfl) (by rfl) rfl fun W own I0 ao lay=>?_
  refine gO ?_
  refine AQ.fn (by kernel_rfl) rfl rfl rfl (hk) rfl ?_
  refine sI ?_
  refine gO ?_
  refine AQ.A5 (by kernel_rfl) ?_
  refine sI ?_
  refine gO ?_
  refine AQ.bW [(2,1),(1,2),(0,0)] (by kernel_rfl) rfl rfl rfl rfl rfl rfl (by refine⟨?_,?_,?_,trivial⟩<;>(simp only[dY,AV.cU,AV.rn,tN];rfl)) rfl hm fun r' H' ⟨e1,e2⟩=>?_
  subst e1;subst e2
  refine⟨rfl,?_⟩
  simp only[go_sem,Nat.reduceAdd,Nat.reduceLeDiff,Nat.reduceSub,Int.reduceToNat,reduceCtorEq,dC,fo,cu,fV,tC]
  cases hb:(cn s t []).2 with
  |false=>
   have hE:lL s t=5:=by rw[lL,if_neg (by simpa using U),hb];rfl
   have hR:iZ s t=[]:=by rw[iZ,hE,if_neg (by decide)]
   refine gO ?_
   exact AE.a6 [2,6,0] rfl ⟨rfl,rfl,trivial⟩ (by simp only[go_sem,Nat.reduceAdd,Nat.reduceLeDiff,Nat.reduceSub,Int.reduceToNat,reduceCtorEq,cw,noMen,AV.mens,AV.men,lM,Bool.or_false];first|done|rfl) ⟨rfl,.inr ⟨hR,by rw[hE];rfl⟩⟩
  |true=>
   have hE:lL s t=0:=by rw[lL,if_neg (by simpa using U),hb];rfl
   have hR:iZ s t=cV [] (cn s t []).1:=by rw[iZ,hE,if_pos rfl]
   rw[<-hR]at en
   refine gO ?_
   refine AQ.bW [(0,0)] (by kernel_rfl) rfl rfl rfl rfl rfl rfl (by refine⟨?_,trivial⟩;simp only[dY,AV.cU,AV.rn,tN];rfl) rfl en fun r' H' ⟨e1,e2⟩=>?_
   subst e1;subst e2
   refine⟨rfl,?_⟩
   simp only[go_sem,Nat.reduceAdd,Nat.reduceLeDiff,Nat.reduceSub,Int.reduceToNat,reduceCtorEq,dC,fo,cu,fV,tB]
   refine gO ?_
   exact AE.a6 [2,6,0] rfl ⟨rfl,rfl,trivial⟩ (by simp only[go_sem,Nat.reduceAdd,Nat.reduceLeDiff,Nat.reduceSub,Int.reduceToNat,reduceCtorEq,cw,noMen,AV.mens,AV.men,lM,Bool.or_false];first|done|rfl) ⟨rfl,.inl (by rw[hE];rfl)⟩
 ·have hE:lL s t=fL s t:=by rw[lL,if_pos U]
  have hR:iZ s t=[]:=by rw[iZ,hE,if_neg U]
  refine ai.walk [0,1,2,3,4,5,6,7,13,22] [] Tryz.func51 rfl Tryz.ntmps51 (by kernel_rfl) (by rfl) rfl fun W own I0 ao lay=>?_
  refine gO ?_
  refine AQ.fn (by kernel_rfl) rfl rfl rfl (hk) rfl ?_
  refine sI ?_
  refine gO ?_
  refine AP.cond rfl rfl (fun h2=>?_) (fun h2=>?_)
  ·refine gO ?_
   exact AE.aG rfl ⟨rfl,rfl,trivial⟩ rfl ⟨rfl,.inr ⟨hR,by rw[hE];rfl⟩⟩
  ·exact absurd (by simpa using h2) U
theorem UK (s t:Tm) (hs:aE s) (ht:aE t):aS Tryz.prog 53 [aP s,aP t] (.aI [Iv (oN s t).1,Iv (oN s t).2]):=by
 have hk:=JP s t hs ht
 by_cases U:fL s t=0
 ·obtain⟨k1,k2⟩:=y_ U
  rw[Ux k1 k2]
  obtain⟨a1,a2,_⟩:=qX k1
  obtain⟨b1,b2,_⟩:=qX k2
  have hc:=UM s t hs ht (Jn a1) (Jn b1) (by omega) (by omega)
  rw[U]at hk
  refine ai.walk [0,1,2,3,4,5,6,11] [] Tryz.func53 rfl Tryz.ntmps53 (by kernel_rfl) (by rfl) rfl fun W own I0 ao lay=>?_
  refine gO ?_
  refine AQ.fn (by kernel_rfl) rfl rfl rfl (hk) rfl ?_
  refine sI ?_
  refine gO ?_
  refine AQ.fn (by kernel_rfl) rfl rfl rfl (hc) rfl ?_
  refine sI ?_
  refine gO ?_
  exact AE.aG rfl ⟨rfl,rfl,trivial⟩ rfl ⟨rfl,rfl⟩
 ·have hE:oN s t=(0,fL s t):=by rw[oN,FI,if_pos U]
  rw[hE]
  refine ai.walk [0,1,2,3,4,5,6,11] [] Tryz.func53 rfl Tryz.ntmps53 (by kernel_rfl) (by rfl) rfl fun W own I0 ao lay=>?_
  refine gO ?_
  refine AQ.fn (by kernel_rfl) rfl rfl rfl (hk) rfl ?_
  refine sI ?_
  refine gO ?_
  refine AP.cond rfl rfl (fun h2=>?_) (fun h2=>?_)
  ·refine gO ?_
   exact AE.aG rfl ⟨rfl,rfl,trivial⟩ rfl ⟨rfl,rfl⟩
  ·exact absurd (by simpa using h2) U
def oG (l:Bd):Prop:=∀b∈l,bS b.2=true/\aE b.2/\(b.2.nm=[]->b.2.ix<b.1)
def oD (l:Bd):Nat->Tm->Tm
 |0,t=>t
 |n+1,t=>if t.nm=[]then(match eV l t.ix with|none=>t|some u=>oD l n u)else t
theorem SW {l:Bd} (h:oG l):∀(n m:Nat) (t:Tm),bS t=true->t.ix.toNat<n->t.ix.toNat<m->oD l n t=oD l m t
 |0,_,_,_,U,_=>by omega
 |_+1,0,_,_,_,h2=>by omega
 |n+1,m+1,t,ht,U,h2=>by
  rw[oD,oD]
  by_cases hn:t.nm=[]
  ·rw[if_pos hn,if_pos hn]
   cases hk:eV l t.ix with
   |none=>rfl
   |some u=>
    obtain⟨g1,_,g3⟩:=h _ (xV hk)
    simp only
    by_cases hu:u.nm=[]
    ·have g3:=g3 hu
     have hi:0<=u.ix:=by
      rw[mA,if_pos hu]at g1
      simp only[Bool.and_eq_true,decide_eq_true_eq]at g1
      exact g1.2.1
     have hj:u.ix<t.ix:=g3
     exact SW h n m u g1 (by omega) (by omega)
    ·have e:∀k,oD l k u=u:=fun k=>by cases k with
      |zero=>rfl
      |succ k=>rw[oD,if_neg hu]
     rw[e,e]
  ·rw[if_neg hn,if_neg hn]
def eX (l:Bd) (t:Tm):Tm:=oD l (t.ix.toNat+1) t
theorem E9 {l:Bd} {t:Tm} (h:t.nm≠[]):eX l t=t:=by rw[eX,oD,if_neg h]
theorem SV {l:Bd} {t:Tm} (h:t.nm=[]) (hk:eV l t.ix=none):eX l t=t:=by rw[eX,oD,if_pos h,hk]
theorem SU {l:Bd} (hl:oG l) {t u:Tm} (ht:bS t=true) (h:t.nm=[]) (hk:eV l t.ix=some u):eX l t=eX l u:=by
 obtain⟨g1,_,g3⟩:=hl _ (xV hk)
 rw[eX,oD,if_pos h,hk]
 simp only
 by_cases hu:u.nm=[]
 ·have g3:u.ix<t.ix:=g3 hu
  have hi:0<=u.ix:=by
   rw[mA,if_pos hu]at g1
   simp only[Bool.and_eq_true,decide_eq_true_eq]at g1
   exact g1.2.1
  exact SW hl _ _ u g1 (by omega) (by omega)
 ·rw[E9 hu]
  cases t.ix.toNat with
  |zero=>rfl
  |succ k=>rw[oD,if_neg hu]
theorem BK (t:Tm) (l:Bd) (ht:aE t) (pf:bS t=true) (hl:j8 l) (mo:oG l):aS Tryz.prog 192 [aP t,cp l] (aP (eX l t)):=by
 refine ai.walk [0,1,2,4,5,8,14] [2,4] Tryz.func192 rfl Tryz.ntmps192 (by kernel_rfl) (by rfl) rfl fun W own I0 ao lay=>?_
 refine gO ?_
 refine AP.loop rfl (α:=Tm) (fun u=>[(1,cp l),(2,.ob 0 0),(4,.ob 1 0)]) (fun u=>[(1,.var 57 [Sv [],Iv 0,ew]),(0,.var 57 [Sv u.nm,Iv u.ix,.im (.sl 3 (aA u.xs))])]) (fun u=>bS u=true/\aE u/\eX l u=eX l t) (fun u=>if u.nm=[]then u.ix.toNat+1 else 0) t ⟨pf,ht,rfl⟩ (sU) rfl fun u ⟨xm,xn,HN⟩=>?_
 refine gO ?_
 refine AP.cond rfl rfl (fun h=>?_) (fun h=>?_)
 ·have hn:u.nm=[]:=by simpa using h
  obtain⟨f1,f2⟩:=Io l u.ix 0
  refine gO ?_
  refine AQ.fn (by kernel_rfl) rfl rfl rfl (find_spec l u.ix hl) rfl ?_
  refine sI ?_
  refine gO ?_
  cases hk:eV l u.ix with
  |none=>
   rw[f1 hk]
   refine gO ?_
   rw[<-HN,SV hn hk]
   exact AE.a6 [0,1] rfl ⟨⟨rfl,Nat.le_of_ble_eq_true (by kernel_rfl)⟩,trivial⟩ rfl ⟨rfl,rfl⟩
  |some y=>
   obtain⟨k,e1,e2⟩:=f2 y hk
   rw[Nat.zero_add]at e1
   obtain⟨ag,_⟩:=List.getElem?_eq_some_iff.1 e2
   obtain⟨b,hb,aH⟩:=sx l k ag
   rw[e2]at hb
   simp only[Option.some.injEq]at hb
   subst hb
   have qe:=hl.1
   obtain⟨g1,g2,g3⟩:=mo _ (xV hk)
   rw[e1]
   refine gE (an @aH @aw) ?_
   refine AE.round y ⟨g1,g2,by rw[<-HN,SU mo xm hn hk]⟩ ?_ (sU) rfl
   rw[if_pos hn]
   by_cases hy:y.nm=[]
   ·rw[if_pos hy]
    have:=g3 hy
    have hi:0<=y.ix:=by
     rw[mA,if_pos hy]at g1
     simp only[Bool.and_eq_true,decide_eq_true_eq]at g1
     exact g1.2.1
    simp only at this
    omega
   ·rw[if_neg hy];omega
 ·have hn:¬u.nm=[]:=by simpa using h
  refine gO ?_
  rw[<-HN,E9 hn]
  exact AE.a6 [0,1] rfl ⟨⟨rfl,Nat.le_of_ble_eq_true (by kernel_rfl)⟩,trivial⟩ rfl ⟨rfl,rfl⟩
theorem aag {u:Tm} (g1:bS u=true) (hu:u.nm=[]):0<=u.ix:=by
 rw[mA,if_pos hu]at g1
 simp only[Bool.and_eq_true,decide_eq_true_eq]at g1
 exact g1.2.1
theorem SS {l:Bd} {f:Int->Tm} (hr:gK l f) (ht:oG l):∀(n:Nat) (t:Tm),t.ix.toNat<n->bS t=true->aE t->
  bS (eX l t)=true/\aE (eX l t)/\ak f (eX l t)=ak f t/\((eX l t).nm=[]->eV l (eX l t).ix=none)
 |0,_,h,_,_=>by omega
 |n+1,t,h,U,h2=>by
  by_cases hn:t.nm=[]
  ·cases hk:eV l t.ix with
   |none=>rw[SV hn hk];exact⟨U,h2,rfl,fun _=>hk⟩
   |some u=>
    obtain⟨g1,g2,g3⟩:=ht _ (xV hk)
    rw[SU ht U hn hk]
    have e:ak f u=ak f t:=by
     have h3:=hr.s _ (xV hk)
     rw[ff f t,if_pos hn]
     exact h3
    by_cases hu:u.nm=[]
    ·have:=g3 hu
     have:=aag g1 hu
     simp only at*
     obtain⟨k1,k2,k3,k4⟩:=SS hr ht n u (by omega) g1 g2
     exact⟨k1,k2,k3.trans e,k4⟩
    ·rw[E9 hu]
     exact⟨g1,g2,e,fun h=>absurd h hu⟩
  ·rw[E9 hn]
   exact⟨U,h2,rfl,fun h=>absurd h hn⟩
theorem BL {l:Bd} {f:Int->Tm} (hr:gK l f) (ht:oG l) {t:Tm} (U:bS t=true) (h2:aE t):
  bS (eX l t)=true/\aE (eX l t)/\ak f (eX l t)=ak f t/\((eX l t).nm=[]->f (eX l t).ix=bt (eX l t).ix):=by
 obtain⟨k1,k2,k3,k4⟩:=SS hr ht _ t (Nat.lt_succ_self _) U h2
 refine⟨k1,k2,k3,fun hn=>?_⟩
 have h5:=k4 hn
 apply Classical.byContradiction
 intro h6
 obtain⟨x,hx⟩:=(hr.b _).1 h6
 generalize(eX l t).ix=v at h5 hx
 clear hr ht k1 k2 k3 k4 h6 hn
 induction l with
 |nil=>cases hx
 |cons b m ih=>
  rw[eV]at h5
  by_cases hb:b.1=v
  ·rw[if_pos hb]at h5;cases h5
  ·rw[if_neg hb]at h5
   rcases List.mem_cons.1 hx with rfl|hx
   ·exact hb rfl
   ·exact ih h5 hx
def p8 (v:Int) (l:List Int):Bool:=l.any fun x=>x==v
theorem Jk {l:Bd} {f:Int->Tm} (hr:gK l f) (mo:oG l) (hl:j8 l) (v:Int):∀(n:Nat) (t:Tm),wT (ak f t)<=n->bS t=true->aE t->aS Tryz.prog 193 [Iv v,aP t,cp l] (Bv (p8 v (bJ (ak f t))))
 |0,t,h,_,_=>by have:=qI (ak f t);omega
 |n+1,t,h,ho,ht=>by
  obtain⟨k1,k2,k3,k4⟩:=BL hr mo ho ht
  have mq:=BK t l ht ho hl mo
  rw[<-k3]at h⊢
  obtain⟨u,hu⟩:∃u,eX l t=u:=⟨_,rfl⟩
  rw[hu]at h k1 k2 k4 mq⊢
  have mY:=dN.1 k2
  refine ai.walk [0,1,2,4,6,7,13,22,32] [4] Tryz.func193 rfl Tryz.ntmps193 (by kernel_rfl) (by rfl) rfl fun W own I0 ao lay=>?_
  refine gO ?_
  refine AQ.fn (by kernel_rfl) rfl rfl rfl (mq) rfl ?_
  refine sI ?_
  refine gO ?_
  refine AP.cond rfl rfl (fun U=>?_) (fun U=>?_)
  ·have hn:u.nm=[]:=by simpa using U
   have e:bJ (ak f u)=[u.ix]:=by rw[ff,if_pos hn,k4 hn];rfl
   refine gO ?_
   exact AE.a6 [0] rfl ⟨rfl,trivial⟩ rfl ⟨rfl,by rw[e];simp[p8];rfl⟩
  ·have hn:¬u.nm=[]:=by simpa using U
   have e:bJ (ak f u)=aW (bn f u.xs):=by
    rw[ff,if_neg hn,BH]
    show(if u.nm=[]then _ else _)++_=_
    rw[if_neg hn];rfl
   have te:∀a∈u.xs,wT (ak f a)<=n:=fun a ha=>by
    rw[ff,if_neg hn,nB]at h
    have h2:ak f a∈bn f u.xs:=by rw[fy];exact List.mem_map_of_mem ha
    have h3:=qJ _ _ h2
    have h:1+aD (bn f u.xs)<=n+1:=h
    omega
   have pj:=mY.2.1
   have m_:=yi k1
   rw[e]
   clear h
   refine gO ?_
   refine AP.loop rfl (α:=Nat) (fun k=>[(0,Iv v),(2,cp l),(4,.ob 0 0),(7,Iv k)]) (fun k=>[(0,.var 57 [Sv u.nm,Iv u.ix,.im (.sl 3 (aA u.xs))])]) (fun k=>k<=u.xs.length/\p8 v (aW (bn f u.xs))=p8 v (aW (bn f (u.xs.drop k)))) (fun k=>u.xs.length-k) 0 ⟨by omega,rfl⟩ (sU) rfl fun k ⟨hk,hm⟩=>?_
   rcases Nat.eq_or_lt_of_le hk with aC|ag
   ·rw[aC,List.drop_length]at hm
    rw[aC]
    refine gE @aj ?_
    refine cF ?_
    refine gO ?_
    exact AE.a6 [0] rfl ⟨rfl,trivial⟩ rfl ⟨rfl,by rw[hm];rfl⟩
   ·obtain⟨x,hx,aH⟩:=dh u.xs k ag
    have hw:=wr (x:=(k:Int)+1) (by omega)
    have ih:=Jk hr mo hl v n x (te x (List.mem_of_getElem? hx)) (rY m_ hx) (dc mY.2.2 hx)
    have hs:p8 v (aW (bn f (u.xs.drop k)))=(p8 v (bJ (ak f x))||p8 v (aW (bn f (u.xs.drop (k+1))))):=by
     rw[drop_cons hx,bn,aW,p8,List.any_append];rfl
    rw[hs]at hm
    refine gE @aj ?_
    refine cT ?_
    refine gE (an @aH @aj) ?_
    refine AQ.fn (by kernel_rfl) rfl rfl rfl (ih) rfl ?_
    refine sI ?_
    refine gO ?_
    refine AP.cond rfl rfl (fun h2=>?_) (fun h2=>?_)
    ·rw[h2,Bool.true_or]at hm
     refine gO ?_
     exact AE.a6 [0] rfl ⟨rfl,trivial⟩ rfl ⟨rfl,by rw[hm];rfl⟩
    ·rw[h2,Bool.false_or]at hm
     refine gE @hw ?_
     exact AE.round (k+1) ⟨by omega,hm⟩ (by omega) (sU) rfl
theorem ack {f:Int->Tm} {l:List Tm} {k:Nat} {u:Tm} (h:l[k]?=some u):aD (bn f (l.take (k+1)))=aD (bn f (l.take k))+wT (ak f u):=by
 rw[dE h,fy,fy,List.map_append,SP]
 simp[aD]
theorem O2 {l:Bd} {f:Int->Tm} (hr:gK l f) (mo:oG l) (hl:j8 l):∀(n:Nat) (t:Tm),wT (ak f t)<=n->bS t=true->aE t->aS Tryz.prog 183 [aP t,cp l] (Iv ((min (wT (ak f t)) 5000:Nat):Int))
 |0,t,h,_,_=>by have:=qI (ak f t);omega
 |n+1,t,h,ho,ht=>by
  obtain⟨k1,k2,k3,k4⟩:=BL hr mo ho ht
  have mq:=BK t l ht ho hl mo
  rw[<-k3]at h⊢
  obtain⟨u,hu⟩:∃u,eX l t=u:=⟨_,rfl⟩
  rw[hu]at h k1 k2 k4 mq⊢
  have mY:=dN.1 k2
  have pj:=mY.2.1
  have m_:=yi k1
  have e:wT (ak f u)=1+aD (bn f u.xs):=by
   rw[ff]
   split
   ·rename_i hn
    have hz:u.xs=[]:=by
     rw[mA,if_pos hn]at k1
     simp only[Bool.and_eq_true,List.isEmpty_iff]at k1
     exact k1.1
    rw[k4 hn,hz];rfl
   ·rw[nB];rfl
  have te:∀a∈u.xs,wT (ak f a)<=n:=fun a ha=>by
   have h2:ak f a∈bn f u.xs:=by rw[fy];exact List.mem_map_of_mem ha
   have h3:=qJ _ _ h2
   omega
  rw[e]
  clear h
  refine ai.walk [0,1,2,4,5,6,14] [2] Tryz.func183 rfl Tryz.ntmps183 (by kernel_rfl) (by rfl) rfl fun W own I0 ao lay=>?_
  refine gO ?_
  refine AQ.fn (by kernel_rfl) rfl rfl rfl (mq) rfl ?_
  refine sI ?_
  refine gO ?_
  refine AP.loop rfl (α:=Nat) (fun k=>[(1,cp l),(2,.ob 0 0),(5,Iv ((min (1+aD (bn f (u.xs.take k))) 5000:Nat):Int)),(6,Iv k)]) (fun k=>[(0,.var 57 [Sv u.nm,Iv u.ix,.im (.sl 3 (aA u.xs))])]) (fun k=>k<=u.xs.length) (fun k=>u.xs.length-k) 0 (by omega) (by rw[List.take_zero,bn,aD];exact(sU)) rfl fun k hk=>?_
  rcases Nat.eq_or_lt_of_le hk with aC|ag
  ·rw[aC,List.take_length]
   refine gE @aj ?_
   refine cF ?_
   refine gO ?_
   exact AE.a6 [0] rfl ⟨rfl,trivial⟩ rfl ⟨rfl,rfl⟩
  ·obtain⟨x,hx,aH⟩:=dh u.xs k ag
   have hw:=wr (x:=(k:Int)+1) (by omega)
   have ih:=O2 hr mo hl n x (te x (List.mem_of_getElem? hx)) (rY m_ hx) (dc mY.2.2 hx)
   have bl:=ack (f:=f) hx
   refine gE @aj ?_
   refine cT ?_
   refine gE (an @aH @aj) ?_
   refine AQ.fn (by kernel_rfl) rfl rfl rfl (ih) rfl ?_
   refine sI ?_
   have Ag:(if 5000<IntKind.i64.wrap (((min (1+aD (bn f (u.xs.take k))) 5000:Nat):Int)+((min (wT (ak f x)) 5000:Nat):Int))then 5000 else IntKind.i64.wrap (((min (1+aD (bn f (u.xs.take k))) 5000:Nat):Int)+((min (wT (ak f x)) 5000:Nat):Int)))=((min (1+aD (bn f (u.xs.take (k+1)))) 5000:Nat):Int):=by
    rw[bl,wr (by omega)]
    split<;>omega
   refine gE @hw ?_
   rw[Ag]
   exact AE.round (k+1) (by omega) (by omega) (sU) rfl
theorem Lo {l:Bd} {f:Int->Tm} (hr:gK l f) (mo:oG l) (hl:j8 l):∀(n:Nat) (t:Tm),wT (ak f t)<=n->bS t=true->aE t->aS Tryz.prog 184 [aP t,cp l] (aP (ak f t))
 |0,t,h,_,_=>by have:=qI (ak f t);omega
 |n+1,t,h,ho,ht=>by
  obtain⟨k1,k2,k3,k4⟩:=BL hr mo ho ht
  have mq:=BK t l ht ho hl mo
  rw[<-k3]at h⊢
  obtain⟨u,hu⟩:∃u,eX l t=u:=⟨_,rfl⟩
  rw[hu]at h k1 k2 k4 mq⊢
  have mY:=dN.1 k2
  have pj:=mY.2.1
  have m_:=yi k1
  refine ai.walk [0,1,2,4,5,6,12,21] [2,4,5] Tryz.func184 rfl Tryz.ntmps184 (by kernel_rfl) (by rfl) rfl fun W own I0 ao lay=>?_
  refine gO ?_
  refine AQ.fn (by kernel_rfl) rfl rfl rfl (mq) rfl ?_
  refine sI ?_
  refine gO ?_
  refine AP.cond rfl rfl (fun U=>?_) (fun U=>?_)
  ·have hn:u.nm=[]:=by simpa using U
   have e:ak f u=u:=by
    rw[ff,if_pos hn,k4 hn]
    have hz:=k1
    rw[mA,if_pos hn]at hz
    simp only[Bool.and_eq_true,List.isEmpty_iff]at hz
    cases u with
    |mk a b c=>
     cases hn
     cases hz.1
     rfl
   rw[e]
   refine gO ?_
   exact AE.a6 [0,1] rfl ⟨⟨rfl,Nat.le_of_ble_eq_true (by kernel_rfl)⟩,trivial⟩ rfl ⟨rfl,rfl⟩
  ·have hn:¬u.nm=[]:=by simpa using U
   have e:ak f u= .mk u.nm 0 (u.xs.map (ak f)):=by rw[ff,if_neg hn,fy]
   have te:∀a∈u.xs,wT (ak f a)<=n:=fun a ha=>by
    rw[ff,if_neg hn,nB]at h
    have h2:ak f a∈bn f u.xs:=by rw[fy];exact List.mem_map_of_mem ha
    have h3:=qJ _ _ h2
    have h:1+aD (bn f u.xs)<=n+1:=h
    omega
   rw[e]
   clear h e
   refine gO ?_
   refine AP.jv 2 2 57 3 rfl rfl ?_
   refine sI ?_
   refine AP.loop rfl (α:=Nat) (fun k=>[(1,cp l),(2,.ob 0 0),(4,.ob 1 0),(5,.ob 2 0),(6,Iv k)]) (fun k=>[(3,.vec 57 3 (aA ((u.xs.take k).map (ak f)))),(2,.var 57 [Sv u.nm,Iv 0,.os 3 3 0 k]),(1,.var 57 [Sv [],Iv 0,ew]),(0,.var 57 [Sv u.nm,Iv u.ix,.im (.sl 3 (aA u.xs))])]) (fun k=>k<=u.xs.length) (fun k=>u.xs.length-k) 0 (by omega) (sU) rfl fun k hk=>?_
   rcases Nat.eq_or_lt_of_le hk with aC|ag
   ·subst aC
    rw[List.take_length]
    refine gE @aj ?_
    refine cF ?_
    refine gO ?_
    refine AE.freeze 3 (el:=57) (es:=3) (rows:=aA (u.xs.map (ak f))) rfl (by simp only[go_sem,Nat.reduceAdd,Nat.reduceLeDiff,Nat.reduceSub,Int.reduceToNat,reduceCtorEq,aj,List.length_map];first|done|trivial|omega|(simp;done)|(simp;omega)) (by simp only[go_sem,Nat.reduceAdd,Nat.reduceLeDiff,Nat.reduceSub,Int.reduceToNat,reduceCtorEq,aj,List.length_map];first|done|trivial|omega|(simp;done)|(simp;omega)) ?_;simp only[go_sem,Nat.reduceAdd,Nat.reduceLeDiff,Nat.reduceSub,Int.reduceToNat,reduceCtorEq,aj,List.length_map]
    rw[List.take_of_length_le (by rw[aj,List.length_map];omega)]
    exact AE.a6 [2,1,0] rfl ⟨⟨rfl,Nat.le_of_ble_eq_true (by kernel_rfl)⟩,trivial⟩ rfl ⟨rfl,rfl⟩
   ·obtain⟨x,hx,aH⟩:=dh u.xs k ag
    have hw:=wr (x:=(k:Int)+1) (by omega)
    have bf:=nu (l:=u.xs) (k:=k) (by omega)
    have ih:=Lo hr mo hl n x (te x (List.mem_of_getElem? hx)) (rY m_ hx) (dc mY.2.2 hx)
    have bl:=A3 (ak f) hx
    obtain⟨w,vr⟩:∃w,ak f x=w:=⟨_,rfl⟩
    rw[vr]at ih bl
    refine gE @aj ?_
    refine cT ?_
    refine gO ?_
    refine AP.bQ 13 (Tree.node [] [0,1,2,3,4,5,6,7] [8] [Tree.node [0,1] [] [9] [Tree.node [0,1] [] [10] [Tree.node [] [11] [12] [Tree.node [] [] [] []]]]]) (by kernel_rfl) rfl (by kernel_rfl) (by kernel_rfl) ?_
    refine bO ?_
    refine sE (an @aH @aj) ?_
    refine⟨by omega,?_⟩
    refine AQ.fn (by kernel_rfl) rfl rfl rfl (ih) rfl ?_
    refine sI ?_
    refine AQ.nx rfl ?_
    refine sI ?_
    refine AQ.go (by kernel_rfl) ?_
    refine sI ?_
    refine AQ.nx rfl ?_
    refine sI ?_
    refine AQ.kill 3 ?_
    refine sI ?_
    refine AQ.append (hnb:=rfl) (rows:=aA ((u.xs.take k).map (ak f))) (es:=2) (by kernel_rfl) rfl rfl rfl (by rfl) Tryz.R2 Tryz.RZ (by show Option.map _ (ax Tryz.prog 57)=_;rw[Tryz.S6];rfl) Tryz.KZ (by first|rfl|(simp only[aj,List.length_map,bf,List.length_cons,List.length_nil];done)|(simp only[aj,List.length_map,bf,List.length_cons,List.length_nil];omega)) (by simp only[aj,List.length_map,bf,List.length_cons,List.length_nil];omega) (by simp only[aj,List.length_map,bf,List.length_cons,List.length_nil];omega) ?_
    refine sI ?_
    refine AQ.nx rfl ?_
    refine sI ?_
    refine AQ.go (by kernel_rfl) ?_
    refine sI ?_
    refine AQ.nx rfl ?_
    refine sI ?_
    refine AQ.done ?_
    refine gE @hw ?_
    refine AE.round (k+1) (by omega) (by omega) (sU) ?_
    rw[bl,tW,aj,List.length_map,bf]
def BQ (l:Bd):Prop:=(l.map (·.1)).Nodup/\∀b∈l,0<=b.1/\b.1<1000
theorem Ec:∀(n:Nat) (l:List Int),l.Nodup->(∀x∈l,0<=x/\x<n)->l.length<=n
 |0,l,_,h=>by
  cases l with
  |nil=>simp
  |cons x r=>have:=h x (List.mem_cons_self ..);omega
 |n+1,l,hn,h=>by
  have U:=Ec n (l.erase (n:Int)) (hn.erase _) (fun x hx=>by
   have h2:=h x (List.mem_of_mem_erase hx)
   have h3:x≠(n:Int):=fun e=>by
    subst e
    exact(List.Nodup.mem_erase_iff hn).1 hx|>.1 rfl
   omega)
  have h4:=List.length_erase (a:=(n:Int)) (l:=l)
  split at h4<;>omega
theorem BQ.len {l:Bd} (h:BQ l):l.length<=1000:=by
 have:=Ec 1000 (l.map (·.1)) h.1 (fun x hx=>by
  obtain⟨b,hb,rfl⟩:=List.mem_map.1 hx
  exact h.2 b hb)
 simpa using this
theorem oG.bd {l:Bd} (h:oG l) (k:BQ l):j8 l:=⟨by have:=k.len;omega,fun b hb=>(h b hb).2.1⟩
structure mH (l:Bd) (f:Int->Tm):Prop where
 r:gK l f
 t:oG l
 k:BQ l
 l:∀v,aE (f v)
theorem abK {v:Int} {t:Tm} (h:aE t) (w:Int):aE (mB v t w):=by
 rw[mB]
 split
 ·exact h
 ·rw[bt,aE,b_];simp
theorem mH.put {l:Bd} {f:Int->Tm} (h:mH l f) {v:Int} {t:Tm} (hv:f v=bt v) (jo:0<=v/\v<1000) (pf:bS t=true) (fi:aE t) (ho:v∉bJ (ak f t))
  (hr:(ak f t).nm=[]->(ak f t).ix<v) (s7:t.nm=[]->t.ix<v):mH (l++[(v,t)]) (fun w=>ak (mB v (ak f t)) (f w)):=by
 have a_:∀x,(v,x)∉l:=fun x hx=>((h.r.b v).2 ⟨x,hx⟩) hv
 have WH:aE (ak f t):=JS f h.l t fi
 refine⟨h.r.bind hv (Jm pf) ho hr,fun b hb=>?_,⟨?_,fun b hb=>?_⟩,fun w=>JS _ (abK WH) _ (h.l w)⟩
 ·rcases List.mem_append.1 hb with hb|hb
  ·exact h.t b hb
  ·rw[List.mem_singleton.1 hb];exact⟨pf,fi,s7⟩
 ·rw[List.map_append,List.nodup_append]
  refine⟨h.k.1,by simp,fun a ha b hb=>?_⟩
  simp only[List.map_cons,List.map_nil,List.mem_singleton]at hb
  subst hb
  obtain⟨c,hc,rfl⟩:=List.mem_map.1 ha
  intro e
  exact a_ c.2 (by rw[<-e];exact hc)
 ·rcases List.mem_append.1 hb with hb|hb
  ·exact h.k.2 b hb
  ·rw[List.mem_singleton.1 hb];exact jo
def yQ (l:Bd) (s t:Tm) (l':Bd) (b:Bool):Prop:=
 (b=false->∀g,ft l g->¬dZ s t g)/\(b=true->(∃r,l'=l++r)/\(∃f',mH l' f')/\∀g,ft l' g↔ft l g/\dZ s t g)
theorem Kr {l:Bd} {f:Int->Tm} (h:gK l f) {s u:Tm} (e:ak f u=ak f s) {g:Int->Tm} (hg:ft l g):ak g u=ak g s:=by
 rw[<-h.under hg u,e,h.under hg s]
theorem Ek {u:Tm} (h:bS u=true) (hn:u.nm=[]):u=bt u.ix/\0<=u.ix/\u.ix<1000:=by
 rw[mA,if_pos hn]at h
 simp only[Bool.and_eq_true,List.isEmpty_iff,decide_eq_true_eq]at h
 refine⟨?_,h.2⟩
 cases u with
 |mk a b c=>cases hn;cases h.1;rfl
theorem BU {l:Bd} {f:Int->Tm} (h:mH l f) {s t x y:Tm} (hU:∀g,ft l g->(dZ s t g↔dZ x y g)) (hx:bS x=true) (oc:x.nm=[]) (w4:f x.ix=bt x.ix)
  (hy:bS y=true) (DE:aE y) (ho:x.ix∉bJ (ak f y)) (hr:(ak f y).nm=[]->(ak f y).ix<x.ix) (s7:y.nm=[]->y.ix<x.ix):yQ l s t (l++[(x.ix,y)]) true:=by
 obtain⟨e,kG⟩:=Ek hx oc
 refine⟨fun h=>(nomatch h),fun _=>⟨⟨_,rfl⟩,⟨_,h.put w4 kG hy DE ho hr s7⟩,fun g=>?_⟩⟩
 rw[ft.snoc]
 constructor
 ·rintro⟨U,h2⟩
  refine⟨U,(hU g U).2 ?_⟩
  rw[dZ,ff g x,if_pos oc,h2]
 ·rintro⟨U,h2⟩
  have h3:=(hU g U).1 h2
  rw[dZ,ff g x,if_pos oc]at h3
  exact⟨U,h3.symm⟩
theorem Tj {l:Bd} {f:Int->Tm} (h:mH l f) {s t:Tm} (hU:∀g,ft l g->dZ s t g):yQ l s t l true:=
 ⟨fun h=>(nomatch h),fun _=>⟨⟨[],(List.append_nil l).symm⟩,⟨f,h⟩,fun g=>⟨fun hg=>⟨hg,hU g hg⟩,fun hg=>hg.1⟩⟩⟩
theorem BT {l l':Bd} {s t:Tm} (hU:∀g,ft l g->¬dZ s t g):yQ l s t l' false:=⟨fun _=>hU,fun h=>(nomatch h)⟩
theorem D7 {v:Int} {l:List Int}:p8 v l=true↔v∈l:=by
 rw[p8,List.any_eq_true]
 exact⟨fun⟨x,U,h2⟩=>by rw[beq_iff_eq]at h2;exact h2▸U,fun h=>⟨v,h,by simp⟩⟩
theorem JW:∀(N n:Nat) (l:Bd) (f:Int->Tm) (s t:Tm),mH l f->1000-l.length<=N->wT (ak f s)<=n->bS s=true->bS t=true->aE s->aE t->
  ai Tryz.prog 143 [aP s,aP t,cp l] [] (fun r H'=>H'=[]/\∃l' b,r= .aI [cp l',Bv b]/\yQ l s t l' b)
 |N,0,l,f,s,t,_,_,h,_,_,_,_=>by have:=qI (ak f s);omega
 |N,n+1,l,f,s,t,hB,hN,hw,fU,pf,gg,fi=>by
  have hl:=hB.t.bd hB.k
  have hlen:=hB.k.len
  obtain⟨a1,a2,a3,a4⟩:=BL hB.r hB.t fU gg
  obtain⟨b1,b2,b3,b4⟩:=BL hB.r hB.t pf fi
  have xu:=BK s l gg fU hl hB.t
  have mZ:=BK t l fi pf hl hB.t
  rw[<-a3]at hw
  have hU:∀g,ft l g->(dZ s t g↔dZ (eX l s) (eX l t) g):=fun g hg=>by
   rw[dZ,dZ,Kr hB.r a3 hg,Kr hB.r b3 hg]
  obtain⟨u,hu⟩:∃u,eX l s=u:=⟨_,rfl⟩
  obtain⟨v,hv⟩:∃v,eX l t=v:=⟨_,rfl⟩
  rw[hu]at a1 a2 a3 a4 xu hw hU
  rw[hv]at b1 b2 b3 b4 mZ hU
  clear hu hv
  refine ai.walk [0,1,2,3,4,6,7,8,9,10,24,29,35,49,54,59,83,89,108] [3,4] Tryz.func143 rfl Tryz.ntmps143 (by kernel_rfl) (by rfl) rfl fun W own I0 ao lay=>?_
  refine gO ?_
  refine AP.bQ 8 (Tree.node [] [0,1,3,4] [2] [Tree.node [3,4] [] [5] [Tree.node [] [] [6] [Tree.node [] [] [7] [Tree.node [] [] [] []]]]]) (by kernel_rfl) rfl (by kernel_rfl) (by kernel_rfl) ?_
  refine bO ?_
  refine sI ?_
  repeat' (first|with_reducible exact True.intro|with_reducible refine And.intro (by omega) ?_|with_reducible refine And.intro ?_ ?_|(refine AQ.nx rfl ?_;refine sI ?_)|(refine AQ.fn (by kernel_rfl) rfl rfl rfl (xu) rfl ?_;refine sI ?_)|(refine AQ.fn (by kernel_rfl) rfl rfl rfl (mZ) rfl ?_;refine sI ?_)|refine AQ.done ?_|(refine AQ.go (by kernel_rfl) ?_;refine sI ?_;repeat(with_reducible refine And.intro (by omega) ?_);refine AQ.nx rfl ?_;refine sI ?_))
  refine gO ?_
  refine AP.cond rfl rfl (fun h0=>?_) (fun h0=>?_)
  ·have h0:u.nm=[]/\v.nm=[]:=by simpa using h0
   obtain⟨dG,jq⟩:=h0
   obtain⟨eu,mY⟩:=Ek a1 dG
   have G3:=a4 dG
   obtain⟨ev,jo⟩:=Ek b1 jq
   have mh:=b4 jq
   refine gO ?_
   refine AP.cond rfl rfl (fun U=>?_) (fun U=>?_)
   ·have U:u.ix=v.ix:=by simpa using U
    refine gO ?_
    refine AE.a6 [0,1] rfl ⟨rfl,rfl,trivial⟩ rfl ⟨rfl,l,true,rfl,Tj hB fun g hg=>(hU g hg).2 ?_⟩
    rw[eu,ev,U];rfl
   ·have U:u.ix≠v.ix:=by simpa using U
    refine gO ?_
    refine AP.cond rfl rfl (fun h2=>?_) (fun h2=>?_)
    ·have h2:u.ix<v.ix:=by simpa using h2
     have hS:=BU hB (s:=s) (t:=t) (x:=v) (y:=u) (fun g hg=>((hU g hg).trans ⟨Eq.symm,Eq.symm⟩)) b1 jq mh a1 a2 (by rw[ff,if_pos dG,G3];simp[bt,bJ,aW];omega) (fun _=>by rw[ff,if_pos dG,G3];exact h2) (fun _=>h2)
     refine gO ?_
     refine AP.bQ 11 (Tree.node [] [1,3,4,5,6] [0,7] [Tree.node [1,3,4,5,6] [] [2,7] [Tree.node [3,4,5,6] [] [7] [Tree.node [] [] [8] [Tree.node [] [9,10] [] []]],Tree.node [1] [] [2] [Tree.node [] [] [8] [Tree.node [] [9,10] [] []]]],Tree.node [1] [] [0] [Tree.node [1] [] [2] [Tree.node [] [] [8] [Tree.node [] [9,10] [] []]]]]) (by kernel_rfl) rfl (by kernel_rfl) (by kernel_rfl) ?_
     refine bO ?_
     refine sI ?_
     repeat' (first|with_reducible exact True.intro|with_reducible refine And.intro (by omega) ?_|with_reducible refine And.intro ?_ ?_|(refine AQ.nx rfl ?_;refine sE (an @aw (an @dB (an @il (an @List.nil_append.{0} @List.length_append.{0})))) ?_)|(refine AQ.append (hnb:=rfl) (rows:=[]) (es:=3) (by kernel_rfl) rfl rfl rfl (by rfl) Tryz.iE Tryz.iD (by show Option.map _ (ax Tryz.prog 59)=_;rw[Tryz.iH];rfl) Tryz.iq (by first|rfl|(simp only[aw,List.length_cons,List.length_nil];done)|(simp only[aw,List.length_cons,List.length_nil];omega)) (by simp only[aw,List.length_cons,List.length_nil];omega) (by simp only[aw,List.length_cons,List.length_nil];omega) ?_;refine sE (an @List.nil_append.{0} @aw) ?_)|(refine AQ.append (hnb:=rfl) (rows:=b9 l) (es:=3) (by kernel_rfl) rfl rfl rfl (by rfl) Tryz.iE Tryz.iD (by show Option.map _ (ax Tryz.prog 59)=_;rw[Tryz.iH];rfl) Tryz.iq (by first|rfl|(simp only[aw,List.length_cons,List.length_nil];done)|(simp only[aw,List.length_cons,List.length_nil];omega)) (by simp only[aw,List.length_cons,List.length_nil];omega) (by simp only[aw,List.length_cons,List.length_nil];omega) ?_;refine sE (an @dB (an @il (an @aw @List.length_append.{0}))) ?_)|refine AQ.done ?_|(refine AQ.go (by kernel_rfl) ?_;refine sE (an @aw (an @dB (an @il (an @List.nil_append.{0} @List.length_append.{0})))) ?_;repeat(with_reducible refine And.intro (by omega) ?_);refine AQ.nx rfl ?_;refine sE (an @aw (an @dB (an @il (an @List.nil_append.{0} @List.length_append.{0})))) ?_))
     all_goals refine gO ?_
     all_goals refine AE.freeze 2 (el:=59) (es:=4) (rows:=b9 (l++[(v.ix,u)])) rfl (by simp only[go_sem,Nat.reduceAdd,Nat.reduceLeDiff,Nat.reduceSub,Int.reduceToNat,reduceCtorEq,aw,List.length_append];first|done|trivial|omega|(simp;done)|(simp;omega)) (by simp only[go_sem,Nat.reduceAdd,Nat.reduceLeDiff,Nat.reduceSub,Int.reduceToNat,reduceCtorEq,aw,List.length_append];first|done|trivial|omega|(simp;done)|(simp;omega)) ?_;simp only[go_sem,Nat.reduceAdd,Nat.reduceLeDiff,Nat.reduceSub,Int.reduceToNat,reduceCtorEq,aw,List.length_append]
     all_goals exact AE.a6 [0,1] rfl ⟨rfl,rfl,trivial⟩ rfl ⟨rfl,_,true,by rw[pX _ _ (by simp)];rfl,hS⟩
    ·have h2:¬u.ix<v.ix:=by simpa using h2
     have hS:=BU hB (s:=s) (t:=t) (x:=u) (y:=v) hU a1 dG G3 b1 b2 (by rw[ff,if_pos jq,mh];simp[bt,bJ,aW];omega) (fun _=>by rw[ff,if_pos jq,mh];show v.ix<u.ix;omega) (fun _=>by omega)
     refine gO ?_
     refine AP.bQ 11 (Tree.node [] [1,3,4,5,6] [0,7] [Tree.node [1,3,4,5,6] [] [2,7] [Tree.node [3,4,5,6] [] [7] [Tree.node [] [] [8] [Tree.node [] [9,10] [] []]],Tree.node [1] [] [2] [Tree.node [] [] [8] [Tree.node [] [9,10] [] []]]],Tree.node [1] [] [0] [Tree.node [1] [] [2] [Tree.node [] [] [8] [Tree.node [] [9,10] [] []]]]]) (by kernel_rfl) rfl (by kernel_rfl) (by kernel_rfl) ?_
     refine bO ?_
     refine sI ?_
     repeat' (first|with_reducible exact True.intro|with_reducible refine And.intro (by omega) ?_|with_reducible refine And.intro ?_ ?_|(refine AQ.nx rfl ?_;refine sE (an @aw (an @dB (an @il (an @List.nil_append.{0} @List.length_append.{0})))) ?_)|(refine AQ.append (hnb:=rfl) (rows:=[]) (es:=3) (by kernel_rfl) rfl rfl rfl (by rfl) Tryz.iE Tryz.iD (by show Option.map _ (ax Tryz.prog 59)=_;rw[Tryz.iH];rfl) Tryz.iq (by first|rfl|(simp only[aw,List.length_cons,List.length_nil];done)|(simp only[aw,List.length_cons,List.length_nil];omega)) (by simp only[aw,List.length_cons,List.length_nil];omega) (by simp only[aw,List.length_cons,List.length_nil];omega) ?_;refine sE (an @List.nil_append.{0} @aw) ?_)|(refine AQ.append (hnb:=rfl) (rows:=b9 l) (es:=3) (by kernel_rfl) rfl rfl rfl (by rfl) Tryz.iE Tryz.iD (by show Option.map _ (ax Tryz.prog 59)=_;rw[Tryz.iH];rfl) Tryz.iq (by first|rfl|(simp only[aw,List.length_cons,List.length_nil];done)|(simp only[aw,List.length_cons,List.length_nil];omega)) (by simp only[aw,List.length_cons,List.length_nil];omega) (by simp only[aw,List.length_cons,List.length_nil];omega) ?_;refine sE (an @dB (an @il (an @aw @List.length_append.{0}))) ?_)|refine AQ.done ?_|(refine AQ.go (by kernel_rfl) ?_;refine sE (an @aw (an @dB (an @il (an @List.nil_append.{0} @List.length_append.{0})))) ?_;repeat(with_reducible refine And.intro (by omega) ?_);refine AQ.nx rfl ?_;refine sE (an @aw (an @dB (an @il (an @List.nil_append.{0} @List.length_append.{0})))) ?_))
     all_goals refine gO ?_
     all_goals refine AE.freeze 2 (el:=59) (es:=4) (rows:=b9 (l++[(u.ix,v)])) rfl (by simp only[go_sem,Nat.reduceAdd,Nat.reduceLeDiff,Nat.reduceSub,Int.reduceToNat,reduceCtorEq,aw,List.length_append];first|done|trivial|omega|(simp;done)|(simp;omega)) (by simp only[go_sem,Nat.reduceAdd,Nat.reduceLeDiff,Nat.reduceSub,Int.reduceToNat,reduceCtorEq,aw,List.length_append];first|done|trivial|omega|(simp;done)|(simp;omega)) ?_;simp only[go_sem,Nat.reduceAdd,Nat.reduceLeDiff,Nat.reduceSub,Int.reduceToNat,reduceCtorEq,aw,List.length_append]
     all_goals exact AE.a6 [0,1] rfl ⟨rfl,rfl,trivial⟩ rfl ⟨rfl,_,true,by rw[pX _ _ (by simp)];rfl,hS⟩
  ·refine gO ?_
   refine AP.cond rfl rfl (fun h3=>?_) (fun h3=>?_)
   ·have jq:v.nm=[]:=by simpa using h3
    have dG:u.nm≠[]:=fun h=>by rw[h,jq]at h0;simp at h0
    refine gO ?_
    refine AP.cond rfl rfl (fun h4=>?_) (fun h4=>?_)
    rotate_left
    ·exact absurd jq (by simpa using h4)
    have xg:=Jk hB.r hB.t hl v.ix _ u (Nat.le_refl _) a1 a2
    refine gO ?_
    refine AQ.fn (by kernel_rfl) rfl rfl rfl (xg) rfl ?_
    refine sI ?_
    refine gO ?_
    refine AP.cond rfl rfl (fun h5=>?_) (fun h5=>?_)
    ·have h5:v.ix∈bJ (ak f u):=D7.1 (by simpa using h5)
     refine gO ?_
     refine AE.a6 [0,1] rfl ⟨rfl,rfl,trivial⟩ rfl ⟨rfl,l,false,rfl,BT fun g hg hs=>?_⟩
     have h6:dZ v u g:=((hU g hg).1 hs).symm
     rw[dZ,ff g v,if_pos jq]at h6
     exact hB.r.Qi (Jm a1) dG h5 hg h6.symm
    ·have h5:v.ix∉bJ (ak f u):=fun h=>by rw[D7.2 h]at h5;simp at h5
     have hS:=BU hB (s:=s) (t:=t) (x:=v) (y:=u) (fun g hg=>(hU g hg).trans ⟨Eq.symm,Eq.symm⟩) b1 jq (b4 jq) a1 a2 h5 (fun h=>absurd (by rw[(sA f dG).1]at h;exact h) dG) (fun h=>absurd h dG)
     refine gO ?_
     refine AP.bQ 11 (Tree.node [] [1,3,4,5,6] [0,7] [Tree.node [1,3,4,5,6] [] [2,7] [Tree.node [3,4,5,6] [] [7] [Tree.node [] [] [8] [Tree.node [] [9,10] [] []]],Tree.node [1] [] [2] [Tree.node [] [] [8] [Tree.node [] [9,10] [] []]]],Tree.node [1] [] [0] [Tree.node [1] [] [2] [Tree.node [] [] [8] [Tree.node [] [9,10] [] []]]]]) (by kernel_rfl) rfl (by kernel_rfl) (by kernel_rfl) ?_
     refine bO ?_
     refine sI ?_
     repeat' (first|with_reducible exact True.intro|with_reducible refine And.intro (by omega) ?_|with_reducible refine And.intro ?_ ?_|(refine AQ.nx rfl ?_;refine sE (an @aw (an @dB (an @il (an @List.nil_append.{0} @List.length_append.{0})))) ?_)|(refine AQ.append (hnb:=rfl) (rows:=[]) (es:=3) (by kernel_rfl) rfl rfl rfl (by rfl) Tryz.iE Tryz.iD (by show Option.map _ (ax Tryz.prog 59)=_;rw[Tryz.iH];rfl) Tryz.iq (by first|rfl|(simp only[aw,List.length_cons,List.length_nil];done)|(simp only[aw,List.length_cons,List.length_nil];omega)) (by simp only[aw,List.length_cons,List.length_nil];omega) (by simp only[aw,List.length_cons,List.length_nil];omega) ?_;refine sE (an @List.nil_append.{0} @aw) ?_)|(refine AQ.append (hnb:=rfl) (rows:=b9 l) (es:=3) (by kernel_rfl) rfl rfl rfl (by rfl) Tryz.iE Tryz.iD (by show Option.map _ (ax Tryz.prog 59)=_;rw[Tryz.iH];rfl) Tryz.iq (by first|rfl|(simp only[aw,List.length_cons,List.length_nil];done)|(simp only[aw,List.length_cons,List.length_nil];omega)) (by simp only[aw,List.length_cons,List.length_nil];omega) (by simp only[aw,List.length_cons,List.length_nil];omega) ?_;refine sE (an @dB (an @il (an @aw @List.length_append.{0}))) ?_)|refine AQ.done ?_|(refine AQ.go (by kernel_rfl) ?_;refine sE (an @aw (an @dB (an @il (an @List.nil_append.{0} @List.length_append.{0})))) ?_;repeat(with_reducible refine And.intro (by omega) ?_);refine AQ.nx rfl ?_;refine sE (an @aw (an @dB (an @il (an @List.nil_append.{0} @List.length_append.{0})))) ?_))
     all_goals refine gO ?_
     all_goals refine AE.freeze 2 (el:=59) (es:=4) (rows:=b9 (l++[(v.ix,u)])) rfl (by simp only[go_sem,Nat.reduceAdd,Nat.reduceLeDiff,Nat.reduceSub,Int.reduceToNat,reduceCtorEq,aw,List.length_append];first|done|trivial|omega|(simp;done)|(simp;omega)) (by simp only[go_sem,Nat.reduceAdd,Nat.reduceLeDiff,Nat.reduceSub,Int.reduceToNat,reduceCtorEq,aw,List.length_append];first|done|trivial|omega|(simp;done)|(simp;omega)) ?_;simp only[go_sem,Nat.reduceAdd,Nat.reduceLeDiff,Nat.reduceSub,Int.reduceToNat,reduceCtorEq,aw,List.length_append]
     all_goals exact AE.a6 [0,1] rfl ⟨rfl,rfl,trivial⟩ rfl ⟨rfl,_,true,by rw[pX _ _ (by simp)];rfl,hS⟩
   ·have jq:v.nm≠[]:=by simpa using h3
    refine gO ?_
    refine AP.cond rfl rfl (fun h4=>?_) (fun h4=>?_)
    ·have dG:u.nm=[]:=by simpa using h4
     have xg:=Jk hB.r hB.t hl u.ix _ v (Nat.le_refl _) b1 b2
     refine gO ?_
     refine AQ.fn (by kernel_rfl) rfl rfl rfl (xg) rfl ?_
     refine sI ?_
     refine gO ?_
     refine AP.cond rfl rfl (fun h5=>?_) (fun h5=>?_)
     ·have h5:u.ix∈bJ (ak f v):=D7.1 (by simpa using h5)
      refine gO ?_
      refine AE.a6 [0,1] rfl ⟨rfl,rfl,trivial⟩ rfl ⟨rfl,l,false,rfl,BT fun g hg hs=>?_⟩
      have h6:dZ u v g:=(hU g hg).1 hs
      rw[dZ,ff g u,if_pos dG]at h6
      exact hB.r.Qi (Jm b1) jq h5 hg h6.symm
     ·have h5:u.ix∉bJ (ak f v):=fun h=>by rw[D7.2 h]at h5;simp at h5
      have hS:=BU hB (s:=s) (t:=t) (x:=u) (y:=v) (fun g hg=>hU g hg) a1 dG (a4 dG) b1 b2 h5 (fun h=>absurd (by rw[(sA f jq).1]at h;exact h) jq) (fun h=>absurd h jq)
      refine gO ?_
      refine AP.bQ 11 (Tree.node [] [1,3,4,5,6] [0,7] [Tree.node [1,3,4,5,6] [] [2,7] [Tree.node [3,4,5,6] [] [7] [Tree.node [] [] [8] [Tree.node [] [9,10] [] []]],Tree.node [1] [] [2] [Tree.node [] [] [8] [Tree.node [] [9,10] [] []]]],Tree.node [1] [] [0] [Tree.node [1] [] [2] [Tree.node [] [] [8] [Tree.node [] [9,10] [] []]]]]) (by kernel_rfl) rfl (by kernel_rfl) (by kernel_rfl) ?_
      refine bO ?_
      refine sI ?_
      repeat' (first|with_reducible exact True.intro|with_reducible refine And.intro (by omega) ?_|with_reducible refine And.intro ?_ ?_|(refine AQ.nx rfl ?_;refine sE (an @aw (an @dB (an @il (an @List.nil_append.{0} @List.length_append.{0})))) ?_)|(refine AQ.append (hnb:=rfl) (rows:=[]) (es:=3) (by kernel_rfl) rfl rfl rfl (by rfl) Tryz.iE Tryz.iD (by show Option.map _ (ax Tryz.prog 59)=_;rw[Tryz.iH];rfl) Tryz.iq (by first|rfl|(simp only[aw,List.length_cons,List.length_nil];done)|(simp only[aw,List.length_cons,List.length_nil];omega)) (by simp only[aw,List.length_cons,List.length_nil];omega) (by simp only[aw,List.length_cons,List.length_nil];omega) ?_;refine sE (an @List.nil_append.{0} @aw) ?_)|(refine AQ.append (hnb:=rfl) (rows:=b9 l) (es:=3) (by kernel_rfl) rfl rfl rfl (by rfl) Tryz.iE Tryz.iD (by show Option.map _ (ax Tryz.prog 59)=_;rw[Tryz.iH];rfl) Tryz.iq (by first|rfl|(simp only[aw,List.length_cons,List.length_nil];done)|(simp only[aw,List.length_cons,List.length_nil];omega)) (by simp only[aw,List.length_cons,List.length_nil];omega) (by simp only[aw,List.length_cons,List.length_nil];omega) ?_;refine sE (an @dB (an @il (an @aw @List.length_append.{0}))) ?_)|refine AQ.done ?_|(refine AQ.go (by kernel_rfl) ?_;refine sE (an @aw (an @dB (an @il (an @List.nil_append.{0} @List.length_append.{0})))) ?_;repeat(with_reducible refine And.intro (by omega) ?_);refine AQ.nx rfl ?_;refine sE (an @aw (an @dB (an @il (an @List.nil_append.{0} @List.length_append.{0})))) ?_))
      all_goals refine gO ?_
      all_goals refine AE.freeze 2 (el:=59) (es:=4) (rows:=b9 (l++[(u.ix,v)])) rfl (by simp only[go_sem,Nat.reduceAdd,Nat.reduceLeDiff,Nat.reduceSub,Int.reduceToNat,reduceCtorEq,aw,List.length_append];first|done|trivial|omega|(simp;done)|(simp;omega)) (by simp only[go_sem,Nat.reduceAdd,Nat.reduceLeDiff,Nat.reduceSub,Int.reduceToNat,reduceCtorEq,aw,List.length_append];first|done|trivial|omega|(simp;done)|(simp;omega)) ?_;simp only[go_sem,Nat.reduceAdd,Nat.reduceLeDiff,Nat.reduceSub,Int.reduceToNat,reduceCtorEq,aw,List.length_append]
      all_goals exact AE.a6 [0,1] rfl ⟨rfl,rfl,trivial⟩ rfl ⟨rfl,_,true,by rw[pX _ _ (by simp)];rfl,hS⟩
    ·have dG:u.nm≠[]:=by simpa using h4
     have mY:=dN.1 a2
     have jo:=dN.1 b2
     have pj:=mY.2.1
     have DE:=jo.2.1
     have m_:=yi a1
     have Oz:=yi b1
     have te:∀a∈u.xs,wT (ak f a)<=n:=fun a ha=>by
      rw[ff,if_neg dG,nB]at hw
      have h2:ak f a∈bn f u.xs:=by rw[fy];exact List.mem_map_of_mem ha
      have h3:=qJ _ _ h2
      have hw:1+aD (bn f u.xs)<=n+1:=hw
      omega
     refine gE @aj ?_
     refine AP.cond rfl rfl (fun h6=>?_) (fun h6=>?_)
     ·have h6:¬(u.nm=v.nm/\u.xs.length=v.xs.length):=fun⟨e1,e2⟩=>by simp[e1,e2]at h6
      refine gO ?_
      refine AE.a6 [0,1] rfl ⟨rfl,rfl,trivial⟩ rfl ⟨rfl,l,false,rfl,BT fun g hg hs=>?_⟩
      obtain⟨e1,e2⟩:=(dZ.fn dG jq).1 ((hU g hg).1 hs)
      exact h6 ⟨e1,Un e2⟩
     ·have h6:u.nm=v.nm/\u.xs.length=v.xs.length:=by
       by_cases e1:u.nm=v.nm
       ·refine⟨e1,?_⟩
        simp[e1]at h6
        omega
       ·simp[e1]at h6
      obtain⟨e1,e2⟩:=h6
      have GF:∀g,ft l g->(dZ s t g↔bn g u.xs=bn g v.xs):=fun g hg=>by
       rw[hU g hg,dZ.fn dG jq]
       exact⟨fun h=>h.2,fun h=>⟨e1,h⟩⟩
      clear hU xu mZ
      refine gO ?_
      refine AP.loop rfl (α:=Nat×Bd) (fun q=>[(2,cp q.2),(3,.ob 0 0),(4,.ob 1 0),(8,Iv q.1)]) (fun _=>[(1,.var 57 [Sv v.nm,Iv v.ix,.im (.sl 3 (aA v.xs))]),(0,.var 57 [Sv u.nm,Iv u.ix,.im (.sl 3 (aA u.xs))])]) (fun q=>q.1<=u.xs.length/\(∃r,q.2=l++r)/\(∃f',mH q.2 f')/\∀g,ft q.2 g↔ft l g/\bn g (u.xs.take q.1)=bn g (v.xs.take q.1)) (fun q=>u.xs.length-q.1) (0,l) ⟨by simp,⟨[],by simp⟩,⟨f,hB⟩,fun g=>by simp[bn]⟩ (sU) rfl fun⟨k,m⟩ ⟨hk,⟨r,hr⟩,⟨f',uK⟩,hS⟩=>?_
      simp only at hk hr uK hS⊢
      rcases Nat.eq_or_lt_of_le hk with aC|ag
      ·rw[aC,List.take_length,e2,List.take_length]at hS
       rw[aC]
       refine gE @aj ?_
       refine cF ?_
       refine gO ?_
       exact AE.a6 [0,1] rfl ⟨rfl,rfl,trivial⟩ rfl ⟨rfl,m,true,rfl,fun h=>(nomatch h),fun _=>⟨⟨r,hr⟩,⟨f',uK⟩,fun g=>by rw[hS];exact⟨fun h=>⟨h.1,(GF g h.1).2 h.2⟩,fun h=>⟨h.1,(GF g h.1).1 h.2⟩⟩⟩⟩
      ·obtain⟨x,hx,aH⟩:=dh u.xs k ag
       obtain⟨y,hy,dV⟩:=dh v.xs k (by omega)
       have bT:=wr (x:=(k:Int)+1) (by omega)
       have ih:ai Tryz.prog 143 [aP x,aP y,cp m] [] (fun r H'=>H'=[]/\∃l' b,r= .aI [cp l',Bv b]/\yQ m x y l' b):=by
        cases r with
        |nil=>
         rw[List.append_nil]at hr
         subst hr
         exact JW N n m f x y hB hN (te x (List.mem_of_getElem? hx)) (rY m_ hx) (rY Oz hy) (dc mY.2.2 hx) (dc jo.2.2 hy)
        |cons b r=>
         have NK:=uK.k.len
         rw[hr,List.length_append,List.length_cons]at NK
         have GA:N-1<N:=by omega
         exact JW (N-1) _ m f' x y uK (by rw[hr,List.length_append,List.length_cons];omega) (Nat.le_refl _) (rY m_ hx) (rY Oz hy) (dc mY.2.2 hx) (dc jo.2.2 hy)
       refine gE @aj ?_
       refine cT ?_
       refine gO ?_
       refine AP.bQ 17 (Tree.node [] [0,1,2,3,4,5,6,7,8,9,10] [11] [Tree.node [] [12,13,14,15,16] [] []]) (by kernel_rfl) rfl (by kernel_rfl) (by kernel_rfl) ?_
       refine bO ?_
       refine sE (an @aH (an @dV @aj)) ?_
       refine⟨by omega,by omega,?_⟩
       refine AQ.uq (by kernel_rfl) rfl rfl rfl ih fun r' H' ⟨e3,l',b,e4,zF⟩=>?_
       subst e3
       subst e4
       refine sI ?_
       refine AQ.nx rfl ?_
       refine sI ?_
       refine AQ.done ?_
       cases b with
       |false=>
        refine gO ?_
        refine AE.a6 [0,1] rfl ⟨rfl,rfl,trivial⟩ rfl ⟨rfl,m,false,rfl,BT fun g hg hs=>?_⟩
        have h7:=(GF g hg).1 hs
        have h8:=(hS g).2 ⟨hg,by rw[fy,fy,List.map_take,List.map_take,<-fy,<-fy,h7]⟩
        refine zF.1 rfl g h8 ?_
        have h9:=congrArg (fun z=>z[k]?) h7
        show ak g x=ak g y
        simpa[fy,hx,hy]using h9
       |true=>
        obtain⟨⟨r2,s7⟩,zz,kz⟩:=zF.2 rfl
        refine gE @bT ?_
        refine AE.round (k+1,l') ⟨by omega,⟨r++r2,by rw[s7,hr,List.append_assoc]⟩,zz,fun g=>?_⟩ (by simp only;omega) (sU) rfl
        rw[kz,hS,dE hx,dE hy,fy,fy,fy,fy,List.map_append,List.map_append]
        constructor
        ·rintro⟨⟨q1,q2⟩,q3⟩
         have q3:ak g x=ak g y:=q3
         exact⟨q1,by rw[q2];simp[q3]⟩
        ·rintro⟨q1,q2⟩
         obtain⟨q3,q4⟩:=List.append_inj' q2 rfl
         exact⟨⟨q1,q3⟩,show ak g x=ak g y by simpa using q4⟩
termination_by N n=>(N,n)
decreasing_by all_goals first|exact Prod.Lex.right _ (Nat.lt_succ_self _)|exact Prod.Lex.left _ _ GA
theorem mH.nil:mH [] bt:=⟨gK.nil,fun b hb=>(nomatch hb),⟨List.nodup_nil,fun b hb=>(nomatch hb)⟩,fun v=>by rw[bt,aE,b_];simp⟩
def yZ (f:Int->Tm) (l:Bd):Prop:=∃b∈l,4000<=wT (f b.1)\/100<cL (f b.1)
def Fj (s t:Tm) (out:Bd) (e:Int):Prop:=
 (e=5/\out=[]/\∀g,¬dZ s t g)\/∃l f,mH l f/\ss s t f/\((e=15/\out=[]/\yZ f l)\/(e=0/\¬yZ f l/\out=cV [] (l.map fun b=>(b.1,f b.1))))
theorem ab2 (s t:Tm) (fU:bS s=true) (pf:bS t=true) (gg:aE s) (fi:aE t):
  ai Tryz.prog 125 [.im (.sl 3 (aA [s])),.im (.sl 3 (aA [t]))] [] (fun r H'=>H'=[]/\∃out e,Fj s t out e/\(r= .aI [cp out,Iv e]\/out=[]/\r= .aI [ew,Iv e])):=by
 have dG:=JW 1000 _ [] bt s t mH.nil (by simp) (Nat.le_refl _) fU pf gg fi
 have es:aA [s]=[[Si s.nm,Ii s.ix,.sl 3 (aA s.xs)]]:=by simp only[aA,jx]
 have et:aA [t]=[[Si t.nm,Ii t.ix,.sl 3 (aA t.xs)]]:=by simp only[aA,jx]
 have vm:(aA [s]).getD 0 []=[Si s.nm,Ii s.ix,.sl 3 (aA s.xs)]:=by rw[es];rfl
 have s7:(aA [t]).getD 0 []=[Si t.nm,Ii t.ix,.sl 3 (aA t.xs)]:=by rw[et];rfl
 refine ai.walk [0,1,4,5,6,7,8,9,10,11,12,13,19,23,40,46,58,63] [12,13] Tryz.func125 rfl Tryz.ntmps125 (by kernel_rfl) (by rfl) rfl fun W own I0 ao lay=>?_
 refine gO ?_
 refine AP.freeze 0 (el:=59) (es:=4) (rows:=b9 []) rfl (by simp only[go_sem,Nat.reduceAdd,Nat.reduceLeDiff,Nat.reduceSub,Int.reduceToNat,reduceCtorEq,List.length_nil];first|done|trivial|omega|(simp;done)|(simp;omega)) (by simp only[go_sem,Nat.reduceAdd,Nat.reduceLeDiff,Nat.reduceSub,Int.reduceToNat,reduceCtorEq,List.length_nil];first|done|trivial|omega|(simp;done)|(simp;omega)) ?_;simp only[go_sem,Nat.reduceAdd,Nat.reduceLeDiff,Nat.reduceSub,Int.reduceToNat,reduceCtorEq,List.length_nil]
 refine gE (an @aj (an @List.length_cons.{0} @List.length_nil.{0})) ?_
 refine AP.loop rfl (α:=Nat×Bd) (fun q=>[(0,.im (.sl 3 (aA [s]))),(1,.im (.sl 3 (aA [t]))),(6,cp q.2),(7,Iv q.1)]) (fun _=>[]) (fun q=>(q.1=0/\q.2=[])\/(q.1=1/\∃f,mH q.2 f/\∀g,ft q.2 g↔dZ s t g)) (fun q=>1-q.1) (0,[]) (.inl ⟨rfl,rfl⟩) (sU) rfl fun⟨k,l⟩ hk=>?_
 simp only at hk⊢
 rcases hk with⟨rfl,rfl⟩|⟨rfl,f,hB,hS⟩
 ·refine gE (an @aj (an @List.length_cons.{0} @List.length_nil.{0})) ?_
  refine gO ?_
  refine AP.bQ 15 (Tree.node [] [0,1,2,3,4,5,6,7,8] [9] [Tree.node [] [10,11,12,13,14] [] []]) (by kernel_rfl) rfl (by kernel_rfl) (by kernel_rfl) ?_
  refine bO ?_
  simp only[go_sem,Nat.reduceAdd,Nat.reduceLeDiff,Nat.reduceSub,Int.reduceToNat,reduceCtorEq,vm,s7,aj,List.length_cons,List.length_nil,Int.toNat_zero]
  refine⟨by omega,by omega,?_⟩
  refine AQ.uq (by kernel_rfl) rfl rfl rfl dG fun r' H' ⟨e3,l',b,e4,zF⟩=>?_
  subst e3
  subst e4
  refine sI ?_
  refine AQ.nx rfl ?_
  refine sI ?_
  refine AQ.done ?_
  cases b with
  |false=>
   refine gO ?_
   exact AE.aG rfl ⟨rfl,rfl,trivial⟩ rfl ⟨rfl,[],5,.inl ⟨rfl,rfl,fun g=>zF.1 rfl g (ft.nil g)⟩,.inr ⟨rfl,rfl⟩⟩
  |true=>
   obtain⟨_,⟨f',zz⟩,kz⟩:=zF.2 rfl
   refine gO ?_
   exact AE.round (1,l') (.inr ⟨rfl,f',zz,fun g=>by rw[kz];exact⟨fun h=>h.2,fun h=>⟨ft.nil g,h⟩⟩⟩) (by simp) (sU) rfl
 ·refine gE (an @aj (an @List.length_cons.{0} @List.length_nil.{0})) ?_
  have hl:=hB.t.bd hB.k
  have hlen:=hB.k.len
  refine AP.loop rfl (α:=Nat) (fun k=>[(6,cp l),(10,.os 0 4 0 k),(11,Iv k)]) (fun k=>[(0,.vec 59 4 (b9 ((l.take k).map fun b=>(b.1,f b.1))))]) (fun k=>k<=l.length/\¬yZ f (l.take k)) (fun k=>l.length-k) 0 ⟨by omega,fun⟨b,hb,_⟩=>(nomatch hb)⟩ (sU) rfl fun k ⟨hk,hnb⟩=>?_
  rcases Nat.eq_or_lt_of_le hk with aC|ag
  ·subst aC
   rw[List.take_length]at hnb⊢
   refine gE @aw ?_
   refine cF ?_
   refine sI ?_
   refine AP.freeze 0 (el:=59) (es:=4) (rows:=b9 (l.map fun b=>(b.1,f b.1))) rfl (by simp only[go_sem,Nat.reduceAdd,Nat.reduceLeDiff,Nat.reduceSub,Int.reduceToNat,reduceCtorEq,aw,List.length_map];first|done|trivial|omega|(simp;done)|(simp;omega)) (by simp only[go_sem,Nat.reduceAdd,Nat.reduceLeDiff,Nat.reduceSub,Int.reduceToNat,reduceCtorEq,aw,List.length_map];first|done|trivial|omega|(simp;done)|(simp;omega)) ?_;simp only[go_sem,Nat.reduceAdd,Nat.reduceLeDiff,Nat.reduceSub,Int.reduceToNat,reduceCtorEq,aw,List.length_map]
   rw[pX _ _ (by rw[List.length_map];omega)]
   refine gO ?_
   have fU:=RC (l.map fun b=>(b.1,f b.1)) (by show((l.map fun b=>(b.1,f b.1)).map (·.1)).Nodup;rw[List.map_map];exact hB.k.1) (by rw[List.length_map];omega)
   refine AQ.fn (by kernel_rfl) rfl rfl rfl (fU) rfl ?_
   refine gO ?_
   exact AE.aG rfl ⟨rfl,rfl,trivial⟩ rfl ⟨rfl,_,0,.inr ⟨l,f,hB,hB.r.x8 hS,.inr ⟨rfl,hnb,rfl⟩⟩,.inl rfl⟩
  ·obtain⟨b,hb,aH⟩:=sx l k ag
   have hw:=wr (x:=(k:Int)+1) (by omega)
   have jo:=hB.k.2 b (List.mem_of_getElem? hb)
   have ov:bS (bt b.1)=true:=by
    show bS (.mk [] b.1 [])=true
    rw[bS,if_pos rfl];simp[jo]
   have lv:aE (bt b.1):=by rw[bt,aE,b_];simp
   have le:bP [.agg [Sv [],Iv b.1,ew],cp l] [aP (bt b.1),cp l]:=bP.k6 (c6.agg (bP.k6 (c6.refl _) (bP.k6 (c6.refl _) (bP.k6 (c6.im (fK.nil 3)) (bP.refl _))))) (bP.refl _)
   have NJ:=(O2 hB.r hB.t hl _ (bt b.1) (Nat.le_refl _) ov lv).qT le
   have zN:=(Lo hB.r hB.t hl _ (bt b.1) (Nat.le_refl _) ov lv).qT le
   rw[wq]at NJ zN
   have ry:=FP (f b.1) 100 (hB.l _) (by omega)
   have bf:l.take (k+1)=l.take k++[b]:=dE hb
   have zK:(4000<=wT (f b.1)\/100<cL (f b.1))->yZ f l:=fun h=>⟨b,List.mem_of_getElem? hb,h⟩
   refine gE @aw ?_
   refine cT ?_
   refine gE (an @aH @aw) ?_
   refine AQ.fn (by kernel_rfl) rfl rfl rfl (NJ) rfl ?_
   refine sI ?_
   refine gO ?_
   refine AP.cond rfl rfl (fun U=>?_) (fun U=>?_)
   ·have U:4000<=wT (f b.1):=by
     have U:(4000:Int)<=((min (wT (f b.1)) 5000:Nat):Int):=by simpa using U
     omega
    refine gO ?_
    exact AE.a6 [0,1] rfl ⟨rfl,rfl,trivial⟩ rfl ⟨rfl,[],15,.inr ⟨l,f,hB,hB.r.x8 hS,.inl ⟨rfl,rfl,zK (.inl U)⟩⟩,.inr ⟨rfl,rfl⟩⟩
   ·have U:¬4000<=wT (f b.1):=fun h=>by
     have:¬(4000:Int)<=((min (wT (f b.1)) 5000:Nat):Int):=by simpa using U
     omega
    refine gO ?_
    refine AQ.fn (by kernel_rfl) rfl rfl rfl (zN) rfl ?_
    refine sI ?_
    refine gO ?_
    refine AQ.fn (by kernel_rfl) rfl rfl rfl (ry) rfl ?_
    refine sI ?_
    refine gO ?_
    refine AP.cond rfl rfl (fun h2=>?_) (fun h2=>?_)
    ·have h2:100<cL (f b.1):=by
      have:(100:Int)<(cL (f b.1):Int):=by simpa using h2
      omega
     refine gO ?_
     exact AE.a6 [0,1,2] rfl ⟨rfl,rfl,trivial⟩ rfl ⟨rfl,[],15,.inr ⟨l,f,hB,hB.r.x8 hS,.inl ⟨rfl,rfl,zK (.inr h2)⟩⟩,.inr ⟨rfl,rfl⟩⟩
    ·have h2:¬100<cL (f b.1):=fun h=>by
      have:¬(100:Int)<(cL (f b.1):Int):=by simpa using h2
      omega
     refine gO ?_
     refine AP.bQ 10 (Tree.node [] [0,1,2,3,4,5,6,7] [8] [Tree.node [0] [] [9] [Tree.node [] [] [] []]]) (by kernel_rfl) rfl (by kernel_rfl) (by kernel_rfl) ?_
     refine bO ?_
     refine sE (an @aH @aw) ?_
     refine⟨by omega,?_⟩
     have fi:((l.take k).map fun b=>(b.1,f b.1)).length=k:=by rw[List.length_map,List.length_take];omega
     refine AQ.go (by kernel_rfl) ?_
     refine sI ?_
     refine AQ.nx rfl ?_
     refine sI ?_
     refine AQ.append (hnb:=rfl) (rows:=b9 ((l.take k).map fun b=>(b.1,f b.1))) (es:=3) (by kernel_rfl) rfl rfl rfl (by rfl) Tryz.iE Tryz.iD (by show Option.map _ (ax Tryz.prog 59)=_;rw[Tryz.iH];rfl) Tryz.iq (by first|rfl|(simp only[aw,fi,List.length_cons,List.length_nil];done)|(simp only[aw,fi,List.length_cons,List.length_nil];omega)) (by simp only[aw,fi,List.length_cons,List.length_nil];omega) (by simp only[aw,fi,List.length_cons,List.length_nil];omega) ?_
     refine sE (an @aw @fi) ?_
     refine AQ.nx rfl ?_
     refine sI ?_
     refine AQ.done ?_
     refine gE @hw ?_
     refine AE.gQ [1,2] rfl ?_
     refine sI ?_
     refine AE.round (k+1) ⟨by omega,fun⟨c,hc,hd⟩=>?_⟩ (by omega) (sU) ?_
     ·rw[bf]at hc
      rcases List.mem_append.1 hc with hc|hc
      ·exact hnb ⟨c,hc,hd⟩
      ·rw[List.mem_singleton.1 hc]at hd
       exact hd.elim U h2
     ·rw[bf,List.map_append,<-dB];rfl
theorem ab4 (s t:Tm) (gg:aE s) (fi:aE t):
  ai Tryz.prog 50 [aP s,aP t] [] (fun r H'=>H'=[]/\∃out e,(fL s t≠0/\e=fL s t/\out=[]\/fL s t=0/\Fj s t out e)/\(r= .aI [cp out,Iv e]\/out=[]/\r= .aI [ew,Iv e])):=by
 have hk:=JP s t gg fi
 have es:aA [s]=[[Si s.nm,Ii s.ix,.sl 3 (aA s.xs)]]:=by simp only[aA,jx]
 have et:aA [t]=[[Si t.nm,Ii t.ix,.sl 3 (aA t.xs)]]:=by simp only[aA,jx]
 by_cases U:fL s t=0
 ·obtain⟨k1,k2⟩:=y_ U
  have hu:=ab2 s t (qX k1).1 (qX k2).1 gg fi
  rw[es,et]at hu
  rw[U]at hk
  refine ai.walk [0,1,2,3,4,5,6,11] [] Tryz.func50 rfl Tryz.ntmps50 (by kernel_rfl) (by rfl) rfl fun W own I0 ao lay=>?_
  refine gO ?_
  refine AQ.fn (by kernel_rfl) rfl rfl rfl (hk) rfl ?_
  refine sI ?_
  refine gO ?_
  refine AQ.uq (by kernel_rfl) rfl rfl rfl hu fun r' H' ⟨e3,out,e,hU,hr⟩=>?_
  subst e3
  rcases hr with rfl|⟨rfl,rfl⟩
  ·refine sI ?_
   refine gO ?_
   exact AE.aG rfl ⟨rfl,rfl,trivial⟩ rfl ⟨rfl,out,e,.inr ⟨U,hU⟩,.inl rfl⟩
  ·refine sI ?_
   refine gO ?_
   exact AE.aG rfl ⟨rfl,rfl,trivial⟩ rfl ⟨rfl,[],e,.inr ⟨U,hU⟩,.inr ⟨rfl,rfl⟩⟩
 ·refine ai.walk [0,1,2,3,4,5,6,11] [] Tryz.func50 rfl Tryz.ntmps50 (by kernel_rfl) (by rfl) rfl fun W own I0 ao lay=>?_
  refine gO ?_
  refine AQ.fn (by kernel_rfl) rfl rfl rfl (hk) rfl ?_
  refine sI ?_
  refine gO ?_
  refine AP.cond rfl rfl (fun h2=>?_) (fun h2=>?_)
  ·refine gO ?_
   exact AE.aG rfl ⟨rfl,rfl,trivial⟩ rfl ⟨rfl,[],_,.inl ⟨U,rfl,rfl⟩,.inr ⟨rfl,rfl⟩⟩
  ·exact absurd (by simpa using h2) U
abbrev pE:AV:= .im (.v (.pointer none))
def pO:Option Nat->AV
 |none=>pE
 |some d=> .ob d 0
def gY (up:Nat->Option Nat):Nat->Nat->Nat
 |0,c=>c
 |n+1,c=>match up c with|none=>c|some d=>gY up n d
theorem Q7 {up:Nat->Option Nat} {rk:Nat->Nat} {P:Nat->Prop} (hG:∀c,P c->∀d,up c=some d->P d/\rk d<rk c):∀(n m c:Nat),P c->rk c<=n->rk c<=m->gY up n c=gY up m c
 |n,m,c,hc,U,h2=>by
  cases jn:up c with
  |none=>
   have e:∀k,gY up k c=c:=fun k=>by cases k with
    |zero=>rfl
    |succ k=>rw[gY,jn]
   rw[e,e]
  |some d=>
   obtain⟨h3,h4⟩:=hG c hc d jn
   cases n with
   |zero=>omega
   |succ n=>
    cases m with
    |zero=>omega
    |succ m=>
     rw[gY,jn,gY,jn]
     exact Q7 hG n m d h3 (by omega) (by omega)
theorem aa7 {up:Nat->Option Nat} {rk:Nat->Nat} {P:Nat->Prop} (hG:∀c,P c->∀d,up c=some d->P d/\rk d<rk c) {c d:Nat} (hc:P c) (h:up c=some d):gY up (rk c) c=gY up (rk d) d:=by
 obtain⟨h3,h4⟩:=hG c hc d h
 obtain⟨k,hk⟩:∃k,rk c=k+1:=⟨rk c-1,by omega⟩
 rw[hk,gY,h]
 exact Q7 hG _ _ d h3 (by omega) (Nat.le_refl _)
theorem aaZ (nb:Nat) (H:aa) (up:Nat->Option Nat) (rk:Nat->Nat) (P:Nat->Prop) (A:Nat->List AV)
  (hA:∀c,P c->∃x y z,A c=[pO (up c),x,y,z])
  (hG:∀c,P c->lk H c=some (.var 192 (A c))/\∀d,up c=some d->P d/\rk d<rk c) (c:Nat) (hc:P c):
  dz Tryz.prog nb 122 [.ob c 0] H (fun r H'=>H'=H/\r= .ob (gY up (rk c) c) 0):=by
 refine dz.walk [0,2,7] [] Tryz.func122 rfl Tryz.ntmps122 (by kernel_rfl) (by rfl) fun W own I0 ao lay=>?_
 refine gO ?_
 refine AP.loop rfl (α:=Nat) (fun d=>[(0,.ob d 0)]) (fun _=>H) (fun d=>P d/\gY up (rk d) d=gY up (rk c) c) (fun d=>rk d) c ⟨hc,rfl⟩ (sU) rfl fun d ⟨hd,he⟩=>?_
 obtain⟨x,y,z,ea⟩:=hA d hd
 obtain⟨hl,hu⟩:=hG d hd
 rw[ea]at hl
 cases jn:up d with
 |none=>
  rw[jn,pO]at hl
  refine gE @hl ?_
  have U:gY up (rk d) d=d:=by
   cases rk d with
   |zero=>rfl
   |succ k=>rw[gY,jn]
  exact AE.ret rfl ⟨rfl,trivial⟩ ⟨rfl,by rw[<-he,U];rfl⟩
 |some e=>
  rw[jn,pO]at hl
  refine gE @hl ?_
  obtain⟨h2,h3⟩:=hu e jn
  refine AE.round e ⟨h2,?_⟩ h3 (sU) rfl
  rw[<-he]
  exact(aa7 (fun c hc=>(hG c hc).2) hd jn).symm
end Go.Proofs.YtpfohmboflcneaaGreatDoor
end
section
namespace Go.Proofs.YtpfohmboflcneaaGreatDoor
open Go
set_option maxHeartbeats 1000000
structure Rt (L:List Nat) (up:Nat->Option Nat) (rt:Nat->Nat) (rk:Nat->Nat):Prop where
 out:∀c,c∉L->rt c=c
 nil:∀c∈L,up c=none->rt c=c
 go:∀c∈L,∀d,up c=some d->d∈L/\rk d<rk c/\rt c=rt d
theorem Rt.EF {L:List Nat} {up:Nat->Option Nat} {rt rk:Nat->Nat} (h:Rt L up rt rk):∀(n:Nat) (c:Nat),rk c<=n->c∈L->rt c∈L/\up (rt c)=none/\rt (rt c)=rt c
 |n,c,hn,hc=>by
  cases hu:up c with
  |none=>have:=h.nil c hc hu;rw[this];exact⟨hc,hu,this⟩
  |some d=>
   obtain⟨U,h2,h3⟩:=h.go c hc d hu
   cases n with
   |zero=>omega
   |succ n=>rw[h3];exact h.EF n d (by omega) U
theorem Rt.mem {L:List Nat} {up:Nat->Option Nat} {rt rk:Nat->Nat} (h:Rt L up rt rk) {c:Nat} (hc:c∈L):rt c∈L:=(h.EF _ c (Nat.le_refl _) hc).1
theorem Rt.none {L:List Nat} {up:Nat->Option Nat} {rt rk:Nat->Nat} (h:Rt L up rt rk) {c:Nat} (hc:c∈L):up (rt c)=none:=(h.EF _ c (Nat.le_refl _) hc).2.1
theorem Rt.idem {L:List Nat} {up:Nat->Option Nat} {rt rk:Nat->Nat} (h:Rt L up rt rk) (c:Nat):rt (rt c)=rt c:=by
 by_cases hc:c∈L
 ·exact(h.EF _ c (Nat.le_refl _) hc).2.2
 ·rw[h.out c hc,h.out c hc]
theorem Rt.root {L:List Nat} {up:Nat->Option Nat} {rt rk:Nat->Nat} (h:Rt L up rt rk) {c:Nat} (hc:c∈L):up c=Option.none↔rt c=c:=by
 refine⟨h.nil c hc,fun e=>?_⟩
 have:=h.none hc
 rw[e]at this
 exact this
theorem Rt.id (L:List Nat):Rt L (fun _=>Option.none) (fun c=>c) (fun _=>0):=⟨fun _ _=>rfl,fun _ _ _=>rfl,fun _ _ _ h=>(nomatch h)⟩
def nA (up:Nat->Option Nat) (y x:Nat) (c:Nat):Option Nat:=if c=y then some x else up c
theorem Rt.put {L:List Nat} {up:Nat->Option Nat} {rt rk:Nat->Nat} (h:Rt L up rt rk) {x y:Nat} (hx:x∈L) (hy:y∈L) (ex:rt x=x) (ey:rt y=y) (hn:x≠y):
  Rt L (nA up y x) (cK rt y x) (fun c=>if rt c=y then rk c+rk x+1 else rk c):=by
 refine⟨fun c hc=>?_,fun c hc hu=>?_,fun c hc d hu=>?_⟩
 ·have:=h.out c hc
  rw[cK,this,if_neg (fun e:c=y=>hc (e▸hy))]
 ·unfold nA at hu
  by_cases e:c=y
  ·rw[if_pos e]at hu;cases hu
  ·rw[if_neg e]at hu
   have:=h.nil c hc hu
   rw[cK,this,if_neg e]
 ·unfold nA at hu
  by_cases e:c=y
  ·rw[if_pos e]at hu
   cases hu
   subst e
   refine⟨hx,?_,?_⟩
   ·rw[ex,ey,if_pos rfl,if_neg hn];omega
   ·rw[cK,cK,ey,if_pos rfl,ex,if_neg hn]
  ·rw[if_neg e]at hu
   obtain⟨U,h2,h3⟩:=h.go c hc d hu
   refine⟨U,?_,vH h3⟩
   rw[h3]
   by_cases e2:rt d=y
   ·rw[if_pos e2,if_pos e2];omega
   ·rw[if_neg e2,if_neg e2];exact h2
def tP (L:List Nat) (up:Nat->Option Nat):Nat:=(L.filter fun c=>(up c).isNone).length
theorem filter_lt {α:Type} {p q:α->Bool}:∀{L:List α} {y:α},(∀c∈L,q c=true->p c=true)->y∈L->p y=true->q y=false->(L.filter q).length<(L.filter p).length
 |[],y,_,hy,_,_=>by cases hy
 |c::L,y,h,hy,U,h2=>by
  have hle:∀{L:List α},(∀c∈L,q c=true->p c=true)->(L.filter q).length<=(L.filter p).length:=fun{L} h=>by
   induction L with
   |nil=>simp
   |cons c L ih=>
    have i:=ih fun c hc=>h c (List.mem_cons_of_mem _ hc)
    have hc:=h c (List.mem_cons_self ..)
    rw[List.filter_cons,List.filter_cons]
    cases hq:q c with
    |true=>rw[hc hq];simpa using i
    |false=>
     simp only[Bool.false_eq_true,if_false]
     split
     ·simp;omega
     ·exact i
  rw[List.filter_cons,List.filter_cons]
  rcases List.mem_cons.1 hy with rfl|hy
  ·rw[U,h2]
   have:=hle fun c hc=>h c (List.mem_cons_of_mem _ hc)
   simp;omega
  ·have:=filter_lt (fun c hc=>h c (List.mem_cons_of_mem _ hc)) hy U h2
   have hc:=h c (List.mem_cons_self ..)
   cases hq:q c with
   |true=>rw[hc hq];simpa using this
   |false=>
    simp only[Bool.false_eq_true,if_false]
    split
    ·simp;omega
    ·exact this
theorem JD {L:List Nat} {up:Nat->Option Nat} {x y:Nat} (hy:y∈L) (hu:up y=none):tP L (nA up y x)<tP L up:=by
 refine filter_lt (fun c _ h=>?_) hy (by rw[hu];rfl) (by rw[nA,if_pos rfl];rfl)
 unfold nA at h
 by_cases e:c=y
 ·rw[if_pos e]at h;cases h
 ·rw[if_neg e]at h;exact h
theorem J7 {l:List Tm} {a:Tm} (h:a∈l):wT a<=aD l:=by
 induction l with
 |nil=>cases h
 |cons t l ih=>
  rw[aD]
  rcases List.mem_cons.1 h with rfl|h
  ·omega
  ·have:=ih h;omega
theorem Dn.TT {cl:Nat->Nd} {d:Nat->Tm} (hd:Dn cl d) {c k:Nat} (hn:(cl c).nm≠[]) (hk:k∈(cl c).ks) (g:Int->Tm):wT (ak g (d k))<wT (ak g (d c)):=by
 rw[hd.fn hn g,wT]
 have:=J7 (List.mem_map.2 ⟨k,hk,rfl⟩:ak g (d k)∈(cl c).ks.map fun x=>ak g (d x))
 omega
abbrev Kn:=List (Nat×Option Tm)
structure iJ (k k':Kn):Prop where
 f:∀c t,(c,some t)∈k->(c,some t)∈k'
 b:∀c,(c,(none:Option Tm))∈k'↔(c,none)∈k
theorem iJ.refl (k:Kn):iJ k k:=⟨fun _ _ h=>h,fun _=>Iff.rfl⟩
theorem iJ.trans {k k' O0:Kn} (h:iJ k k') (h':iJ k' O0):iJ k O0:=⟨fun c t hc=>h'.f c t (h.f c t hc),fun c=>(h'.b c).trans (h.b c)⟩
structure ic (cl:Nat->Nd) (rt:Nat->Nat) (L:List Nat) (k:Kn):Prop where
 nd:(k.map (·.1)).Nodup
 ro:∀p∈k,p.1∈L/\rt p.1=p.1
 tc:∀c t,(c,some t)∈k->Tc cl rt c t
 ks:∀c t,(c,some t)∈k->∀x∈(cl c).ks,∃u,(rt x,some u)∈k
def Fk (d:Nat->Tm) (g:Int->Tm) (k:Kn) (c:Nat):Prop:=∀r,(r,(none:Option Tm))∈k->wT (ak g (d c))<wT (ak g (d r))
theorem ic.nil (cl:Nat->Nd) (rt:Nat->Nat) (L:List Nat):ic cl rt L []:=⟨List.nodup_nil,fun _ h=>(nomatch h),fun _ _ h=>(nomatch h),fun _ _ h=>(nomatch h)⟩
def qv (L:List Nat) (k:Kn):Nat:=(L.filter fun c=>!(k.map (·.1)).contains c).length
theorem Y1 {L:List Nat} {k k':Kn} {r:Nat} (hr:r∈L) (hn:r∉k.map (·.1)) (hk:r∈k'.map (·.1)) (hs:∀c,c∈k.map (·.1)->c∈k'.map (·.1)):qv L k'<qv L k:=by
 refine filter_lt (y:=r) (fun c _ h=>?_) hr (by simpa using hn) (by simpa using hk)
 simp only[Bool.not_eq_true',List.contains_eq_mem,decide_eq_false_iff_not]at h⊢
 exact fun h'=>h (hs c h')
theorem iJ.keys {k k':Kn} (h:iJ k k') {c:Nat} (hc:c∈k.map (·.1)):c∈k'.map (·.1):=by
 obtain⟨⟨c',o⟩,hp,rfl⟩:=List.mem_map.1 hc
 cases o with
 |none=>exact List.mem_map.2 ⟨_,(h.b _).2 hp,rfl⟩
 |some t=>exact List.mem_map.2 ⟨_,h.f _ _ hp,rfl⟩
inductive lY (cl:Nat->Nd):Nat->Nat->Prop
 |refl (c:Nat):lY cl c c
 |arg {a k c:Nat}:k∈(cl a).ks->lY cl k c->lY cl a c
theorem lY.snoc {cl:Nat->Nd} {a b k:Nat} (h:lY cl a b) (hk:k∈(cl b).ks):lY cl a k:=by
 induction h with
 |refl c=>exact .arg hk (.refl k)
 |arg U _ ih=>exact .arg U (ih hk)
theorem lY.mono {cl Lk:Nat->Nd} {P:Nat->Prop} (hP:∀c,P c->Lk c=cl c/\∀k∈(cl c).ks,P k) {a b:Nat} (h:lY cl a b) (ha:P a):lY Lk a b:=by
 induction h with
 |refl c=>exact .refl c
 |arg U _ ih=>exact .arg (by rw[(hP _ ha).1];exact U) (ih ((hP _ ha).2 _ U))
theorem ic.vS {cl:Nat->Nd} {rt:Nat->Nat} {L:List Nat} {k:Kn} (hG:Good cl rt []) (hK:ic cl rt L k) {a c:Nat} (h:lY cl a c) (hv:∀x,(cl x).nm=[]->(cl x).ks=[]):(∃t,(rt a,some t)∈k)->∃t,(rt c,some t)∈k:=by
 induction h with
 |refl c=>exact id
 |@arg a x c U _ ih=>
  rintro⟨t,ht⟩
  refine ih ?_
  have NQ:(cl a).nm≠[]:=fun e=>by rw[hv a e]at U;cases U
  have qg:(cl (rt a)).nm≠[]:=fun e=>NQ (hG.v a e).1
  have hf:=(hG.f a (rt a) (by rw[hG.i]) NQ qg).2.nil
  obtain⟨i,hi⟩:=List.getElem?_of_mem U
  have h2:((cl a).ks.map rt)[i]?=some (rt x):=by rw[List.getElem?_map,hi];rfl
  rw[hf,List.getElem?_map]at h2
  cases h3:(cl (rt a)).ks[i]? with
  |none=>rw[h3]at h2;cases h2
  |some y=>
   rw[h3]at h2
   simp only[Option.map_some,Option.some.injEq]at h2
   rw[<-h2]
   exact hK.ks (rt a) t ht y (List.mem_of_getElem? h3)
theorem Tc.is {cl:Nat->Nd} {rt:Nat->Nat} {d:Nat->Tm} (hG:Good cl rt []) (hd:Dn cl d) {f:Int->Tm} (hf:∀c,(cl c).nm=[]->∀t,Tc cl rt c t->f (cl c).num=t) {c:Nat} {t:Tm} (h:Tc cl rt c t):∀c',rt c'=rt c->ak f (d c')=t:=by
 induction h with
 |@var c hv=>
  intro c' e
  have U:=hG.v c' (by rw[e];exact hv)
  have:=hf c' U.1 _ (.var (by rw[e];exact hv))
  rw[hd c',if_pos U.1,bt,ak,if_pos rfl,this,e]
 |@fn c ts hn hl hk ih=>
  intro c' e
  by_cases hc:(cl c').nm=[]
  ·rw[hd c',if_pos hc,bt,ak,if_pos rfl]
   have U:Tc cl rt c' (.mk (cl (rt c')).nm 0 ts):=by rw[<-e]at hn hl hk;exact .fn hn hl hk
   rw[hf c' hc _ U,e]
  ·obtain⟨U,h2⟩:=hG.f c' (rt c) (by rw[hG.i];exact e) hc hn
   have h2:=h2.nil
   rw[hd.fn hc f,Tm.mk.injEq]
   refine⟨U,rfl,List.ext_getElem? fun i=>?_⟩
   have hlen:(cl c').ks.length=ts.length:=by have:=congrArg List.length h2;simp at this;omega
   rw[List.getElem?_map]
   rcases Nat.lt_or_ge i ts.length with hi|hi
   ·have g1:ts[i]?=some ts[i]:=List.getElem?_eq_getElem hi
    have g2:(cl (rt c)).ks[i]?=some (cl (rt c)).ks[i]:=List.getElem?_eq_getElem (by omega)
    have g3:(cl c').ks[i]?=some (cl c').ks[i]:=List.getElem?_eq_getElem (by omega)
    rw[g1,g3]
    have g4:rt (cl c').ks[i]=rt (cl (rt c)).ks[i]:=by
     have:=congrArg (fun l=>l[i]?) h2
     simp only[List.getElem?_map,g2,g3,Option.map_some,Option.some.injEq]at this
     exact this
    simp only[Option.map_some]
    rw[ih i _ _ g2 g1 _ g4]
   ·rw[List.getElem?_eq_none hi,List.getElem?_eq_none (by omega)];rfl
theorem Tc.same {cl:Nat->Nd} {rt:Nat->Nat} {c c':Nat} {t:Tm} (k:Tc cl rt c t) (e:rt c'=rt c):Tc cl rt c' t:=by
 cases k with
 |var hv=>rw[<-e]at hv⊢;exact .var hv
 |fn hn hl hk=>rw[<-e]at hn hl hk⊢;exact .fn hn hl hk
theorem VD {cl:Nat->Nd} {rt:Nat->Nat} {d:Nat->Tm} {vs:List (Int×Nat)} {a b:Nat} {f:Int->Tm} (hG:Good cl rt []) (hd:Dn cl d) (he:rt a=rt b)
  (hs:∀g,dZ (d a) (d b) g->kZ d rt g) (X9:∃t,Tc cl rt a t)
  (dH:∀p∈vs,(cl p.2).nm=[]/\(cl p.2).num=p.1/\Tc cl rt p.2 (f p.1)) (Oo:∀c t,(cl c).nm=[]->Tc cl rt c t->f (cl c).num=t)
  (a_:∀v,v∉vs.map (·.1)->f v=bt v):ss (d a) (d b) f:=by
 obtain⟨t,ht⟩:=X9
 refine⟨?_,fun g hg v=>?_,fun v hv=>?_,fun v=>?_⟩
 ·show ak f (d a)=ak f (d b)
  rw[Tc.is hG hd (fun c hc t h=>Oo c t hc h) ht a rfl,Tc.is hG hd (fun c hc t h=>Oo c t hc h) ht b he.symm]
 ·by_cases hv:v∈vs.map (·.1)
  ·obtain⟨p,hp,rfl⟩:=List.mem_map.1 hv
   obtain⟨U,h2,h3⟩:=dH p hp
   rw[h3.oz hd (hs g hg),hd p.2,if_pos U,h2,bt,ak,if_pos rfl]
  ·rw[a_ v hv,bt,ak,if_pos rfl]
 ·by_cases hm:v∈vs.map (·.1)
  ·obtain⟨p,hp,rfl⟩:=List.mem_map.1 hm
   obtain⟨U,h2,h3⟩:=dH p hp
   generalize f p.1=u at hv h3
   cases h3 with
   |var hx=>
    have:=(hG.v p.2 hx).2
    rw[h2]at this
    exact this
   |fn hn _ _=>exact absurd hv hn
  ·rw[a_ v hm];exact Int.le_refl _
 ·by_cases hm:v∈vs.map (·.1)
  ·obtain⟨p,hp,rfl⟩:=List.mem_map.1 hm
   exact(dH p hp).2.2.lf
  ·rw[a_ v hm];exact BR v
end Go.Proofs.YtpfohmboflcneaaGreatDoor
end
section
namespace Go.Proofs.YtpfohmboflcneaaGreatDoor
open Go
set_option maxHeartbeats 1000000
structure gL (cl:Nat->Nd) (d:Nat->Tm) (rt rt':Nat->Nat) (a b:Nat) (ok:Bool):Prop where
 ri:ok=true->∀D,Good cl rt ((a,b)::D)->Good cl rt' D
 oz:∀g,kZ d rt g->ak g (d a)=ak g (d b)->ok=true/\kZ d rt' g
 mono:∀x y,rt x=rt y->rt' x=rt' y
 eq:ok=true->rt' a=rt' b
structure qQ (cl:Nat->Nd) (d:Nat->Tm) (rt rt':Nat->Nat) (zs rest:List (Nat×Nat)):Prop where
 ri:∀D,Good cl rt (zs++D)->Good cl rt' (rest++D)
 oz:∀g,kZ d rt g->(∀p∈zs,ak g (d p.1)=ak g (d p.2))->kZ d rt' g
 mono:∀x y,rt x=rt y->rt' x=rt' y
variable {cl:Nat->Nd} {d:Nat->Tm} {rt rt' EE:Nat->Nat} {a b:Nat}
theorem gL.same (e:rt a=rt b):gL cl d rt rt a b true:=⟨fun _ D h=>h.same e,fun g h _=>⟨rfl,h⟩,fun _ _ h=>h,fun _=>e⟩
theorem gL.aca (hn:rt a≠rt b) (hb:(cl (rt b)).nm=[]) (ho:(cl (rt a)).nm=[]->(cl (rt a)).num<=(cl (rt b)).num):gL cl d rt (cK rt (rt b) (rt a)) a b true:=
 ⟨fun _ D h=>h.var hn hb ho,fun g h e=>⟨rfl,h.cK e⟩,fun _ _ h=>vH h,fun _=>by rw[cK,cK,if_neg hn,if_pos rfl]⟩
theorem gL.ab_ (hn:rt a≠rt b) (ha:(cl (rt a)).nm=[]) (ho:(cl (rt b)).nm=[]->(cl (rt b)).num<=(cl (rt a)).num):gL cl d rt (cK rt (rt a) (rt b)) a b true:=
 ⟨fun _ D h=>h.swap.var (fun e=>hn e.symm) ha ho,fun g h e=>⟨rfl,h.cK e.symm⟩,fun _ _ h=>vH h,fun _=>by rw[cK,cK,if_pos rfl,if_neg (fun e=>hn e.symm)]⟩
theorem gL.no (hd:Dn cl d) (ha:(cl (rt a)).nm≠[]) (hb:(cl (rt b)).nm≠[]) (h:¬((cl (rt a)).nm=(cl (rt b)).nm/\(cl (rt a)).ks.length=(cl (rt b)).ks.length)):gL cl d rt rt a b false:=
 ⟨fun h=>(nomatch h),fun g hs e=>absurd ⟨(hs.args hd e ha hb).1,(hs.args hd e ha hb).2.1⟩ h,fun _ _ h=>h,fun h=>(nomatch h)⟩
theorem qQ.refl (zs:List (Nat×Nat)):qQ cl d rt rt zs zs:=⟨fun _ h=>h,fun _ h _=>h,fun _ _ h=>h⟩
theorem qQ.step {zs rest:List (Nat×Nat)} {p:Nat×Nat} (h:qQ cl d rt rt' zs (p::rest)) (hp:p∈zs) (k:gL cl d rt' EE p.1 p.2 true):qQ cl d rt EE zs rest:=
 ⟨fun D g=>k.ri rfl _ (h.ri D g),fun g hs hz=>(k.oz g (h.oz g hs hz) (hz p hp)).2,fun x y e=>k.mono x y (h.mono x y e)⟩
theorem gL.fn (hd:Dn cl d) (hn:rt a≠rt b) (ha:(cl (rt a)).nm≠[]) (hb:(cl (rt b)).nm≠[]) (hm:(cl (rt a)).nm=(cl (rt b)).nm) (hl:(cl (rt a)).ks.length=(cl (rt b)).ks.length)
  (h:qQ cl d (cK rt (rt b) (rt a)) rt' ((cl (rt a)).ks.zip (cl (rt b)).ks) []):gL cl d rt rt' a b true:=
 ⟨fun _ D g=>h.ri D (g.fn hn ha hb hm hl),fun g hs e=>⟨rfl,h.oz g (hs.cK e) (hs.args hd e ha hb).2.2⟩,fun x y e=>h.mono x y (vH e),fun _=>h.mono _ _ (by rw[cK,cK,if_neg hn,if_pos rfl])⟩
theorem gL.stop (hd:Dn cl d) (ha:(cl (rt a)).nm≠[]) (hb:(cl (rt b)).nm≠[]) {rest:List (Nat×Nat)} {p:Nat×Nat}
  (h:qQ cl d (cK rt (rt b) (rt a)) rt' ((cl (rt a)).ks.zip (cl (rt b)).ks) (p::rest)) (hp:p∈(cl (rt a)).ks.zip (cl (rt b)).ks) (k:gL cl d rt' EE p.1 p.2 false):gL cl d rt EE a b false:=
 ⟨fun h=>(nomatch h),fun g hs e=>by
  have U:=hs.args hd e ha hb
  exact absurd (k.oz g (h.oz g (hs.cK e) U.2.2) (U.2.2 p hp)).1 (by simp),fun x y e=>k.mono x y (h.mono x y (vH e)),fun h=>(nomatch h)⟩
end Go.Proofs.YtpfohmboflcneaaGreatDoor
end
section
namespace Go.Proofs.YtpfohmboflcneaaGreatDoor
open Go Go.AL Go.RowKit
set_option maxRecDepth 10000
set_option maxHeartbeats 4000000
structure Gs where
 L:List Nat
 cl:Nat->Nd
 dp:Nat->Nat
 d:Nat->Tm
 vs:List (Int×Nat)
def jw (ks:List Nat):Ob:=mC 187 (ks.map fun k=> .ob k 0)
def cA (g:Gs) (up:Nat->Option Nat) (c:Nat):List AV:=[pO (up c),Sv (g.cl c).nm,Iv (g.cl c).num,.os (g.dp c) 1 0 (g.cl c).ks.length]
structure GH (g:Gs) (up:Nat->Option Nat) (H:aa):Prop where
 cell:∀c∈g.L,lk H c=some (.var 192 (cA g up c))
 row:∀c∈g.L,lk H (g.dp c)=some (jw (g.cl c).ks)
structure Gr (g:Gs):Prop where
 kids:∀c∈g.L,∀k∈(g.cl c).ks,k∈g.L
 out:∀c,c∉g.L->g.cl c=⟨[],-1,[]⟩
 dn:Dn g.cl g.d
 vk:∀c,(g.cl c).nm=[]->(g.cl c).ks=[]
 nd:fp g.vs
 vs:∀p∈g.vs,p.2∈g.L/\(g.cl p.2).nm=[]/\(g.cl p.2).num=p.1/\0<=p.1/\p.1<1000
 sv:∀c∈g.L,(g.cl c).nm=[]->((g.cl c).num,c)∈g.vs
 len:∀c,(g.cl c).ks.length<=1000000000/\(g.cl c).nm.length<=1000000000
structure ia (nb:Nat) (g g':Gs):Prop where
 cm:∀c∈g.L,c∈g'.L/\g'.cl c=g.cl c/\g'.dp c=g.dp c/\g'.d c=g.d c
 new:∀c∈g'.L,c∉g.L->nb<=c/\nb<=g'.dp c
 vs:∀p∈g.vs,p∈g'.vs
theorem ia.refl (nb:Nat) (g:Gs):ia nb g g:=⟨fun _ h=>⟨h,rfl,rfl,rfl⟩,fun _ h h'=>absurd h h',fun _ h=>h⟩
theorem ia.trans {nb tD:Nat} {g g' ME:Gs} (h:ia nb g g') (h':ia tD g' ME) (hn:nb<=tD):ia nb g ME:=by
 refine⟨fun c hc=>?_,fun c hc ga=>?_,fun p hp=>h'.vs p (h.vs p hp)⟩
 ·obtain⟨a1,a2,a3,a4⟩:=h.cm c hc
  obtain⟨b1,b2,b3,b4⟩:=h'.cm c a1
  exact⟨b1,b2.trans a2,b3.trans a3,b4.trans a4⟩
 ·by_cases hm:c∈g'.L
  ·have U:=h.new c hm ga
   have h2:=(h'.cm c hm).2.2.1
   rw[h2];exact U
  ·have:=h'.new c hc hm;omega
theorem ia.YO {nb:Nat} {g g':Gs} (h:ia nb g g') {ks:List Nat} (hk:∀k∈ks,k∈g.L):(∀k∈ks,k∈g'.L)/\ks.map g'.d=ks.map g.d:=⟨fun k nV=>(h.cm k (hk k nV)).1,List.map_congr_left fun k nV=>(h.cm k (hk k nV)).2.2.2⟩
def cW {α:Type} (f:Nat->α) (a:Nat) (b:α) (x:Nat):α:=if x=a then b else f x
theorem jb {α:Type} (f:Nat->α) (a:Nat) (b:α):cW f a b a=b:=if_pos rfl
theorem kU {α:Type} (f:Nat->α) {a:Nat} (b:α) {x:Nat} (h:x≠a):cW f a b x=f x:=if_neg h
theorem yH {α:Type} (f:Nat->α) {a:Nat} (b:α) {L:List Nat} (hc:a∉L) {x:Nat} (h:x∈L):cW f a b x=f x:=if_neg fun e:x=a=>hc (e▸h)
def Gs.put (g:Gs) (c r:Nat) (n:Nd) (t:Tm) (vs:List (Int×Nat)):Gs:=⟨c::g.L,cW g.cl c n,cW g.dp c r,cW g.d c t,vs⟩
theorem Gr.QK {g:Gs} {c r:Nat} {n:Nd} {t:Tm} {vs:List (Int×Nat)} (hc:c∉g.L) {x:Nat} (hx:x∈g.L):(g.put c r n t vs).cl x=g.cl x/\(g.put c r n t vs).dp x=g.dp x/\(g.put c r n t vs).d x=g.d x:=by
 have:x≠c:=fun e=>hc (e▸hx)
 exact⟨kU _ _ this,kU _ _ this,kU _ _ this⟩
theorem ia.put {nb:Nat} {g:Gs} {c r:Nat} {n:Nd} {t:Tm} {vs:List (Int×Nat)} (hc:c∉g.L) (U:nb<=c) (h2:nb<=r) (hv:∀p∈g.vs,p∈vs):ia nb g (g.put c r n t vs):=by
 refine⟨fun x hx=>⟨List.mem_cons_of_mem _ hx,Gr.QK hc hx⟩,fun x hx hn=>?_,hv⟩
 rcases List.mem_cons.1 hx with rfl|hx
 ·exact⟨U,by show nb<=cW _ _ _ _;rw[jb];exact h2⟩
 ·exact absurd hx hn
theorem Gr.LR {g:Gs} (h:Gr g) {c r:Nat} {n:Nd} {t:Tm} {vs:List (Int×Nat)} (hc:c∉g.L) (hk:∀k∈n.ks,k∈g.L) (ht:t=if n.nm=[]then bt n.num else .mk n.nm 0 (n.ks.map g.d)):Dn (g.put c r n t vs).cl (g.put c r n t vs).d:=by
 intro x
 show cW g.d c t x=if(cW g.cl c n x).nm=[]then bt (cW g.cl c n x).num else .mk (cW g.cl c n x).nm 0 ((cW g.cl c n x).ks.map (cW g.d c t))
 have hm:∀ks:List Nat,(∀k∈ks,k∈g.L)->ks.map (cW g.d c t)=ks.map g.d:=fun ks fF=>List.map_congr_left fun k nV=>kU _ _ fun e=>hc (e▸fF k nV)
 by_cases hx:x=c
 ·subst hx
  rw[jb,jb,hm _ hk]
  exact ht
 ·rw[kU _ _ hx,kU _ _ hx,h.dn x]
  by_cases pg:x∈g.L
  ·rw[hm _ (h.kids x pg)]
  ·rw[h.out x pg];rfl
theorem Gr.aaM {g:Gs} (h:Gr g) {c r:Nat} {i:Int} (hc:c∉g.L) (hi:0<=i/\i<1000) (hn:i∉g.vs.map (·.1)):Gr (g.put c r ⟨[],i,[]⟩ (bt i) (g.vs++[(i,c)])):=by
 refine⟨fun x hx k hk=>?_,fun x hx=>?_,h.LR hc (fun k hk=>by cases hk) (if_pos rfl).symm,fun x hx=>?_,?_,fun p hp=>?_,fun x hx eT=>?_,fun x=>?_⟩
 ·have hx:x∈c::g.L:=hx
  have hk:k∈(cW g.cl c _ x).ks:=hk
  rcases List.mem_cons.1 hx with rfl|hx
  ·rw[jb]at hk;cases hk
  ·rw[yH _ _ hc hx]at hk
   exact List.mem_cons_of_mem _ (h.kids x hx k hk)
 ·have hx:x∉c::g.L:=hx
  rw[List.mem_cons,not_or]at hx
  show cW _ _ _ _=_
  rw[kU _ _ hx.1];exact h.out x hx.2
 ·show(cW (α:=Nd) _ _ _ _).ks=_
  have hx:(cW g.cl c _ x).nm=[]:=hx
  by_cases e:x=c
  ·rw[e,jb]
  ·rw[kU _ _ e]at hx⊢;exact h.vk x hx
 ·show((g.vs++[(i,c)]).map (·.1)).Nodup
  rw[List.map_append,List.nodup_append]
  refine⟨h.nd,by simp,fun a ha b hb=>?_⟩
  simp only[List.map_cons,List.map_nil,List.mem_singleton]at hb
  subst hb
  exact fun e=>hn (e▸ha)
 ·have hp:p∈g.vs++[(i,c)]:=hp
  show p.2∈c::g.L/\(cW (α:=Nd) _ _ _ _).nm=[]/\(cW (α:=Nd) _ _ _ _).num=_/\_
  rcases List.mem_append.1 hp with hp|hp
  ·obtain⟨U,h2⟩:=h.vs p hp
   rw[yH _ _ hc U]
   exact⟨List.mem_cons_of_mem _ U,h2⟩
  ·rw[List.mem_singleton.1 hp,jb]
   exact⟨List.mem_cons_self ..,rfl,rfl,hi⟩
 ·have hx:x∈c::g.L:=hx
  have eT:(cW g.cl c _ x).nm=[]:=eT
  show((cW g.cl c _ x).num,x)∈g.vs++[(i,c)]
  rcases List.mem_cons.1 hx with rfl|hx
  ·rw[jb];simp
  ·rw[yH _ _ hc hx]at eT⊢
   exact List.mem_append_left _ (h.sv x hx eT)
 ·show(cW (α:=Nd) _ _ _ _).ks.length<=_/\(cW (α:=Nd) _ _ _ _).nm.length<=_
  by_cases e:x=c
  ·rw[e,jb];exact⟨Nat.zero_le _,Nat.zero_le _⟩
  ·rw[kU _ _ e];exact h.len x
theorem Gr.aaH {g:Gs} (h:Gr g) {c r:Nat} {nm:List UInt8} {ks:List Nat} (hc:c∉g.L) (eT:nm≠[]) (hk:∀k∈ks,k∈g.L) (hl:ks.length<=1000000000) (sZ:nm.length<=1000000000):Gr (g.put c r ⟨nm,0,ks⟩ (.mk nm 0 (ks.map g.d)) g.vs):=by
 refine⟨fun x hx k nV=>?_,fun x hx=>?_,h.LR hc hk (if_neg eT).symm,fun x hx=>?_,h.nd,fun p hp=>?_,fun x hx xe=>?_,fun x=>?_⟩
 ·have hx:x∈c::g.L:=hx
  have nV:k∈(cW g.cl c _ x).ks:=nV
  rcases List.mem_cons.1 hx with rfl|hx
  ·rw[jb]at nV;exact List.mem_cons_of_mem _ (hk k nV)
  ·rw[yH _ _ hc hx]at nV
   exact List.mem_cons_of_mem _ (h.kids x hx k nV)
 ·have hx:x∉c::g.L:=hx
  rw[List.mem_cons,not_or]at hx
  show cW _ _ _ _=_
  rw[kU _ _ hx.1];exact h.out x hx.2
 ·show(cW (α:=Nd) _ _ _ _).ks=_
  have hx:(cW g.cl c _ x).nm=[]:=hx
  by_cases e:x=c
  ·rw[e,jb]at hx;exact absurd hx eT
  ·rw[kU _ _ e]at hx⊢;exact h.vk x hx
 ·have hp:p∈g.vs:=hp
  show p.2∈c::g.L/\(cW (α:=Nd) _ _ _ _).nm=[]/\(cW (α:=Nd) _ _ _ _).num=_/\_
  obtain⟨U,h2⟩:=h.vs p hp
  rw[yH _ _ hc U]
  exact⟨List.mem_cons_of_mem _ U,h2⟩
 ·have hx:x∈c::g.L:=hx
  have xe:(cW g.cl c _ x).nm=[]:=xe
  show((cW g.cl c _ x).num,x)∈g.vs
  rcases List.mem_cons.1 hx with rfl|hx
  ·rw[jb]at xe;exact absurd xe eT
  ·rw[yH _ _ hc hx]at xe⊢
   exact h.sv x hx xe
 ·show(cW (α:=Nd) _ _ _ _).ks.length<=_/\(cW (α:=Nd) _ _ _ _).nm.length<=_
  by_cases e:x=c
  ·rw[e,jb];exact⟨hl,sZ⟩
  ·rw[kU _ _ e];exact h.len x
theorem GH.put {g:Gs} {H H':aa} {up:Nat->Option Nat} (h:GH g up H) {c r:Nat} {n:Nd} {t:Tm} {vs:List (Int×Nat)} (hc:c∉g.L) (hu:up c=none) (c_:∀b∈g.L,lk H' b=lk H b/\lk H' (g.dp b)=lk H (g.dp b))
  (U:lk H' c=some (.var 192 [pE,Sv n.nm,Iv n.num,.os r 1 0 n.ks.length])) (h2:lk H' r=some (jw n.ks)):GH (g.put c r n t vs) up H':=by
 refine⟨fun x hx=>?_,fun x hx=>?_⟩
 ·show _=some (Ob.var _ [pO (up x),Sv (cW (α:=Nd) _ _ _ _).nm,Iv (cW (α:=Nd) _ _ _ _).num,.os (cW _ _ _ _) 1 0 (cW (α:=Nd) _ _ _ _).ks.length])
  have hx:x∈c::g.L:=hx
  rcases List.mem_cons.1 hx with rfl|hx
  ·rw[jb,jb,hu];exact U
  ·have e:x≠c:=fun e=>hc (e▸hx)
   rw[kU _ _ e,kU _ _ e,(c_ x hx).1];exact h.cell x hx
 ·show lk H' (cW _ _ _ _)=some (jw (cW (α:=Nd) _ _ _ _).ks)
  have hx:x∈c::g.L:=hx
  rcases List.mem_cons.1 hx with rfl|hx
  ·rw[jb,jb];exact h2
  ·have e:x≠c:=fun e=>hc (e▸hx)
   rw[kU _ _ e,kU _ _ e,(c_ x hx).2];exact h.row x hx
def vC (vs:List (Int×Nat)):List AV:=vs.map fun p=> .ob p.2 0
theorem Sr {m:List (Int×Nat)} {j:Nat} {p:Int×Nat} (h:m[j]?=some p):(vC m)[j]?=some (.ob p.2 0):=by rw[vC,List.getElem?_map,h];rfl
theorem BF:Tryz.prog.underlying 186=some (.map 3 187):=by kernel_rfl
theorem GH.lt {g:Gs} {up:Nat->Option Nat} {H:aa} (h:GH g up H) {nb:Nat} (hn:bD H<=nb):∀c∈g.L,c<nb/\g.dp c<nb:=fun c hc=>⟨Nat.lt_of_lt_of_le (bZ H c _ (h.cell c hc)) hn,Nat.lt_of_lt_of_le (bZ H _ _ (h.row c hc)) hn⟩
theorem GH.ne {g:Gs} {up:Nat->Option Nat} {H:aa} (h:GH g up H) {m:Nat} {ks:List Value} {cs:List AV} (hm:lk H m=some (.var (.map ks) cs)):∀c∈g.L,c≠m/\g.dp c≠m:=by
 refine fun c hc=>⟨fun e=>?_,fun e=>?_⟩
 ·have:=h.cell c hc;rw[e,hm]at this;cases this
 ·have:=h.row c hc;rw[e,hm]at this
  unfold jw mC at this
  split at this<;>cases this
theorem EB {b:Nat} {ks:List Nat} (h:b∉ks):(jw ks).men b=false:=by
 have:∀ks:List Nat,b∉ks->AV.mens b (ks.map fun k=> .ob k 0)=false:=fun ks=>by
  induction ks with
  |nil=>intro _;rfl
  |cons k ks ih=>
   intro h
   rw[List.mem_cons,not_or]at h
   simp only[List.map_cons,AV.mens,AV.men,Bool.or_eq_false_iff]
   exact⟨Bool.eq_false_iff.2 fun e=>h.1 (Nat.eq_of_beq_eq_true e).symm,ih h.2⟩
 unfold jw
 cases ks with
 |nil=>rfl
 |cons k ks=>exact this _ h
theorem E2 {b:Nat}:∀{vs:List (Int×Nat)},(∀p∈vs,p.2≠b)->AV.mens b (vC vs)=false
 |[],_=>rfl
 |p::vs,h=>by
  simp only[vC,List.map_cons,AV.mens,AV.men,Bool.or_eq_false_iff]
  exact⟨Bool.eq_false_iff.2 fun e=>h p (by simp) (Nat.eq_of_beq_eq_true e),E2 fun q hq=>h q (by simp[hq])⟩
end Go.Proofs.YtpfohmboflcneaaGreatDoor
end
section
namespace Go.Proofs.YtpfohmboflcneaaGreatDoor
open Go
set_option maxHeartbeats 1000000
variable {cl:Nat->Nd} {rt:Nat->Nat} {L:List Nat}
def nn (k:Kn):Nat:=(k.filter fun p=>p.2.isSome).length
def pU (k:Kn):Prop:=∀c t,(c,some t)∈k->cL t<=nn k
theorem ZT {k:Kn} (h:ic cl rt L k):nn k<=L.length:=by
 have U:(k.map (·.1)).length<=L.length:=List.Nodup.length_le_of_subset h.nd fun c hc=>by
  obtain⟨p,hp,rfl⟩:=List.mem_map.1 hc
  exact(h.ro p hp).1
 have h2:=List.length_filter_le (fun p:Nat×Option Tm=>p.2.isSome) k
 rw[List.length_map]at U
 unfold nn
 omega
theorem ic.opened {k:Kn} (h:ic cl rt L k) {r:Nat} (hr:r∈L) (vo:rt r=r) (hn:r∉k.map (·.1)):ic cl rt L (k++[(r,none)]):=by
 refine⟨?_,fun p hp=>?_,fun c t hc=>?_,fun c t hc x hx=>?_⟩
 ·rw[List.map_append,List.nodup_append]
  refine⟨h.nd,by simp,fun a ha b hb=>?_⟩
  simp only[List.map_cons,List.map_nil,List.mem_singleton]at hb
  subst hb
  exact fun e=>hn (e▸ha)
 ·rcases List.mem_append.1 hp with hp|hp
  ·exact h.ro p hp
  ·rw[List.mem_singleton.1 hp];exact⟨hr,vo⟩
 ·rcases List.mem_append.1 hc with hc|hc
  ·exact h.tc c t hc
  ·cases List.mem_singleton.1 hc
 ·rcases List.mem_append.1 hc with hc|hc
  ·obtain⟨u,hu⟩:=h.ks c t hc x hx
   exact⟨u,List.mem_append_left _ hu⟩
  ·cases List.mem_singleton.1 hc
theorem ZU (k:Kn) (r:Nat):nn (k++[(r,none)])=nn k:=by
 unfold nn
 rw[List.filter_append]
 simp
theorem pU.opened {k:Kn} (h:pU k) (r:Nat):pU (k++[(r,none)]):=fun c t hc=>by
 rw[ZU]
 rcases List.mem_append.1 hc with hc|hc
 ·exact h c t hc
 ·cases List.mem_singleton.1 hc
theorem EM {k:Kn} {j:Nat} {r:Nat} {o o':Option Tm} (bX:(k.map (·.1)).Nodup) (hj:k[j]?=some (r,o)) (p:Nat×Option Tm):p∈k.set j (r,o')↔p=(r,o')\/p∈k/\p.1≠r:=by
 have ag:=(List.getElem?_eq_some_iff.1 hj).1
 constructor
 ·intro hp
  obtain⟨i,hi,e⟩:=List.getElem_of_mem hp
  rw[List.length_set]at hi
  rw[List.getElem_set]at e
  by_cases fT:j=i
  ·rw[if_pos fT]at e;exact .inl e.symm
  ·rw[if_neg fT]at e
   refine .inr ⟨e▸List.getElem_mem _,fun e2=>fT ?_⟩
   have U:(k.map (·.1))[j]?=some r:=by rw[List.getElem?_map,hj];rfl
   have h2:(k.map (·.1))[i]?=some r:=by rw[List.getElem?_map,List.getElem?_eq_getElem hi,e,<-e2];rfl
   exact(List.getElem?_inj (by rw[List.length_map];exact ag) bX).1 (U.trans h2.symm)
 ·rintro(rfl|⟨hp,aK⟩)
  ·exact List.mem_set ag _
  ·obtain⟨i,hi,e⟩:=List.getElem_of_mem hp
   have fT:j≠i:=fun h=>by
    subst h
    rw[List.getElem?_eq_getElem hi,e]at hj
    cases hj
    exact aK rfl
   have:(k.set j (r,o'))[i]?=some p:=by rw[List.getElem?_set_ne fT,List.getElem?_eq_getElem hi,e]
   exact List.mem_of_getElem? this
theorem Rn {k:Kn} {j:Nat} {r:Nat} {o o':Option Tm} (hj:k[j]?=some (r,o)):(k.set j (r,o')).map (·.1)=k.map (·.1):=by
 rw[List.map_set]
 refine List.ext_getElem? fun i=>?_
 rw[List.getElem?_set]
 split
 ·rename_i fT
  subst fT
  split
  ·rw[List.getElem?_map,hj];rfl
  ·rename_i hl
   rw[List.getElem?_eq_none (by omega)]
 ·rfl
theorem PR {t:Tm} {r:Nat}:∀{k:Kn} {j:Nat},k[j]?=some (r,none)->nn (k.set j (r,some t))=nn k+1
 |[],_,h=>by simp at h
 |p::k,0,h=>by
  simp at h;subst h
  unfold nn
  simp
 |p::k,j+1,h=>by
  have ih:=PR (t:=t) (k:=k) (j:=j) (by simpa using h)
  unfold nn at ih⊢
  rw[List.set_cons_succ,List.filter_cons,List.filter_cons]
  split
  ·rw[List.length_cons,List.length_cons,ih]
  ·exact ih
theorem ic.closed {k:Kn} (h:ic cl rt L k) {r j:Nat} {t:Tm} (hj:k[j]?=some (r,none)) (ht:Tc cl rt r t) (hk:∀x∈(cl r).ks,∃u,(rt x,some u)∈k):ic cl rt L (k.set j (r,some t)):=by
 have rE:=fun p=>EM (o':=some t) h.nd hj p
 have hr:=h.ro _ (List.mem_of_getElem? hj)
 have jn:∀c u,(c,some u)∈k->(c,some u)∈k.set j (r,some t):=fun c u hc=>(rE _).2 (.inr ⟨hc,fun e=>by
  have U:=List.mem_of_getElem? hj
  obtain⟨a,ha,ea⟩:=List.getElem_of_mem hc
  obtain⟨b,hb,eb⟩:=List.getElem_of_mem U
  have g1:(k.map (·.1))[a]?=some c:=by rw[List.getElem?_map,List.getElem?_eq_getElem ha,ea];rfl
  have g2:(k.map (·.1))[b]?=some r:=by rw[List.getElem?_map,List.getElem?_eq_getElem hb,eb];rfl
  have e2:c=r:=e
  rw[e2]at g1
  have:=(List.getElem?_inj (by rw[List.length_map];exact ha) h.nd).1 (g1.trans g2.symm)
  subst this
  rw[ea]at eb
  cases eb⟩)
 refine⟨by rw[Rn hj];exact h.nd,fun p hp=>?_,fun c u hc=>?_,fun c u hc x hx=>?_⟩
 ·rcases(rE p).1 hp with rfl|⟨hp,_⟩
  ·exact hr
  ·exact h.ro p hp
 ·rcases(rE _).1 hc with e|⟨hc,_⟩
  ·cases e;exact ht
  ·exact h.tc c u hc
 ·rcases(rE _).1 hc with e|⟨hc,_⟩
  ·cases e
   obtain⟨u,hu⟩:=hk x hx
   exact⟨u,jn _ _ hu⟩
  ·obtain⟨u,hu⟩:=h.ks c u hc x hx
   exact⟨u,jn _ _ hu⟩
theorem pU.closed {k:Kn} (h:pU k) (hK:ic cl rt L k) {r j:Nat} {t:Tm} (hj:k[j]?=some (r,none)) (ht:cL t<=nn k+1):pU (k.set j (r,some t)):=fun c u hc=>by
 rw[PR hj]
 rcases(EM hK.nd hj _).1 hc with e|⟨hc,_⟩
 ·cases e;exact ht
 ·have:=h c u hc;omega
theorem iJ.opened (k:Kn) (r:Nat):∀c t,(c,some t)∈k->(c,some t)∈k++[(r,(none:Option Tm))]:=fun _ _ h=>List.mem_append_left _ h
theorem iJ.closed {k k':Kn} {r j:Nat} {t:Tm} (h:iJ (k++[(r,none)]) k') (hK:ic cl rt L k') (hn:r∉k.map (·.1)) (hj:k'[j]?=some (r,none)):iJ k (k'.set j (r,some t)):=by
 have rE:=fun p=>EM (o':=some t) hK.nd hj p
 have aK:∀c o,(c,o)∈k->c≠r:=fun c o hc e=>hn (List.mem_map.2 ⟨_,hc,e⟩)
 refine⟨fun c u hc=>(rE _).2 (.inr ⟨h.f c u (List.mem_append_left _ hc),aK c _ hc⟩),fun c=>?_⟩
 rw[rE]
 constructor
 ·rintro(e|⟨U,h2⟩)
  ·cases e
  ·rcases List.mem_append.1 ((h.b c).1 U)with h3|h3
   ·exact h3
   ·cases List.mem_singleton.1 h3;exact absurd rfl h2
 ·intro hc
  exact .inr ⟨(h.b c).2 (List.mem_append_left _ hc),aK c _ hc⟩
theorem J8:∀(l:List Tm) (t:Tm),aD (l++[t])=aD l+wT t
 |[],t=>by rw[List.nil_append,aD,aD,aD];omega
 |u::l,t=>by rw[List.cons_append,aD,aD,J8 l t];omega
theorem LX:∀(l:List Tm) (t:Tm),dK (l++[t])=max (dK l) (cL t)
 |[],t=>by rw[List.nil_append,dK,dK,dK];omega
 |u::l,t=>by rw[List.cons_append,dK,dK,LX l t];omega
theorem LW:∀(l:List Tm) (n:Nat),(∀t∈l,cL t<=n)->dK l<=n
 |[],n,_=>by rw[dK];omega
 |u::l,n,h=>by
  rw[dK]
  have U:=h u (by simp)
  have h2:=LW l n fun t ht=>h t (by simp[ht])
  omega
end Go.Proofs.YtpfohmboflcneaaGreatDoor
end
section
namespace Go.Proofs.YtpfohmboflcneaaGreatDoor
open Go Go.AL Go.RowKit
set_option maxRecDepth 10000
set_option maxHeartbeats 4000000
abbrev sj:Nat->Option Nat:=fun _=>none
structure Td (nb m:Nat) (g:Gs) (H:aa) (t:Tm) (r:AV) (H':aa):Prop where
 ex:∃g' c,r= .ob c 0/\GH g' sj H'/\Gr g'/\ia nb g g'/\lk H' m=some (.var (.map (kI g'.vs)) (vC g'.vs))/\c∈g'.L/\g'.d c=t/\(∀p∈g'.vs,p∈g.vs\/lY g'.cl c p.2)/\g'.L.length<=g.L.length+wT t
 bU:∀b o,b<nb->b≠m->lk H b=some o->kY nb o->lk H' b=some o
 low:cE nb H H'
structure Km (nb m:Nat) (g:Gs) (H:aa) (t:Tm) (g1:Gs) (ks:List Nat) (H1:aa):Prop where
 gh:GH g1 sj H1
 gr:Gr g1
 le:ia (nb+2) g g1
 mp:lk H1 m=some (.var (.map (kI g1.vs)) (vC g1.vs))
 c0:lk H1 nb=some (.var 192 [pE,Sv t.nm,Iv 0,.os (nb+1) 1 0 ks.length])
 r0:lk H1 (nb+1)=some (jw ks)
 kL:∀k∈ks,k∈g1.L
 kl:ks.length<=t.xs.length
 kd:ks.map g1.d=t.xs.take ks.length
 vS:∀p∈g1.vs,p∈g.vs\/∃k∈ks,lY g1.cl k p.2
 bU:∀b o,b<nb->b≠m->lk H b=some o->kY nb o->lk H1 b=some o
 low:cE nb H H1
 ll:g1.L.length<=g.L.length+aD (t.xs.take ks.length)
theorem cJ {H:aa} {x b:Nat} {o:Ob} (h:b≠x):lk ((x,o)::H) b=lk H b:=by
 have:Nat.beq x b=false:=Bool.eq_false_iff.2 fun e=>h (Nat.eq_of_beq_eq_true e).symm
 simp only[lk,this,cond_false]
theorem gX {H:aa} {x:Nat} {o:Ob}:lk ((x,o)::H) x=some o:=by simp only[lk,Nat.beq_refl,cond_true]
theorem c7 {a b:Nat} (h:a≠b):Nat.beq a b=false:=Bool.eq_false_iff.2 fun e=>h (Nat.eq_of_beq_eq_true e)
theorem bz {a b:Nat} (h:b<a):Nat.ble a b=false:=Bool.eq_false_iff.2 fun e=>by have:=Nat.le_of_ble_eq_true e;omega
theorem eN {a b:Nat} (h:a<=b):Nat.ble a b=true:=Nat.ble_eq_true_of_le h
theorem vI {H:aa} {x:Nat} {o:Ob} (h:bD H<=x):bD ((x,o)::H)=x+1:=by simp only[bD,eN h,cond_true]
theorem Ui {g:Gs} {b c:Nat} (h:g.dp c≠b):(Ob.var 192 (cA g sj c)).men b=false:=by
 simp only[Ob.men,cA,pO,AV.mens,AV.men,c7 h,Bool.or_false]
theorem GH.kill {g:Gs} {H H':aa} (h:GH g sj H) (hg:Gr g) {b:Nat} (hb:∀c∈g.L,c≠b/\g.dp c≠b) (c_:∀c∈g.L,lk H' c=(lk H c).map (fl b)/\lk H' (g.dp c)=(lk H (g.dp c)).map (fl b)):GH g sj H':=by
 refine⟨fun c hc=>?_,fun c hc=>?_⟩
 ·rw[(c_ c hc).1,h.cell c hc,Option.map_some,kN (Ui (hb c hc).2)]
 ·rw[(c_ c hc).2,h.row c hc,Option.map_some,kN (EB fun hk=>(hb b (hg.kids c hc b hk)).1 rfl)]
theorem GH.same {g:Gs} {up:Nat->Option Nat} {H H':aa} (h:GH g up H) (c_:∀c∈g.L,lk H' c=lk H c/\lk H' (g.dp c)=lk H (g.dp c)):GH g up H':=
 ⟨fun c hc=>(c_ c hc).1.trans (h.cell c hc),fun c hc=>(c_ c hc).2.trans (h.row c hc)⟩
theorem GH.cons {g:Gs} {up:Nat->Option Nat} {H:aa} {x:Nat} {o:Ob} (h:GH g up H) (hx:bD H<=x):GH g up ((x,o)::H):=
 h.same fun c hc=>by have:=h.lt hx c hc;exact⟨cJ (by omega),cJ (by omega)⟩
theorem Pb {α:Type} {v:Int}:∀{m:List (Int×α)},bo m v=none->v∉m.map (·.1)
 |[],_,h=>by cases h
 |(w,x)::m,h,hm=>by
  have h2:=IH.1 h
  rw[List.map_cons,List.mem_cons]at hm
  have:∀(m:List (Int×α)),eL m v=none->v∉m.map (·.1):=fun m h=>by
   intro hc
   obtain⟨p,hp,e⟩:=List.mem_map.1 hc
   exact qt h (List.mem_map.2 ⟨p,hp,by rw[e]⟩)
  exact this _ h2 (by simpa using hm)
theorem ia.mono {nb tD:Nat} {g g':Gs} (h:ia tD g g') (hn:nb<=tD):ia nb g g':=⟨h.cm,fun c hc ga=>by have:=h.new c hc ga;omega,h.vs⟩
theorem PZ {nb:Nat} {H:aa} {o:Ob} (h:bD H<=nb):ay nb ((nb,o)::H)=nb+1:=by
 unfold ay
 rw[vI h,eN (Nat.le_succ nb),cond_true]
theorem HK {H:aa} {x:Nat} {o o':Ob}:aR ((x,o)::H) x o'=(x,o')::H:=by simp only[aR,Nat.beq_refl,cond_true]
theorem tY (t:Tm):aP t= .agg [Sv t.nm,Iv t.ix,.im (.sl 3 (aA t.xs))]:=by cases t;rfl
theorem FD:∀(N:Nat) (t:Tm) (nb:Nat) (H:aa) (u m:Nat) (g:Gs),wT t<=N->bS t=true->aE t->bD H<=nb->GH g sj H->Gr g->
  lk H u=some (.var 189 [.mp m])->lk H m=some (.var (.map (kI g.vs)) (vC g.vs))->dz Tryz.prog nb 177 [.ob u 0,aP t] H (Td nb m g H t)
 |0,t,_,_,_,_,_,h,_,_,_,_,_,_,_=>by have:=qI t;omega
 |N+1,t,nb,H,u,m,g,hN,ah,fi,hnb,hG,hr,hu,hm=>by
  have Og:=dN.1 fi
  have dG:=bZ H u _ hu
  have hmn:=bZ H m _ hm
  have Yc:u≠m:=fun e=>by rw[e,hm]at hu;cases hu
  have CL:=hG.lt hnb
  have V5:=hG.ne hm
  have uS:nb∉g.L:=fun h=>by have:=(CL nb h).1;omega
  have kG:ay nb H=nb:=by
   unfold ay
   cases h:Nat.ble nb (bD H)with
   |true=>have:=Nat.le_of_ble_eq_true h;simp only[cond_true];omega
   |false=>rfl
  simp only[go_sem,ay]at kG
  have hle:=eN hnb
  have GO:=c7 (show nb≠u by omega)
  have oV:=c7 (show nb≠m by omega)
  have GP:=c7 (show nb+1≠u by omega)
  have GN:=c7 (show nb+1≠m by omega)
  refine dz.walk [0,1,3,4,5,6,7,9,12,24,42,43,44,45] [5,7,9,28,40] Tryz.func177 rfl Tryz.ntmps177 (by kernel_rfl) (by rfl) fun W own I0 ao lay=>?_
  refine gO ?_
  refine AP.cond rfl rfl (fun h=>?_) (fun h=>?_)
  ·have hn:t.nm=[]:=by simpa using h
   obtain⟨et,hi⟩:=Ek ah hn
   refine gO ?_
   refine AP.bQ 12 (Tree.node [] [0,1,2,3,4,5] [6] [Tree.node [] [7,8,9,10,11] [] []]) (by kernel_rfl) rfl (by kernel_rfl) (by kernel_rfl) ?_
   refine bO ?_
   refine sE @hu ?_
   cases hk:bo g.vs t.ix with
   |some c=>
    obtain⟨j,U,h2⟩:=DY hk
    refine AQ.vF j (by kernel_rfl) rfl rfl hm BF u3 (jQ _) rfl (List.mem_of_getElem? (tn h2)) (fun i hi=>tq hr.nd h2 hi) (Sr h2) ?_
    refine sI ?_
    refine AQ.nx rfl ?_
    refine sI ?_
    refine AQ.done ?_
    refine gO ?_
    have hp:=hr.vs _ (List.mem_of_getElem? h2)
    refine AE.ret rfl ⟨rfl,trivial⟩ ⟨⟨g,c,rfl,hG,hr,ia.refl _ _,hm,hp.1,?_,fun p hp=> .inl hp,Nat.le_add_right _ _⟩,fun b o _ _ h _=>h,cE.refl _ _⟩
    rw[hr.dn c,if_pos hp.2.1,hp.2.2.1,<-et]
   |none=>
    refine AQ.D5 (by kernel_rfl) rfl rfl hm BF u3 (jQ _) rfl (qt (IH.1 hk)) rfl rfl ?_
    refine sI ?_
    refine AQ.nx rfl ?_
    refine sI ?_
    refine AQ.done ?_
    refine gO ?_
    rw[kG]
    refine sI ?_
    refine AP.jv nb 3 187 1 gX rfl ?_
    rw[PZ hnb,HK]
    refine sI ?_
    refine AP.bQ 8 (Tree.node [] [0,1,2,3,4,5,6] [7] [Tree.node [] [] [] []]) (by kernel_rfl) rfl (by kernel_rfl) (by kernel_rfl) ?_
    refine bO ?_
    refine sE (an @GO (an @oV (an @hu (an @hm (an @GP @GN))))) ?_
    refine AQ.D_ (ks:=kI g.vs) (cs:=vC g.vs) (by kernel_rfl) rfl rfl rfl (by rw[cJ (by omega),cJ (by omega)];exact hm) BF u3 (jQ _) rfl (qt (IH.1 hk)) ?_
    refine sE (an @GO (an @oV (an @GP @GN))) ?_
    refine AQ.nx rfl ?_
    refine sE (an @GO (an @oV (an @GP @GN))) ?_
    refine AQ.done ?_
    refine gO ?_
    have gT:t.ix∉g.vs.map (·.1):=Pb hk
    have ho:∀b,b≠nb->b≠nb+1->b≠m->∀o1 o2 o3,lk ((nb+1,o1)::(nb,o2)::aR H m o3) b=lk H b:=fun b U h2 h3 o1 o2 o3=>by rw[cJ h2,cJ U,cD _ _ _ _ h3]
    refine AE.ret rfl ⟨rfl,trivial⟩ ⟨⟨g.put nb (nb+1) ⟨[],t.ix,[]⟩ (bt t.ix) (g.vs++[(t.ix,nb)]),nb,rfl,hG.put uS rfl (fun b hb=>?_) (by rw[cJ (by omega),gX];rfl) gX,hr.aaM uS hi gT,ia.put uS (Nat.le_refl _) (Nat.le_succ _) (fun p hp=>List.mem_append_left _ hp),?_,List.mem_cons_self ..,?_,fun p hp=>?_,by have:=qI t;show(nb::g.L).length<=_;rw[List.length_cons];omega⟩,fun b o hb oV h _=>?_,fun b hb=>?_⟩
    ·have U:=CL b hb
     have h2:=V5 b hb
     exact⟨ho b (by omega) (by omega) h2.1 _ _ _,ho _ (by omega) (by omega) h2.2 _ _ _⟩
    ·rw[cJ (by omega),cJ (by omega),de _ _ _ hm]
     simp[Gs.put,kI,vC]
    ·show cW _ _ _ _=_
     rw[jb,<-et]
    ·have hp:p∈g.vs++[(t.ix,nb)]:=hp
     rcases List.mem_append.1 hp with hp|hp
     ·exact .inl hp
     ·rw[List.mem_singleton.1 hp];exact .inr (.refl _)
    ·rw[ho b (by omega) (by omega) oV];exact h
    ·by_cases h:b=m
     ·subst h
      rw[cJ (by omega),cJ (by omega),de _ _ _ hm,hm];rfl
     ·rw[ho b (by omega) (by omega) h]
  ·refine gO ?_
   rw[kG]
   refine sI ?_
   refine AP.jv nb 3 187 1 gX rfl ?_
   rw[PZ hnb,HK]
   refine gO ?_
   rw[aj]
   obtain⟨H0,Cw⟩:∃H0:aa,H0=(nb+1,Ob.vec 187 1 [])::(nb,Ob.var 192 [pE,Sv t.nm,Iv 0,.os (nb+1) 1 0 0])::H:=⟨_,rfl⟩
   have qi:∀b,b<nb->lk H0 b=lk H b:=fun b hb=>by rw[Cw,cJ (by omega),cJ (by omega)]
   have rm:Km nb m g H t g [] H0:=by
    refine⟨hG.same fun c hc=>?_,hr,ia.refl _ _,by rw[qi m (by omega)];exact hm,by rw[Cw,cJ (by omega),gX];rfl,by rw[Cw,gX];rfl,(fun k hk=>by cases hk),Nat.zero_le _,rfl,fun p hp=> .inl hp,(fun b o hb _ h _=>by rw[qi b hb];exact h),(fun b hb=>by rw[qi b hb]),Nat.le_add_right _ _⟩
    have:=CL c hc
    exact⟨qi _ this.1,qi _ this.2⟩
   refine AP.loop rfl (α:=Gs×List Nat×aa) (fun q=>[(0,.ob u 0),(7,.ob nb 0),(42,.im (.sl 3 (aA t.xs))),(43,Iv t.xs.length),(44,Iv q.2.1.length)]) (fun q=>q.2.2) (fun q=>Km nb m g H t q.1 q.2.1 q.2.2) (fun q=>t.xs.length-q.2.1.length) (g,[],H0) rm (sU) Cw.symm fun⟨g1,ks,H1⟩ hq=>?_
   simp only at hq⊢
   rcases Nat.eq_or_lt_of_le hq.kl with aC|ag
   ·refine gE @aj ?_
    refine cF ?_
    refine gO ?_
    have CY:nb∉g1.L:=fun h=>by
     by_cases h2:nb∈g.L
     ·exact uS h2
     ·have:=hq.le.new nb h h2;omega
    have fF:ks.map g1.d=t.xs:=by rw[hq.kd,aC,List.take_length]
    have eT:t.nm≠[]:=by simpa using h
    have s_:t= .mk t.nm 0 t.xs:=by
     have U:=ah
     rw[mA,if_neg eT]at U
     simp only[Bool.and_eq_true,beq_iff_eq]at U
     have h2:=U.1.2
     cases t;simp only[Tm.ix]at h2;subst h2;rfl
    have hP:=hq.gr.aaH (r:=nb+1) CY eT hq.kL (by omega) Og.1
    refine AE.ret rfl ⟨rfl,trivial⟩ ⟨⟨g1.put nb (nb+1) ⟨t.nm,0,ks⟩ (.mk t.nm 0 (ks.map g1.d)) g1.vs,nb,rfl,hq.gh.put CY rfl (fun b hb=>⟨rfl,rfl⟩) hq.c0 hq.r0,hP,?_,hq.mp,List.mem_cons_self ..,?_,fun p hp=>?_,?_⟩,hq.bU,hq.low⟩
    ·exact(ia.mono hq.le (Nat.le_add_right _ _)).trans (ia.put CY (Nat.le_refl nb) (Nat.le_succ nb) (fun p hp=>hp)) (Nat.le_refl nb)
    ·show cW _ _ _ _=_
     rw[jb,fF];exact s_.symm
    ·rcases hq.vS p hp with U|⟨k,hk,U⟩
     ·exact .inl U
     ·refine .inr (.arg (k:=k) (by show k∈(cW (α:=Nd) _ _ _ _).ks;rw[jb];exact hk) (U.mono (P:=(·∈g1.L)) (fun c hc=>⟨(Gr.QK CY hc).1,hq.gr.kids c hc⟩) (hq.kL k hk)))
    ·have U:=hq.ll
     rw[aC,List.take_length]at U
     rw[nB]
     show(nb::g1.L).length<=_
     rw[List.length_cons];omega
   ·obtain⟨x,hx,aH⟩:=dh t.xs ks.length ag
    have hw:=wr (x:=(ks.length:Int)+1) (by omega)
    obtain⟨n1,e7⟩:∃n1,bD H1=n1:=⟨_,rfl⟩
    have Xn:=bZ H1 _ _ hq.r0
    rw[e7]at Xn
    have iW:ay nb H1=n1:=by
     unfold ay
     rw[e7,eN (by omega),cond_true]
    simp only[go_sem,ay]at iW
    refine gE @aj ?_
    refine cT ?_
    refine gE (an @aH @iW) ?_
    refine⟨by rw[aj];omega,?_⟩
    refine gO ?_
    obtain⟨H2,q8⟩:∃H2:aa,H2=(n1,Ob.var (.cell 71) [.im (Si x.nm),.im (Ii x.ix),.im (.sl 3 (aA x.xs))])::H1:=⟨_,rfl⟩
    have ga:bD H2=n1+1:=by rw[q8];exact vI (by omega)
    have rH:∀b,b<n1->lk H2 b=lk H1 b:=fun b hb=>by rw[q8,cJ (by omega)]
    have lh:lk H2 n1=some (Ob.var (.cell 71) [.im (Si x.nm),.im (Ii x.ix),.im (.sl 3 (aA x.xs))]):=by rw[q8,gX]
    have MN:lk H2 nb=some (.var 192 [pE,Sv t.nm,Iv 0,.os (nb+1) 1 0 ks.length]):=(rH nb (by omega)).trans hq.c0
    have XR:lk H1 u=some (.var 189 [.mp m]):=hq.bU u _ (by omega) Yc hu (fun y hy=>by simp only[Ob.men,AV.mens,AV.men,c7 (show m≠y by omega),Bool.or_false])
    have ma:GH g1 sj H2:=by rw[q8];exact hq.gh.cons (by omega)
    have m_:bS x=true:=by
     have U:=ah
     rw[mA,if_neg (by simpa using h)]at U
     simp only[Bool.and_eq_true]at U
     exact tH U.2 x (List.mem_of_getElem? hx)
    have Yx:wT x<=N:=by
     have:=J7 (List.mem_of_getElem? hx)
     rw[nB]at hN
     omega
    have ih:=FD N x (n1+1) H2 u m g1 Yx m_ (dc Og.2.2 hx) (by omega) ma hq.gr ((rH u (by omega)).trans XR) ((rH m (by omega)).trans hq.mp)
    have b1:=bz (show u<n1+1 by omega)
    have b2:=bz (show nb<n1+1 by omega)
    have b3:=bz (show n1<n1+1 by omega)
    have b4:=bz (show nb+1<n1+1 by omega)
    rw[<-q8]
    refine gO ?_
    refine AP.bQ 13 (Tree.node [] [0,1,2,3,4,5,6] [7] [Tree.node [0,1,2,3,4] [] [8] [Tree.node [0,1,2,3,4] [] [9] [Tree.node [0] [10,11] [12] [Tree.node [] [] [] []]]]]) (by kernel_rfl) rfl (by kernel_rfl) (by kernel_rfl) ?_
    refine bO ?_
    refine sE (an @lh @MN) ?_
    rw[tY]at ih
    refine AQ.iP (n1+1) (eN (show nb<=n1+1 by omega)) (by kernel_rfl) rfl rfl rfl ih (fun r H' h=>h.low) fun r H3 hR=>?_
    obtain⟨g2,c,rfl,uL,HC,Ad,iV,Nc,WD,XU,ad8⟩:=hR.ex
    have CH:lk H3 nb=some (.var 192 [pE,Sv t.nm,Iv 0,.os (nb+1) 1 0 ks.length]):=hR.bU nb _ (by omega) (by omega) MN (fun y hy=>by simp only[Ob.men,pE,AV.mens,AV.men,c7 (show nb+1≠y by omega),Bool.or_false])
    simp only[go_sem,Nat.reduceAdd,Nat.reduceLeDiff,Nat.reduceSub,Int.reduceToNat,reduceCtorEq,b1,b2,b3,b4,CH]
    have Hf:nb+1∉ks:=fun h=>by
     have U:=hq.gh.cell _ (hq.kL _ h)
     rw[hq.r0]at U
     unfold jw mC at U
     split at U<;>cases U
    have wM:lk H3 (nb+1)=some (jw ks):=hR.bU _ _ (by omega) (by omega) ((rH _ (by omega)).trans hq.r0) (fun y hy=>EB fun hk=>by
     have:=(hq.gh.lt (Nat.le_refl _) _ (hq.kL y hk)).1
     omega)
    obtain⟨f,hf⟩:∃f,ay nb H3=f:=⟨_,rfl⟩
    have G1:=dw nb H3
    rw[hf]at G1
    have Xj:=bZ H3 _ _ wM
    have w4:=hf
    simp only[go_sem,ay]at w4
    refine AQ.nx rfl ?_
    refine sE @CH ?_
    refine AQ.Uc (by kernel_rfl) rfl Tryz.JQ Tryz.qG Tryz.Kf ?_
    refine sE @w4 ?_
    have WX:=c7 (show f≠nb by omega)
    refine AQ.nx rfl ?_
    refine sE (an @WX @CH) ?_
    have zM:nb+1≠c:=fun e=>by
     have U:=uL.cell c Nc
     rw[<-e,wM]at U
     unfold jw mC at U
     split at U<;>cases U
    have mk:∀ks:List Nat,nb+1∉ks->AV.mens (nb+1) (ks.map fun k=> .ob k 0)=false:=fun ks h=>by
     have:=EB h
     unfold jw at this
     cases ks with
     |nil=>rfl
     |cons _ _=>exact this
    have cM:=c7 (show f≠nb+1 by omega)
    have s4:(ks.map fun k=>AV.ob k 0).length=ks.length:=List.length_map ..
    refine AQ.aaN (cs:=ks.map fun k=> .ob k 0) (zv:= .ob c 0) (show nb<=nb+1 from Nat.le_succ nb) (by kernel_rfl) rfl rfl gX ((cJ (by omega)).trans wM) (mk ks Hf) (by simp only[AV.men,c7 (Ne.symm zM)]) Tryz.JQ Tryz.qG ?_ Tryz.Ug s4.symm (by rw[s4];show(ks.length+1)*8<=_;omega) (by rw[s4];omega) fun H5 VQ NT=>?_
    ·show Option.map _ (ax Tryz.prog 187)=_;rw[Tryz.Kf];rfl
    have h5:∀b,b<bD H3->b≠nb+1->lk H5 b=(lk H3 b).map (fl (nb+1)):=fun b hb h=>by rw[NT b h,cJ (by omega)]
    have Gn:lk H5 nb=some (.var 192 [pE,Sv t.nm,Iv 0,.top]):=by
     rw[h5 nb (by omega) (by omega),CH]
     simp only[Option.map_some,fl,iY,pE,AV.men,Nat.beq_refl,cond_true,cond_false]
    have e1:=c7 (Ne.symm zM)
    have e2:=c7 (show u≠nb+1 by omega)
    have e3:=c7 (show nb≠nb+1 by omega)
    have e4:=c7 (show n1≠nb+1 by omega)
    refine sE (an @cM (an @e1 (an @e2 (an @e3 (an @e4 @s4))))) ?_
    refine AQ.nx rfl ?_
    refine sE @Gn ?_
    refine AQ.go (by kernel_rfl) ?_
    refine sE @Gn ?_
    refine AQ.nx rfl ?_
    refine sI ?_
    refine AQ.done ?_
    refine gE @hw ?_
    have sS:∀x∈g2.L,(x≠nb/\x≠nb+1)/\g2.dp x≠nb/\g2.dp x≠nb+1:=fun x hx=>by
     by_cases U:x∈g1.L
     ·rw[(Ad.cm x U).2.2.1]
      by_cases h2:x∈g.L
      ·rw[(hq.le.cm x h2).2.2.1]
       have:=CL x h2
       omega
      ·have:=hq.le.new x U h2
       omega
     ·have:=Ad.new x hx U
      omega
    have Dp:∀b,b≠nb->b≠nb+1->b<bD H3->∀o,lk (aR H5 nb o) b=(lk H3 b).map (fl (nb+1)):=fun b U h2 h3 o=>by rw[cD _ _ _ _ U,h5 b h3 h2]
    have hlen:(ks++[c]).length=ks.length+1:=by rw[List.length_append];rfl
    have ND:=Ad.YO hq.kL
    refine AE.round (g2,ks++[c],aR H5 nb (Ob.var (Sh.cell 192) [pE,Sv t.nm,Iv 0,AV.os (nb+1) 1 0 (ks.length+1)])) ?_ (by simp only[hlen];omega) (by simp only[hlen];exact(sU)) rfl
    refine⟨uL.kill HC (fun x hx=>⟨(sS x hx).1.2,(sS x hx).2.2⟩) (fun x hx=>?_),HC,hq.le.trans Ad (by omega),?_,?_,?_,fun k hk=>?_,by rw[hlen];omega,?_,fun p hp=>?_,fun b o hb oV ho dU=>?_,fun b hb=>?_,by have U:=hq.ll;show g2.L.length<=_;rw[hlen,dE hx,J8];omega⟩
    ·have U:=uL.lt (Nat.le_refl _) x hx
     have h2:=sS x hx
     exact⟨Dp _ h2.1.1 h2.1.2 U.1 _,Dp _ h2.2.1 h2.2.2 U.2 _⟩
    ·have U:=bZ H3 m _ iV
     rw[Dp m (by omega) (by omega) U,iV,Option.map_some,kN]
     exact E2 fun p hp=>(sS _ (HC.vs p hp).1).1.2
    ·rw[de _ _ _ Gn,hlen];rfl
    ·rw[cD _ _ _ _ (by omega),VQ]
     unfold jw
     rw[List.map_append];rfl
    ·rcases List.mem_append.1 hk with hk|hk
     ·exact ND.1 k hk
     ·rw[List.mem_singleton.1 hk];exact Nc
    ·rw[List.map_append,ND.2,hq.kd,hlen,dE hx]
     show _++[g2.d c]=_
     rw[WD]
    ·rcases XU p hp with U|U
     ·rcases hq.vS p U with h2|⟨k,hk,h2⟩
      ·exact .inl h2
      ·exact .inr ⟨k,List.mem_append_left _ hk,h2.mono (P:=(·∈g1.L)) (fun c hc=>⟨(Ad.cm c hc).2.1,hq.gr.kids c hc⟩) (hq.kL k hk)⟩
     ·exact .inr ⟨c,by simp,U⟩
    ·have U:=(rH b (by omega)).trans (hq.bU b o hb oV ho dU)
     have h2:=hR.bU b o (by omega) oV U (dU.mono (by omega))
     rw[Dp b (by omega) (by omega) (bZ H3 b _ h2),h2,Option.map_some,kN (dU _ (by omega))]
    ·have U:=hR.low b (by omega)
     rw[rH b (by omega),hq.low b hb]at U
     rw[cD _ _ _ _ (by omega)]
     cases h3:lk H3 b with
     |none=>
      rw[h3]at U
      rw[NT b (by omega),cJ (by omega),h3]
      exact U
     |some o=>
      rw[h3]at U
      rw[h5 b (bZ H3 b _ h3) (by omega),h3]
      exact U
theorem Rt.gY {L:List Nat} {up:Nat->Option Nat} {rt rk:Nat->Nat} (h:Rt L up rt rk):∀(n c:Nat),c∈L->rk c<=n->gY up n c=rt c
 |0,c,hc,hn=>by
  cases hu:up c with
  |none=>rw[h.nil c hc hu];rfl
  |some d=>have:=(h.go c hc d hu).2.1;omega
 |n+1,c,hc,hn=>by
  cases hu:up c with
  |none=>rw[h.nil c hc hu];simp only[Go.Proofs.YtpfohmboflcneaaGreatDoor.gY,hu]
  |some d=>
   obtain⟨U,h2,h3⟩:=h.go c hc d hu
   rw[h3,<-h.gY n d U (by omega)]
   simp only[Go.Proofs.YtpfohmboflcneaaGreatDoor.gY,hu]
theorem yp (nb:Nat) {H:aa} {g:Gs} {up:Nat->Option Nat} {rt rk:Nat->Nat} (hG:GH g up H) (hR:Rt g.L up rt rk) {c:Nat} (hc:c∈g.L):
  dz Tryz.prog nb 122 [.ob c 0] H (fun r H'=>H'=H/\r= .ob (rt c) 0):=by
 have:=aaZ nb H up rk (·∈g.L) (cA g up) (fun c _=>⟨_,_,_,rfl⟩) (fun c hc=>⟨hG.cell c hc,fun d hd=>⟨(hR.go c hc d hd).1,(hR.go c hc d hd).2.1⟩⟩) c hc
 rw[hR.gY _ c hc (Nat.le_refl _)]at this
 exact this
structure Fl (nb:Nat) (g:Gs) (H:aa) (up:Nat->Option Nat) (rt:Nat->Nat) (a b:Nat) (r:AV) (H':aa):Prop where
 ex:∃E0 rt' QQ ok,r=Bv ok/\GH g E0 H'/\Rt g.L E0 rt' QQ/\gL g.cl g.d rt rt' a b ok/\tP g.L E0<=tP g.L up
 bU:∀x,x<nb->x∉g.L->lk H' x=lk H x
theorem Fl.low {nb:Nat} {g:Gs} {H:aa} {up:Nat->Option Nat} {rt:Nat->Nat} {a b:Nat} {r:AV} {H':aa} (h:Fl nb g H up rt a b r H') (hG:GH g up H):cE nb H H':=fun x hx=>by
 obtain⟨E0,rt',QQ,ok,_,U,_⟩:=h.ex
 by_cases hL:x∈g.L
 ·rw[U.cell x hL,hG.cell x hL];rfl
 ·rw[h.bU x hx hL]
theorem GH.up {g:Gs} {up:Nat->Option Nat} {H:aa} (h:GH g up H) {x y:Nat} (hy:y∈g.L) (hr:∀c∈g.L,∀c'∈g.L,g.dp c≠c'):GH g (nA up y x) (aR H y (.var 192 (cA g (nA up y x) y))):=by
 refine⟨fun c hc=>?_,fun c hc=>?_⟩
 ·by_cases e:c=y
  ·subst e;exact de _ _ _ (h.cell c hc)
  ·rw[cD _ _ _ _ e,h.cell c hc]
   simp only[cA,nA,if_neg e]
 ·rw[cD _ _ _ _ (hr c hc y hy)];exact h.row c hc
theorem GH.aaT {g:Gs} {up:Nat->Option Nat} {H:aa} (h:GH g up H):∀c∈g.L,∀c'∈g.L,g.dp c≠c':=fun c hc c' eC e=>by
 have U:=h.row c hc
 rw[e,h.cell c' eC]at U
 unfold jw mC at U
 split at U<;>cases U
structure Tf (nb:Nat) (g:Gs) (H:aa) (n:Nat) (rt0:Nat->Nat) (zs:List (Nat×Nat)) (k:Nat) (up:Nat->Option Nat) (rt rk:Nat->Nat) (H1:aa):Prop where
 gh:GH g up H1
 r:Rt g.L up rt rk
 l:qQ g.cl g.d rt0 rt zs (zs.drop k)
 n:tP g.L up<n
 k:k<=zs.length
 bU:∀x,x<nb->x∉g.L->lk H1 x=lk H x
theorem xN {ks:List Nat} {k c:Nat} (h:ks[k]?=some c):(ks.map fun k=>AV.ob k 0)[k]?=some (.ob c 0):=by rw[List.getElem?_map,h];rfl
theorem Sm (g:Gs) (hr:Gr g) (u:Nat):∀(N:Nat) (up:Nat->Option Nat) (rt rk:Nat->Nat) (a b nb:Nat) (H:aa),tP g.L up<=N->GH g up H->bD H<=nb->Rt g.L up rt rk->a∈g.L->b∈g.L->u<nb->
  dz Tryz.prog nb 178 [.ob u 0,.ob a 0,.ob b 0] H (Fl nb g H up rt a b)
 |N,up,rt,rk,a,b,nb,H,hN,hG,hnb,hR,ha,hb,hu=>by
  have lA:=hR.mem ha
  have jm:=hR.mem hb
  obtain⟨x,hx⟩:∃x,rt a=x:=⟨_,rfl⟩
  obtain⟨y,hy⟩:∃y,rt b=y:=⟨_,rfl⟩
  have s1:=yp nb hG hR ha
  have s2:=yp nb hG hR hb
  rw[hx]at lA s1
  rw[hy]at jm s2
  have oc:up x=none:=hx▸hR.none ha
  have HY:up y=none:=hy▸hR.none hb
  have pn:rt x=x:=hx▸hR.idem a
  have HZ:rt y=y:=hy▸hR.idem b
  have cx:=hG.cell x lA
  have cy:=hG.cell y jm
  have ku:=bz hu
  have ka:=bz (hG.lt hnb a ha).1
  have kb:=bz (hG.lt hnb b hb).1
  have kx:=bz (hG.lt hnb x lA).1
  have ky:=bz (hG.lt hnb y jm).1
  unfold cA at cx cy
  rw[oc]at cx
  rw[HY]at cy
  simp only[pO]at cx cy
  refine dz.walk [0,1,2,6,7,12,16,44,54,85,86,87,105] [] Tryz.func178 rfl Tryz.ntmps178 (by kernel_rfl) (by rfl) fun W own I0 ao lay=>?_
  refine gO ?_
  refine AQ.iP nb (eN (Nat.le_refl _)) (by kernel_rfl) rfl rfl rfl s1 (fun r H' e=>by rw[e.1];exact cE.refl _ _) fun r H' ⟨e1,e2⟩=>?_
  rw[e1,e2]
  clear e1 e2
  simp only[go_sem,Nat.reduceAdd,Nat.reduceLeDiff,Nat.reduceSub,Int.reduceToNat,reduceCtorEq,ku,ka,kb,kx,ky]
  refine AQ.go (by kernel_rfl) ?_
  refine sI ?_
  refine AQ.iP nb (eN (Nat.le_refl _)) (by kernel_rfl) rfl rfl rfl s2 (fun r H' e=>by rw[e.1];exact cE.refl _ _) fun r H' ⟨e1,e2⟩=>?_
  rw[e1,e2]
  clear e1 e2
  simp only[go_sem,Nat.reduceAdd,Nat.reduceLeDiff,Nat.reduceSub,Int.reduceToNat,reduceCtorEq,ku,ka,kb,kx,ky]
  refine AQ.go (by kernel_rfl) ?_
  refine sI ?_
  by_cases uH:x=y
  ·subst uH
   have zm:=Nat.beq_refl x
   repeat(first|refine xA ?_|refine xB ?_|refine xC ?_|refine xE ?_|refine xD ?_|refine xK ?_|refine xS ?_|refine xM ?_|refine xT ?_|refine xF ?_|((first|refine xR ?_|refine xW ?_|refine gJ ?_);simp only[go_sem,Nat.reduceAdd,Nat.reduceLeDiff,Nat.reduceSub,Int.reduceToNat,reduceCtorEq,zm])|(refine⟨by first|omega|(intros;simp_all;done)|(intros;simp_all;omega),?_⟩;try simp only[go_sem,Nat.reduceAdd,Nat.reduceLeDiff,Nat.reduceSub,Int.reduceToNat,reduceCtorEq,zm]))
   exact AE.ret rfl ⟨rfl,trivial⟩ ⟨⟨up,rt,rk,true,rfl,hG,hR,gL.same (hx.trans hy.symm),Nat.le_refl _⟩,fun _ _ _=>rfl⟩
  ·have zm:=c7 uH
   have sV:rt a≠rt b:=by rw[hx,hy];exact uH
   have HE:=hG.aaT
   refine gO ?_
   simp only[go_sem,Nat.reduceAdd,Nat.reduceLeDiff,Nat.reduceSub,Int.reduceToNat,reduceCtorEq,zm]
   refine AQ.pne zm cx cy (by kernel_rfl) rfl rfl Tryz.tV Tryz.RY ?_
   refine sI ?_
   repeat(first|refine xA ?_|refine xB ?_|refine xC ?_|refine xE ?_|refine xD ?_|refine xK ?_|refine xS ?_|refine xM ?_|refine xT ?_|refine xF ?_|((first|refine xR ?_|refine xW ?_|refine gJ ?_);simp only[go_sem,Nat.reduceAdd,Nat.reduceLeDiff,Nat.reduceSub,Int.reduceToNat,reduceCtorEq,cx,cy])|(refine⟨by first|omega|(intros;simp_all;done)|(intros;simp_all;omega),?_⟩;try simp only[go_sem,Nat.reduceAdd,Nat.reduceLeDiff,Nat.reduceSub,Int.reduceToNat,reduceCtorEq,cx,cy]))
   refine AP.cond rfl rfl (fun U=>?_) (fun U=>?_)
   ·have U:(g.cl x).nm=[]/\((g.cl y).nm≠[]\/(g.cl y).num<(g.cl x).num):=by simpa using U
    repeat(first|refine xA ?_|refine xB ?_|refine xC ?_|refine xE ?_|refine xD ?_|refine xK ?_|refine xS ?_|refine xM ?_|refine xT ?_|refine xF ?_|((first|refine xR ?_|refine xW ?_|refine gJ ?_);simp only[go_sem,Nat.reduceAdd,Nat.reduceLeDiff,Nat.reduceSub,Int.reduceToNat,reduceCtorEq,cx,cy])|(refine⟨by first|omega|(intros;simp_all;done)|(intros;simp_all;omega),?_⟩;try simp only[go_sem,Nat.reduceAdd,Nat.reduceLeDiff,Nat.reduceSub,Int.reduceToNat,reduceCtorEq,cx,cy]))
    refine AE.ret rfl ⟨rfl,trivial⟩ ⟨⟨_,_,_,true,rfl,?_,hR.put jm lA HZ pn (Ne.symm uH),?_,Nat.le_of_lt (JD lA oc)⟩,fun z _ hz=>cD _ _ _ _ fun e=>hz (e▸lA)⟩
    ·have:=hG.up (x:=y) lA HE
     simp only[cA,nA,if_true]at this
     exact this
    ·have:=gL.ab_ (d:=g.d) sV (by rw[hx];exact U.1) (fun e=>by rw[hy]at e;rw[hx,hy];exact Int.le_of_lt (U.2.resolve_left fun k=>k e))
     rw[hx,hy]at this
     exact this
   ·have U:¬((g.cl x).nm=[]/\((g.cl y).nm≠[]\/(g.cl y).num<(g.cl x).num)):=by simpa using U
    repeat(first|refine xA ?_|refine xB ?_|refine xC ?_|refine xE ?_|refine xD ?_|refine xK ?_|refine xS ?_|refine xM ?_|refine xT ?_|refine xF ?_|((first|refine xR ?_|refine xW ?_|refine gJ ?_);simp only[go_sem,Nat.reduceAdd,Nat.reduceLeDiff,Nat.reduceSub,Int.reduceToNat,reduceCtorEq,cx,cy])|(refine⟨by first|omega|(intros;simp_all;done)|(intros;simp_all;omega),?_⟩;try simp only[go_sem,Nat.reduceAdd,Nat.reduceLeDiff,Nat.reduceSub,Int.reduceToNat,reduceCtorEq,cx,cy]))
    refine AP.cond rfl rfl (fun h2=>?_) (fun h2=>?_)
    ·have h2:(g.cl y).nm=[]:=by simpa using h2
     repeat(first|refine xA ?_|refine xB ?_|refine xC ?_|refine xE ?_|refine xD ?_|refine xK ?_|refine xS ?_|refine xM ?_|refine xT ?_|refine xF ?_|((first|refine xR ?_|refine xW ?_|refine gJ ?_);simp only[go_sem,Nat.reduceAdd,Nat.reduceLeDiff,Nat.reduceSub,Int.reduceToNat,reduceCtorEq,cx,cy])|(refine⟨by first|omega|(intros;simp_all;done)|(intros;simp_all;omega),?_⟩;try simp only[go_sem,Nat.reduceAdd,Nat.reduceLeDiff,Nat.reduceSub,Int.reduceToNat,reduceCtorEq,cx,cy]))
     refine AE.ret rfl ⟨rfl,trivial⟩ ⟨⟨_,_,_,true,rfl,?_,hR.put lA jm pn HZ uH,?_,Nat.le_of_lt (JD jm HY)⟩,fun z _ hz=>cD _ _ _ _ fun e=>hz (e▸jm)⟩
     ·have:=hG.up (x:=x) jm HE
      simp only[cA,nA,if_true]at this
      exact this
     ·have:=gL.aca (d:=g.d) sV (by rw[hy];exact h2) (fun e=>by
       rw[hx]at e
       rw[hx,hy]
       rcases Int.lt_or_le (g.cl y).num (g.cl x).num with h|h
       ·exact absurd ⟨e,.inr h⟩ U
       ·exact h)
      rw[hx,hy]at this
      exact this
    ·have h2:(g.cl y).nm≠[]:=by simpa using h2
     have h3:(g.cl x).nm≠[]:=fun e=>U ⟨e,.inl h2⟩
     repeat(first|refine xA ?_|refine xB ?_|refine xC ?_|refine xE ?_|refine xD ?_|refine xK ?_|refine xS ?_|refine xM ?_|refine xT ?_|refine xF ?_|((first|refine xR ?_|refine xW ?_|refine gJ ?_);simp only[go_sem,Nat.reduceAdd,Nat.reduceLeDiff,Nat.reduceSub,Int.reduceToNat,reduceCtorEq,cx,cy])|(refine⟨by first|omega|(intros;simp_all;done)|(intros;simp_all;omega),?_⟩;try simp only[go_sem,Nat.reduceAdd,Nat.reduceLeDiff,Nat.reduceSub,Int.reduceToNat,reduceCtorEq,cx,cy]))
     refine AP.cond rfl rfl (fun h4=>?_) (fun h4=>?_)
     ·refine gO ?_
      have h4:¬((g.cl x).nm=(g.cl y).nm/\(g.cl x).ks.length=(g.cl y).ks.length):=fun⟨e1,e2⟩=>by simp[e1,e2]at h4
      exact AE.ret rfl ⟨rfl,trivial⟩ ⟨⟨up,rt,rk,false,rfl,hG,hR,gL.no hr.dn (by rw[hx];exact h3) (by rw[hy];exact h2) (by rw[hx,hy];exact h4),Nat.le_refl _⟩,fun _ _ _=>rfl⟩
     ·have h4:(g.cl x).nm=(g.cl y).nm/\(g.cl x).ks.length=(g.cl y).ks.length:=by
       simp only[Bool.or_eq_false_iff,Bool.not_eq_false',beq_iff_eq,bne_eq_false_iff_eq]at h4
       exact⟨h4.1,by omega⟩
      have m_:∀o,lk (aR H y o) x=lk H x:=fun o=>cD _ _ _ _ uH
      repeat(first|refine xA ?_|refine xB ?_|refine xC ?_|refine xE ?_|refine xD ?_|refine xK ?_|refine xS ?_|refine xM ?_|refine xT ?_|refine xF ?_|((first|refine xR ?_|refine xW ?_|refine gJ ?_);simp only[go_sem,Nat.reduceAdd,Nat.reduceLeDiff,Nat.reduceSub,Int.reduceToNat,reduceCtorEq,cx,cy,m_])|(refine⟨by first|omega|(intros;simp_all;done)|(intros;simp_all;omega),?_⟩;try simp only[go_sem,Nat.reduceAdd,Nat.reduceLeDiff,Nat.reduceSub,Int.reduceToNat,reduceCtorEq,cx,cy,m_]))
      obtain⟨zs,ti⟩:∃zs,(g.cl x).ks.zip (g.cl y).ks=zs:=⟨_,rfl⟩
      have DG:zs.length=(g.cl x).ks.length:=by rw[<-ti,List.length_zip];omega
      have u9:=(hr.len x).1
      have CM:GH g (nA up y x) (aR H y (Ob.var (Sh.cell 192) [AV.ob x 0,Sv (g.cl y).nm,Iv (g.cl y).num,AV.os (g.dp y) 1 0 (g.cl y).ks.length])):=by
       have:=hG.up (x:=x) jm HE
       simp only[cA,nA,if_true]at this
       exact this
      refine AP.loop rfl (α:=Nat×(Nat->Option Nat)×(Nat->Nat)×(Nat->Nat)×aa) (fun q=>[(0,.ob u 0),(1,.ob x 0),(2,.ob y 0),(85,Iv (g.cl x).ks.length),(86,Iv q.1)]) (fun q=>q.2.2.2.2) (fun q=>Tf nb g H (tP g.L up) (cK rt y x) zs q.1 q.2.1 q.2.2.1 q.2.2.2.1 q.2.2.2.2) (fun q=>zs.length-q.1) (0,_,_,_,_)
       ⟨CM,hR.put lA jm pn HZ uH,qQ.refl _,JD jm HY,Nat.zero_le _,fun z _ hz=>cD _ _ _ _ fun e=>hz (e▸jm)⟩ (sU) rfl fun⟨k,Sp,JC,QR,H1⟩ hq=>?_
      simp only at hq⊢
      rcases Nat.eq_or_lt_of_le hq.k with aC|ag
      ·rw[DG]at aC
       refine gO ?_
       refine cF ?_
       refine gO ?_
       have hl:=hq.l
       rw[aC,<-DG,List.drop_length]at hl
       refine AE.ret rfl ⟨rfl,trivial⟩ ⟨⟨Sp,JC,QR,true,rfl,hq.gh,hq.r,?_,Nat.le_of_lt hq.n⟩,hq.bU⟩
       refine gL.fn hr.dn sV (by rw[hx];exact h3) (by rw[hy];exact h2) (by rw[hx,hy];exact h4.1) (by rw[hx,hy];exact h4.2) ?_
       rw[hx,hy,ti]
       exact hl
      ·have iT:k<(g.cl x).ks.length:=by omega
       obtain⟨p,hp⟩:∃p,(g.cl x).ks[k]?=some p:=⟨_,List.getElem?_eq_getElem iT⟩
       obtain⟨q,Du⟩:∃q,(g.cl y).ks[k]?=some q:=⟨_,List.getElem?_eq_getElem (by omega)⟩
       have rJ:=hr.kids x lA p (List.mem_of_getElem? hp)
       have N7:=hr.kids y jm q (List.mem_of_getElem? Du)
       have hz:zs[k]?=some (p,q):=by rw[<-ti,List.getElem?_zip_eq_some];exact⟨hp,Du⟩
       have du:zs.drop k=(p,q)::zs.drop (k+1):=by
        rw[List.drop_eq_getElem_cons ag]
        rw[List.getElem?_eq_getElem ag,Option.some.injEq]at hz
        rw[hz]
       have hw:=wr (x:=(k:Int)+1) (by omega)
       obtain⟨n1,e7⟩:∃n1,ay nb H1=n1:=⟨_,rfl⟩
       have cH:=dw nb H1
       rw[e7]at cH
       have Gz:N-1<N:=by have:=hq.n;omega
       have ih:=Sm g hr u (N-1) Sp JC QR p q n1 H1 (by have:=hq.n;omega) hq.gh cH.2 hq.r rJ N7 (by omega)
       have c1:=hq.gh.cell x lA
       have c2:=hq.gh.cell y jm
       have r1:=hq.gh.row x lA
       have r2:=hq.gh.row y jm
       have j1:=bz (show u<n1 by omega)
       have j2:=bz (show x<n1 by have:=(hG.lt hnb x lA).1;omega)
       have j3:=bz (show y<n1 by have:=(hG.lt hnb y jm).1;omega)
       have j4:=bz (show p<n1 by have:=(hq.gh.lt cH.2 p rJ).1;omega)
       have j5:=bz (show q<n1 by have:=(hq.gh.lt cH.2 q N7).1;omega)
       have j6:=bz (show g.dp x<n1 by have:=(hq.gh.lt cH.2 x lA).2;omega)
       have j7:=bz (show g.dp y<n1 by have:=(hq.gh.lt cH.2 y jm).2;omega)
       unfold cA at c1 c2
       refine gO ?_
       refine cT ?_
       refine gO ?_
       refine AP.bQ 17 (Tree.node [] [0,1,2,3,4,5,6,8,9,10,11,12,13] [7,14] [Tree.node [0,8,9,10,11,12,13] [] [14] [Tree.node [0] [] [15] [Tree.node [] [16] [] []]],Tree.node [0,1,2,3,4,5,6] [] [7] [Tree.node [0] [] [15] [Tree.node [] [16] [] []]]]) (by kernel_rfl) rfl (by kernel_rfl) (by kernel_rfl) ?_
       refine bO ?_
       refine sE (an @c1 @c2) ?_
       refine⟨⟨by omega,by omega⟩,⟨by omega,by omega⟩,?_,?_⟩
       all_goals first|refine AQ.vV (by kernel_rfl) rfl r1 (xN hp) Tryz.tV Tryz.qG ?_|refine AQ.vV (by kernel_rfl) rfl r2 (xN Du) Tryz.tV Tryz.qG ?_
       all_goals refine sI ?_
       all_goals refine AQ.nx rfl ?_
       all_goals refine sE (an @c1 @c2) ?_
       all_goals refine⟨⟨by omega,by omega⟩,?_⟩
       all_goals first|refine AQ.vV (by kernel_rfl) rfl r1 (xN hp) Tryz.tV Tryz.qG ?_|refine AQ.vV (by kernel_rfl) rfl r2 (xN Du) Tryz.tV Tryz.qG ?_
       all_goals refine sI ?_
       all_goals refine AQ.nx rfl ?_
       all_goals refine sE (an @c1 @c2) ?_
       all_goals refine AQ.iP n1 (eN cH.1) (by kernel_rfl) rfl rfl rfl ih (fun r H' h=>h.low hq.gh) fun r H2 hU=>?_
       all_goals obtain⟨Sq,Q6,QS,ok,rfl,ma,M7,M4,Wd⟩:=hU.ex
       all_goals have d1:=ma.cell x lA
       all_goals have d2:=ma.cell y jm
       all_goals unfold cA at d1 d2
       all_goals simp only[go_sem,Nat.reduceAdd,Nat.reduceLeDiff,Nat.reduceSub,Int.reduceToNat,reduceCtorEq,j1,j2,j3,j4,j5,j6,j7]
       all_goals refine AQ.nx rfl ?_
       all_goals simp only[go_sem,Nat.reduceAdd,Nat.reduceLeDiff,Nat.reduceSub,Int.reduceToNat,reduceCtorEq,d1,d2]
       all_goals refine AQ.done ?_
       all_goals have eU:∀z,z<nb->z∉g.L->lk H2 z=lk H z:=fun z hz OB=>(hU.bU z (by omega) OB).trans (hq.bU z hz OB)
       all_goals have lr:(p,q)∈zs:=List.mem_of_getElem? hz
       all_goals have hl:=hq.l
       all_goals rw[du]at hl
       all_goals cases ok with
        |false=>
         refine gO ?_
         refine AE.ret rfl ⟨rfl,trivial⟩ ⟨⟨Sq,Q6,QS,false,rfl,ma,M7,?_,by have:=hq.n;omega⟩,eU⟩
         refine gL.stop (rt':=JC) (rest:=zs.drop (k+1)) (p:=(p,q)) hr.dn (by rw[hx];exact h3) (by rw[hy];exact h2) ?_ ?_ M4
         ·rw[hx,hy,ti];exact hl
         ·rw[hx,hy,ti];exact lr
        |true=>
         refine gE @hw ?_
         exact AE.round (k+1,Sq,Q6,QS,H2) ⟨ma,M7,hl.step lr M4,Nat.lt_of_le_of_lt Wd hq.n,ag,eU⟩ (by simp only;omega) (sU) rfl
termination_by N=>N
decreasing_by exact Gz
def pM (t:Tm):List AV:=[Iv ((min (wT t) 8000:Nat):Int),Iv (cL t)]
def lV:Option Tm->AV
 |none=> .agg [Bv true,Iv 0,Iv 0]
 |some t=> .agg (Bv false::pM t)
def kK (k:Kn):List AV:=(k.map (·.1)).map fun j=> .ob j 0
def kV (k:Kn):List AV:=k.map fun p=>lV p.2
theorem yG:Tryz.prog.underlying 179=some (.map 187 194):=by kernel_rfl
theorem abZ:Tryz.prog.underlying 187=some (.pointer 192):=by kernel_rfl
theorem Ir {k:Kn} {j:Nat} {p:Nat×Option Tm} (h:k[j]?=some p):(kV k)[j]?=some (lV p.2):=by rw[kV,List.getElem?_map,h];rfl
theorem DU {g:Gs} {up:Nat->Option Nat} {H:aa} (hG:GH g up H) {rt:Nat->Nat} {k:Kn} (hK:ic g.cl rt g.L k) {r:Nat} (hr:r∈g.L):∀(φ:al) (I:Nat->Prop) (w:World) (us:List Value) (u:Value),Real w φ I H->AV.ab w φ I (kK k) us->AV.den w φ I (.ob r 0) u->
  uf Tryz.prog 187 w us u/\(r∉k.map (·.1)->u∉us)/\∀j:Nat,(k.map (·.1))[j]?=some r->us[j]?=some u:=fun φ I w us u hR dW hu=>
 aaA (n:=3) abZ Tryz.RY hR hK.nd (fun j hj=>by
  refine⟨_,_,hG.cell j ?_⟩
  rcases List.mem_cons.1 hj with rfl|hj
  ·exact hr
  ·obtain⟨p,hp,rfl⟩:=List.mem_map.1 hj
   exact(hK.ro p hp).1) dW hu
structure Kl (nb kb n0 gF:Nat) (g:Gs) (up:Nat->Option Nat) (H:aa) (rt:Nat->Nat) (k1:Kn) (ks:List Nat) (k:Kn) (ts:List Tm) (H1:aa):Prop where
 gh:GH g up H1
 pm:∃ob,lk H1 kb=some ob/\lI ob (kK k) (kV k)
 ok:ic g.cl rt g.L k
 le:iJ k1 k
 d:pU k
 t6:lk H1 n0=some (.var (.cell 164) [Iv 0,Iv 0])
 t10:lk H1 gF=some (.var (.cell 164) [Iv ((min (1+aD ts) 8000:Nat):Int),Iv ((1+dK ts:Nat):Int)])
 tl:ts.length<=ks.length
 tt:∀(j:Nat) x t,ks[j]?=some x->ts[j]?=some t->(rt x,some t)∈k
 bU:∀x,x<nb->x≠kb->lk H1 x=lk H x
 low:cE nb H H1
theorem Mj {α:Type} {p q:α->Bool}:∀{L:List α},(∀c∈L,q c=true->p c=true)->(L.filter q).length<=(L.filter p).length
 |[],_=>by simp
 |c::L,h=>by
  have i:=Mj (L:=L) fun c hc=>h c (List.mem_cons_of_mem _ hc)
  have hc:=h c (List.mem_cons_self ..)
  rw[List.filter_cons,List.filter_cons]
  cases hq:q c with
  |true=>rw[hc hq];simpa using i
  |false=>
   simp only[Bool.false_eq_true,if_false]
   split
   ·simp;omega
   ·exact i
theorem YL (k:Kn) (r:Nat) (o:Option Tm):kK (k++[(r,o)])=kK k++[.ob r 0]:=by simp[kK]
theorem YN (k:Kn) (r:Nat) (o:Option Tm):kV (k++[(r,o)])=kV k++[lV o]:=by simp[kV]
theorem YM (k:Kn) (j r:Nat) (o:Option Tm):kV (k.set j (r,o))=(kV k).set j (lV o):=by rw[kV,kV,List.map_set]
theorem YK {k:Kn} {j r:Nat} {o o':Option Tm} (h:k[j]?=some (r,o)):kK (k.set j (r,o'))=kK k:=by rw[kK,kK,Rn h]
structure Tg (nb kb:Nat) (g:Gs) (H:aa) (rt:Nat->Nat) (k:Kn) (c:Nat) (r:AV) (H':aa):Prop where
 ex:(∃k' t ob,r= .aI [.agg (pM t),Bv true]/\lk H' kb=some ob/\lI ob (kK k') (kV k')/\ic g.cl rt g.L k'/\iJ k k'/\pU k'/\(rt c,some t)∈k')\/
  ∃x y,r= .aI [.agg [Iv x,Iv y],Bv false]/\∀s,kZ g.d rt s->Fk g.d s k c->False
 bU:∀x,x<nb->x≠kb->lk H' x=lk H x
 low:cE nb H H'
theorem PD (g:Gs) (hr:Gr g) (up:Nat->Option Nat) (rt rk:Nat->Nat) (hR:Rt g.L up rt rk) (Wa:g.L.length<=1000000) (u kb:Nat):∀(N:Nat) (k:Kn) (c nb:Nat) (H:aa) (ob:Ob),qv g.L k<=N->GH g up H->bD H<=nb->c∈g.L->u<nb->
  lk H kb=some ob->lI ob (kK k) (kV k)->ic g.cl rt g.L k->pU k->dz Tryz.prog nb 179 [.ob u 0,.ob c 0,.mp kb] H (Tg nb kb g H rt k c)
 |N,k,c,nb,H,ob,hN,hG,hnb,hc,hu,nX,jL,hK,hD=>by
  have eE:=hR.mem hc
  obtain⟨r,hx⟩:∃r,rt c=r:=⟨_,rfl⟩
  have s1:=yp nb hG hR hc
  rw[hx]at eE s1
  have pn:rt r=r:=hx▸hR.idem c
  have cr:=hG.cell r eE
  have rr:=hG.row r eE
  have Ac:=bZ H kb _ nX
  have He:∀x∈g.L,x≠kb/\g.dp x≠kb:=fun x hx=>by
   obtain⟨bs,clock,e,_⟩:=jL
   subst e
   refine⟨fun e=>?_,fun e=>?_⟩
   ·have:=hG.cell x hx;rw[e,nX]at this;cases this
   ·have:=hG.row x hx;rw[e,nX]at this
    unfold jw mC at this
    split at this<;>cases this
  obtain⟨n0,gU⟩:∃n0,ay nb H=n0:=⟨_,rfl⟩
  have cH:=dw nb H
  rw[gU]at cH
  simp only[go_sem,ay]at gU
  obtain⟨H1,nM⟩:∃H1:aa,H1=(n0,Ob.var (.cell 164) [Iv 0,Iv 0])::H:=⟨_,rfl⟩
  have sP:GH g up H1:=by rw[nM];exact hG.cons cH.2
  have e7:bD H1=n0+1:=by rw[nM];exact vI cH.2
  have o1:∀x,x<n0->lk H1 x=lk H x:=fun x hx=>by rw[nM,cJ (by omega)]
  have s1:=yp (n0+1) sP hR hc
  rw[hx]at s1
  have ag:=hG.lt cH.2
  have ku:=bz (show u<n0+1 by omega)
  have kc:=bz (show c<n0+1 by have:=(ag c hc).1;omega)
  have kr:=bz (show r<n0+1 by have:=(ag r eE).1;omega)
  have kk:=bz (show kb<n0+1 by omega)
  have k0:=bz (show n0<n0+1 by omega)
  have bh:=DU sP hK eE
  have Dh:lk H1 kb=some ob:=(o1 kb (by omega)).trans nX
  refine dz.walk [0,1,2,6,7,8,9,10,12,13,14,23,36,37,38,39,50] [6,8,10,13] Tryz.func179 rfl Tryz.ntmps179 (by kernel_rfl) (by rfl) fun W own I0 ao lay=>?_
  refine gO ?_
  rw[gU]
  rw[<-nM]
  refine AQ.iP (n0+1) (eN (show nb<=n0+1 by omega)) (by kernel_rfl) rfl rfl rfl s1 (fun r H' e=>by rw[e.1];exact cE.refl _ _) fun r' H' ⟨e1,e2⟩=>?_
  rw[e1,e2]
  clear e1 e2
  simp only[go_sem,Nat.reduceAdd,Nat.reduceLeDiff,Nat.reduceSub,Int.reduceToNat,reduceCtorEq,ku,kc,kr,kk,k0]
  refine AQ.go (by kernel_rfl) ?_
  refine sI ?_
  refine gO ?_
  by_cases hm:r∈k.map (·.1)
  ·obtain⟨j,hj⟩:=List.getElem?_of_mem hm
   obtain⟨o,Ha⟩:∃o,k[j]?=some (r,o):=by
    rw[List.getElem?_map]at hj
    cases h:k[j]? with
    |none=>rw[h]at hj;cases hj
    |some p=>rw[h]at hj;cases hj;exact⟨_,rfl⟩
   have lr:=List.mem_of_getElem? Ha
   have c_:=@AQ.Ep
   have lh:lk H1 n0=some (.var (.cell 164) [Iv 0,Iv 0]):=by rw[nM,gX]
   have Dk:=dw nb H1
   obtain⟨n8,tg⟩:∃n,ay nb H1=n:=⟨_,rfl⟩
   rw[tg]at Dk
   simp only[go_sem,ay]at tg
   have nG:=c7 (show n8≠n0 by omega)
   have hold:∀x,x<nb->∀o o',lk ((n8,o)::aR H1 n0 o') x=lk H x:=fun x iW o o'=>by rw[cJ (by omega),cD _ _ _ _ (by omega),o1 x (by omega)]
   have xj:∀o,lk (aR H1 n0 o) n0=some o:=fun o=>de _ _ _ lh
   cases o with
   |none=>
    refine AQ.Ep (x:=lV none) j (by kernel_rfl) rfl rfl Dh jL yG (fun φ I w us u jC U h2=>⟨(bh φ I w us u jC U h2).1,(bh φ I w us u jC U h2).2.2 j hj⟩) (Ir Ha) ?_
    simp only[go_sem,Nat.reduceAdd,Nat.reduceLeDiff,Nat.reduceSub,Int.reduceToNat,reduceCtorEq,lV]
    refine gO ?_
    rw[tg]
    refine sI ?_
    repeat(first|refine xA ?_|refine xB ?_|refine xC ?_|refine xE ?_|refine xD ?_|refine xK ?_|refine xS ?_|refine xM ?_|refine xT ?_|refine xF ?_|((first|refine xR ?_|refine xW ?_|refine gJ ?_);simp only[go_sem,Nat.reduceAdd,Nat.reduceLeDiff,Nat.reduceSub,Int.reduceToNat,reduceCtorEq,nG,lh])|(refine⟨by first|omega|(intros;simp_all;done)|(intros;simp_all;omega),?_⟩;try simp only[go_sem,Nat.reduceAdd,Nat.reduceLeDiff,Nat.reduceSub,Int.reduceToNat,reduceCtorEq,nG,lh]))
    refine AP.bQ 7 (Tree.node [] [0,1,2,3,4] [5] [Tree.node [2,3,4] [6] [] []]) (by kernel_rfl) rfl (by kernel_rfl) (by kernel_rfl) ?_
    refine bO ?_
    simp only[go_sem,Nat.reduceAdd,Nat.reduceLeDiff,Nat.reduceSub,Int.reduceToNat,reduceCtorEq,nG,lh]
    refine AQ.go (by kernel_rfl) ?_
    simp only[go_sem,Nat.reduceAdd,Nat.reduceLeDiff,Nat.reduceSub,Int.reduceToNat,reduceCtorEq,nG,lh]
    refine AQ.nx rfl ?_
    simp only[go_sem,Nat.reduceAdd,Nat.reduceLeDiff,Nat.reduceSub,Int.reduceToNat,reduceCtorEq,nG,lh]
    refine AQ.done ?_
    refine gO ?_
    refine AE.ret (sc:=(0+2<=2)/\True/\True) (xs:=[.agg [Iv 0,Iv 0],Bv false]) ?_ ?_ ?_
    ·show eW _ _ _ [.cell 6 164,.tmp 7]=_
     simp only[go_sem,Nat.reduceAdd,Nat.reduceLeDiff,Nat.reduceSub,Int.reduceToNat,reduceCtorEq,eW,nG,xj]
    ·exact⟨Nat.le_refl _,trivial,trivial⟩
    ·refine⟨.inr ⟨0,0,rfl,fun s hs dG=>?_⟩,fun x iW _=>hold x iW _ _,fun x iW=>by rw[hold x iW]⟩
     have U:=dG r lr
     rw[hs c,hx]at U
     omega
   |some t=>
    refine AQ.Ep (x:=lV (some t)) j (by kernel_rfl) rfl rfl Dh jL yG (fun φ I w us u jC U h2=>⟨(bh φ I w us u jC U h2).1,(bh φ I w us u jC U h2).2.2 j hj⟩) (Ir Ha) ?_
    simp only[go_sem,Nat.reduceAdd,Nat.reduceLeDiff,Nat.reduceSub,Int.reduceToNat,reduceCtorEq,lV,pM]
    refine gO ?_
    rw[tg]
    refine sI ?_
    repeat(first|refine xA ?_|refine xB ?_|refine xC ?_|refine xE ?_|refine xD ?_|refine xK ?_|refine xS ?_|refine xM ?_|refine xT ?_|refine xF ?_|((first|refine xR ?_|refine xW ?_|refine gJ ?_);simp only[go_sem,Nat.reduceAdd,Nat.reduceLeDiff,Nat.reduceSub,Int.reduceToNat,reduceCtorEq,nG,lh])|(refine⟨by first|omega|(intros;simp_all;done)|(intros;simp_all;omega),?_⟩;try simp only[go_sem,Nat.reduceAdd,Nat.reduceLeDiff,Nat.reduceSub,Int.reduceToNat,reduceCtorEq,nG,lh]))
    refine AP.bQ 7 (Tree.node [] [0,1,2,3,4] [5] [Tree.node [2,3,4] [6] [] []]) (by kernel_rfl) rfl (by kernel_rfl) (by kernel_rfl) ?_
    refine bO ?_
    simp only[go_sem,Nat.reduceAdd,Nat.reduceLeDiff,Nat.reduceSub,Int.reduceToNat,reduceCtorEq,nG,lh]
    refine AQ.go (by kernel_rfl) ?_
    simp only[go_sem,Nat.reduceAdd,Nat.reduceLeDiff,Nat.reduceSub,Int.reduceToNat,reduceCtorEq,nG,lh]
    refine AQ.nx rfl ?_
    simp only[go_sem,Nat.reduceAdd,Nat.reduceLeDiff,Nat.reduceSub,Int.reduceToNat,reduceCtorEq,nG,lh]
    refine AQ.done ?_
    refine gO ?_
    refine AE.ret (sc:=(0+2<=2)/\True/\True) (xs:=[.agg (pM t),Bv true]) ?_ ?_ ?_
    ·show eW _ _ _ [.cell 6 164,.tmp 7]=_
     simp only[go_sem,Nat.reduceAdd,Nat.reduceLeDiff,Nat.reduceSub,Int.reduceToNat,reduceCtorEq,eW,nG,xj,pM]
    ·exact⟨Nat.le_refl _,trivial,trivial⟩
    ·exact⟨.inl ⟨k,t,ob,rfl,(hold kb (by omega) _ _).trans nX,jL,hK,iJ.refl k,hD,by rw[hx];exact lr⟩,fun x iW _=>hold x iW _ _,fun x iW=>by rw[hold x iW]⟩
  ·have Dk:=dw nb H1
   obtain⟨n8,tg⟩:∃n,ay nb H1=n:=⟨_,rfl⟩
   rw[tg]at Dk
   simp only[go_sem,ay]at tg
   refine AQ.aaB (zx:= .agg [Bv false,Iv 0,Iv 0]) (z:= .agg #[.bool false,.int .i64 0,.int .i64 0]) (by kernel_rfl) rfl rfl Dh jL yG (fun φ I w us u jC U h2=>⟨(bh φ I w us u jC U h2).1,(bh φ I w us u jC U h2).2.1 hm⟩) (by kernel_rfl) (fun w φ I=>by simp[AV.den,AV.ab,IV.den,Value.oneCell']) ?_
   refine sI ?_
   refine gO ?_
   rw[tg]
   refine gO ?_
   obtain⟨H2,q8⟩:∃H2:aa,H2=(n8,Ob.var (.cell 194) [Bv false,Iv 0,Iv 0])::H1:=⟨_,rfl⟩
   have o2:∀x,x<n8->lk H2 x=lk H1 x:=fun x hx=>by rw[q8,cJ (by omega)]
   have ma:GH g up H2:=by rw[q8];exact sP.cons Dk.2
   have NY:=DU ma hK eE
   have NC:lk H2 kb=some ob:=(o2 kb (by omega)).trans Dh
   have lh:lk H2 n0=some (.var (.cell 164) [Iv 0,Iv 0]):=by rw[o2 n0 (by omega),nM,gX]
   rw[<-q8]
   refine AQ.aaD (kx:= .ob r 0) (xv:=lV none) (by kernel_rfl) rfl rfl rfl NC jL yG (fun φ I w us u jC U h2=>⟨(NY φ I w us u jC U h2).1,(NY φ I w us u jC U h2).2.1 hm⟩) fun Jg XK=>?_
   obtain⟨H3,p5⟩:∃H3,H3=aR H2 kb Jg:=⟨_,rfl⟩
   have o3:∀x,x≠kb->lk H3 x=lk H2 x:=fun x hx=>by rw[p5,cD _ _ _ _ hx]
   have Hd:lk H3 kb=some Jg:=by rw[p5];exact de _ _ _ NC
   have uL:GH g up H3:=ma.same fun x hx=>⟨o3 x (He x hx).1,o3 _ (He x hx).2⟩
   have MP:=(o3 n0 (by omega)).trans lh
   rw[<-p5]
   obtain⟨gF,HV⟩:∃n,ay nb H3=n:=⟨_,rfl⟩
   have Ho:=dw nb H3
   rw[HV]at Ho
   have aea:=bZ H3 n0 _ MP
   simp only[go_sem,ay]at HV
   refine sI ?_
   refine gO ?_
   rw[HV]
   have XY:=uL.lt Ho.2
   have T4:=c7 (show gF≠r by have:=(XY r eE).1;omega)
   have wM:=uL.cell r eE
   unfold cA at wM
   simp only[go_sem,Nat.reduceAdd,Nat.reduceLeDiff,Nat.reduceSub,Int.reduceToNat,reduceCtorEq,T4,wM]
   refine gO ?_
   obtain⟨H4,l8⟩:∃H4:aa,H4=(gF,Ob.var (.cell 164) [Iv 1,Iv 1])::H3:=⟨_,rfl⟩
   have o4:∀x,x<gF->lk H4 x=lk H3 x:=fun x hx=>by rw[l8,cJ (by omega)]
   have ad7:=bZ H3 kb _ Hd
   have rm:Kl nb kb n0 gF g up H rt (k++[(r,none)]) (g.cl r).ks (k++[(r,none)]) [] H4:=by
    refine⟨by rw[l8];exact uL.cons Ho.2,⟨Jg,(o4 kb (by omega)).trans Hd,by rw[YL,YN];exact XK⟩,hK.opened eE pn hm,iJ.refl _,hD.opened r,(o4 n0 (by omega)).trans MP,by rw[l8,gX];rfl,Nat.zero_le _,fun j x t _ h=>by simp at h,fun x iW rO=>?_,fun x iW=>?_⟩
    ·rw[o4 x (by omega),o3 x rO,o2 x (by omega),o1 x (by omega)]
    ·by_cases qq:x=kb
     ·subst qq
      rw[o4 x (by omega),Hd,nX];rfl
     ·rw[o4 x (by omega),o3 x qq,o2 x (by omega),o1 x (by omega)]
   have GA:qv g.L (k++[(r,none)])<qv g.L k:=Y1 eE hm (by simp) (fun c hc=>by simp at hc⊢;exact .inl hc)
   have V_:=(hr.len r).1
   have Hf:∀ki:Kn,iJ (k++[(r,none)]) ki->∀s x,kZ g.d rt s->Fk g.d s k c->(g.cl r).nm≠[]->x∈(g.cl r).ks->Fk g.d s ki x:=fun ki hle s x hs dG eT qq r' mX=>by
    have h0:=hr.dn.TT eT qq s
    rcases List.mem_append.1 ((hle.b r').1 mX)with U|U
    ·have h2:=dG r' U
     rw[hs c,hx]at h2
     omega
    ·cases List.mem_singleton.1 U
     exact h0
   rw[<-l8]
   refine AP.loop rfl (α:=Kn×List Tm×aa) (fun q=>[(0,.ob u 0),(1,.ob r 0),(2,.mp kb),(6,.ob n0 0),(10,.ob gF 0),(36,.os (g.dp r) 1 0 (g.cl r).ks.length),(37,Iv (g.cl r).ks.length),(38,Iv q.2.1.length)]) (fun q=>q.2.2) (fun q=>Kl nb kb n0 gF g up H rt (k++[(r,none)]) (g.cl r).ks q.1 q.2.1 q.2.2) (fun q=>(g.cl r).ks.length-q.2.1.length) (_,[],H4) rm (sU) rfl fun⟨ki,ts,H5⟩ hq=>?_
   simp only at hq⊢
   rcases Nat.eq_or_lt_of_le hq.tl with aC|s0
   ·have Oe:=hq.t10
    have X6:=hq.t6
    obtain⟨Qh,z8,Hy⟩:=hq.pm
    have lr:(r,(none:Option Tm))∈ki:=(hq.le.b r).2 (by simp)
    obtain⟨j,hj⟩:=List.getElem?_of_mem lr
    have kE:(ki.map (·.1))[j]?=some r:=by rw[List.getElem?_map,hj];rfl
    have NZ:=DU hq.gh hq.ok eE
    obtain⟨t,ht⟩:∃t,t=(if(g.cl r).nm=[]then bt (g.cl r).num else .mk (g.cl r).nm 0 ts):=⟨_,rfl⟩
    have jo:(g.cl r).nm=[]->ts=[]:=fun e=>by
     have:=hr.vk r e
     rw[this]at aC
     exact List.eq_nil_of_length_eq_zero aC
    have xy:wT t=1+aD ts/\cL t=1+dK ts:=by
     by_cases e:(g.cl r).nm=[]
     ·rw[ht,if_pos e,jo e];exact⟨rfl,rfl⟩
     ·rw[ht,if_neg e,wT,cL];exact⟨rfl,rfl⟩
    have Ya:Tc g.cl rt r t:=by
     by_cases e:(g.cl r).nm=[]
     ·rw[ht,if_pos e]
      have:=Tc.var (cl:=g.cl) (rt:=rt) (c:=r) (by rw[pn];exact e)
      rw[pn]at this;exact this
     ·rw[ht,if_neg e]
      have:=Tc.fn (cl:=g.cl) (rt:=rt) (c:=r) (ts:=ts) (by rw[pn];exact e) (by rw[pn];exact aC) (fun i x t U h2=>by
       rw[pn]at U
       exact(hq.ok.tc _ t (hq.tt i x t U h2)).same (by rw[hR.idem]))
      rw[pn]at this;exact this
    have fF:∀x∈(g.cl r).ks,∃u,(rt x,some u)∈ki:=fun x hx=>by
     obtain⟨i,hi⟩:=List.getElem?_of_mem hx
     have hil:=(List.getElem?_eq_some_iff.1 hi).1
     exact⟨ts[i]'(by omega),hq.tt i x _ hi (List.getElem?_eq_getElem (by omega))⟩
    have ry:cL t<=nn ki+1:=by
     rw[xy.2]
     have:=LW ts (nn ki) fun t ht=>by
      obtain⟨i,hi,e⟩:=List.getElem_of_mem ht
      exact hq.d _ t (hq.tt i ((g.cl r).ks[i]'(by omega)) t (List.getElem?_eq_getElem (by omega)) (by rw[List.getElem?_eq_getElem hi,e]))
     omega
    refine gO ?_
    refine cF ?_
    refine gE @Oe ?_
    refine AQ.aaC (kx:= .ob r 0) (xv:=lV (some t)) j (by kernel_rfl) rfl rfl (by simp only[go_sem,Nat.reduceAdd,Nat.reduceLeDiff,Nat.reduceSub,Int.reduceToNat,reduceCtorEq,xy.1,xy.2,lV,pM]) z8 Hy yG (fun φ I w us u jC U h2=>⟨(NZ φ I w us u jC U h2).1,(NZ φ I w us u jC U h2).2.2 j kE⟩) fun A8 Hz=>?_
    obtain⟨H6,sJ⟩:∃H6,H6=aR H5 kb A8:=⟨_,rfl⟩
    have o6:∀x,x≠kb->lk H6 x=lk H5 x:=fun x hx=>by rw[sJ,cD _ _ _ _ hx]
    have z_:lk H6 kb=some A8:=by rw[sJ];exact de _ _ _ z8
    have p7:=(o6 n0 (by omega)).trans X6
    have wO:=(o6 gF (by omega)).trans Oe
    have xj:∀o,lk (aR H6 n0 o) n0=some o:=fun o=>de _ _ _ p7
    have hold:∀x,x≠n0->∀o,lk (aR H6 n0 o) x=lk H6 x:=fun x h o=>cD _ _ _ _ h
    rw[<-sJ]
    refine sI ?_
    refine gE (an @p7 @wO) ?_
    refine AE.ret (sc:=(0+2<=2)/\True/\True) (xs:=[.agg (pM t),Bv true]) ?_ ?_ ?_
    ·show eW _ _ _ [.cell 6 164,.tmp 7]=_
     simp only[go_sem,Nat.reduceAdd,Nat.reduceLeDiff,Nat.reduceSub,Int.reduceToNat,reduceCtorEq,eW,xj,pM,xy.1,xy.2]
    ·exact⟨Nat.le_refl _,trivial,trivial⟩
    ·refine⟨.inl ⟨ki.set j (r,some t),t,A8,rfl,(hold kb (by omega) _).trans z_,by rw[YK hj,YM];exact Hz,hq.ok.closed hj Ya fF,hq.le.closed hq.ok hm hj,hq.d.closed hq.ok hj ry,?_⟩,fun x iW rO=>?_,fun x iW=>?_⟩
     ·rw[hx];exact(EM hq.ok.nd hj _).2 (.inl rfl)
     ·rw[hold x (by omega),o6 x rO];exact hq.bU x iW rO
     ·by_cases qq:x=kb
      ·subst qq
       rw[hold x (by omega),z_,nX];rfl
      ·rw[hold x (by omega),o6 x qq];exact hq.low x iW
   ·obtain⟨x,tf⟩:∃x,(g.cl r).ks[ts.length]?=some x:=⟨_,List.getElem?_eq_getElem s0⟩
    have pg:=hr.kids r eE x (List.mem_of_getElem? tf)
    have HF:lk H5 (g.dp r)=some (.var (.row 187) ((g.cl r).ks.map fun k=> .ob k 0)):=by
     have:=hq.gh.row r eE
     unfold jw mC at this
     cases iy:(g.cl r).ks with
     |nil=>rw[iy]at s0;simp at s0
     |cons a b=>rw[iy]at this;exact this
    have hw:=wr (x:=(ts.length:Int)+1) (by omega)
    refine gO ?_
    refine cT ?_
    refine gE @HF ?_
    refine AQ.vV (by kernel_rfl) rfl (hq.gh.row r eE) (xN tf) Tryz.tV Tryz.qG ?_
    refine sI ?_
    refine gO ?_
    obtain⟨Qh,z8,Hy⟩:=hq.pm
    obtain⟨n5,s5⟩:∃n,ay nb H5=n:=⟨_,rfl⟩
    have kC:=dw nb H5
    rw[s5]at kC
    have hkN:qv g.L ki<qv g.L k:=Nat.lt_of_le_of_lt (Nat.le_of_not_lt fun h=>by
     have:qv g.L ki<=qv g.L (k++[(r,none)]):=Mj fun c _ hc=>by
      simp only[Bool.not_eq_true',List.contains_eq_mem,decide_eq_false_iff_not]at hc⊢
      exact fun h'=>hc (hq.le.keys h')
     omega) GA
    have Gz:N-1<N:=by omega
    have uM:=hq.gh.lt kC.2
    have Y2:=bZ H5 n0 _ hq.t6
    have aef:=bZ H5 gF _ hq.t10
    have lkb:=bZ H5 kb _ z8
    have ih:=PD g hr up rt rk hR Wa u kb (N-1) ki x n5 H5 Qh (by omega) hq.gh kC.2 pg (by omega) z8 Hy hq.ok hq.d
    have j1:=bz (show u<n5 by omega)
    have j2:=bz (show r<n5 by have:=(uM r eE).1;omega)
    have j3:=bz (show kb<n5 by omega)
    have j4:=bz (show n0<n5 by omega)
    have j5:=bz (show gF<n5 by omega)
    have j6:=bz (show g.dp r<n5 by have:=(uM r eE).2;omega)
    have j7:=bz (show x<n5 by have:=(uM x pg).1;omega)
    refine AQ.iP n5 (eN kC.1) (by kernel_rfl) rfl rfl rfl ih (fun r H' h=>h.low) fun r6 H6 hM=>?_
    have p7:=(hM.bU n0 (by omega) (by omega)).trans hq.t6
    have wO:=(hM.bU gF (by omega) (by omega)).trans hq.t10
    obtain⟨rT,rF⟩:∃n,ay nb H6=n:=⟨_,rfl⟩
    have C9:=dw nb H6
    rw[rF]at C9
    simp only[go_sem,ay]at rF
    have l0:=bZ H6 n0 _ p7
    have l10:=bZ H6 gF _ wO
    have Dc:∀z,z<nb->z≠kb->lk H6 z=lk H z:=fun z fI og=>(hM.bU z (by omega) og).trans (hq.bU z fI og)
    have Dd:cE nb H H6:=fun z hz=>(hM.low z (by omega)).trans (hq.low z hz)
    have KL:=c7 (show rT≠n0 by omega)
    have yY:=c7 (show rT≠gF by omega)
    simp only[go_sem,Nat.reduceAdd,Nat.reduceLeDiff,Nat.reduceSub,Int.reduceToNat,reduceCtorEq,j1,j2,j3,j4,j5,j6,j7]
    rcases hM.ex with⟨k',t,A8,rfl,z_,Hz,M5,NI,M0,u_⟩|⟨a,b,rfl,a_⟩
    ·refine AQ.go (by kernel_rfl) ?_
     simp only[go_sem,Nat.reduceAdd,Nat.reduceLeDiff,Nat.reduceSub,Int.reduceToNat,reduceCtorEq,pM]
     refine gO ?_
     rw[rF]
     refine gO ?_
     have Dx:∀o,lk (aR H6 gF o) gF=some o:=fun o=>de _ _ _ wO
     refine AP.bQ 16 (Tree.node [] [0,1,2,3,4,5,6,7,8,9,10,11,12] [13] [Tree.node [8,9,10,11] [14] [15] [Tree.node [] [] [] []]]) (by kernel_rfl) rfl (by kernel_rfl) (by kernel_rfl) ?_
     refine bO ?_
     simp only[go_sem,Nat.reduceAdd,Nat.reduceLeDiff,Nat.reduceSub,Int.reduceToNat,reduceCtorEq,yY,wO]
     refine AQ.go (by kernel_rfl) ?_
     simp only[go_sem,Nat.reduceAdd,Nat.reduceLeDiff,Nat.reduceSub,Int.reduceToNat,reduceCtorEq,yY,wO]
     refine AQ.nx rfl ?_
     simp only[go_sem,Nat.reduceAdd,Nat.reduceLeDiff,Nat.reduceSub,Int.reduceToNat,reduceCtorEq,yY,Dx]
     have mg:cL t<=1000000:=by
      have U:=M0 _ t u_
      have h2:=ZT M5
      omega
     have w1:=wr (x:=((min (1+aD ts) 8000:Nat):Int)+((min (wT t) 8000:Nat):Int)) (by omega)
     have w2:=wr (x:=(cL t:Int)+1) (by omega)
     have e1:(if 8000<((min (1+aD ts) 8000:Nat):Int)+((min (wT t) 8000:Nat):Int)then 8000 else((min (1+aD ts) 8000:Nat):Int)+((min (wT t) 8000:Nat):Int))=((min (1+aD (ts++[t])) 8000:Nat):Int):=by
      rw[J8];split<;>omega
     have e2:(if((1+dK ts:Nat):Int)<(cL t:Int)+1 then(cL t:Int)+1 else((1+dK ts:Nat):Int))=((1+dK (ts++[t]):Nat):Int):=by
      rw[LX];split<;>omega
     refine AQ.go (by kernel_rfl) ?_
     simp only[go_sem,Nat.reduceAdd,Nat.reduceLeDiff,Nat.reduceSub,Int.reduceToNat,reduceCtorEq,yY,Dx,w1,w2,e1,e2]
     refine AQ.nx rfl ?_
     simp only[go_sem,Nat.reduceAdd,Nat.reduceLeDiff,Nat.reduceSub,Int.reduceToNat,reduceCtorEq,yY,Dx,w1,w2,e1,e2]
     rw[Aq]
     refine AQ.done ?_
     refine gE @hw ?_
     have Hl:(ts++[t]).length=ts.length+1:=by rw[List.length_append];rfl
     have h7:∀z,z≠gF->z<rT->∀o o',lk ((rT,o)::aR H6 gF o') z=lk H6 z:=fun z U h2 o o'=>by rw[cJ (by omega),cD _ _ _ _ U]
     refine AE.round (k',ts++[t],_) ?_ (by simp only[Hl];omega) (by simp only[Hl];exact(sU)) rfl
     refine⟨hq.gh.same fun z hz=>?_,⟨A8,(h7 kb (by omega) (by have:=bZ H6 kb _ z_;omega) _ _).trans z_,Hz⟩,M5,hq.le.trans NI,M0,(h7 n0 (by omega) (by omega) _ _).trans p7,by rw[cJ (by omega),Dx],by rw[Hl];omega,fun i y v U h2=>?_,fun z fI og=>?_,fun z hz=>?_⟩
     ·have d1:=uM z hz
      have d2:=He z hz
      have d3:z≠gF:=fun e=>by
       have:=hq.gh.cell z hz
       rw[e,hq.t10]at this
       cases this
      have d4:g.dp z≠gF:=fun e=>by
       have:=hq.gh.row z hz
       rw[e,hq.t10]at this
       unfold jw mC at this
       split at this<;>cases this
      have q1:=hM.bU z d1.1 d2.1
      have q2:=hM.bU (g.dp z) d1.2 d2.2
      have p1:=bZ H6 z _ (q1.trans (hq.gh.cell z hz))
      have p2:=bZ H6 _ _ (q2.trans (hq.gh.row z hz))
      exact⟨(h7 z d3 (by omega) _ _).trans q1,(h7 _ d4 (by omega) _ _).trans q2⟩
     ·rcases Nat.lt_or_ge i ts.length with hi|hi
      ·rw[List.getElem?_append_left hi]at h2
       exact NI.f _ _ (hq.tt i y v U h2)
      ·rw[List.getElem?_append_right hi]at h2
       have uY:i=ts.length:=by
        have:=(List.getElem?_eq_some_iff.1 h2).1
        simp at this;omega
       subst uY
       rw[tf]at U
       cases U
       simp at h2
       subst h2
       exact u_
     ·exact(h7 z (by omega) (by omega) _ _).trans (Dc z fI og)
     ·exact(congrArg Option.isSome (h7 z (by omega) (by omega) _ _)).trans (Dd z hz)
    ·refine AQ.go (by kernel_rfl) ?_
     refine sI ?_
     refine gO ?_
     rw[rF]
     refine gO ?_
     simp only[go_sem,Nat.reduceAdd,Nat.reduceLeDiff,Nat.reduceSub,Int.reduceToNat,reduceCtorEq,KL,p7]
     refine gO ?_
     have xj:∀o,lk (aR H6 n0 o) n0=some o:=fun o=>de _ _ _ p7
     have h7:∀z,z≠n0->z<rT->∀o o',lk ((rT,o)::aR H6 n0 o') z=lk H6 z:=fun z U h2 o o'=>by rw[cJ (by omega),cD _ _ _ _ U]
     refine AE.ret (sc:=(0+2<=2)/\True/\True) (xs:=[.agg [Iv 0,Iv 0],Bv false]) ?_ ?_ ?_
     ·show eW _ _ _ [.cell 6 164,.tmp 7]=_
      simp only[go_sem,Nat.reduceAdd,Nat.reduceLeDiff,Nat.reduceSub,Int.reduceToNat,reduceCtorEq,eW,xj,KL]
     ·exact⟨Nat.le_refl _,trivial,trivial⟩
     ·refine⟨.inr ⟨0,0,rfl,fun s hs dG=>a_ s hs (Hf ki hq.le s x hs dG (fun e=>?_) (List.mem_of_getElem? tf))⟩,fun z fI og=>?_,fun z hz=>?_⟩
      ·rw[hr.vk r e]at s0;simp at s0
      ·rw[h7 z (by omega) (by omega)];exact Dc z fI og
      ·rw[h7 z (by omega) (by omega)];exact Dd z hz
termination_by N=>N
decreasing_by exact Gz
theorem GH.x2 {g:Gs} {up:Nat->Option Nat} {rt rk:Nat->Nat} {H:aa} (h:GH g up H) (hr:Gr g) (hR:Rt g.L up rt rk) {nb:Nat} (hn:bD H<=nb):∀c∈g.L,kY nb (.var 192 (cA g up c))/\kY nb (jw (g.cl c).ks):=fun c hc=>by
 refine⟨fun x hx=>?_,fun x hx=>EB fun hk=>by have:=(h.lt hn x (hr.kids c hc x hk)).1;omega⟩
 have U:=(h.lt hn c hc).2
 have h2:(pO (up c)).men x=false:=by
  cases hu:up c with
  |none=>rfl
  |some d=>
   have:=(h.lt hn d (hR.go c hc d hu).1).1
   simp only[pO,AV.men,c7 (show d≠x by omega)]
 simp only[Ob.men,cA,AV.mens,h2,AV.men,c7 (show g.dp c≠x by omega),Bool.or_false]
theorem GH.bU {g:Gs} {up:Nat->Option Nat} {rt rk:Nat->Nat} {H H':aa} (h:GH g up H) (hr:Gr g) (hR:Rt g.L up rt rk) {nb:Nat} (hn:bD H<=nb) (ho:∀x o,x<nb->lk H x=some o->kY nb o->lk H' x=some o):GH g up H':=
 ⟨fun c hc=>ho c _ (h.lt hn c hc).1 (h.cell c hc) (h.x2 hr hR hn c hc).1,fun c hc=>ho _ _ (h.lt hn c hc).2 (h.row c hc) (h.x2 hr hR hn c hc).2⟩
structure Th (nb:Nat) (H:aa) (t:Tm) (r:AV) (H':aa):Prop where
 r:r=aP t
 bU:∀x o,x<nb->lk H x=some o->kY nb o->lk H' x=some o
 low:cE nb H H'
structure Ko (nb n2 n3 n4:Nat) (g:Gs) (up:Nat->Option Nat) (H:aa) (nm:List UInt8) (ts:List Tm) (k:Nat) (H1:aa):Prop where
 gh:GH g up H1
 c2:lk H1 n2=some (.var (.cell 71) [Sv [],Iv 0,ew])
 c3:lk H1 n3=some (.var (.cell 71) [Sv nm,Iv 0,.os n4 3 0 k])
 c4:lk H1 n4=some (.vec 71 3 (aA (ts.take k)))
 kl:k<=ts.length
 bU:∀x o,x<nb->lk H x=some o->kY nb o->lk H1 x=some o
 low:cE nb H H1
theorem R1 (g:Gs) (hr:Gr g) (up:Nat->Option Nat) (rt rk:Nat->Nat) (hR:Rt g.L up rt rk):∀(N:Nat) (t:Tm) (c nb:Nat) (H:aa),wT t<=N->Tc g.cl rt c t->c∈g.L->GH g up H->bD H<=nb->dz Tryz.prog nb 123 [.ob c 0] H (Th nb H t)
 |0,t,_,_,_,h,_,_,_,_=>by have:=qI t;omega
 |N+1,t,c,nb,H,hN,hT,hc,hG,hnb=>by
  have eE:=hR.mem hc
  obtain⟨r,hx⟩:∃r,rt c=r:=⟨_,rfl⟩
  rw[hx]at eE
  obtain⟨n2,ga⟩:∃n,ay nb H=n:=⟨_,rfl⟩
  have cH:=dw nb H
  rw[ga]at cH
  simp only[go_sem,ay]at ga
  obtain⟨H1,nM⟩:∃H1:aa,H1=(n2,Ob.var (.cell 71) [Sv [],Iv 0,ew])::H:=⟨_,rfl⟩
  have sP:GH g up H1:=by rw[nM];exact hG.cons cH.2
  have e7:bD H1=n2+1:=by rw[nM];exact vI cH.2
  have o1:∀x,x<n2->lk H1 x=lk H x:=fun x hx=>by rw[nM,cJ (by omega)]
  have Gj:lk H1 n2=some (Ob.var (.cell 71) [Sv [],Iv 0,ew]):=by rw[nM,gX]
  have s1:=yp (n2+1) sP hR hc
  rw[hx]at s1
  have ag:=hG.lt cH.2
  have Xe:=sP.lt (Nat.le_refl _)
  have kc:=bz (show c<n2+1 by have:=(ag c hc).1;omega)
  have kr:=bz (show r<n2+1 by have:=(ag r eE).1;omega)
  have k2:=bz (show n2<n2+1 by omega)
  have cr:=sP.cell r eE
  unfold cA at cr
  refine dz.walk [0,2,3,5,12,26,27,28,29] [2,3] Tryz.func123 rfl Tryz.ntmps123 (by kernel_rfl) (by rfl) fun W own I0 ao lay=>?_
  refine gO ?_
  rw[ga]
  rw[<-nM]
  refine AQ.iP (n2+1) (eN (show nb<=n2+1 by omega)) (by kernel_rfl) rfl rfl rfl s1 (fun r H' e=>by rw[e.1];exact cE.refl _ _) fun r' H' ⟨e1,e2⟩=>?_
  rw[e1,e2]
  clear e1 e2
  simp only[go_sem,Nat.reduceAdd,Nat.reduceLeDiff,Nat.reduceSub,Int.reduceToNat,reduceCtorEq,kc,kr,k2]
  refine AQ.go (by kernel_rfl) ?_
  refine sI ?_
  repeat(first|refine xA ?_|refine xB ?_|refine xC ?_|refine xE ?_|refine xD ?_|refine xK ?_|refine xS ?_|refine xM ?_|refine xT ?_|refine xF ?_|((first|refine xR ?_|refine xW ?_|refine gJ ?_);simp only[go_sem,Nat.reduceAdd,Nat.reduceLeDiff,Nat.reduceSub,Int.reduceToNat,reduceCtorEq,cr])|(refine⟨by first|omega|(intros;simp_all;done)|(intros;simp_all;omega),?_⟩;try simp only[go_sem,Nat.reduceAdd,Nat.reduceLeDiff,Nat.reduceSub,Int.reduceToNat,reduceCtorEq,cr]))
  refine AP.cond rfl rfl (fun h=>?_) (fun h=>?_)
  ·have h:(g.cl r).nm=[]:=by simpa using h
   have ht:t=bt (g.cl r).num:=by
    have:=Tc.zg hT (.var (by rw[hx];exact h))
    rw[hx]at this;exact this
   have gW:∀o,lk (aR H1 n2 o) n2=some o:=fun o=>de _ _ _ Gj
   repeat(first|refine xA ?_|refine xB ?_|refine xC ?_|refine xE ?_|refine xD ?_|refine xK ?_|refine xS ?_|refine xM ?_|refine xT ?_|refine xF ?_|((first|refine xR ?_|refine xW ?_|refine gJ ?_);simp only[go_sem,Nat.reduceAdd,Nat.reduceLeDiff,Nat.reduceSub,Int.reduceToNat,reduceCtorEq,cr])|(refine⟨by first|omega|(intros;simp_all;done)|(intros;simp_all;omega),?_⟩;try simp only[go_sem,Nat.reduceAdd,Nat.reduceLeDiff,Nat.reduceSub,Int.reduceToNat,reduceCtorEq,cr]))
   refine AQ.fn (by kernel_rfl) rfl rfl rfl (E5 _) rfl ?_
   refine sE @Gj ?_
   refine gO ?_
   refine AE.ret (sc:=(0+3<=3)) (xs:=[aP t]) ?_ ?_ ?_
   ·show eW _ _ _ [.cell 2 71]=_
    simp only[go_sem,Nat.reduceAdd,Nat.reduceLeDiff,Nat.reduceSub,Int.reduceToNat,reduceCtorEq,eW,gW]
    rw[ht,tY]
   ·exact Nat.le_refl _
   ·have eU:∀x,x<nb->∀o,lk (aR H1 n2 o) x=lk H x:=fun x hx o=>by rw[cD _ _ _ _ (by omega),o1 x (by omega)]
    exact⟨rfl,fun x o hx h _=>(eU x hx _).trans h,fun x hx=>by rw[eU x hx]⟩
  ·have h:(g.cl r).nm≠[]:=by simpa using h
   obtain⟨ts,ht,hl,hk⟩:∃ts,t= .mk (g.cl r).nm 0 ts/\ts.length=(g.cl r).ks.length/\∀(k x:Nat) (t:Tm),(g.cl r).ks[k]?=some x->ts[k]?=some t->Tc g.cl rt x t:=by
    cases hT with
    |var hv=>rw[hx]at hv;exact absurd hv h
    |fn _ hl hk=>rw[hx]at hl hk⊢;exact⟨_,rfl,hl,hk⟩
   have Ow:ay nb H1=n2+1:=by
    unfold ay
    rw[e7,eN (by omega),cond_true]
   simp only[go_sem,ay]at Ow
   repeat(first|refine xA ?_|refine xB ?_|refine xC ?_|refine xE ?_|refine xD ?_|refine xK ?_|refine xS ?_|refine xM ?_|refine xT ?_|refine xF ?_|((first|refine xR ?_|refine xW ?_|refine gJ ?_);simp only[go_sem,Nat.reduceAdd,Nat.reduceLeDiff,Nat.reduceSub,Int.reduceToNat,reduceCtorEq,cr])|(refine⟨by first|omega|(intros;simp_all;done)|(intros;simp_all;omega),?_⟩;try simp only[go_sem,Nat.reduceAdd,Nat.reduceLeDiff,Nat.reduceSub,Int.reduceToNat,reduceCtorEq,cr]))
   rw[Ow]
   have T5:=c7 (show n2+1≠r by have:=(ag r eE).1;omega)
   simp only[go_sem,Nat.reduceAdd,Nat.reduceLeDiff,Nat.reduceSub,Int.reduceToNat,reduceCtorEq,T5]
   refine gO ?_
   refine AP.jv (n2+1) 2 71 3 gX rfl ?_
   have Yv:∀o,ay nb ((n2+1,o)::H1)=n2+2:=fun o=>by
    unfold ay
    rw[vI (by omega),eN (by omega),cond_true]
   rw[Yv,HK]
   refine sI ?_
   obtain⟨H4,l8⟩:∃H4:aa,H4=(n2+2,Ob.vec 71 3 [])::(n2+1,Ob.var (.cell 71) [Sv (g.cl r).nm,Iv 0,.os (n2+2) 3 0 0])::H1:=⟨_,rfl⟩
   have V_:=(hr.len r).1
   have o4:∀x,x≠n2+2->x≠n2+1->lk H4 x=lk H1 x:=fun x U h2=>by rw[l8,cJ U,cJ h2]
   have rm:Ko nb n2 (n2+1) (n2+2) g up H (g.cl r).nm ts 0 H4:=by
    refine⟨sP.same fun c hc=>?_,(o4 n2 (by omega) (by omega)).trans Gj,by rw[l8,cJ (by omega),gX],by rw[l8,gX];rfl,Nat.zero_le _,fun x o hx h _=>?_,fun x hx=>?_⟩
    ·have:=Xe c hc
     exact⟨o4 _ (by omega) (by omega),o4 _ (by omega) (by omega)⟩
    ·rw[o4 x (by omega) (by omega),o1 x (by omega)];exact h
    ·rw[o4 x (by omega) (by omega),o1 x (by omega)]
   refine AP.loop rfl (α:=Nat×aa) (fun q=>[(2,.ob n2 0),(3,.ob (n2+1) 0),(26,.os (g.dp r) 1 0 (g.cl r).ks.length),(27,Iv (g.cl r).ks.length),(28,Iv q.1)]) (fun q=>q.2) (fun q=>Ko nb n2 (n2+1) (n2+2) g up H (g.cl r).nm ts q.1 q.2) (fun q=>ts.length-q.1) (0,H4) rm (sU) l8.symm fun⟨k,H5⟩ hq=>?_
   simp only at hq⊢
   have wN:=hq.c2
   have CI:=hq.c3
   have Gm:=hq.c4
   rcases Nat.eq_or_lt_of_le hq.kl with aC|s0
   ·subst aC
    refine gO ?_
    refine cF ?_
    refine gE (an @CI @wN) ?_
    have gW:∀o,lk (aR H5 n2 o) n2=some o:=fun o=>de _ _ _ wN
    have fU:∀x,x≠n2->∀o,lk (aR H5 n2 o) x=lk H5 x:=fun x h o=>cD _ _ _ _ h
    have fi:(aA (ts.take ts.length)).length=ts.length:=by rw[List.take_length,aj]
    have f1:=c7 (show g.dp r≠n2+2 by have:=(ag r eE).2;omega)
    have f2:=c7 (show n2≠n2+2 by omega)
    have f3:=c7 (show n2+1≠n2+2 by omega)
    refine sI ?_
    refine AE.Gb (n2+2) [n2,n2+1] ((fU _ (by omega) _).trans Gm) (fun j hj o ho=>?_) ?_ fun H9 VW VX VY=>?_
    ·rcases List.mem_cons.1 hj with rfl|hj
     ·rw[gW]at ho;cases ho
      simp only[uI,fO,eK,Nat.beq_refl,cond_true]
      exact⟨trivial,trivial,by omega,trivial⟩
     ·rw[List.mem_singleton.1 hj,fU _ (by omega),CI]at ho;cases ho
      simp only[uI,fO,eK,Nat.beq_refl,cond_true]
      exact⟨trivial,trivial,by omega,trivial⟩
    ·simp only[go_sem,Nat.reduceAdd,Nat.reduceLeDiff,Nat.reduceSub,Int.reduceToNat,reduceCtorEq,f1,f2,f3]
    ·have Gp:=VW n2 (by simp) (by omega)
     rw[gW,Option.map_some]at Gp
     simp only[l_,gS,eh,Nat.beq_refl,cond_true,List.drop_zero,List.take_of_length_le (Nat.le_of_eq fi),List.take_length]at Gp
     simp only[go_sem,Nat.reduceAdd,Nat.reduceLeDiff,Nat.reduceSub,Int.reduceToNat,reduceCtorEq,f1,f2,f3]
     refine AE.ret (sc:=(0+3<=3)) (xs:=[aP t]) ?_ ?_ ?_
     ·show eW _ _ _ [.cell 2 71]=_
      simp only[go_sem,Nat.reduceAdd,Nat.reduceLeDiff,Nat.reduceSub,Int.reduceToNat,reduceCtorEq,eW,Gp]
      rw[ht,List.take_of_length_le (by rw[aj];exact Nat.le_refl _)];rfl
     ·exact Nat.le_refl _
     ·refine⟨rfl,fun x o hx h dU=>?_,fun x hx=>?_⟩
      ·exact VX x o (by omega) ((fU x (by omega) _).trans (hq.bU x o hx h dU)) (dU _ (by omega))
      ·rw[VY x (by omega),fU x (by omega)];exact hq.low x hx
   ·obtain⟨x,tf⟩:∃x,(g.cl r).ks[k]?=some x:=⟨_,List.getElem?_eq_getElem (by omega)⟩
    obtain⟨v,HP⟩:∃v,ts[k]?=some v:=⟨_,List.getElem?_eq_getElem s0⟩
    have pg:=hr.kids r eE x (List.mem_of_getElem? tf)
    have HF:lk H5 (g.dp r)=some (.var (.row 187) ((g.cl r).ks.map fun k=> .ob k 0)):=by
     have:=hq.gh.row r eE
     unfold jw mC at this
     cases iy:(g.cl r).ks with
     |nil=>rw[iy]at hl;have hl:ts.length=0:=hl;omega
     |cons a b=>rw[iy]at this;exact this
    have hw:=wr (x:=(k:Int)+1) (by omega)
    have Yp:wT v<=N:=by
     have:=J7 (List.mem_of_getElem? HP)
     rw[ht,wT]at hN
     omega
    obtain⟨n5,s5⟩:∃n,ay nb H5=n:=⟨_,rfl⟩
    have kC:=dw nb H5
    rw[s5]at kC
    have uM:=hq.gh.lt kC.2
    have l4:=bZ H5 _ _ Gm
    have ih:=R1 g hr up rt rk hR N v x n5 H5 Yp (hk k x v tf HP) pg hq.gh kC.2
    have j1:=bz (show n2<n5 by omega)
    have j2:=bz (show n2+1<n5 by omega)
    have j3:=bz (show n2+2<n5 by omega)
    have j4:=bz (show g.dp r<n5 by have:=(uM r eE).2;omega)
    have j5:=bz (show x<n5 by have:=(uM x pg).1;omega)
    refine gO ?_
    refine cT ?_
    refine gE @HF ?_
    refine AQ.vV (by kernel_rfl) rfl (hq.gh.row r eE) (xN tf) Tryz.tV Tryz.qG ?_
    refine sI ?_
    refine gO ?_
    refine AP.bQ 8 (Tree.node [] [0,1,2] [3] [Tree.node [0,1] [] [4] [Tree.node [0,1] [] [5] [Tree.node [] [6] [7] [Tree.node [] [] [] []]]]]) (by kernel_rfl) rfl (by kernel_rfl) (by kernel_rfl) ?_
    refine bO ?_
    refine sE @CI ?_
    refine AQ.iP n5 (eN kC.1) (by kernel_rfl) rfl rfl rfl ih (fun r H' h=>h.low) fun r6 H6 uQ=>?_
    rw[uQ.r]
    have zw:=uQ.bU _ _ (by omega) wN (fun y hy=>rfl)
    have CJ:=uQ.bU _ _ (by omega) CI (fun y hy=>by simp only[Ob.men,AV.mens,AV.men,c7 (show n2+2≠y by omega),Bool.or_false])
    have MV:=uQ.bU _ _ (by omega) Gm (fun y hy=>rfl)
    rw[tY]
    simp only[go_sem,Nat.reduceAdd,Nat.reduceLeDiff,Nat.reduceSub,Int.reduceToNat,reduceCtorEq,j1,j2,j3,j4,j5,CJ]
    refine AQ.nx rfl ?_
    refine sE @CJ ?_
    refine AQ.go (by kernel_rfl) ?_
    refine sI ?_
    refine AQ.nx rfl ?_
    refine sE @CJ ?_
    have bf:(aA (ts.take k)).length=k:=by rw[aj,List.length_take];omega
    have l6:=bZ H6 _ _ MV
    refine AQ.SB (es:=2) (show nb<=n2+2 by omega) (by kernel_rfl) rfl rfl MV Tryz.yB Tryz.yA ?_ Tryz.wo bf.symm (by rw[bf];simp only[List.length_cons,List.length_nil];omega) (by rw[bf];simp only[List.length_cons,List.length_nil];omega) fun H7 VR NU=>?_
    ·show Option.map _ (ax Tryz.prog 71)=_;rw[Tryz.yN];rfl
    have wP:=NU (n2+1) (by omega)
    rw[CJ]at wP
    simp only[Option.map_some,fl,iY,AV.men,Nat.beq_refl,cond_true,cond_false]at wP
    have f1:=c7 (show g.dp r≠n2+2 by have:=(ag r eE).2;omega)
    have f2:=c7 (show n2≠n2+2 by omega)
    have f3:=c7 (show n2+1≠n2+2 by omega)
    have f4:=c7 (show x≠n2+2 by have:=(ag x pg).1;omega)
    simp only[go_sem,Nat.reduceAdd,Nat.reduceLeDiff,Nat.reduceSub,Int.reduceToNat,reduceCtorEq,f1,f2,f3,f4,bf,List.length_cons,List.length_nil]
    refine AQ.nx rfl ?_
    refine sE @wP ?_
    refine AQ.go (by kernel_rfl) ?_
    refine sE @wP ?_
    refine AQ.nx rfl ?_
    refine sE @wP ?_
    refine AQ.done ?_
    refine gE @hw ?_
    have h8:∀y,y≠n2+1->y≠n2+2->∀o,lk (aR H7 (n2+1) o) y=(lk H6 y).map (fl (n2+2)):=fun y U h2 o=>by rw[cD _ _ _ _ U,NU y h2]
    refine AE.round (k+1,_) ?_ (by simp only;omega) (sU) rfl
    have sQ:=hq.gh.bU hr hR kC.2 uQ.bU
    refine⟨⟨fun z hz=>?_,fun z hz=>?_⟩,?_,de _ _ _ wP,?_,s0,fun y o hy h dU=>?_,fun y hy=>?_⟩
    ·have:=(ag z hz).1
     refine(h8 z (by omega) (by omega) _).trans ?_
     rw[sQ.cell z hz,Option.map_some,kN ((hG.x2 hr hR (Nat.le_refl _) z hz).1 _ (by omega))]
    ·have:=(ag z hz).2
     refine(h8 _ (by omega) (by omega) _).trans ?_
     rw[sQ.row z hz,Option.map_some,kN ((hG.x2 hr hR (Nat.le_refl _) z hz).2 _ (by omega))]
    ·refine(h8 n2 (by omega) (by omega) _).trans ?_
     rw[zw];rfl
    ·refine(cD _ _ _ _ (by omega)).trans ?_
     rw[VR,dE HP,tW]
    ·refine(h8 y (by omega) (by omega) _).trans ?_
     rw[uQ.bU y o (by omega) (hq.bU y o hy h dU) (dU.mono (by omega)),Option.map_some,kN (dU _ (by omega))]
    ·refine(congrArg Option.isSome (h8 y (by omega) (by omega) _)).trans ?_
     rw[Option.isSome_map]
     exact(uQ.low y (by omega)).trans (hq.low y hy)
def g0:Gs:=⟨[],fun _=>⟨[],-1,[]⟩,fun _=>0,fun _=>bt (-1),[]⟩
theorem VC:Gr g0:=⟨fun _ h=>(nomatch h),fun _ _=>rfl,fun _=>rfl,fun _ _=>rfl,List.nodup_nil,fun _ h=>(nomatch h),fun _ h=>(nomatch h),fun _=>⟨Nat.zero_le _,Nat.zero_le _⟩⟩
structure mK (s t:Tm) (u kb:Nat) (H:aa) where
 g:Gs
 up:Nat->Option Nat
 rt:Nat->Nat
 rk:Nat->Nat
 m:Nat
 a:Nat
 b:Nat
 k:Kn
 ob:Ob
 gh:GH g up H
 gr:Gr g
 r:Rt g.L up rt rk
 ri:Good g.cl rt []
 e:rt a=rt b
 aL:a∈g.L
 bL:b∈g.L
 ad:g.d a=s
 bd:g.d b=t
 oz:∀q,dZ s t q->kZ g.d rt q
 hu:lk H u=some (.var 189 [.mp m])
 hm:lk H m=some (.var (.map (kI g.vs)) (vC g.vs))
 hk:lk H kb=some ob
 pm:lI ob (kK k) (kV k)
 ok:ic g.cl rt g.L k
 ta:∃x,(rt a,some x)∈k
 tb:∃x,(rt b,some x)∈k
 vS:∀p∈g.vs,lY g.cl a p.2\/lY g.cl b p.2
 ll:g.L.length<=wT s+wT t
structure Ti (nb:Nat) (H:aa) (s t:Tm) (r:AV) (H':aa):Prop where
 ex:(r= .aI [pE,.im (.v (.map none)),Bv false]/\∀q,¬dZ s t q)\/∃u kb,r= .aI [.ob u 0,.mp kb,Bv true]/\nb<=u/\nb<=kb/\Nonempty (mK s t u kb H')
 bU:∀x o,x<nb->lk H x=some o->kY nb o->lk H' x=some o
 low:cE nb H H'
theorem VB (cl:Nat->Nd) (D:List (Nat×Nat)):Good cl (fun c=>c) D:=⟨fun _=>rfl,fun _ h=>⟨h,Int.le_refl _⟩,fun a b e _ _=>by
 have e:a=b:=e
 subst e
 exact⟨rfl,eM.refl _⟩⟩
structure Kk (nb n0 kb:Nat) (g:Gs) (up:Nat->Option Nat) (H:aa) (rt:Nat->Nat) (a b n7:Nat) (i:Nat) (k:Kn) (H1:aa):Prop where
 gh:GH g up H1
 pm:∃ob,lk H1 kb=some ob/\lI ob (kK k) (kV k)
 ok:ic g.cl rt g.L k
 le:iJ [] k
 d:pU k
 u:lk H1 (n0+1)=some (.var (.cell 189) [.mp n0])
 m:lk H1 n0=some (.var (.map (kI g.vs)) (vC g.vs))
 row:lk H1 n7=some (.var (.row 187) [.ob a 0,.ob b 0])
 ib:i<=2
 ta:1<=i->∃x,(rt a,some x)∈k
 tb:2<=i->∃x,(rt b,some x)∈k
 bU:∀x o,x<nb->lk H x=some o->kY nb o->lk H1 x=some o
 low:cE nb H H1
theorem ab1 (s t:Tm) (fU:bS s=true) (pf:bS t=true) (gg:aE s) (fi:aE t) (Ot:wT s<=4001) (xy:wT t<=4001) (nb:Nat) (H:aa):dz Tryz.prog nb 119 [aP s,aP t] H (Ti nb H s t):=by
 obtain⟨n0,gU⟩:∃n,ay nb H=n:=⟨_,rfl⟩
 have cH:=dw nb H
 rw[gU]at cH
 simp only[go_sem,ay]at gU
 have l1:=eN (show bD H<=n0 by omega)
 have l2:=eN (show nb<=n0+1 by omega)
 have l3:=eN (show n0+1<=n0+1 by omega)
 have l4:=eN (show nb<=n0+2 by omega)
 refine dz.walk [0,1,2,3,4,5,6,7,8,9,10,12,14,29,32,33,34,35,46] [7,13,17] Tryz.func119 rfl Tryz.ntmps119 (by kernel_rfl) (by rfl) fun W own I0 ao lay=>?_
 refine gO ?_
 refine AQ.A5 (by kernel_rfl) ?_
 refine sI ?_
 rw[gU]
 refine gO ?_
 simp only[go_sem,Nat.reduceAdd,Nat.reduceLeDiff,Nat.reduceSub,Int.reduceToNat,reduceCtorEq,l1,l2]
 refine AQ.A5 (by kernel_rfl) ?_
 simp only[go_sem,Nat.reduceAdd,Nat.reduceLeDiff,Nat.reduceSub,Int.reduceToNat,reduceCtorEq,l1,l2,l3,l4]
 obtain⟨H3,p5⟩:∃H3:aa,H3=(n0+2,Ob.var (.map []) [])::(n0+1,Ob.var (.cell 189) [.mp n0])::(n0,Ob.var (.map []) [])::H:=⟨_,rfl⟩
 have o3:∀x,x<n0->lk H3 x=lk H x:=fun x hx=>by rw[p5,cJ (by omega),cJ (by omega),cJ (by omega)]
 have Xj:bD H3=n0+3:=by rw[p5];simp only[bD,l1,l3,cond_true,eN (show n0+2<=n0+2 by omega)]
 have VM:lk H3 n0=some (.var (.map []) []):=by rw[p5,cJ (by omega),cJ (by omega),gX]
 have MO:lk H3 (n0+1)=some (.var (.cell 189) [.mp n0]):=by rw[p5,cJ (by omega),gX]
 have VN:lk H3 (n0+2)=some (.var (.map []) []):=by rw[p5,gX]
 rw[<-p5]
 obtain⟨kb,nX⟩:∃kb,n0+1+1=kb:=⟨_,rfl⟩
 rw[nX]
 have VO:lk H3 kb=some (.var (.map []) []):=by rw[<-nX];exact VN
 have c1:=FD (wT s) s (n0+3) H3 (n0+1) n0 g0 (Nat.le_refl _) fU gg (by omega) ⟨fun _ h=>(nomatch h),fun _ h=>(nomatch h)⟩ VC MO VM
 rw[tY]at c1
 have j1:=bz (show n0<n0+3 by omega)
 have j2:=bz (show n0+1<n0+3 by omega)
 have j3:=bz (show kb<n0+3 by omega)
 refine gO ?_
 refine AP.bQ 8 (Tree.node [] [0,1,3,4] [2] [Tree.node [3,4] [] [5] [Tree.node [] [6,7] [] []]]) (by kernel_rfl) rfl (by kernel_rfl) (by kernel_rfl) ?_
 refine bO ?_
 refine sI ?_
 refine AQ.iP (n0+3) (eN (show nb<=n0+3 by omega)) (by kernel_rfl) rfl rfl rfl c1 (fun r H' h=>h.low) fun r4 H4 zA=>?_
 obtain⟨g4,a,rfl,M3,N9,Xb,Xf,GJ,Wn,XV,ad9⟩:=zA.ex
 have Gl:=zA.bU (n0+1) _ (by omega) (by omega) MO (fun y hy=>by simp only[Ob.men,AV.mens,AV.men,c7 (show n0≠y by omega),Bool.or_false])
 have MR:=zA.bU kb _ (by omega) (by omega) VO (fun y hy=>rfl)
 have l41:=bZ H4 _ _ Gl
 have l42:=bZ H4 _ _ MR
 obtain⟨n4,Xk⟩:∃n,ay nb H4=n:=⟨_,rfl⟩
 have C_:=dw nb H4
 rw[Xk]at C_
 have c2:=FD (wT t) t n4 H4 (n0+1) n0 g4 (Nat.le_refl _) pf fi C_.2 M3 N9 Gl Xf
 rw[tY]at c2
 have i1:=bz (show n0+1<n4 by omega)
 have i2:=bz (show kb<n4 by omega)
 have i3:=bz (show a<n4 by have:=(M3.lt C_.2 a GJ).1;omega)
 simp only[go_sem,Nat.reduceAdd,Nat.reduceLeDiff,Nat.reduceSub,Int.reduceToNat,reduceCtorEq,j1,j2,j3]
 refine AQ.nx rfl ?_
 refine sI ?_
 refine AQ.iP n4 (eN C_.1) (by kernel_rfl) rfl rfl rfl c2 (fun r H' h=>h.low) fun r5 H5 zB=>?_
 obtain⟨g,b,rfl,zC,HD,Hi,Xg,CV,GL,XW,ad_⟩:=zB.ex
 have MT:=zB.bU (n0+1) _ (by omega) (by omega) Gl (fun y hy=>by simp only[Ob.men,AV.mens,AV.men,c7 (show n0≠y by omega),Bool.or_false])
 have wN:=zB.bU kb _ (by omega) (by omega) MR (fun y hy=>rfl)
 obtain⟨CT,ad3,_,CU⟩:=Hi.cm a GJ
 rw[Wn]at CU
 simp only[go_sem,Nat.reduceAdd,Nat.reduceLeDiff,Nat.reduceSub,Int.reduceToNat,reduceCtorEq,i1,i2,i3]
 refine AQ.nx rfl ?_
 refine sI ?_
 refine AQ.done ?_
 have Da:∀x∈g.L,n0+3<=x:=fun x hx=>by
  by_cases h:x∈g4.L
  ·exact(Xb.new x h (fun h=>(nomatch h))).1
  ·have:=(Hi.new x hx h).1;omega
 obtain⟨n5,s5⟩:∃n,ay nb H5=n:=⟨_,rfl⟩
 have kC:=dw nb H5
 rw[s5]at kC
 have l51:=bZ H5 _ _ MT
 have l52:=bZ H5 _ _ wN
 have c3:=Sm g HD (n0+1) (tP g.L sj) sj (fun c=>c) (fun _=>0) a b n5 H5 (Nat.le_refl _) zC kC.2 (Rt.id g.L) CT CV (by omega)
 have i1:=bz (show n0+1<n5 by omega)
 have i2:=bz (show kb<n5 by omega)
 have i3:=bz (show a<n5 by have:=(zC.lt kC.2 a CT).1;omega)
 have i4:=bz (show b<n5 by have:=(zC.lt kC.2 b CV).1;omega)
 refine gO ?_
 refine AQ.iP n5 (eN kC.1) (by kernel_rfl) rfl rfl rfl c3 (fun r H' h=>h.low zC) fun r6 H6 wQ=>?_
 have Zu:=wQ.low zC
 obtain⟨up,rt,rk,ok,rfl,sQ,M8,CN,_⟩:=wQ.ex
 have MU:=(wQ.bU (n0+1) (by omega) (fun h=>by have:=Da _ h;omega)).trans MT
 have zw:=(wQ.bU kb (by omega) (fun h=>by have:=Da _ h;omega)).trans wN
 have p7:=(wQ.bU n0 (by omega) (fun h=>by have:=Da _ h;omega)).trans Xg
 have Qn:∀x o,x<nb->lk H x=some o->kY nb o->lk H6 x=some o:=fun x o hx h dU=>by
  have a1:=zA.bU x o (by omega) (by omega) ((o3 x (by omega)).trans h) (dU.mono (by omega))
  have a2:=zB.bU x o (by omega) (by omega) a1 (dU.mono (by omega))
  exact(wQ.bU x (by omega) (fun h=>by have:=Da _ h;omega)).trans a2
 have Py:cE nb H H6:=fun x hx=>by
  rw[Zu x (by omega),zB.low x (by omega),zA.low x (by omega),o3 x (by omega)]
 simp only[go_sem,Nat.reduceAdd,Nat.reduceLeDiff,Nat.reduceSub,Int.reduceToNat,reduceCtorEq,i1,i2,i3,i4]
 cases ok with
 |false=>
  refine AQ.go (by kernel_rfl) ?_
  refine sI ?_
  refine gO ?_
  refine AE.ret rfl ⟨rfl,rfl,rfl,trivial⟩ ⟨.inl ⟨rfl,fun q hq=>?_⟩,Qn,Py⟩
  have:=(CN.oz q (fun _=>rfl) (by rw[CU,GL];exact hq)).1
  cases this
 |true=>
  have W2:=CN.ri rfl [] (VB _ _)
  have heq:=CN.eq rfl
  have Oc:∀q,dZ s t q->kZ g.d rt q:=fun q hq=>(CN.oz q (fun _=>rfl) (by rw[CU,GL];exact hq)).2
  refine AQ.go (by kernel_rfl) ?_
  refine sI ?_
  refine gO ?_
  refine AQ.pm0 kb zw fun Jh XM=>?_
  obtain⟨H7,FX⟩:∃H7,H7=aR H6 kb Jh:=⟨_,rfl⟩
  have o7:∀x,x≠kb->lk H7 x=lk H6 x:=fun x hx=>by rw[FX,cD _ _ _ _ hx]
  have zy:lk H7 kb=some Jh:=by rw[FX];exact de _ _ _ zw
  rw[<-FX]
  obtain⟨n7,Hp⟩:∃n,ay nb H7=n:=⟨_,rfl⟩
  have Ns:=dw nb H7
  rw[Hp]at Ns
  simp only[go_sem,ay]at Hp
  refine AQ.Ud (by kernel_rfl) rfl rfl Tryz.JQ Tryz.qG Tryz.Kf ?_
  refine sE @Hp ?_
  refine gO ?_
  obtain⟨H8,Cy⟩:∃H8:aa,H8=(n7,Ob.var (.row 187) [.ob a 0,.ob b 0])::H7:=⟨_,rfl⟩
  have o8:∀x,x≠n7->lk H8 x=lk H7 x:=fun x hx=>by rw[Cy,cJ hx]
  have Y2:=bZ H6 _ _ p7
  have l61:=bZ H6 _ _ MU
  have l62:=bZ H7 _ _ zy
  have lt7:∀x o,lk H7 x=some o->x<n7:=fun x o h=>by have:=bZ H7 x o h;omega
  have MW:=(o7 n0 (by omega)).trans p7
  have MX:=(o7 (n0+1) (by omega)).trans MU
  have CW:∀x∈g.L,x≠kb/\g.dp x≠kb:=sQ.ne zw
  have CK:GH g up H7:=sQ.same fun x hx=>⟨o7 x (CW x hx).1,o7 _ (CW x hx).2⟩
  have rm:Kk nb n0 kb g up H rt a b n7 0 [] H8:=by
   refine⟨by rw[Cy];exact CK.cons Ns.2,⟨Jh,(o8 kb (by have:=lt7 _ _ zy;omega)).trans zy,XM⟩,ic.nil _ _ _,iJ.refl _,fun _ _ h=>(nomatch h),(o8 _ (by have:=lt7 _ _ MX;omega)).trans MX,(o8 _ (by have:=lt7 _ _ MW;omega)).trans MW,by rw[Cy,gX],by omega,fun h=>by omega,fun h=>by omega,fun x o hx h dU=>?_,fun x hx=>?_⟩
   ·rw[o8 x (by omega),o7 x (by omega)];exact Qn x o hx h dU
   ·rw[o8 x (by omega),o7 x (by omega)];exact Py x hx
  rw[<-Cy]
  have V9:g.L.length<=wT s+wT t:=by
   have:g0.L.length=0:=rfl
   omega
  refine AP.loop rfl (α:=Nat×Kn×aa) (fun q=>[(7,.ob (n0+1) 0),(8,.mp kb),(32,.os n7 1 0 2),(33,Iv 2),(34,Iv q.1)]) (fun q=>q.2.2) (fun q=>Kk nb n0 kb g up H rt a b n7 q.1 q.2.1 q.2.2) (fun q=>2-q.1) (0,[],H8) rm (sU) rfl fun⟨i,k,H9⟩ hq=>?_
  simp only at hq⊢
  rcases Nat.eq_or_lt_of_le hq.ib with aC|ag
  ·subst aC
   refine gO ?_
   obtain⟨Ji,h9,Ds⟩:=hq.pm
   refine AE.ret rfl ⟨rfl,rfl,rfl,trivial⟩ ⟨.inr ⟨n0+1,kb,rfl,by omega,by omega,⟨⟨g,up,rt,rk,n0,a,b,k,Ji,hq.gh,HD,M8,W2,heq,CT,CV,CU,GL,Oc,hq.u,hq.m,h9,Ds,hq.ok,hq.ta (by omega),hq.tb (by omega),fun p hp=>?_,V9⟩⟩⟩,hq.bU,hq.low⟩
   rcases XW p hp with h|h
   ·rcases XV p h with h|h
    ·cases h
    ·exact .inl (h.mono (P:=(·∈g4.L)) (fun c hc=>⟨(Hi.cm c hc).2.1,N9.kids c hc⟩) GJ)
   ·exact .inr h
  ·obtain⟨c,wU,uS,wS,sX⟩:∃c,([AV.ob a 0,.ob b 0]:List AV)[i]?=some (.ob c 0)/\c∈g.L/\(i=0->c=a)/\(i=1->c=b):=by
    rcases(by omega:i=0\/i=1)with rfl|rfl
    ·exact⟨a,rfl,CT,fun _=>rfl,fun h=>by omega⟩
    ·exact⟨b,rfl,CV,fun h=>by omega,fun _=>rfl⟩
   obtain⟨Ji,h9,Ds⟩:=hq.pm
   obtain⟨n9,Xl⟩:∃n,ay nb H9=n:=⟨_,rfl⟩
   have zX:=dw nb H9
   rw[Xl]at zX
   have la:=bZ H9 _ _ hq.u
   have lb:=bZ H9 _ _ hq.m
   have lc:=bZ H9 _ _ h9
   have ld:=bZ H9 _ _ hq.row
   have fH:=PD g HD up rt rk M8 (by omega) (n0+1) kb (qv g.L k) k c n9 H9 Ji (Nat.le_refl _) hq.gh zX.2 uS (by omega) h9 Ds hq.ok hq.d
   have i1:=bz (show n0+1<n9 by omega)
   have i2:=bz (show kb<n9 by omega)
   have i3:=bz (show n7<n9 by omega)
   have i4:=bz (show c<n9 by have:=(hq.gh.lt zX.2 c uS).1;omega)
   have hw:=wr (x:=(i:Int)+1) (by omega)
   have aH:=hq.row
   refine gO ?_
   refine cT ?_
   refine gE @aH ?_
   refine AQ.vV (by kernel_rfl) rfl (show lk H9 n7=some (mC 187 [.ob a 0,.ob b 0]) from aH) wU Tryz.tV Tryz.qG ?_
   refine sI ?_
   refine gO ?_
   refine AQ.iP n9 (eN zX.1) (by kernel_rfl) rfl rfl rfl fH (fun r H' h=>h.low) fun r10 qN hM=>?_
   obtain⟨rT,rF⟩:∃n,ay nb qN=n:=⟨_,rfl⟩
   have C9:=dw nb qN
   rw[rF]at C9
   simp only[go_sem,ay]at rF
   have Oh:=(hM.bU (n0+1) (by omega) (by omega)).trans hq.u
   have NP:=(hM.bU n0 (by omega) (by omega)).trans hq.m
   have N8:=(hM.bU n7 (by omega) (fun e=>by rw[e,h9]at aH;cases aH;obtain⟨_,_,e,_⟩:=Ds;cases e)).trans aH
   have V4:GH g up qN:=hq.gh.same fun x hx=>by
    have U:=hq.gh.lt zX.2 x hx
    exact⟨hM.bU x U.1 (CW x hx).1,hM.bU _ U.2 (CW x hx).2⟩
   have Qm:∀o x o',x<nb->lk H x=some o'->kY nb o'->lk ((rT,o)::qN) x=some o':=fun o x o' hx h dU=>by
    rw[cJ (by omega),hM.bU x (by omega) (by omega)];exact hq.bU x o' hx h dU
   have Pt:∀o,cE nb H ((rT,o)::qN):=fun o x hx=>by
    rw[cJ (by omega),hM.bU x (by omega) (by omega)];exact hq.low x hx
   have ra:=bZ qN _ _ Oh
   have rb:=bZ qN _ _ NP
   have rd:=bZ qN _ _ N8
   simp only[go_sem,Nat.reduceAdd,Nat.reduceLeDiff,Nat.reduceSub,Int.reduceToNat,reduceCtorEq,i1,i2,i3,i4]
   rcases hM.ex with⟨k',v,aae,rfl,MM,XF,V8,NH,V3,u_⟩|⟨x,y,rfl,a_⟩
   ·have rc:=bZ qN _ _ MM
    refine AQ.go (by kernel_rfl) ?_
    simp only[go_sem,Nat.reduceAdd,Nat.reduceLeDiff,Nat.reduceSub,Int.reduceToNat,reduceCtorEq,pM]
    refine gO ?_
    rw[rF,hw]
    refine AE.round (i+1,k',_) ⟨V4.cons C9.2,⟨aae,(cJ (by omega)).trans MM,XF⟩,V8,hq.le.trans NH,V3,(cJ (by omega)).trans Oh,(cJ (by omega)).trans NP,(cJ (by omega)).trans N8,ag,fun _=>?_,fun hi=>?_,Qm _,Pt _⟩ (by simp only;omega) (sU) rfl
    ·by_cases hi:i=0
     ·rw[wS hi]at u_;exact⟨_,u_⟩
     ·obtain⟨x,hx⟩:=hq.ta (by omega)
      exact⟨x,NH.f _ _ hx⟩
    ·have hi:2<=i+1:=hi
     rw[sX (by omega)]at u_;exact⟨_,u_⟩
   ·refine AQ.go (by kernel_rfl) ?_
    refine sI ?_
    refine gO ?_
    rw[rF]
    refine gO ?_
    refine AE.ret rfl ⟨rfl,rfl,rfl,trivial⟩ ⟨.inl ⟨rfl,fun q mW=>a_ q (Oc q mW) fun r mX=>?_⟩,Qm _,Pt _⟩
    have:=(hq.le.b r).1 mX
    cases this
def ke (us:List Value):List AV:=us.map oP
theorem L9 (us:List Value):(ke us).length=us.length:=List.length_map ..
@[go_sem] theorem QW (ρ:Nat->Nat) (us:List Value):AV.cU ρ (ke us)=ke us:=QV ρ us
@[go_sem] theorem tz (b:Nat) (us:List Value):AV.mens b (ke us)=false:=PG b us
@[go_sem] theorem aee (b:Nat) (us:List Value):iY b (ke us)=ke us:=Iw (tz b us)
@[go_sem] theorem Vv (b:Nat):∀us:List Value,AV.jh b (ke us)=false
 |[]=>rfl
 |u::us=>by rw[ke,List.map_cons,AV.jh,<-ke,Vv b us];rfl
@[go_sem] theorem ad2 (b es:Nat) (rows:List (List IV)) (us:List Value):gS b es rows (ke us)=ke us:=(sO _ (tz b us)).1
@[go_sem] theorem ad1 (b:Nat) (rows:List (List IV)) (us:List Value):fO b rows (ke us)=True:=eq_true (sO (es:=0) _ (tz b us)).2
def pq (m:List (Int×Nat)) (us:List Value):aa:=[(1,.var 186 [.mp 0]),(0,.var (.map (kI m)) (ke us))]
theorem YT {m:List (Int×Nat)} (bX:fp m) {ks:List Int} (hp:ks.Perm (m.map (·.1))):db ks=db (m.map (·.1)):=by
 have h0:∀l:List Int,(db l).Perm l:=fun l=>List.mergeSort_perm l _
 have h2:∀l:List Int,(db l).Pairwise (fun x y=>decide (x<=y)=true):=fun l=>List.pairwise_mergeSort (fun a b c h k=>by simp at h k⊢;omega) (fun a b=>by simp;omega) l
 have h3:∀l:List Int,l.Nodup->(db l).Pairwise (·<·):=fun l h=>(List.Pairwise.and (h2 l) ((h0 l).symm.nodup h)).imp fun{a b} h=>by
  have h4:a<=b:=by simpa using h.1
  have:=h.2
  omega
 exact ER _ _ (h3 _ (hp.symm.nodup bX)) (h3 _ bX) fun v=>by rw[(h0 _).mem_iff,(h0 _).mem_iff,hp.mem_iff]
noncomputable def wx (l:Nat) (m:List (Int×Nat)) (us:List Value) (acc:List Int):aa:=[(5,jf l .ready),(4,.vec 3 1 (cj acc)),(2,.var 46 [.os 4 1 0 acc.length]),(1,.var 186 [.mp 0]),(0,.var (.map (kI m)) (ke us))]
noncomputable def ux (l:Nat) (m:List (Int×Nat)) (us:List Value) (bs:List Nat) (clock:Nat) (seen:List Nat) (acc:List Int):aa:=[(3,.var (.raw (kJ clock seen clock)) [.mp 0]),(5,jf l .ready),(4,.vec 3 1 (cj acc)),(2,.var 46 [.os 4 1 0 acc.length]),(1,.var 186 [.mp 0]),(0,.var (.raw (lK (kI m) bs clock)) (ke us))]
theorem UC (l:Nat) (m:List (Int×Nat)) (us:List Value) (bs:List Nat) (clock:Nat) (seen:List Nat) (acc:List Int) (v:Int) (hx:acc.length<=1000000):gp Tryz.prog 4 l [Iv v] (ux l m us bs clock seen acc) (fun r H'=>r=Bv true/\H'=ux l m us bs clock seen (acc++[v])):=by
 refine gp.walk (b:=5) [2,5,7,8,9,10,11] [] rfl rfl rfl fun w own I0 ao lay=>?_
 simp only[go_sem,Nat.reduceAdd,Nat.reduceLeDiff,Nat.reduceSub,Int.reduceToNat,reduceCtorEq,pQ,ux,jf]
 refine gO ?_
 refine AE.begin (b:=5) rfl rfl _ ?_
 refine sI ?_
 refine gO ?_
 refine AQ.kill 4 ?_
 refine sI ?_
 refine AQ.append (hnb:=rfl) (rows:=cj acc) (es:=0) (by kernel_rfl) rfl rfl rfl (by first|(simp only[go_sem,noMen,AV.mens,AV.men,Bool.or_false];done)|(simp only[go_sem,noMen,AV.mens,AV.men,Bool.or_false];rfl)) Tryz.BB Tryz.Bt (by show Option.map _ (ax Tryz.prog 3)=_;rw[Tryz.BN];rfl) Tryz.y4 (by first|rfl|(simp only[cI,List.length_cons,List.length_nil];done)|(simp only[cI,List.length_cons,List.length_nil];omega)) (by simp only[cI,List.length_cons,List.length_nil];omega) (by simp only[cI,List.length_cons,List.length_nil];omega) ?_
 refine sE (an @cI (an @vx @vy)) ?_
 refine gO ?_
 refine AE.vX (b:=5) rfl ⟨rfl,?_⟩
 simp only[go_sem,Nat.reduceAdd,Nat.reduceLeDiff,Nat.reduceSub,Int.reduceToNat,reduceCtorEq,ux,jf,List.length_append,List.length_singleton]
def tu (m:List (Int×Nat)) (js:List Nat):List Int:=js.map fun j=>(m.getD j (0,0)).1
def Br (bs:List Nat) (js:List Nat):List Nat:=js.map fun j=>bs.getD j 0
theorem YQ {m:List (Int×Nat)} {js:List Nat} (U:js.Nodup) (h2:∀j∈js,j<m.length) (h3:∀j,j<m.length->j∈js):(tu m js).Perm (m.map (·.1)):=by
 have hp:js.Perm (List.range m.length):=(List.perm_ext_iff_of_nodup U List.nodup_range).2 fun j=>by rw[List.mem_range];exact⟨h2 j,h3 j⟩
 refine(hp.map _).trans ?_
 have:(List.range m.length).map (fun j=>(m.getD j (0,0)).1)=m.map (·.1):=by
  apply List.ext_getElem (by simp)
  intro i h4 h5
  have h6:i<m.length:=by simpa using h5
  simp[List.getElem?_eq_getElem h6]
 rw[this]
theorem YS (l:Nat) (m:List (Int×Nat)) (us:List Value) (hu:us.length=m.length) (hm:m.length<=4000):dz Tryz.prog 3 182 [Yl l,.ob 1 0] (wx l m us []) (fun _ H'=>∃ks:List Int,ks.Perm (m.map (·.1))/\H'=wx l m us ks):=by
 refine dz.walk [0,1,3,5,7,13] [] Tryz.func182 rfl Tryz.ntmps182 (by kernel_rfl) (by rfl) fun W own I0 ao lay=>?_
 simp only[go_sem,Nat.reduceAdd,Nat.reduceLeDiff,Nat.reduceSub,Int.reduceToNat,reduceCtorEq,wx,jf]
 refine gO ?_
 refine AQ.I5 (by kernel_rfl) rfl rfl BF fun bs clock bI=>?_
 have cG:(ke us).length=bs.length:=by rw[<-bI.len,L9,AT,hu]
 have oU:bs.length=m.length:=by rw[<-cG,L9,hu]
 have jJ:=Ip m
 refine sI ?_
 refine gO ?_
 refine AP.rename 6 3 rfl rfl rfl ?_
 refine sI ?_
 refine AP.loop rfl (α:=List Nat) (fun _=>[(0,Yl l),(5,.ob 3 0)]) (fun js=>ux l m us bs clock (Br bs js) (tu m js)) (fun js=>js.Nodup/\∀j∈js,j<m.length) (fun js=>m.length-js.length) [] ⟨List.nodup_nil,fun _ h=>by cases h⟩ (sU) rfl fun js ⟨hn,hj⟩=>?_
 have rC:js.length<=m.length:=by
  have:=(List.Nodup.length_le_of_subset hn (fun j h=>List.mem_range.2 (hj j h)):js.length<=(List.range m.length).length)
  simpa using this
 simp only[go_sem,Nat.reduceAdd,Nat.reduceLeDiff,Nat.reduceSub,Int.reduceToNat,reduceCtorEq,ux,jf]
 refine gO ?_
 refine AQ.IZ (by kernel_rfl) rfl rfl rfl bI rfl rfl jJ cG (fun iR=>?_) (fun j n key y ei s6 qd hy=>?_)
 ·refine sI ?_
  refine gO ?_
  refine AE.pz 0 rfl bI cG ?_
  refine sI ?_
  exact AE.Me [3] rfl trivial (by simp only[go_sem,Nat.reduceAdd,Nat.reduceLeDiff,Nat.reduceSub,Int.reduceToNat,reduceCtorEq,cw,noMen,AV.mens,AV.men,tz,Bool.or_false];first|done|rfl) ⟨tu m js,YQ hn hj fun j h=>by
   have:=iR (bs.getD j 0) (by rw[List.getD_eq_getElem?_getD,List.getElem?_eq_getElem (by omega)];exact List.getElem_mem _)
   obtain⟨i,hi,e⟩:=List.mem_map.1 this
   have rA:=hj i hi
   rw[List.getD_eq_getElem?_getD,List.getElem?_eq_getElem (by omega:i<bs.length),List.getD_eq_getElem?_getD,List.getElem?_eq_getElem (by omega:j<bs.length)]at e
   have:=(List.getElem_inj bI.nd).1 e
   exact this▸hi,rfl⟩
 ·obtain⟨p,hp,rfl⟩:=DR qd
  have kF:=(List.getElem?_eq_some_iff.1 hp).1
  have u5:j∉js:=fun h=>s6 (List.mem_map.2 ⟨j,h,by rw[List.getD_eq_getElem?_getD,ei];rfl⟩)
  have e1:Br bs js++[n]=Br bs (js++[j]):=by simp[Br,ei]
  have e2:tu m js++[p.1]=tu m (js++[j]):=by simp[tu,hp]
  have hr:=UC l m us bs clock (Br bs (js++[j])) (tu m js) p.1 (by rw[tu,List.length_map];omega)
  rw[e2]at hr
  refine sI ?_
  refine gO ?_
  refine AQ.IY (by kernel_rfl) rfl rfl rfl bI jJ cG ei qd hy ?_
  refine sI ?_
  refine gO ?_
  refine AQ.yL 4 rfl (by kernel_rfl) rfl ⟨rfl,rfl⟩ rfl rfl (by rw[e1];exact hr) (fun r H' h=>by rw[h.2];exact cE.of _ _ _ rfl) fun r H' h=>?_
  obtain⟨rfl,rfl⟩:=h
  simp only[go_sem,Nat.reduceAdd,Nat.reduceLeDiff,Nat.reduceSub,Int.reduceToNat,reduceCtorEq,ux,jf]
  refine AQ.go (by kernel_rfl) ?_
  refine gO ?_
  have nZ:(js++[j]).Nodup:=List.nodup_append.2 ⟨hn,List.pairwise_singleton ..,fun a ha b hb=>by rw[List.mem_singleton.1 hb];exact fun e=>u5 (e▸ha)⟩
  have eT:∀i∈js++[j],i<m.length:=fun i hi=>by
   rcases List.mem_append.1 hi with hi|hi
   ·exact hj i hi
   ·rw[List.mem_singleton.1 hi];exact kF
  have gV:(js++[j]).length<=m.length:=by
   have:=(List.Nodup.length_le_of_subset nZ (fun j h=>List.mem_range.2 (eT j h)):(js++[j]).length<=(List.range m.length).length)
   simpa using this
  exact AE.round (js++[j]) ⟨nZ,eT⟩ (by rw[List.length_append,List.length_singleton]at*;omega) (sU) rfl
theorem UI (m:List (Int×Nat)) (us:List Value) (hu:us.length=m.length) (hm:m.length<=4000):ai Tryz.prog 214 [ew,.fn 182 [] [.ob 1 0]] (pq m us) (fun r H'=>∃ks:List Int,ks.Perm (m.map (·.1))/\r= .os 4 1 0 ks.length/\H'=(4,.vec 3 1 (cj ks))::pq m us):=by
 refine ai.walk [0,1,2,4,5,6,7] [2] Tryz.func214 rfl Tryz.ntmps214 (by kernel_rfl) (by rfl) rfl fun W own I0 ao lay=>?_
 simp only[go_sem,Nat.reduceAdd,Nat.reduceLeDiff,Nat.reduceSub,Int.reduceToNat,reduceCtorEq,pq]
 refine gO ?_
 refine AP.jv 2 0 3 1 rfl rfl ?_
 refine sI ?_
 refine AP.rename 3 4 rfl rfl rfl ?_
 refine sI ?_
 refine AP.Bg 3 0 5 [(2,.ob 2 0)] (R:=fun l _ H'=>∃ks:List Int,ks.Perm (m.map fun p:Int×Nat=>p.1)/\H'=wx l m us ks) rfl rfl (by kernel_rfl) (sU) rfl rfl (fun l=>YS l m us hu hm) (fun l r H' hR=>?_)
 obtain⟨ks,hk,rfl⟩:=hR
 refine⟨cE.of _ _ _ rfl,.ready,_,rfl,by simp only[go_sem,Nat.reduceAdd,Nat.reduceLeDiff,Nat.reduceSub,Int.reduceToNat,reduceCtorEq,wx,jf,noMen,AV.mens,AV.men,tz,Bool.or_false];first|done|rfl,?_⟩
 simp only[go_sem,Nat.reduceAdd,Nat.reduceLeDiff,Nat.reduceSub,Int.reduceToNat,reduceCtorEq,wx,jf]
 refine gO ?_
 exact AE.a6 [2] rfl ⟨rfl,trivial⟩ (by simp only[go_sem,Nat.reduceAdd,Nat.reduceLeDiff,Nat.reduceSub,Int.reduceToNat,reduceCtorEq,cw,noMen,AV.mens,AV.men,tz,Bool.or_false];first|done|rfl) ⟨ks,hk,rfl,rfl⟩
theorem UH (m:List (Int×Nat)) (us:List Value) (hu:us.length=m.length) (hm:m.length<=4000):ai Tryz.prog 180 [.fn 182 [] [.ob 1 0]] (pq m us) (fun r H'=>∃ks:List Int,ks.Perm (m.map (·.1))/\r= .os 6 1 0 ks.length/\H'=(6,.vec 3 1 (cj ks))::pq m us):=by
 refine ai.walk [0,2] [] Tryz.func180 rfl Tryz.ntmps180 (by kernel_rfl) (by rfl) rfl fun W own I0 ao lay=>?_
 simp only[go_sem,Nat.reduceAdd,Nat.reduceLeDiff,Nat.reduceSub,Int.reduceToNat,reduceCtorEq,pq]
 refine gO ?_
 refine AQ.bW [(1,1),(0,0)] (by kernel_rfl) rfl rfl rfl rfl rfl rfl (by refine⟨?_,?_,trivial⟩<;>(simp only[dY,AV.cU,AV.rn,QW];rfl)) rfl (UI m us hu hm) fun r' H' ⟨ks,hk,e1,e2⟩=>?_
 subst e1;subst e2
 simp only[go_sem,Nat.reduceAdd,Nat.reduceLeDiff,Nat.reduceSub,Int.reduceToNat,reduceCtorEq,dC,fo,cu,fV,pq]
 refine gO ?_
 exact AE.a6 [] rfl ⟨rfl,trivial⟩ (by simp only[go_sem,Nat.reduceAdd,Nat.reduceLeDiff,Nat.reduceSub,Int.reduceToNat,reduceCtorEq,cw,noMen,AV.mens,AV.men,tz,Bool.or_false];first|done|rfl) ⟨ks,hk,rfl,rfl⟩
theorem abl (m:List (Int×Nat)) (us:List Value) (bX:fp m) (hu:us.length=m.length) (hm:m.length<=4000):ai Tryz.prog 120 [.fn 182 [] [.ob 1 0]] (pq m us) (fun r H'=>r= .im (.sl 1 (cj (db (m.map (·.1)))))/\H'=pq m us):=by
 refine ai.walk [0,2,3] [] Tryz.func120 rfl Tryz.ntmps120 (by kernel_rfl) (by rfl) rfl fun W own I0 ao lay=>?_
 simp only[go_sem,Nat.reduceAdd,Nat.reduceLeDiff,Nat.reduceSub,Int.reduceToNat,reduceCtorEq,pq]
 refine gO ?_
 refine AQ.bW [(1,1),(0,0)] (by kernel_rfl) rfl rfl rfl rfl rfl rfl (by refine⟨?_,?_,trivial⟩<;>(simp only[dY,AV.cU,AV.rn,QW];rfl)) rfl (UH m us hu hm) fun r' H' ⟨ks,hk,e1,e2⟩=>?_
 subst e1;subst e2
 have u6:ks.length<=4000:=by rw[hk.length_eq,List.length_map];exact hm
 have fU:=YT bX hk
 simp only[go_sem,Nat.reduceAdd,Nat.reduceLeDiff,Nat.reduceSub,Int.reduceToNat,reduceCtorEq,dC,fo,cu,fV,pq]
 refine gO ?_
 refine AQ.bW [(0,8)] (by kernel_rfl) rfl rfl rfl rfl rfl rfl (by exact⟨rfl,trivial⟩) rfl (RB ks (by omega)) ?_
 rintro r H1 ⟨rfl,rfl⟩
 refine⟨rfl,?_⟩
 refine sH ?_
 refine gO ?_
 have Ab:(cj (db ks)).length=ks.length:=by rw[cI,ET]
 refine AE.freeze 8 (el:=3) (es:=1) (rows:=cj (db ks)) rfl (by simp[go_sem,Ab]) (by simp[go_sem,Ab]) ?_
 refine sI ?_
 rw[show List.take ks.length (cj (db ks))=cj (db (m.map (·.1))) by rw[List.take_of_length_le (by omega),fU]]
 exact AE.a6 [] rfl ⟨rfl,trivial⟩ (by simp only[go_sem,Nat.reduceAdd,Nat.reduceLeDiff,Nat.reduceSub,Int.reduceToNat,reduceCtorEq,cw,noMen,AV.mens,AV.men,tz,Bool.or_false];first|done|rfl) ⟨rfl,rfl⟩
def KU (f:Int->Tm) (ks:List Int):Prop:=ks.Pairwise (·<·)/\∀v,v∈ks↔f v≠bt v
def BV (s t:Tm) (out:Bd) (e:Int):Prop:=
 (
  e=5/\out=[]/\∀g,¬dZ s t g)\/∃f ks,ss s t f/\KU f ks/\(∀v,aE (f v))/\(∀v∈ks,0<=v/\v<1000)/\
  ((e=15/\out=[]/\∃v∈ks,4000<=wT (f v)\/100<cL (f v))\/(e=0/\(¬∃v∈ks,4000<=wT (f v)\/100<cL (f v))/\out=pw f ks))
noncomputable def jd (cl:Nat->Nd) (rt:Nat->Nat) (vs:List (Int×Nat)) (v:Int):Tm:=
 match bo vs v with
 |some c=>open Classical in if h:∃t,Tc cl rt c t then h.choose else bt v
 |none=>bt v
theorem za {cl:Nat->Nd} {rt:Nat->Nat} {vs:List (Int×Nat)} {v:Int} {c:Nat} {t:Tm} (h:bo vs v=some c) (ht:Tc cl rt c t):jd cl rt vs v=t:=by
 have hx:∃t,Tc cl rt c t:=⟨t,ht⟩
 rw[jd,h]
 simp only[hx,dif_pos]
 exact hx.choose_spec.zg ht
theorem Ck {cl:Nat->Nd} {rt:Nat->Nat} {vs:List (Int×Nat)} {v:Int} (h:bo vs v=none):jd cl rt vs v=bt v:=by rw[jd,h]
theorem abJ {g:Gs} (hr:Gr g) {rt:Nat->Nat} {c:Nat} {t:Tm} (h:Tc g.cl rt c t):aE t:=by
 induction h with
 |var _=>rw[bt,aE,b_];simp
 |@fn c ts hn hl _ ih=>
  rw[aE]
  refine⟨(hr.len _).2,by rw[hl];exact(hr.len _).1,?_⟩
  have:∀l:List Tm,(∀a∈l,aE a)->b_ l:=fun l=>by
   induction l with
   |nil=>intro _;rw[b_];trivial
   |cons a l ih=>intro h;rw[b_];exact⟨h a (by simp),ih fun b hb=>h b (by simp[hb])⟩
  refine this ts fun a ha=>?_
  obtain⟨i,hi,e⟩:=List.getElem_of_mem ha
  exact ih i _ a (List.getElem?_eq_getElem (by omega)) (by rw[List.getElem?_eq_getElem hi,e])
theorem vD {α:Type}:∀{m:List (Int×α)} {p:Int×α},fp m->p∈m->bo m p.1=some p.2:=fun{m p} hn hp=>by
 cases h:bo m p.1 with
 |none=>exact absurd (List.mem_map.2 ⟨p,hp,rfl⟩) (Pb h)
 |some x=>
  have U:=xX h
  obtain⟨i,hi,e1⟩:=List.getElem_of_mem hp
  obtain⟨j,hj,e2⟩:=List.getElem_of_mem U
  have g1:(m.map (·.1))[i]?=some p.1:=by rw[List.getElem?_map,List.getElem?_eq_getElem hi,e1];rfl
  have g2:(m.map (·.1))[j]?=some p.1:=by rw[List.getElem?_map,List.getElem?_eq_getElem hj,e2];rfl
  have:=(List.getElem?_inj (by rw[List.length_map];exact hi) hn).1 (g1.trans g2.symm)
  subst this
  rw[e1]at e2
  rw[e2]
section
variable {s t:Tm} {u kb:Nat} {H:aa} (S:mK s t u kb H)
theorem mK.tc:∀p∈S.g.vs,∃x,(S.rt p.2,some x)∈S.k/\Tc S.g.cl S.rt p.2 x:=fun p hp=>by
 have hv:∃x,(S.rt p.2,some x)∈S.k:=by
  rcases S.vS p hp with h|h
  ·exact S.ok.vS S.ri h S.gr.vk S.ta
  ·exact S.ok.vS S.ri h S.gr.vk S.tb
 obtain⟨x,hx⟩:=hv
 exact⟨x,hx,(S.ok.tc _ x hx).same (by rw[S.r.idem])⟩
theorem mK.x8:ss s t (jd S.g.cl S.rt S.g.vs):=by
 have h:=VD (cl:=S.g.cl) (rt:=S.rt) (d:=S.g.d) (vs:=S.g.vs) (a:=S.a) (b:=S.b) (f:=jd S.g.cl S.rt S.g.vs) S.ri S.gr.dn S.e (fun q hq=>S.oz q (by rw[S.ad,S.bd]at hq;exact hq)) (by
  obtain⟨x,hx⟩:=S.ta
  exact⟨x,(S.ok.tc _ x hx).same (by rw[S.r.idem])⟩) (fun p hp=>by
  have U:=S.gr.vs p hp
  obtain⟨x,hx,rO⟩:=S.tc p hp
  refine⟨U.2.1,U.2.2.1,?_⟩
  rw[za (vD S.gr.nd hp) rO]
  exact rO) (fun c t hc ht=>?_) fun v hv=>?_
 ·rw[S.ad,S.bd]at h;exact h
 ·by_cases hL:c∈S.g.L
  ·have:=S.gr.sv c hL hc
   rw[za (vD S.gr.nd this) ht]
  ·have U:=S.gr.out c hL
   have h2:=S.r.out c hL
   have h3:bo S.g.vs (-1)=none:=by
    cases h:bo S.g.vs (-1)with
    |none=>rfl
    |some x=>have:=(S.gr.vs _ (xX h)).2.2.2.1;simp at this
   rw[U]
   show jd _ _ _ (-1)=t
   rw[Ck h3]
   have:Tc S.g.cl S.rt c (bt (S.g.cl (S.rt c)).num):= .var (by rw[h2,U])
   rw[h2,U]at this
   exact this.zg ht
 ·refine Ck ?_
  cases h:bo S.g.vs v with
  |none=>rfl
  |some x=>exact absurd (List.mem_map.2 ⟨_,xX h,rfl⟩) hv
theorem mK.aE (v:Int):aE (jd S.g.cl S.rt S.g.vs v):=by
 cases h:bo S.g.vs v with
 |none=>rw[Ck h,bt,Go.Proofs.YtpfohmboflcneaaGreatDoor.aE,b_];simp
 |some c=>
  obtain⟨x,_,hx⟩:=S.tc _ (xX h)
  rw[za h hx]
  exact abJ S.gr hx
theorem mK.bound {p:Int×Nat} (hp:p∈S.g.vs):jd S.g.cl S.rt S.g.vs p.1=bt p.1↔S.up p.2=none:=by
 obtain⟨U,h2,h3,_⟩:=S.gr.vs p hp
 obtain⟨x,_,hx⟩:=S.tc p hp
 rw[za (vD S.gr.nd hp) hx,S.r.root U]
 constructor
 ·intro e
  rw[e]at hx
  by_cases hv:(S.g.cl (S.rt p.2)).nm=[]
  ·have h4:=hx.zg (.var hv)
   rw[bt,bt,Tm.mk.injEq]at h4
   have h5:=S.gr.sv _ (S.r.mem U) hv
   rw[<-h4.2.1]at h5
   have h6:=vD S.gr.nd h5
   rw[vD S.gr.nd hp]at h6
   exact(Option.some.inj h6).symm
  ·generalize hy:bt p.1=y at hx
   cases hx with
   |var jP=>exact absurd jP hv
   |fn hn _ _=>rw[bt,Tm.mk.injEq]at hy;exact absurd hy.1.symm hn
 ·intro e
  have:=hx.zg (.var (by rw[e];exact h2))
  rw[this,e,h3]
end
theorem YR (nb m:Nat) (H:aa):dz Tryz.prog nb 121 [.mp m] H (fun r H'=>∃b,r= .fn 182 [] [.ob b 0]/\nb<=b/\bD H<=b/\H'=(b,.var (.cell 186) [.mp m])::H):=by
 obtain⟨n0,gU⟩:∃n,ay nb H=n:=⟨_,rfl⟩
 have cH:=dw nb H
 rw[gU]at cH
 simp only[go_sem,ay]at gU
 refine dz.walk [0,1,2] [1] Tryz.func121 rfl Tryz.ntmps121 (by kernel_rfl) (by rfl) fun W own I0 ao lay=>?_
 refine gO ?_
 rw[gU]
 refine gO ?_
 exact AE.ret rfl ⟨rfl,trivial⟩ ⟨n0,rfl,cH.1,cH.2,rfl⟩
theorem abn (nb:Nat) {H:aa} {m b:Nat} {vs:List (Int×Nat)} {cs:List AV} (hm:lk H m=some (.var (.map (kI vs)) cs)) (hb:lk H b=some (.var (.cell 186) [.mp m])) (iy:cs.length=vs.length) (bX:fp vs) (hl:vs.length<=4000):
  dz Tryz.prog nb 120 [.fn 182 [] [.ob b 0]] H (fun r H'=>r= .im (.sl 1 (cj (db (vs.map (·.1)))))/\H'=H):=
 dz.frame hm hb (by kernel_rfl) rfl fun us dW=>abl vs us bX (by omega) hl
theorem Is (b:Nat):∀k:Kn,AV.mens b (kV k)=false
 |[]=>rfl
 |(c,none)::k=>by show(AV.men b (lV none)||AV.mens b (kV k))=false;rw[Is b k];rfl
 |(c,some t)::k=>by show(AV.men b (lV (some t))||AV.mens b (kV k))=false;rw[Is b k];rfl
theorem PF (b:Nat):∀xs ys:List AV,AV.mens b (xs++ys)=(AV.mens b xs||AV.mens b ys)
 |[],_=>rfl
 |x::xs,ys=>by simp only[List.cons_append,AV.mens,PF b xs ys,Bool.or_assoc]
theorem QG {ob:Ob} {k:Kn} (h:lI ob (kK k) (kV k)) {b:Nat} (hb:∀p∈k,p.1≠b):ob.men b=false:=by
 obtain⟨bs,clock,rfl,_⟩:=h
 have:∀k:Kn,(∀p∈k,p.1≠b)->AV.mens b (kK k)=false:=fun k=>by
  induction k with
  |nil=>intro _;rfl
  |cons p k ih=>
   intro h
   show(Nat.beq p.1 b||AV.mens b (kK k))=false
   rw[c7 (h p (by simp)),ih fun q hq=>h q (by simp[hq])];rfl
 show AV.mens b (kK k++kV k)=false
 rw[PF,this k hb,Is];rfl
def iN (up:Nat->Option Nat) (vs:List (Int×Nat)) (v:Int):Bool:=match bo vs v with
 |some c=>(up c).isSome
 |none=>false
structure Kp {s t:Tm} {u kb:Nat} {H0:aa} (S:mK s t u kb H0) (gF:Nat) (k:Nat) (H:aa):Prop where
 gh:GH S.g S.up H
 hu:lk H u=some (.var 189 [.mp S.m])
 hm:lk H S.m=some (.var (.map (kI S.g.vs)) (vC S.g.vs))
 hk:lk H kb=some S.ob
 row:lk H gF=some (.vec 98 4 (b9 (pw (jd S.g.cl S.rt S.g.vs) (((db (S.g.vs.map (·.1))).take k).filter (iN S.up S.g.vs)))))
 kl:k<=S.g.vs.length
 nb:¬∃v∈((db (S.g.vs.map (·.1))).take k).filter (iN S.up S.g.vs),4000<=wT (jd S.g.cl S.rt S.g.vs v)\/100<cL (jd S.g.cl S.rt S.g.vs v)
theorem abq {l:List Int} (h:l.Nodup):(db l).Pairwise (·<·):=by
 have h2:(db l).Pairwise (fun x y=>decide (x<=y)=true):=List.pairwise_mergeSort (fun a b c h k=>by simp at h k⊢;omega) (fun a b=>by simp;omega) l
 refine(List.Pairwise.and h2 ((List.mergeSort_perm l _).symm.nodup h)).imp fun{a b} h=>?_
 have h4:a<=b:=by simpa using h.1
 have:=h.2
 omega
theorem mK.OY {s t:Tm} {u kb:Nat} {H:aa} (S:mK s t u kb H) {p:Int×Nat} (hp:p∈S.g.vs):iN S.up S.g.vs p.1=true↔jd S.g.cl S.rt S.g.vs p.1≠bt p.1:=by
 rw[Ne,S.bound hp,iN,vD S.gr.nd hp]
 show(S.up p.2).isSome=true↔¬(S.up p.2=none)
 cases S.up p.2<;>simp
theorem mK.bk {s t:Tm} {u kb:Nat} {H:aa} (S:mK s t u kb H):KU (jd S.g.cl S.rt S.g.vs) ((db (S.g.vs.map (·.1))).filter (iN S.up S.g.vs)):=by
 refine⟨(abq S.gr.nd).sublist List.filter_sublist,fun v=>?_⟩
 rw[List.mem_filter,(List.mergeSort_perm _ _).mem_iff]
 constructor
 ·rintro⟨U,h2⟩
  obtain⟨p,hp,rfl⟩:=List.mem_map.1 U
  exact(S.OY hp).1 h2
 ·intro h
  have U:v∈S.g.vs.map (·.1):=Classical.byContradiction fun U=>h (Ck (by
   cases h2:bo S.g.vs v with
   |none=>rfl
   |some x=>exact absurd (List.mem_map.2 ⟨_,xX h2,rfl⟩) U))
  obtain⟨p,hp,rfl⟩:=List.mem_map.1 U
  exact⟨U,(S.OY hp).2 h⟩
theorem mK.rg {s t:Tm} {u kb:Nat} {H:aa} (S:mK s t u kb H):∀v∈(db (S.g.vs.map (·.1))).filter (iN S.up S.g.vs),0<=v/\v<1000:=fun v hv=>by
 have U:=(List.mergeSort_perm _ _).mem_iff.1 (List.mem_filter.1 hv).1
 obtain⟨p,hp,rfl⟩:=List.mem_map.1 U
 exact⟨(S.gr.vs p hp).2.2.2.1,(S.gr.vs p hp).2.2.2.2⟩
theorem ab3 (s t:Tm) (gg:aE s) (fi:aE t):
  ai Tryz.prog 49 [aP s,aP t] [] (fun r H'=>H'=[]/\∃out e,(fL s t≠0/\e=fL s t/\out=[]\/fL s t=0/\BV s t out e)/\(r= .aI [cp out,Iv e]\/out=[]/\r= .aI [ew,Iv e])):=by
 have hk:=FG [s,t] (by simp) (fun u hu=>by
  rcases List.mem_cons.1 hu with rfl|hu
  ·exact gg
  ·rw[List.mem_singleton.1 hu];exact fi)
 rw[FI]at hk
 have e:(.im (.sl 3 (aA [s,t])):AV)= .im (.sl 3 [[Si s.nm,Ii s.ix,.sl 3 (aA s.xs)],[Si t.nm,Ii t.ix,.sl 3 (aA t.xs)]]):=by simp only[aA,jx]
 rw[e]at hk
 by_cases U:fL s t=0
 ·obtain⟨k1,k2⟩:=y_ U
  rw[U]at hk
  obtain⟨a1,a2,a3⟩:=qX k1
  obtain⟨b1,b2,b3⟩:=qX k2
  have hu:=ab1 s t a1 b1 gg fi (by omega) (by omega) 0 []
  rw[tY,tY]at hu
  refine ai.walk [0,1,2,3,4,5,6,7,8,9,10,12,13,14,20,30,36,37,38,39,52,67] [14] Tryz.func49 rfl Tryz.ntmps49 (by kernel_rfl) (by rfl) rfl fun W own I0 ao lay=>?_
  refine gO ?_
  refine AQ.fn (by kernel_rfl) rfl rfl rfl (hk) rfl ?_
  refine sI ?_
  refine gO ?_
  refine AQ.iP 0 rfl (by kernel_rfl) rfl rfl rfl hu (fun r H' h=>h.low) fun r1 H1 hU=>?_
  refine sI ?_
  rcases hU.ex with⟨rfl,a_⟩|⟨u,kb,rfl,_,_,⟨S⟩⟩
  ·refine AQ.go (by kernel_rfl) ?_
   refine sI ?_
   refine gO ?_
   exact AE.aG rfl ⟨rfl,rfl,trivial⟩ rfl ⟨rfl,[],5,.inr ⟨U,.inl ⟨rfl,rfl,a_⟩⟩,.inr ⟨rfl,rfl⟩⟩
  ·refine AQ.go (by kernel_rfl) ?_
   refine sI ?_
   have xm:=S.hu
   refine gE @xm ?_
   have fw:S.g.vs.length<=1000:=by
    have:=Ec 1000 (S.g.vs.map fun p:Int×Nat=>p.1) S.gr.nd fun x hx=>by
     obtain⟨p,hp,rfl⟩:=List.mem_map.1 hx
     exact⟨(S.gr.vs p hp).2.2.2.1,(S.gr.vs p hp).2.2.2.2⟩
    simpa using this
   obtain⟨n1,e7⟩:∃n,bD H1=n:=⟨_,rfl⟩
   have lu:=bZ H1 _ _ S.hu
   have lm:=bZ H1 _ _ S.hm
   have lb:=bZ H1 _ _ S.hk
   rw[e7]at lu lm lb
   have i1:=bz lu
   have i2:=bz lm
   have i3:=bz lb
   refine AQ.iP n1 (eN (Nat.zero_le n1)) (by kernel_rfl) rfl rfl rfl (YR n1 S.m H1) (fun r H' ⟨b,_,U,_,h2⟩ x hx=>by rw[h2,cJ (by omega)]) fun r2 H2 ⟨b,e2,cM,iw,e3⟩=>?_
   subst e2
   have o2:∀x,x<n1->lk H2 x=lk H1 x:=fun x hx=>by rw[e3,cJ (by omega)]
   have VL:lk H2 b=some (.var (.cell 186) [.mp S.m]):=by rw[e3,gX]
   have ga:bD H2=b+1:=by rw[e3];exact vI (by omega)
   have ma:GH S.g S.up H2:=by rw[e3];exact S.gh.cons (by omega)
   have j1:=bz (show u<b+1 by omega)
   have j2:=bz (show S.m<b+1 by omega)
   have j3:=bz (show kb<b+1 by omega)
   have j4:=bz (show b<b+1 by omega)
   simp only[go_sem,Nat.reduceAdd,Nat.reduceLeDiff,Nat.reduceSub,Int.reduceToNat,reduceCtorEq,i1,i2,i3]
   refine AQ.go (by kernel_rfl) ?_
   refine sI ?_
   refine AQ.iP (b+1) (eN (Nat.zero_le _)) (by kernel_rfl) rfl rfl rfl (abn (b+1) ((o2 _ lm).trans S.hm) VL (by rw[vC,List.length_map]) S.gr.nd (by omega)) (fun r H' h=>by rw[h.2];exact cE.refl _ _) fun r3 H3 ⟨e4,e5⟩=>?_
   rw[e4,e5]
   clear e4 e5
   have xk:(db (S.g.vs.map (·.1))).length=S.g.vs.length:=by rw[ET,List.length_map]
   simp only[go_sem,Nat.reduceAdd,Nat.reduceLeDiff,Nat.reduceSub,Int.reduceToNat,reduceCtorEq,j1,j2,j3,j4]
   refine AQ.go (by kernel_rfl) ?_
   refine sE (an @cI @xk) ?_
   refine gO ?_
   refine AP.own 10 98 4 rfl ?_
   have z1:=eN (Nat.zero_le (b+1))
   refine sI ?_
   rw[ga]
   simp only[go_sem,Nat.reduceAdd,Nat.reduceLeDiff,Nat.reduceSub,Int.reduceToNat,reduceCtorEq,z1]
   obtain⟨H4,l8⟩:∃H4:aa,H4=(b+1,Ob.vec 98 4 [])::H2:=⟨_,rfl⟩
   have o4:∀x,x<b+1->lk H4 x=lk H2 x:=fun x hx=>by rw[l8,cJ (by omega)]
   rw[<-l8]
   have rm:Kp S (b+1) 0 H4:=by
    refine⟨by rw[l8];exact ma.cons (by omega),(o4 u (by omega)).trans ((o2 _ lu).trans S.hu),(o4 _ (by omega)).trans ((o2 _ lm).trans S.hm),(o4 _ (by omega)).trans ((o2 _ lb).trans S.hk),by rw[l8,gX];rfl,Nat.zero_le _,fun⟨v,hv,_⟩=>?_⟩
    simp at hv
   refine AP.loop rfl (α:=Nat×aa×Nat) (fun q=>[(7,.ob u 0),(8,.mp kb),(10,.os (b+1) 4 0 q.2.2),(36,.im (.sl 1 (cj (db (S.g.vs.map (·.1)))))),(37,Iv S.g.vs.length),(38,Iv q.1)]) (fun q=>q.2.1) (fun q=>Kp S (b+1) q.1 q.2.1/\q.2.2=(((db (S.g.vs.map (·.1))).take q.1).filter (iN S.up S.g.vs)).length) (fun q=>S.g.vs.length-q.1) (0,H4,0) ⟨rm,by simp⟩ (sU) rfl fun⟨k,H5,nr⟩ ⟨hq,qg⟩=>?_
   simp only at hq qg⊢
   rcases Nat.eq_or_lt_of_le hq.kl with aC|ag
   ·refine gO ?_
    refine cF ?_
    refine gO ?_
    subst aC
    have hnb:=hq.nb
    have aH:=hq.row
    rw[List.take_of_length_le (by rw[xk];exact Nat.le_refl _)]at hnb aH qg
    have oU:(b9 (pw (jd S.g.cl S.rt S.g.vs) ((db (S.g.vs.map (·.1))).filter (iN S.up S.g.vs)))).length=nr:=by rw[aw,pw,List.length_map,qg]
    have f1:=c7 (show u≠b+1 by omega)
    have f2:=c7 (show kb≠b+1 by omega)
    refine sI ?_
    refine AE.Gb (b+1) [] aH (fun _ h=>(nomatch h)) ?_ fun H9 _ _ _=>?_
    ·simp only[go_sem,Nat.reduceAdd,Nat.reduceLeDiff,Nat.reduceSub,Int.reduceToNat,reduceCtorEq,f1,f2,Nat.beq_refl]
     refine⟨?_,?_⟩<;>omega
    ·simp only[go_sem,Nat.reduceAdd,Nat.reduceLeDiff,Nat.reduceSub,Int.reduceToNat,reduceCtorEq,f1,f2,Nat.beq_refl,List.drop_zero,List.take_of_length_le (Nat.le_of_eq oU)]
     exact AE.aG rfl ⟨rfl,rfl,trivial⟩ rfl ⟨rfl,_,0,.inr ⟨U,.inr ⟨_,_,S.x8,S.bk,S.aE,S.rg,.inr ⟨rfl,hnb,rfl⟩⟩⟩,.inl rfl⟩
   ·obtain⟨v,hv⟩:∃v,(db (S.g.vs.map (·.1)))[k]?=some v:=⟨_,List.getElem?_eq_getElem (by rw[xk];exact ag)⟩
    have Yn:v∈S.g.vs.map (·.1):=(List.mergeSort_perm _ _).mem_iff.1 (List.mem_of_getElem? hv)
    obtain⟨p,hp,oa⟩:=List.mem_map.1 Yn
    have en:=vD S.gr.nd hp
    rw[oa]at en
    obtain⟨j,uZ,kE⟩:=DY en
    have On:(cj (db (S.g.vs.map (·.1)))).getD k []=[Ii v]:=by rw[Ic _ _ (by rw[xk];exact ag),List.getD_eq_getElem?_getD,hv];rfl
    have hw:=wr (x:=(k:Int)+1) (by omega)
    have rJ:=(S.gr.vs p hp).1
    have cc:=hq.gh.cell p.2 rJ
    have q1:=hq.hu
    unfold cA at cc
    refine gE (an @cI @xk) ?_
    refine cT ?_
    repeat(first|refine xA ?_|refine xB ?_|refine xC ?_|refine xE ?_|refine xD ?_|refine xK ?_|refine xS ?_|refine xM ?_|refine xT ?_|refine xF ?_|((first|refine xR ?_|refine xW ?_|refine gJ ?_);simp only[go_sem,Nat.reduceAdd,Nat.reduceLeDiff,Nat.reduceSub,Int.reduceToNat,reduceCtorEq,On,q1])|(refine⟨by first|omega|(intros;simp_all;done)|(intros;simp_all;omega),?_⟩;try simp only[go_sem,Nat.reduceAdd,Nat.reduceLeDiff,Nat.reduceSub,Int.reduceToNat,reduceCtorEq,On,q1]))
    refine⟨⟨by omega,by rw[cI,xk];omega⟩,?_⟩
    repeat(first|refine xA ?_|refine xB ?_|refine xC ?_|refine xE ?_|refine xD ?_|refine xK ?_|refine xS ?_|refine xM ?_|refine xT ?_|refine xF ?_|((first|refine xR ?_|refine xW ?_|refine gJ ?_);simp only[go_sem,Nat.reduceAdd,Nat.reduceLeDiff,Nat.reduceSub,Int.reduceToNat,reduceCtorEq,q1])|(refine⟨by first|omega|(intros;simp_all;done)|(intros;simp_all;omega),?_⟩;try simp only[go_sem,Nat.reduceAdd,Nat.reduceLeDiff,Nat.reduceSub,Int.reduceToNat,reduceCtorEq,q1]))
    refine AQ.vF j (by kernel_rfl) rfl rfl hq.hm BF u3 (jQ _) rfl (List.mem_of_getElem? (tn kE)) (fun i hi=>tq S.gr.nd kE hi) (Sr kE) ?_
    refine sI ?_
    cases jn:S.up p.2 with
    |none=>
     rw[jn]at cc
     simp only[pO]at cc
     repeat(first|refine xA ?_|refine xB ?_|refine xC ?_|refine xE ?_|refine xD ?_|refine xK ?_|refine xS ?_|refine xM ?_|refine xT ?_|refine xF ?_|((first|refine xR ?_|refine xW ?_|refine gJ ?_);simp only[go_sem,Nat.reduceAdd,Nat.reduceLeDiff,Nat.reduceSub,Int.reduceToNat,reduceCtorEq,cc])|(refine⟨by first|omega|(intros;simp_all;done)|(intros;simp_all;omega),?_⟩;try simp only[go_sem,Nat.reduceAdd,Nat.reduceLeDiff,Nat.reduceSub,Int.reduceToNat,reduceCtorEq,cc]))
     have CX:iN S.up S.g.vs v=false:=by
      rw[iN,en]
      show(S.up p.2).isSome=false
      rw[jn];rfl
     have bf:((db (S.g.vs.map (·.1))).take (k+1)).filter (iN S.up S.g.vs)=((db (S.g.vs.map (·.1))).take k).filter (iN S.up S.g.vs):=by
      rw[dE hv,List.filter_append,List.filter_cons,CX]
      simp
     rw[hw]
     exact AE.round (k+1,H5,nr) ⟨⟨hq.gh,hq.hu,hq.hm,hq.hk,by rw[bf];exact hq.row,ag,by rw[bf];exact hq.nb⟩,by rw[bf];exact qg⟩ (by simp only;omega) (sU) rfl
    |some d=>
     rw[jn]at cc
     simp only[pO]at cc
     repeat(first|refine xA ?_|refine xB ?_|refine xC ?_|refine xE ?_|refine xD ?_|refine xK ?_|refine xS ?_|refine xM ?_|refine xT ?_|refine xF ?_|((first|refine xR ?_|refine xW ?_|refine gJ ?_);simp only[go_sem,Nat.reduceAdd,Nat.reduceLeDiff,Nat.reduceSub,Int.reduceToNat,reduceCtorEq,cc])|(refine⟨by first|omega|(intros;simp_all;done)|(intros;simp_all;omega),?_⟩;try simp only[go_sem,Nat.reduceAdd,Nat.reduceLeDiff,Nat.reduceSub,Int.reduceToNat,reduceCtorEq,cc]))
     have CX:iN S.up S.g.vs v=true:=by
      rw[iN,en]
      show(S.up p.2).isSome=true
      rw[jn];rfl
     have bf:((db (S.g.vs.map (·.1))).take (k+1)).filter (iN S.up S.g.vs)=((db (S.g.vs.map (·.1))).take k).filter (iN S.up S.g.vs)++[v]:=by
      rw[dE hv,List.filter_append,List.filter_cons,CX]
      simp
     obtain⟨x,qq,Ox⟩:=S.tc p hp
     have mh:jd S.g.cl S.rt S.g.vs v=x:=za en Ox
     have eE:=S.r.mem rJ
     obtain⟨r,hr⟩:∃r,S.rt p.2=r:=⟨_,rfl⟩
     rw[hr]at qq eE
     obtain⟨n5,s5⟩:∃n,bD H5=n:=⟨_,rfl⟩
     have l1:=bZ H5 _ _ hq.hu
     have l2:=bZ H5 _ _ hq.hm
     have l3:=bZ H5 _ _ hq.hk
     have l4:=bZ H5 _ _ hq.row
     have l5:=hq.gh.lt (Nat.le_refl _) p.2 rJ
     have l6:=hq.gh.lt (Nat.le_refl _) r eE
     rw[s5]at l1 l2 l3 l4 l5 l6
     have s1:=yp n5 hq.gh S.r rJ
     rw[hr]at s1
     have m1:=bz l1
     have m2:=bz l2
     have m3:=bz l3
     have m4:=bz l4
     have m5:=bz l5.1
     have m6:=bz l6.1
     refine AQ.iP n5 (eN (Nat.zero_le _)) (by kernel_rfl) rfl rfl rfl s1 (fun r H' e=>by rw[e.1];exact cE.refl _ _) fun r' H' ⟨e1,e2⟩=>?_
     rw[e1,e2]
     clear e1 e2
     refine sE (an @m1 (an @m2 (an @m3 (an @m4 (an @m5 @m6))))) ?_
     refine AQ.go (by kernel_rfl) ?_
     refine sI ?_
     obtain⟨j2,Ny⟩:=List.getElem?_of_mem qq
     have W7:(S.k.map (·.1))[j2]?=some r:=by rw[List.getElem?_map,Ny];rfl
     have bh:=DU hq.gh S.ok eE
     refine AQ.Ep (x:=lV (some x)) j2 (by kernel_rfl) rfl rfl hq.hk S.pm yG (fun φ I w us u jC U h2=>⟨(bh φ I w us u jC U h2).1,(bh φ I w us u jC U h2).2.2 j2 W7⟩) (Ir Ny) ?_
     simp only[go_sem,Nat.reduceAdd,Nat.reduceLeDiff,Nat.reduceSub,Int.reduceToNat,reduceCtorEq,lV,pM]
     refine gO ?_
     have Ym:v∈(db (S.g.vs.map (·.1))).filter (iN S.up S.g.vs):=List.mem_filter.2 ⟨List.mem_of_getElem? hv,CX⟩
     have z5:=eN (Nat.zero_le n5)
     have w5:=wr (x:=((min (wT x) 8000:Nat):Int)+1) (by omega)
     rw[s5]
     simp only[go_sem,Nat.reduceAdd,Nat.reduceLeDiff,Nat.reduceSub,Int.reduceToNat,reduceCtorEq,z5,w5]
     refine AP.cond rfl rfl (fun h3=>?_) (fun h3=>?_)
     ·have h3:4000<=wT x\/100<cL x:=by
       simp only[Bool.or_eq_true,decide_eq_true_eq]at h3
       omega
      refine gO ?_
      exact AE.aG rfl ⟨rfl,rfl,trivial⟩ rfl ⟨rfl,[],15,.inr ⟨U,.inr ⟨_,_,S.x8,S.bk,S.aE,S.rg,.inl ⟨rfl,rfl,v,Ym,by rw[mh];exact h3⟩⟩⟩,.inr ⟨rfl,rfl⟩⟩
     ·have h3:¬(4000<=wT x\/100<cL x):=by
       simp only[Bool.or_eq_false_iff,decide_eq_false_iff_not]at h3
       omega
      obtain⟨H6,sJ⟩:∃H6:aa,H6=(n5,Ob.var (.cell 194) [Bv false,Iv ((min (wT x) 8000:Nat):Int),Iv (cL x)])::H5:=⟨_,rfl⟩
      have o6:∀y,y<n5->lk H6 y=lk H5 y:=fun y hy=>by rw[sJ,cJ (by omega)]
      have sQ:GH S.g S.up H6:=by rw[sJ];exact hq.gh.cons (by omega)
      have hn6:bD H6=n5+1:=by rw[sJ];exact vI (by omega)
      have ht:=R1 S.g S.gr S.up S.rt S.rk S.r (wT x) x p.2 (n5+1) H6 (Nat.le_refl _) Ox rJ sQ (by omega)
      have m1:=bz (show u<n5+1 by omega)
      have m3:=bz (show kb<n5+1 by omega)
      have m4:=bz (show b+1<n5+1 by omega)
      have m5:=bz (show p.2<n5+1 by omega)
      have m6:=bz (show n5<n5+1 by omega)
      rw[<-sJ]
      refine gO ?_
      refine AQ.iP (n5+1) (eN (Nat.zero_le _)) (by kernel_rfl) rfl rfl rfl ht (fun r H' h=>h.low) fun r7 H7 hT=>?_
      rw[hT.r,tY]
      refine sE (an @m1 (an @m3 (an @m4 (an @m5 @m6)))) ?_
      refine AQ.go (by kernel_rfl) ?_
      refine sI ?_
      have jk:=fun y o (hy:y<n5) (h:lk H5 y=some o) (dU:kY (n5+1) o)=>hT.bU y o (by omega) ((o6 y hy).trans h) dU
      have qc:∀q∈S.k,q.1<n5:=fun q mW=>by have:=(hq.gh.lt (Nat.le_refl _) _ (S.ok.ro q mW).1).1;omega
      have Yg:∀q∈S.g.vs,q.2<n5:=fun q mW=>by have:=(hq.gh.lt (Nat.le_refl _) _ (S.gr.vs q mW).1).1;omega
      have VU:=jk u _ l1 hq.hu (fun y hy=>by simp only[Ob.men,AV.mens,AV.men,c7 (show S.m≠y by omega),Bool.or_false])
      have VS:=jk S.m _ l2 hq.hm (fun y hy=>E2 fun q mW=>by have:=Yg q mW;omega)
      have zy:=jk kb _ l3 hq.hk (fun y hy=>QG S.pm fun q mW=>by have:=qc q mW;omega)
      have VT:=jk (b+1) _ l4 hq.row (fun y hy=>rfl)
      have CK:GH S.g S.up H7:=sQ.bU S.gr S.r (by omega) hT.bU
      have oU:(b9 (pw (jd S.g.cl S.rt S.g.vs) (((db (S.g.vs.map (·.1))).take k).filter (iN S.up S.g.vs)))).length=nr:=by rw[aw,pw,List.length_map,qg]
      have aec:nr<=1000:=by
       have h4:=List.length_filter_le (iN S.up S.g.vs) ((db (S.g.vs.map (·.1))).take k)
       rw[List.length_take]at h4
       omega
      refine AQ.SB (es:=3) (show 0<=b+1 by omega) (by kernel_rfl) rfl rfl VT Tryz.R3 Tryz.R0 ?_ Tryz.K2 oU.symm (by rw[oU];simp only[List.length_cons,List.length_nil];omega) (by rw[oU];simp only[List.length_cons,List.length_nil];omega) fun H8 VV o8=>?_
      ·show Option.map _ (ax Tryz.prog 98)=_;rw[Tryz.S7];rfl
      have d1:u≠b+1:=by omega
      have d2:kb≠b+1:=by omega
      have d3:∀c∈S.g.L,c≠b+1/\S.g.dp c≠b+1:=fun c hc=>by have:=ma.lt (Nat.le_of_eq ga) c hc;omega
      have f1:=c7 d1
      have f2:=c7 d2
      have f3:=c7 (d3 p.2 rJ).1
      have f4:=c7 (show n5≠b+1 by omega)
      simp only[go_sem,Nat.reduceAdd,Nat.reduceLeDiff,Nat.reduceSub,Int.reduceToNat,reduceCtorEq,f1,f2,f3,f4,oU,List.length_cons,List.length_nil]
      refine gE @hw ?_
      refine AE.round (k+1,H8,nr+1) ⟨⟨⟨fun c hc=>?_,fun c hc=>?_⟩,?_,?_,?_,?_,ag,?_⟩,?_⟩ (by simp only;omega) (sU) rfl
      ·refine(o8 c (d3 c hc).1).trans ?_
       rw[CK.cell c hc,Option.map_some,kN]
       have h5:=(ma.x2 S.gr S.r (Nat.le_of_eq ga) c hc).1
       exact h5 _ (Nat.le_refl _)
      ·refine(o8 _ (d3 c hc).2).trans ?_
       rw[CK.row c hc,Option.map_some,kN]
       exact(ma.x2 S.gr S.r (Nat.le_of_eq ga) c hc).2 _ (Nat.le_refl _)
      ·refine(o8 u d1).trans ?_
       rw[VU,Option.map_some,kN]
       simp only[Ob.men,AV.mens,AV.men,c7 (show S.m≠b+1 by omega),Bool.or_false]
      ·refine(o8 S.m (by omega)).trans ?_
       rw[VS,Option.map_some,kN]
       exact E2 fun q mW=>(d3 _ (S.gr.vs q mW).1).1
      ·refine(o8 kb d2).trans ?_
       rw[zy,Option.map_some,kN (QG S.pm fun q mW=>(d3 _ (S.ok.ro q mW).1).1)]
      ·rw[VV,bf,pw,pw,List.map_append,b9,b9,List.map_append]
       show some (Ob.vec 98 4 (_++_))=some (Ob.vec 98 4 (_++[KR (v,jd S.g.cl S.rt S.g.vs v)]))
       rw[mh]
      ·rw[bf]
       rintro⟨w,bT,gi⟩
       rcases List.mem_append.1 bT with bT|bT
       ·exact hq.nb ⟨w,bT,gi⟩
       ·rw[List.mem_singleton.1 bT,mh]at gi
        exact h3 gi
      ·show nr+1=_
       rw[bf,List.length_append,<-qg];rfl
 ·refine ai.walk [0,1,2,3,4,5,6,7,8,9,10,12,13,14,20,30,36,37,38,39,52,67] [14] Tryz.func49 rfl Tryz.ntmps49 (by kernel_rfl) (by rfl) rfl fun W own I0 ao lay=>?_
  refine gO ?_
  refine AQ.fn (by kernel_rfl) rfl rfl rfl (hk) rfl ?_
  refine sI ?_
  refine gO ?_
  refine AP.cond rfl rfl (fun h2=>?_) (fun h2=>?_)
  ·refine gO ?_
   exact AE.aG rfl ⟨rfl,rfl,trivial⟩ rfl ⟨rfl,[],_,.inl ⟨U,rfl,rfl⟩,.inr ⟨rfl,rfl⟩⟩
  ·exact absurd (by simpa using h2) U
theorem Tk {s t:Tm} {out Em:Bd} {e e':Int} (h:BV s t out e) (h':Fj s t Em e'):out=Em/\e=e'/\∀b∈out,aE b.2:=by
 rcases h with⟨rfl,rfl,a_⟩|⟨f,ks,hM,hK,hL,_,h⟩
 ·rcases h' with⟨rfl,rfl,_⟩|⟨l,f,_,hM,_⟩
  ·exact⟨rfl,rfl,fun b hb=>(nomatch hb)⟩
  ·exact absurd hM.u (a_ f)
 ·rcases h' with⟨_,_,a_⟩|⟨l,f',hB,Wb,h'⟩
  ·exact absurd hM.u (a_ f)
  ·have hf:∀v,f v=f' v:=hM.uniq Wb
   have u6:∀v,v∈ks↔∃x,(v,x)∈l:=fun v=>by rw[hK.2,hf v];exact hB.r.b v
   have zK:(∃v∈ks,4000<=wT (f v)\/100<cL (f v))↔yZ f' l:=by
    constructor
    ·rintro⟨v,hv,h⟩
     obtain⟨x,hx⟩:=(u6 v).1 hv
     exact⟨(v,x),hx,by rw[hf v]at h;exact h⟩
    ·rintro⟨b,hb,h⟩
     exact⟨b.1,(u6 b.1).2 ⟨b.2,hb⟩,by rw[hf];exact h⟩
   rcases h with⟨rfl,rfl,h⟩|⟨rfl,h,rfl⟩
   ·rcases h' with⟨rfl,rfl,_⟩|⟨_,h2,_⟩
    ·exact⟨rfl,rfl,fun b hb=>(nomatch hb)⟩
    ·exact absurd (zK.1 h) h2
   ·rcases h' with⟨_,_,h2⟩|⟨rfl,_,rfl⟩
    ·exact absurd (zK.2 h2) h
    ·refine⟨?_,rfl,fun b hb=>?_⟩
     ·have WY:f=f':=funext hf
      subst WY
      refine(abp (f:=f) ?_ (fun b hb=>?_) hK.1 fun v=>?_).symm
      ·rw[List.map_map];exact hB.k.1
      ·obtain⟨c,_,rfl⟩:=List.mem_map.1 hb;rfl
      ·rw[u6 v]
       constructor
       ·rintro⟨x,hx⟩;exact⟨f v,List.mem_map.2 ⟨(v,x),hx,rfl⟩⟩
       ·rintro⟨x,hx⟩
        obtain⟨c,hc,e⟩:=List.mem_map.1 hx
        cases e
        exact⟨c.2,hc⟩
     ·obtain⟨v,_,rfl⟩:=List.mem_map.1 hb
      exact hL v
theorem BV.j8 {s t:Tm} {out:Bd} {e:Int} (h:BV s t out e):j8 out:=by
 rcases h with⟨_,rfl,_⟩|⟨f,ks,_,hK,hL,hR,⟨_,rfl,_⟩|⟨_,_,rfl⟩⟩
 ·exact⟨Nat.zero_le _,fun b hb=>(nomatch hb)⟩
 ·exact⟨Nat.zero_le _,fun b hb=>(nomatch hb)⟩
 ·refine⟨?_,fun b hb=>?_⟩
  ·have:=Ec 1000 ks (hK.1.imp fun h=>by omega) hR
   rw[pw,List.length_map];omega
  ·obtain⟨v,_,rfl⟩:=List.mem_map.1 hb
   exact hL v
theorem R_ {P:Program} {f:FuncId} {args:List AV} {R:Bd->Int->Prop} (h:ai P f args [] (fun r H'=>H'=[]/\∃out e,R out e/\(r= .aI [cp out,Iv e]\/out=[]/\r= .aI [ew,Iv e]))):
  ai P f args [] (fun r H'=>H'=[]/\∃out e,R out e/\r= .aI [cp out,Iv e]):=
 ⟨h.gN,fun w φ I vs hd hR hV=>(h.run w φ I vs hd hR hV).mono fun e w' ⟨r,H',φ',I',v,⟨hH,out,ec,Wi,hr⟩,he,bc,hS⟩=>by
  refine⟨.aI [cp out,Iv ec],H',φ',I',v,⟨hH,out,ec,Wi,rfl⟩,he,?_,hS⟩
  rcases hr with rfl|⟨rfl,rfl⟩
  ·exact bc
  ·exact(show c6 (.aI [ew,Iv ec]) (.aI [cp [],Iv ec]) from c6.aI (bP.k6 (c6.im (fK.nil 4)) (bP.refl _))) _ _ _ _ bc⟩
theorem ZI {s t:Tm} (hs:wT s<=1000000) (ht:aE t):j8 (iZ s t):=by
 rw[iZ]
 split
 ·have hp:(cV [] (cn s t []).1).Perm (cn s t []).1:=by have:=yx (cn s t []).1 [];rwa [List.nil_append]at this
  have hl:=x_ s t []
  refine⟨by rw[hp.length_eq];simp at hl;omega,fun b hb=>A6 s t [] ht (fun b hb=>(nomatch hb)) b (hp.mem_iff.1 hb)⟩
 ·exact⟨Nat.zero_le _,fun b hb=>(nomatch hb)⟩
theorem abF (s t:Tm) (hs:lT s) (ht:lT t):aS Tryz.prog 7 [aP s,aP t] (Bv true):=by
 have dQ:=aau s t hs ht
 refine ai.walk [0,1,2,3,4,5,6,7,8,9,10,11,12,13,14,15,16,20] [] Tryz.func7 rfl Tryz.ntmps7 (by kernel_rfl) (by rfl) rfl fun W own I0 ao lay=>?_
 refine gO ?_
 refine AQ.fn (by kernel_rfl) rfl rfl rfl (dQ) rfl ?_
 refine sI ?_
 refine gO ?_
 refine AP.cond rfl rfl (fun h=>?_) (fun h=>?_)
 ·refine gO ?_
  refine AQ.fn (by kernel_rfl) rfl rfl rfl (KK) rfl ?_
  refine sI ?_
  refine gO ?_
  exact AE.aG rfl ⟨rfl,trivial⟩ rfl ⟨rfl,rfl⟩
 have U:pK (b6 s) 51=true/\pK (b6 t) 51=true:=by
  cases hA:pK (b6 s) 51<;>cases hB:pK (b6 t) 51<;>rw[hA,hB]at h<;>simp at h
  exact⟨rfl,rfl⟩
 obtain⟨rM,pe⟩:=Ry U.1
 obtain⟨qo,rN⟩:=Ry U.2
 have s4:j8 (iZ s t):=ZI (by omega) qo
 have hu:=R_ (ab3 s t rM qo)
 have hv:=R_ (ab4 s t rM qo)
 refine gO ?_
 refine AP.bQ 10 (Tree.node [] [0,2] [1] [Tree.node [2] [] [3] [Tree.node [] [] [4] [Tree.node [] [5,6,7,8,9] [] []]]]) (by kernel_rfl) rfl (by kernel_rfl) (by kernel_rfl) ?_
 refine bO ?_
 refine sI ?_
 refine AQ.fn (by kernel_rfl) rfl rfl rfl (uy s rM) rfl ?_
 refine sI ?_
 refine AQ.nx rfl ?_
 refine sI ?_
 refine AQ.fn (by kernel_rfl) rfl rfl rfl (uy t qo) rfl ?_
 refine sI ?_
 refine AQ.nx rfl ?_
 refine sI ?_
 refine AQ.uq (by kernel_rfl) rfl rfl rfl hu fun r' H' ⟨e3,out,e,hO,hr⟩=>?_
 subst e3
 subst hr
 refine sI ?_
 refine AQ.nx rfl ?_
 refine sI ?_
 refine AQ.done ?_
 refine gO ?_
 refine AQ.uq (by kernel_rfl) rfl rfl rfl hv fun r' H' ⟨e3,Em,e',CP,hr⟩=>?_
 subst e3
 subst hr
 have Xy:out=Em/\e=e'/\j8 out:=by
  rcases hO with⟨h2,rfl,rfl⟩|⟨h2,hO⟩
  ·rcases CP with⟨_,rfl,rfl⟩|⟨h3,_⟩
   ·exact⟨rfl,rfl,Nat.zero_le _,fun b hb=>(nomatch hb)⟩
   ·exact absurd h3 h2
  ·rcases CP with⟨h3,_⟩|⟨_,CP⟩
   ·exact absurd h2 h3
   ·obtain⟨a,b,_⟩:=Tk hO CP
    exact⟨a,b,hO.j8⟩
 obtain⟨rfl,rfl,oU⟩:=Xy
 refine sI ?_
 refine gO ?_
 refine AP.bQ 10 (Tree.node [] [0,2] [1] [Tree.node [2] [] [3] [Tree.node [] [] [4] [Tree.node [] [5,6,7,8,9] [] []]]]) (by kernel_rfl) rfl (by kernel_rfl) (by kernel_rfl) ?_
 refine bO ?_
 refine sI ?_
 refine AQ.fn (by kernel_rfl) rfl rfl rfl (uy s rM) rfl ?_
 refine sI ?_
 refine AQ.nx rfl ?_
 refine sI ?_
 refine AQ.fn (by kernel_rfl) rfl rfl rfl (uy t qo) rfl ?_
 refine sI ?_
 refine AQ.nx rfl ?_
 refine sI ?_
 refine AQ.fn (by kernel_rfl) rfl rfl rfl (ZF s t rM qo) rfl ?_
 refine sI ?_
 refine AQ.nx rfl ?_
 refine sI ?_
 refine AQ.done ?_
 refine gO ?_
 refine AQ.fn (by kernel_rfl) rfl rfl rfl (ZG s t rM qo) rfl ?_
 refine sI ?_
 refine gO ?_
 refine AP.bQ 10 (Tree.node [] [0,2] [1] [Tree.node [2] [] [3] [Tree.node [] [] [4] [Tree.node [] [5,6,7,8,9] [] []]]]) (by kernel_rfl) rfl (by kernel_rfl) (by kernel_rfl) ?_
 refine bO ?_
 refine sI ?_
 refine AQ.fn (by kernel_rfl) rfl rfl rfl (uy s rM) rfl ?_
 refine sI ?_
 refine AQ.nx rfl ?_
 refine sI ?_
 refine AQ.fn (by kernel_rfl) rfl rfl rfl (uy t qo) rfl ?_
 refine sI ?_
 refine AQ.nx rfl ?_
 refine sI ?_
 refine AQ.fn (by kernel_rfl) rfl rfl rfl (Kh s t rM qo) rfl ?_
 refine sI ?_
 refine AQ.nx rfl ?_
 refine sI ?_
 refine AQ.done ?_
 refine gO ?_
 refine AQ.fn (by kernel_rfl) rfl rfl rfl (UK s t rM qo) rfl ?_
 refine sI ?_
 refine gO ?_
 refine AQ.fn (by kernel_rfl) rfl rfl rfl (KX out out oU oU) rfl ?_
 rw[FZ]
 refine sE @beq_self_eq_true.{0} ?_
 refine gE @beq_self_eq_true.{0} ?_
 refine AQ.nQ (by simp only[go_sem]) ?_
 refine AQ.fn (by kernel_rfl) rfl rfl rfl (KX (iZ s t) (iZ s t) s4 s4) rfl ?_
 rw[FZ]
 refine sE @beq_self_eq_true.{0} ?_
 refine gE @beq_self_eq_true.{0} ?_
 refine AQ.nQ (by simp only[go_sem]) ?_
 refine AQ.fn (by kernel_rfl) rfl rfl rfl (KK) rfl ?_
 refine sI ?_
 refine gO ?_
 exact AE.aG rfl ⟨rfl,trivial⟩ rfl ⟨rfl,rfl⟩
end Go.Proofs.YtpfohmboflcneaaGreatDoor
end
