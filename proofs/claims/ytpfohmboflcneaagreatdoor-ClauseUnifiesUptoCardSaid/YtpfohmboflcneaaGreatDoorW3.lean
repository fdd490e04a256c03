import Derived.Test.YtpfohmboflcneaaGreatDoorW2
set_option linter.unusedSimpArgs false
set_option linter.unusedVariables false
set_option linter.unnecessarySimpa false
section
namespace Go.Proofs.YtpfohmboflcneaaGreatDoor
open Go Go.AL Go.RowKit
set_option maxRecDepth 10000
set_option maxHeartbeats 4000000
abbrev rm:Nat->Option Nat:=fun _=>none
structure RW (nb m:Nat) (g:Gs) (H:aa) (t:Tm) (r:AV) (H':aa):Prop where
 ex:∃g' c,r= .ob c 0/\GH g' rm H'/\Gr g'/\gL nb g g'/\lk H' m=some (.var (.map (kI g'.vs)) (vC g'.vs))/\c∈g'.L/\g'.d c=t/\(∀p∈g'.vs,p∈g.vs\/nM g'.cl c p.2)/\g'.L.length<=g.L.length+wT t
 bQ:∀b o,b<nb->b≠m->lk H b=some o->kC nb o->lk H' b=some o
 low:cu nb H H'
structure Jy (nb m:Nat) (g:Gs) (H:aa) (t:Tm) (g1:Gs) (ks:List Nat) (H1:aa):Prop where
 gh:GH g1 rm H1
 gr:Gr g1
 le:gL (nb+2) g g1
 mp:lk H1 m=some (.var (.map (kI g1.vs)) (vC g1.vs))
 c0:lk H1 nb=some (.var 192 [oF,Sv t.nm,Iv 0,.os (nb+1) 1 0 ks.length])
 r0:lk H1 (nb+1)=some (jh ks)
 kL:∀k∈ks,k∈g1.L
 kl:ks.length<=t.xs.length
 kd:ks.map g1.d=t.xs.take ks.length
 uS:∀p∈g1.vs,p∈g.vs\/∃k∈ks,nM g1.cl k p.2
 bQ:∀b o,b<nb->b≠m->lk H b=some o->kC nb o->lk H1 b=some o
 low:cu nb H H1
 ll:g1.L.length<=g.L.length+aK (t.xs.take ks.length)
theorem ct {H:aa} {x b:Nat} {o:Ob} (h:b≠x):lk ((x,o)::H) b=lk H b:=by
 have:Nat.beq x b=false:=Bool.eq_false_iff.2 fun e=>h (Nat.eq_of_beq_eq_true e).symm
 simp only[lk,this,cond_false]
theorem gG {H:aa} {x:Nat} {o:Ob}:lk ((x,o)::H) x=some o:=by simp only[lk,Nat.beq_refl,cond_true]
theorem cP {a b:Nat} (h:a≠b):Nat.beq a b=false:=Bool.eq_false_iff.2 fun e=>h (Nat.eq_of_beq_eq_true e)
theorem bq {a b:Nat} (h:b<a):Nat.ble a b=false:=Bool.eq_false_iff.2 fun e=>by have:=Nat.le_of_ble_eq_true e;omega
theorem er {a b:Nat} (h:a<=b):Nat.ble a b=true:=Nat.ble_eq_true_of_le h
theorem uL {H:aa} {x:Nat} {o:Ob} (h:bB H<=x):bB ((x,o)::H)=x+1:=by simp only[bB,er h,cond_true]
theorem Tg {g:Gs} {b c:Nat} (h:g.c8 c≠b):(Ob.var 192 (cA g rm c)).men b=false:=by
 simp only[Ob.men,cA,oQ,AV.mens,AV.men,cP h,Bool.or_false]
theorem GH.kill {g:Gs} {H H':aa} (h:GH g rm H) (hg:Gr g) {b:Nat} (hb:∀c∈g.L,c≠b/\g.c8 c≠b) (cH:∀c∈g.L,lk H' c=(lk H c).map (eZ b)/\lk H' (g.c8 c)=(lk H (g.c8 c)).map (eZ b)):GH g rm H':=by
 refine⟨fun c hc=>?_,fun c hc=>?_⟩
 ·rw[(cH c hc).1,h.cell c hc,Option.map_some,j9 (Tg (hb c hc).2)]
 ·rw[(cH c hc).2,h.row c hc,Option.map_some,j9 (DJ fun hk=>(hb b (hg.kids c hc b hk)).1 rfl)]
theorem GH.same {g:Gs} {up:Nat->Option Nat} {H H':aa} (h:GH g up H) (cH:∀c∈g.L,lk H' c=lk H c/\lk H' (g.c8 c)=lk H (g.c8 c)):GH g up H':=
 ⟨fun c hc=>(cH c hc).1.trans (h.cell c hc),fun c hc=>(cH c hc).2.trans (h.row c hc)⟩
theorem GH.cons {g:Gs} {up:Nat->Option Nat} {H:aa} {x:Nat} {o:Ob} (h:GH g up H) (hx:bB H<=x):GH g up ((x,o)::H):=
 h.same fun c hc=>by have:=h.lt hx c hc;exact⟨ct (by omega),ct (by omega)⟩
theorem HB {α:Type} {v:Int}:∀{m:List (Int×α)},aU m v=none->v∉m.map (·.1)
 |[],_,h=>by cases h
 |(w,x)::m,h,hm=>by
  have h2:=C9.1 h
  rw[List.map_cons,List.mem_cons]at hm
  have:∀(m:List (Int×α)),dA m v=none->v∉m.map (·.1):=fun m h=>by
   intro hc
   obtain⟨p,hp,e⟩:=List.mem_map.1 hc
   exact mA h (List.mem_map.2 ⟨p,hp,by rw[e]⟩)
  exact this _ h2 (by simpa using hm)
theorem gL.mono {nb sK:Nat} {g g':Gs} (h:gL sK g g') (hn:nb<=sK):gL nb g g':=⟨h.b_,fun c hc fN=>by have:=h.new c hc fN;omega,h.vs⟩
theorem OT {nb:Nat} {H:aa} {o:Ob} (h:bB H<=nb):au nb ((nb,o)::H)=nb+1:=by
 unfold au
 rw[uL h,er (Nat.le_succ nb),cond_true]
theorem GO {H:aa} {x:Nat} {o o':Ob}:aN ((x,o)::H) x o'=(x,o')::H:=by simp only[aN,Nat.beq_refl,cond_true]
theorem iR (t:Tm):bf t= .agg [Sv t.nm,Iv t.ix,.im (.sl 3 (az t.xs))]:=by cases t;rfl
theorem EG:∀(N:Nat) (t:Tm) (nb:Nat) (H:aa) (u m:Nat) (g:Gs),wT t<=N->c7 t=true->aR t->bB H<=nb->GH g rm H->Gr g->
  lk H u=some (.var 189 [.mp m])->lk H m=some (.var (.map (kI g.vs)) (vC g.vs))->dv Tryz.prog nb 177 [.ob u 0,bf t] H (RW nb m g H t)
 |0,t,_,_,_,_,_,h,_,_,_,_,_,_,_=>by have:=u9 t;omega
 |N+1,t,nb,H,u,m,g,hN,ah,mq,hnb,hG,hr,hu,hm=>by
  have Nr:=ji.1 mq
  have kZ:=bU H u _ hu
  have hmn:=bU H m _ hm
  have W_:u≠m:=fun e=>by rw[e,hm]at hu;cases hu
  have BU:=hG.lt hnb
  have U5:=hG.ne hm
  have tT:nb∉g.L:=fun h=>by have:=(BU nb h).1;omega
  have qL:au nb H=nb:=by
   unfold au
   cases h:Nat.ble nb (bB H)with
   |true=>have:=Nat.le_of_ble_eq_true h;simp only[cond_true];omega
   |false=>rfl
  simp only[go_sem,au]at qL
  have hle:=er hnb
  have eL:=cP (show nb≠u by omega)
  have nZ:=cP (show nb≠m by omega)
  have FT:=cP (show nb+1≠u by omega)
  have FR:=cP (show nb+1≠m by omega)
  refine dv.walk [0,1,3,4,5,6,7,9,12,24,42,43,44,45] [5,7,9,28,40] Tryz.func177 rfl Tryz.ntmps177 (by kernel_rfl) (by rfl) fun W own I0 aq lay=>?_
  refine gO ?_
  refine AP.cond rfl rfl (fun h=>?_) (fun h=>?_)
  ·have hn:t.nm=[]:=by simpa using h
   obtain⟨et,hi⟩:=Y4 ah hn
   refine gO ?_
   refine AP.db 12 (Tree.node [] [0,1,2,3,4,5] [6] [Tree.node [] [7,8,9,10,11] [] []]) (by kernel_rfl) rfl (by kernel_rfl) (by kernel_rfl) ?_
   refine c_ ?_
   refine sE @hu ?_
   cases hk:aU g.vs t.ix with
   |some c=>
    obtain⟨j,U,h2⟩:=zX hk
    refine AQ.sF j (by kernel_rfl) rfl rfl hm AA u3 (gF _) rfl (List.mem_of_getElem? (qQ h2)) (fun i hi=>qR hr.nd h2 hi) (Rg h2) ?_
    refine sI ?_
    refine AQ.nx rfl ?_
    refine sI ?_
    refine AQ.done ?_
    refine gO ?_
    have hp:=hr.vs _ (List.mem_of_getElem? h2)
    refine AE.ret rfl ⟨rfl,trivial⟩ ⟨⟨g,c,rfl,hG,hr,gL.refl _ _,hm,hp.1,?_,fun p hp=> .inl hp,Nat.le_add_right _ _⟩,fun b o _ _ h _=>h,cu.refl _ _⟩
    rw[hr.dn c,if_pos hp.2.1,hp.2.2.1,<-et]
   |none=>
    refine AQ.Df (by kernel_rfl) rfl rfl hm AA u3 (gF _) rfl (mA (C9.1 hk)) rfl rfl ?_
    refine sI ?_
    refine AQ.nx rfl ?_
    refine sI ?_
    refine AQ.done ?_
    refine gO ?_
    rw[qL]
    refine sI ?_
    refine AP.jg nb 3 187 1 gG rfl ?_
    rw[OT hnb,GO]
    refine sI ?_
    refine AP.db 8 (Tree.node [] [0,1,2,3,4,5,6] [7] [Tree.node [] [] [] []]) (by kernel_rfl) rfl (by kernel_rfl) (by kernel_rfl) ?_
    refine c_ ?_
    refine sE (an @eL (an @nZ (an @hu (an @hm (an @FT @FR))))) ?_
    refine AQ.Ab (ks:=kI g.vs) (cs:=vC g.vs) (by kernel_rfl) rfl rfl rfl (by rw[ct (by omega),ct (by omega)];exact hm) AA u3 (gF _) rfl (mA (C9.1 hk)) ?_
    refine sE (an @eL (an @nZ (an @FT @FR))) ?_
    refine AQ.nx rfl ?_
    refine sE (an @eL (an @nZ (an @FT @FR))) ?_
    refine AQ.done ?_
    refine gO ?_
    have gB:t.ix∉g.vs.map (·.1):=HB hk
    have ho:∀b,b≠nb->b≠nb+1->b≠m->∀o1 o2 o3,lk ((nb+1,o1)::(nb,o2)::aN H m o3) b=lk H b:=fun b U h2 h3 o1 o2 o3=>by rw[ct h2,ct U,cm _ _ _ _ h3]
    refine AE.ret rfl ⟨rfl,trivial⟩ ⟨⟨g.put nb (nb+1) ⟨[],t.ix,[]⟩ (bg t.ix) (g.vs++[(t.ix,nb)]),nb,rfl,hG.put tT rfl (fun b hb=>?_) (by rw[ct (by omega),gG];rfl) gG,hr.ZB tT hi gB,gL.put tT (Nat.le_refl _) (Nat.le_succ _) (fun p hp=>List.mem_append_left _ hp),?_,List.mem_cons_self ..,?_,fun p hp=>?_,by have:=u9 t;show(nb::g.L).length<=_;rw[List.length_cons];omega⟩,fun b o hb nZ h _=>?_,fun b hb=>?_⟩
    ·have U:=BU b hb
     have h2:=U5 b hb
     exact⟨ho b (by omega) (by omega) h2.1 _ _ _,ho _ (by omega) (by omega) h2.2 _ _ _⟩
    ·rw[ct (by omega),ct (by omega),cV _ _ _ hm]
     simp[Gs.put,kI,vC]
    ·show cJ _ _ _ _=_
     rw[iS,<-et]
    ·have hp:p∈g.vs++[(t.ix,nb)]:=hp
     rcases List.mem_append.1 hp with hp|hp
     ·exact .inl hp
     ·rw[List.mem_singleton.1 hp];exact .inr (.refl _)
    ·rw[ho b (by omega) (by omega) nZ];exact h
    ·by_cases h:b=m
     ·subst h
      rw[ct (by omega),ct (by omega),cV _ _ _ hm,hm];rfl
     ·rw[ho b (by omega) (by omega) h]
  ·refine gO ?_
   rw[qL]
   refine sI ?_
   refine AP.jg nb 3 187 1 gG rfl ?_
   rw[OT hnb,GO]
   refine gO ?_
   rw[aw]
   obtain⟨H0,BF⟩:∃H0:aa,H0=(nb+1,Ob.vec 187 1 [])::(nb,Ob.var 192 [oF,Sv t.nm,Iv 0,.os (nb+1) 1 0 0])::H:=⟨_,rfl⟩
   have pv:∀b,b<nb->lk H0 b=lk H b:=fun b hb=>by rw[BF,ct (by omega),ct (by omega)]
   have qs:Jy nb m g H t g [] H0:=by
    refine⟨hG.same fun c hc=>?_,hr,gL.refl _ _,by rw[pv m (by omega)];exact hm,by rw[BF,ct (by omega),gG];rfl,by rw[BF,gG];rfl,(fun k hk=>by cases hk),Nat.zero_le _,rfl,fun p hp=> .inl hp,(fun b o hb _ h _=>by rw[pv b hb];exact h),(fun b hb=>by rw[pv b hb]),Nat.le_add_right _ _⟩
    have:=BU c hc
    exact⟨pv _ this.1,pv _ this.2⟩
   refine AP.loop rfl (α:=Gs×List Nat×aa) (fun q=>[(0,.ob u 0),(7,.ob nb 0),(42,.im (.sl 3 (az t.xs))),(43,Iv t.xs.length),(44,Iv q.2.1.length)]) (fun q=>q.2.2) (fun q=>Jy nb m g H t q.1 q.2.1 q.2.2) (fun q=>t.xs.length-q.2.1.length) (g,[],H0) qs (sU) BF.symm fun⟨g1,ks,H1⟩ hq=>?_
   simp only at hq⊢
   rcases Nat.eq_or_lt_of_le hq.kl with aM|ag
   ·refine gE @aw ?_
    refine cF ?_
    refine gO ?_
    have B7:nb∉g1.L:=fun h=>by
     by_cases h2:nb∈g.L
     ·exact tT h2
     ·have:=hq.le.new nb h h2;omega
    have fi:ks.map g1.d=t.xs:=by rw[hq.kd,aM,List.take_length]
    have e_:t.nm≠[]:=by simpa using h
    have wz:t= .mk t.nm 0 t.xs:=by
     have U:=ah
     rw[sQ,if_neg e_]at U
     simp only[Bool.and_eq_true,beq_iff_eq]at U
     have h2:=U.1.2
     cases t;simp only[Tm.ix]at h2;subst h2;rfl
    have hP:=hq.gr.Zw (r:=nb+1) B7 e_ hq.kL (by omega) Nr.1
    refine AE.ret rfl ⟨rfl,trivial⟩ ⟨⟨g1.put nb (nb+1) ⟨t.nm,0,ks⟩ (.mk t.nm 0 (ks.map g1.d)) g1.vs,nb,rfl,hq.gh.put B7 rfl (fun b hb=>⟨rfl,rfl⟩) hq.c0 hq.r0,hP,?_,hq.mp,List.mem_cons_self ..,?_,fun p hp=>?_,?_⟩,hq.bQ,hq.low⟩
    ·exact(gL.mono hq.le (Nat.le_add_right _ _)).trans (gL.put B7 (Nat.le_refl nb) (Nat.le_succ nb) (fun p hp=>hp)) (Nat.le_refl nb)
    ·show cJ _ _ _ _=_
     rw[iS,fi];exact wz.symm
    ·rcases hq.uS p hp with U|⟨k,hk,U⟩
     ·exact .inl U
     ·refine .inr (.arg (k:=k) (by show k∈(cJ (α:=Nd) _ _ _ _).ks;rw[iS];exact hk) (U.mono (P:=(·∈g1.L)) (fun c hc=>⟨(Gr.PJ B7 hc).1,hq.gr.kids c hc⟩) (hq.kL k hk)))
    ·have U:=hq.ll
     rw[aM,List.take_length]at U
     rw[xL]
     show(nb::g1.L).length<=_
     rw[List.length_cons];omega
   ·obtain⟨x,hx,aX⟩:=fo t.xs ks.length ag
    have hw:=wr (x:=(ks.length:Int)+1) (by omega)
    obtain⟨n1,ei⟩:∃n1,bB H1=n1:=⟨_,rfl⟩
    have Wo:=bU H1 _ _ hq.r0
    rw[ei]at Wo
    have iK:au nb H1=n1:=by
     unfold au
     rw[ei,er (by omega),cond_true]
    simp only[go_sem,au]at iK
    refine gE @aw ?_
    refine cT ?_
    refine gE (an @aX @iK) ?_
    refine⟨by rw[aw];omega,?_⟩
    refine gO ?_
    obtain⟨H2,qk⟩:∃H2:aa,H2=(n1,Ob.var (.cell 71) [.im (Si x.nm),.im (Ii x.ix),.im (.sl 3 (az x.xs))])::H1:=⟨_,rfl⟩
    have fN:bB H2=n1+1:=by rw[qk];exact uL (by omega)
    have qF:∀b,b<n1->lk H2 b=lk H1 b:=fun b hb=>by rw[qk,ct (by omega)]
    have kO:lk H2 n1=some (Ob.var (.cell 71) [.im (Si x.nm),.im (Ii x.ix),.im (.sl 3 (az x.xs))]):=by rw[qk,gG]
    have LZ:lk H2 nb=some (.var 192 [oF,Sv t.nm,Iv 0,.os (nb+1) 1 0 ks.length]):=(qF nb (by omega)).trans hq.c0
    have WQ:lk H1 u=some (.var 189 [.mp m]):=hq.bQ u _ (by omega) W_ hu (fun y hy=>by simp only[Ob.men,AV.mens,AV.men,cP (show m≠y by omega),Bool.or_false])
    have lF:GH g1 rm H2:=by rw[qk];exact hq.gh.cons (by omega)
    have CR:c7 x=true:=by
     have U:=ah
     rw[sQ,if_neg (by simpa using h)]at U
     simp only[Bool.and_eq_true]at U
     exact qY U.2 x (List.mem_of_getElem? hx)
    have Xr:wT x<=N:=by
     have:=Ji (List.mem_of_getElem? hx)
     rw[xL]at hN
     omega
    have ih:=EG N x (n1+1) H2 u m g1 Xr CR (gl Nr.2.2 hx) (by omega) lF hq.gr ((qF u (by omega)).trans WQ) ((qF m (by omega)).trans hq.mp)
    have b1:=bq (show u<n1+1 by omega)
    have b2:=bq (show nb<n1+1 by omega)
    have b3:=bq (show n1<n1+1 by omega)
    have b4:=bq (show nb+1<n1+1 by omega)
    rw[<-qk]
    refine gO ?_
    refine AP.db 13 (Tree.node [] [0,1,2,3,4,5,6] [7] [Tree.node [0,1,2,3,4] [] [8] [Tree.node [0,1,2,3,4] [] [9] [Tree.node [0] [10,11] [12] [Tree.node [] [] [] []]]]]) (by kernel_rfl) rfl (by kernel_rfl) (by kernel_rfl) ?_
    refine c_ ?_
    refine sE (an @kO @LZ) ?_
    rw[iR]at ih
    refine AQ.iB (n1+1) (er (show nb<=n1+1 by omega)) (by kernel_rfl) rfl rfl rfl ih (fun r H' h=>h.low) fun r H3 hR=>?_
    obtain⟨g2,c,rfl,tM,GD,ze,wi,Mo,VE,WS,ac5⟩:=hR.ex
    have BQ:lk H3 nb=some (.var 192 [oF,Sv t.nm,Iv 0,.os (nb+1) 1 0 ks.length]):=hR.bQ nb _ (by omega) (by omega) LZ (fun y hy=>by simp only[Ob.men,oF,AV.mens,AV.men,cP (show nb+1≠y by omega),Bool.or_false])
    simp only[go_sem,Nat.reduceAdd,Nat.reduceLeDiff,Nat.reduceSub,Int.reduceToNat,reduceCtorEq,b1,b2,b3,b4,BQ]
    have Gg:nb+1∉ks:=fun h=>by
     have U:=hq.gh.cell _ (hq.kL _ h)
     rw[hq.r0]at U
     unfold jh lW at U
     split at U<;>cases U
    have vO:lk H3 (nb+1)=some (jh ks):=hR.bQ _ _ (by omega) (by omega) ((qF _ (by omega)).trans hq.r0) (fun y hy=>DJ fun hk=>by
     have:=(hq.gh.lt (Nat.le_refl _) _ (hq.kL y hk)).1
     omega)
    obtain⟨f,hf⟩:∃f,au nb H3=f:=⟨_,rfl⟩
    have F5:=dh nb H3
    rw[hf]at F5
    have Wk:=bU H3 _ _ vO
    have Ch:=hf
    simp only[go_sem,au]at Ch
    refine AQ.nx rfl ?_
    refine sE @BQ ?_
    refine AQ.S7 (by kernel_rfl) rfl Tryz.IX Tryz.pU Tryz.Jr ?_
    refine sE @Ch ?_
    have VW:=cP (show f≠nb by omega)
    refine AQ.nx rfl ?_
    refine sE (an @VW @BQ) ?_
    have yT:nb+1≠c:=fun e=>by
     have U:=tM.cell c Mo
     rw[<-e,vO]at U
     unfold jh lW at U
     split at U<;>cases U
    have mk:∀ks:List Nat,nb+1∉ks->AV.mens (nb+1) (ks.map fun k=> .ob k 0)=false:=fun ks h=>by
     have:=DJ h
     unfold jh at this
     cases ks with
     |nil=>rfl
     |cons _ _=>exact this
    have cp:=cP (show f≠nb+1 by omega)
    have zh:(ks.map fun k=>AV.ob k 0).length=ks.length:=List.length_map ..
    refine AQ.ZC (cs:=ks.map fun k=> .ob k 0) (zv:= .ob c 0) (show nb<=nb+1 from Nat.le_succ nb) (by kernel_rfl) rfl rfl gG ((ct (by omega)).trans vO) (mk ks Gg) (by simp only[AV.men,cP (Ne.symm yT)]) Tryz.IX Tryz.pU ?_ Tryz.Tb zh.symm (by rw[zh];show(ks.length+1)*8<=_;omega) (by rw[zh];omega) fun H5 UO MZ=>?_
    ·show Option.map _ (aA Tryz.prog 187)=_;rw[Tryz.Jr];rfl
    have h5:∀b,b<bB H3->b≠nb+1->lk H5 b=(lk H3 b).map (eZ (nb+1)):=fun b hb h=>by rw[MZ b h,ct (by omega)]
    have Fv:lk H5 nb=some (.var 192 [oF,Sv t.nm,Iv 0,.top]):=by
     rw[h5 nb (by omega) (by omega),BQ]
     simp only[Option.map_some,eZ,iO,oF,AV.men,Nat.beq_refl,cond_true,cond_false]
    have e1:=cP (Ne.symm yT)
    have e2:=cP (show u≠nb+1 by omega)
    have e3:=cP (show nb≠nb+1 by omega)
    have e4:=cP (show n1≠nb+1 by omega)
    refine sE (an @cp (an @e1 (an @e2 (an @e3 (an @e4 @zh))))) ?_
    refine AQ.nx rfl ?_
    refine sE @Fv ?_
    refine AQ.go (by kernel_rfl) ?_
    refine sE @Fv ?_
    refine AQ.nx rfl ?_
    refine sI ?_
    refine AQ.done ?_
    refine gE @hw ?_
    have BW:∀x∈g2.L,(x≠nb/\x≠nb+1)/\g2.c8 x≠nb/\g2.c8 x≠nb+1:=fun x hx=>by
     by_cases U:x∈g1.L
     ·rw[(ze.b_ x U).2.2.1]
      by_cases h2:x∈g.L
      ·rw[(hq.le.b_ x h2).2.2.1]
       have:=BU x h2
       omega
      ·have:=hq.le.new x U h2
       omega
     ·have:=ze.new x hx U
      omega
    have CA:∀b,b≠nb->b≠nb+1->b<bB H3->∀o,lk (aN H5 nb o) b=(lk H3 b).map (eZ (nb+1)):=fun b U h2 h3 o=>by rw[cm _ _ _ _ U,h5 b h3 h2]
    have hlen:(ks++[c]).length=ks.length+1:=by rw[List.length_append];rfl
    have ML:=ze.XO hq.kL
    refine AE.round (g2,ks++[c],aN H5 nb (Ob.var (Sh.cell 192) [oF,Sv t.nm,Iv 0,AV.os (nb+1) 1 0 (ks.length+1)])) ?_ (by simp only[hlen];omega) (by simp only[hlen];exact(sU)) rfl
    refine⟨tM.kill GD (fun x hx=>⟨(BW x hx).1.2,(BW x hx).2.2⟩) (fun x hx=>?_),GD,hq.le.trans ze (by omega),?_,?_,?_,fun k hk=>?_,by rw[hlen];omega,?_,fun p hp=>?_,fun b o hb nZ ho dH=>?_,fun b hb=>?_,by have U:=hq.ll;show g2.L.length<=_;rw[hlen,dX hx,Jk];omega⟩
    ·have U:=tM.lt (Nat.le_refl _) x hx
     have h2:=BW x hx
     exact⟨CA _ h2.1.1 h2.1.2 U.1 _,CA _ h2.2.1 h2.2.2 U.2 _⟩
    ·have U:=bU H3 m _ wi
     rw[CA m (by omega) (by omega) U,wi,Option.map_some,j9]
     exact D7 fun p hp=>(BW _ (GD.vs p hp).1).1.2
    ·rw[cV _ _ _ Fv,hlen];rfl
    ·rw[cm _ _ _ _ (by omega),UO]
     unfold jh
     rw[List.map_append];rfl
    ·rcases List.mem_append.1 hk with hk|hk
     ·exact ML.1 k hk
     ·rw[List.mem_singleton.1 hk];exact Mo
    ·rw[List.map_append,ML.2,hq.kd,hlen,dX hx]
     show _++[g2.d c]=_
     rw[VE]
    ·rcases WS p hp with U|U
     ·rcases hq.uS p U with h2|⟨k,hk,h2⟩
      ·exact .inl h2
      ·exact .inr ⟨k,List.mem_append_left _ hk,h2.mono (P:=(·∈g1.L)) (fun c hc=>⟨(ze.b_ c hc).2.1,hq.gr.kids c hc⟩) (hq.kL k hk)⟩
     ·exact .inr ⟨c,by simp,U⟩
    ·have U:=(qF b (by omega)).trans (hq.bQ b o hb nZ ho dH)
     have h2:=hR.bQ b o (by omega) nZ U (dH.mono (by omega))
     rw[CA b (by omega) (by omega) (bU H3 b _ h2),h2,Option.map_some,j9 (dH _ (by omega))]
    ·have U:=hR.low b (by omega)
     rw[qF b (by omega),hq.low b hb]at U
     rw[cm _ _ _ _ (by omega)]
     cases h3:lk H3 b with
     |none=>
      rw[h3]at U
      rw[MZ b (by omega),ct (by omega),h3]
      exact U
     |some o=>
      rw[h3]at U
      rw[h5 b (bU H3 b _ h3) (by omega),h3]
      exact U
theorem Rt.gH {L:List Nat} {up:Nat->Option Nat} {rt rk:Nat->Nat} (h:Rt L up rt rk):∀(n c:Nat),c∈L->rk c<=n->gH up n c=rt c
 |0,c,hc,hn=>by
  cases hu:up c with
  |none=>rw[h.nil c hc hu];rfl
  |some d=>have:=(h.go c hc d hu).2.1;omega
 |n+1,c,hc,hn=>by
  cases hu:up c with
  |none=>rw[h.nil c hc hu];simp only[Go.Proofs.YtpfohmboflcneaaGreatDoor.gH,hu]
  |some d=>
   obtain⟨U,h2,h3⟩:=h.go c hc d hu
   rw[h3,<-h.gH n d U (by omega)]
   simp only[Go.Proofs.YtpfohmboflcneaaGreatDoor.gH,hu]
theorem xg (nb:Nat) {H:aa} {g:Gs} {up:Nat->Option Nat} {rt rk:Nat->Nat} (hG:GH g up H) (hR:Rt g.L up rt rk) {c:Nat} (hc:c∈g.L):
  dv Tryz.prog nb 122 [.ob c 0] H (fun r H'=>H'=H/\r= .ob (rt c) 0):=by
 have:=ZO nb H up rk (·∈g.L) (cA g up) (fun c _=>⟨_,_,_,rfl⟩) (fun c hc=>⟨hG.cell c hc,fun d hd=>⟨(hR.go c hc d hd).1,(hR.go c hc d hd).2.1⟩⟩) c hc
 rw[hR.gH _ c hc (Nat.le_refl _)]at this
 exact this
structure Eo (nb:Nat) (g:Gs) (H:aa) (up:Nat->Option Nat) (rt:Nat->Nat) (a b:Nat) (r:AV) (H':aa):Prop where
 ex:∃D6 rt' PR ok,r=Bv ok/\GH g D6 H'/\Rt g.L D6 rt' PR/\gp g.cl g.d rt rt' a b ok/\sY g.L D6<=sY g.L up
 bQ:∀x,x<nb->x∉g.L->lk H' x=lk H x
theorem Eo.low {nb:Nat} {g:Gs} {H:aa} {up:Nat->Option Nat} {rt:Nat->Nat} {a b:Nat} {r:AV} {H':aa} (h:Eo nb g H up rt a b r H') (hG:GH g up H):cu nb H H':=fun x hx=>by
 obtain⟨D6,rt',PR,ok,_,U,_⟩:=h.ex
 by_cases hL:x∈g.L
 ·rw[U.cell x hL,hG.cell x hL];rfl
 ·rw[h.bQ x hx hL]
theorem GH.up {g:Gs} {up:Nat->Option Nat} {H:aa} (h:GH g up H) {x y:Nat} (hy:y∈g.L) (hr:∀c∈g.L,∀c'∈g.L,g.c8 c≠c'):GH g (mK up y x) (aN H y (.var 192 (cA g (mK up y x) y))):=by
 refine⟨fun c hc=>?_,fun c hc=>?_⟩
 ·by_cases e:c=y
  ·subst e;exact cV _ _ _ (h.cell c hc)
  ·rw[cm _ _ _ _ e,h.cell c hc]
   simp only[cA,mK,if_neg e]
 ·rw[cm _ _ _ _ (hr c hc y hy)];exact h.row c hc
theorem GH.ZI {g:Gs} {up:Nat->Option Nat} {H:aa} (h:GH g up H):∀c∈g.L,∀c'∈g.L,g.c8 c≠c':=fun c hc c' dU e=>by
 have U:=h.row c hc
 rw[e,h.cell c' dU]at U
 unfold jh lW at U
 split at U<;>cases U
structure RZ (nb:Nat) (g:Gs) (H:aa) (n:Nat) (ZW:Nat->Nat) (zs:List (Nat×Nat)) (k:Nat) (up:Nat->Option Nat) (rt rk:Nat->Nat) (H1:aa):Prop where
 gh:GH g up H1
 r:Rt g.L up rt rk
 l:p9 g.cl g.d ZW rt zs (zs.drop k)
 n:sY g.L up<n
 k:k<=zs.length
 bQ:∀x,x<nb->x∉g.L->lk H1 x=lk H x
theorem wK {ks:List Nat} {k c:Nat} (h:ks[k]?=some c):(ks.map fun k=>AV.ob k 0)[k]?=some (.ob c 0):=by rw[List.getElem?_map,h];rfl
theorem Rc (g:Gs) (hr:Gr g) (u:Nat):∀(N:Nat) (up:Nat->Option Nat) (rt rk:Nat->Nat) (a b nb:Nat) (H:aa),sY g.L up<=N->GH g up H->bB H<=nb->Rt g.L up rt rk->a∈g.L->b∈g.L->u<nb->
  dv Tryz.prog nb 178 [.ob u 0,.ob a 0,.ob b 0] H (Eo nb g H up rt a b)
 |N,up,rt,rk,a,b,nb,H,hN,hG,hnb,hR,ha,hb,hu=>by
  have kX:=hR.mem ha
  have jc:=hR.mem hb
  obtain⟨x,hx⟩:∃x,rt a=x:=⟨_,rfl⟩
  obtain⟨y,hy⟩:∃y,rt b=y:=⟨_,rfl⟩
  have s1:=xg nb hG hR ha
  have s2:=xg nb hG hR hb
  rw[hx]at kX s1
  rw[hy]at jc s2
  have sn:up x=none:=hx▸hR.none ha
  have G6:up y=none:=hy▸hR.none hb
  have ou:rt x=x:=hx▸hR.idem a
  have G7:rt y=y:=hy▸hR.idem b
  have cx:=hG.cell x kX
  have cy:=hG.cell y jc
  have ku:=bq hu
  have ka:=bq (hG.lt hnb a ha).1
  have kb:=bq (hG.lt hnb b hb).1
  have kx:=bq (hG.lt hnb x kX).1
  have ky:=bq (hG.lt hnb y jc).1
  unfold cA at cx cy
  rw[sn]at cx
  rw[G6]at cy
  simp only[oQ]at cx cy
  refine dv.walk [0,1,2,6,7,12,16,44,54,85,86,87,105] [] Tryz.func178 rfl Tryz.ntmps178 (by kernel_rfl) (by rfl) fun W own I0 aq lay=>?_
  refine gO ?_
  refine AQ.iB nb (er (Nat.le_refl _)) (by kernel_rfl) rfl rfl rfl s1 (fun r H' e=>by rw[e.1];exact cu.refl _ _) fun r H' ⟨e1,e2⟩=>?_
  rw[e1,e2]
  clear e1 e2
  simp only[go_sem,Nat.reduceAdd,Nat.reduceLeDiff,Nat.reduceSub,Int.reduceToNat,reduceCtorEq,ku,ka,kb,kx,ky]
  refine AQ.go (by kernel_rfl) ?_
  refine sI ?_
  refine AQ.iB nb (er (Nat.le_refl _)) (by kernel_rfl) rfl rfl rfl s2 (fun r H' e=>by rw[e.1];exact cu.refl _ _) fun r H' ⟨e1,e2⟩=>?_
  rw[e1,e2]
  clear e1 e2
  simp only[go_sem,Nat.reduceAdd,Nat.reduceLeDiff,Nat.reduceSub,Int.reduceToNat,reduceCtorEq,ku,ka,kb,kx,ky]
  refine AQ.go (by kernel_rfl) ?_
  refine sI ?_
  by_cases tJ:x=y
  ·subst tJ
   have yz:=Nat.beq_refl x
   repeat(first|refine xA ?_|refine xB ?_|refine xC ?_|refine xE ?_|refine xD ?_|refine xK ?_|refine xS ?_|refine xM ?_|refine xT ?_|refine xF ?_|((first|refine xR ?_|refine xW ?_|refine fR ?_);simp only[go_sem,Nat.reduceAdd,Nat.reduceLeDiff,Nat.reduceSub,Int.reduceToNat,reduceCtorEq,yz])|(refine⟨by first|omega|(intros;simp_all;done)|(intros;simp_all;omega),?_⟩;try simp only[go_sem,Nat.reduceAdd,Nat.reduceLeDiff,Nat.reduceSub,Int.reduceToNat,reduceCtorEq,yz]))
   exact AE.ret rfl ⟨rfl,trivial⟩ ⟨⟨up,rt,rk,true,rfl,hG,hR,gp.same (hx.trans hy.symm),Nat.le_refl _⟩,fun _ _ _=>rfl⟩
  ·have yz:=cP tJ
   have rT:rt a≠rt b:=by rw[hx,hy];exact tJ
   have GI:=hG.ZI
   refine gO ?_
   simp only[go_sem,Nat.reduceAdd,Nat.reduceLeDiff,Nat.reduceSub,Int.reduceToNat,reduceCtorEq,yz]
   refine AQ.Zq yz cx cy (by kernel_rfl) rfl rfl Tryz.s7 Tryz.QN ?_
   refine sI ?_
   repeat(first|refine xA ?_|refine xB ?_|refine xC ?_|refine xE ?_|refine xD ?_|refine xK ?_|refine xS ?_|refine xM ?_|refine xT ?_|refine xF ?_|((first|refine xR ?_|refine xW ?_|refine fR ?_);simp only[go_sem,Nat.reduceAdd,Nat.reduceLeDiff,Nat.reduceSub,Int.reduceToNat,reduceCtorEq,cx,cy])|(refine⟨by first|omega|(intros;simp_all;done)|(intros;simp_all;omega),?_⟩;try simp only[go_sem,Nat.reduceAdd,Nat.reduceLeDiff,Nat.reduceSub,Int.reduceToNat,reduceCtorEq,cx,cy]))
   refine AP.cond rfl rfl (fun U=>?_) (fun U=>?_)
   ·have U:(g.cl x).nm=[]/\((g.cl y).nm≠[]\/(g.cl y).num<(g.cl x).num):=by simpa using U
    repeat(first|refine xA ?_|refine xB ?_|refine xC ?_|refine xE ?_|refine xD ?_|refine xK ?_|refine xS ?_|refine xM ?_|refine xT ?_|refine xF ?_|((first|refine xR ?_|refine xW ?_|refine fR ?_);simp only[go_sem,Nat.reduceAdd,Nat.reduceLeDiff,Nat.reduceSub,Int.reduceToNat,reduceCtorEq,cx,cy])|(refine⟨by first|omega|(intros;simp_all;done)|(intros;simp_all;omega),?_⟩;try simp only[go_sem,Nat.reduceAdd,Nat.reduceLeDiff,Nat.reduceSub,Int.reduceToNat,reduceCtorEq,cx,cy]))
    refine AE.ret rfl ⟨rfl,trivial⟩ ⟨⟨_,_,_,true,rfl,?_,hR.put jc kX G7 ou (Ne.symm tJ),?_,Nat.le_of_lt (II kX sn)⟩,fun z _ hz=>cm _ _ _ _ fun e=>hz (e▸kX)⟩
    ·have:=hG.up (x:=y) kX GI
     simp only[cA,mK,if_true]at this
     exact this
    ·have:=gp.aa9 (d:=g.d) rT (by rw[hx];exact U.1) (fun e=>by rw[hy]at e;rw[hx,hy];exact Int.le_of_lt (U.2.resolve_left fun k=>k e))
     rw[hx,hy]at this
     exact this
   ·have U:¬((g.cl x).nm=[]/\((g.cl y).nm≠[]\/(g.cl y).num<(g.cl x).num)):=by simpa using U
    repeat(first|refine xA ?_|refine xB ?_|refine xC ?_|refine xE ?_|refine xD ?_|refine xK ?_|refine xS ?_|refine xM ?_|refine xT ?_|refine xF ?_|((first|refine xR ?_|refine xW ?_|refine fR ?_);simp only[go_sem,Nat.reduceAdd,Nat.reduceLeDiff,Nat.reduceSub,Int.reduceToNat,reduceCtorEq,cx,cy])|(refine⟨by first|omega|(intros;simp_all;done)|(intros;simp_all;omega),?_⟩;try simp only[go_sem,Nat.reduceAdd,Nat.reduceLeDiff,Nat.reduceSub,Int.reduceToNat,reduceCtorEq,cx,cy]))
    refine AP.cond rfl rfl (fun h2=>?_) (fun h2=>?_)
    ·have h2:(g.cl y).nm=[]:=by simpa using h2
     repeat(first|refine xA ?_|refine xB ?_|refine xC ?_|refine xE ?_|refine xD ?_|refine xK ?_|refine xS ?_|refine xM ?_|refine xT ?_|refine xF ?_|((first|refine xR ?_|refine xW ?_|refine fR ?_);simp only[go_sem,Nat.reduceAdd,Nat.reduceLeDiff,Nat.reduceSub,Int.reduceToNat,reduceCtorEq,cx,cy])|(refine⟨by first|omega|(intros;simp_all;done)|(intros;simp_all;omega),?_⟩;try simp only[go_sem,Nat.reduceAdd,Nat.reduceLeDiff,Nat.reduceSub,Int.reduceToNat,reduceCtorEq,cx,cy]))
     refine AE.ret rfl ⟨rfl,trivial⟩ ⟨⟨_,_,_,true,rfl,?_,hR.put kX jc ou G7 tJ,?_,Nat.le_of_lt (II jc G6)⟩,fun z _ hz=>cm _ _ _ _ fun e=>hz (e▸jc)⟩
     ·have:=hG.up (x:=x) jc GI
      simp only[cA,mK,if_true]at this
      exact this
     ·have:=gp.aa_ (d:=g.d) rT (by rw[hy];exact h2) (fun e=>by
       rw[hx]at e
       rw[hx,hy]
       rcases Int.lt_or_le (g.cl y).num (g.cl x).num with h|h
       ·exact absurd ⟨e,.inr h⟩ U
       ·exact h)
      rw[hx,hy]at this
      exact this
    ·have h2:(g.cl y).nm≠[]:=by simpa using h2
     have h3:(g.cl x).nm≠[]:=fun e=>U ⟨e,.inl h2⟩
     repeat(first|refine xA ?_|refine xB ?_|refine xC ?_|refine xE ?_|refine xD ?_|refine xK ?_|refine xS ?_|refine xM ?_|refine xT ?_|refine xF ?_|((first|refine xR ?_|refine xW ?_|refine fR ?_);simp only[go_sem,Nat.reduceAdd,Nat.reduceLeDiff,Nat.reduceSub,Int.reduceToNat,reduceCtorEq,cx,cy])|(refine⟨by first|omega|(intros;simp_all;done)|(intros;simp_all;omega),?_⟩;try simp only[go_sem,Nat.reduceAdd,Nat.reduceLeDiff,Nat.reduceSub,Int.reduceToNat,reduceCtorEq,cx,cy]))
     refine AP.cond rfl rfl (fun h4=>?_) (fun h4=>?_)
     ·refine gO ?_
      have h4:¬((g.cl x).nm=(g.cl y).nm/\(g.cl x).ks.length=(g.cl y).ks.length):=fun⟨e1,e2⟩=>by simp[e1,e2]at h4
      exact AE.ret rfl ⟨rfl,trivial⟩ ⟨⟨up,rt,rk,false,rfl,hG,hR,gp.no hr.dn (by rw[hx];exact h3) (by rw[hy];exact h2) (by rw[hx,hy];exact h4),Nat.le_refl _⟩,fun _ _ _=>rfl⟩
     ·have h4:(g.cl x).nm=(g.cl y).nm/\(g.cl x).ks.length=(g.cl y).ks.length:=by
       simp only[Bool.or_eq_false_iff,Bool.not_eq_false',beq_iff_eq,bne_eq_false_iff_eq]at h4
       exact⟨h4.1,by omega⟩
      have CR:∀o,lk (aN H y o) x=lk H x:=fun o=>cm _ _ _ _ tJ
      repeat(first|refine xA ?_|refine xB ?_|refine xC ?_|refine xE ?_|refine xD ?_|refine xK ?_|refine xS ?_|refine xM ?_|refine xT ?_|refine xF ?_|((first|refine xR ?_|refine xW ?_|refine fR ?_);simp only[go_sem,Nat.reduceAdd,Nat.reduceLeDiff,Nat.reduceSub,Int.reduceToNat,reduceCtorEq,cx,cy,CR])|(refine⟨by first|omega|(intros;simp_all;done)|(intros;simp_all;omega),?_⟩;try simp only[go_sem,Nat.reduceAdd,Nat.reduceLeDiff,Nat.reduceSub,Int.reduceToNat,reduceCtorEq,cx,cy,CR]))
      obtain⟨zs,sr⟩:∃zs,(g.cl x).ks.zip (g.cl y).ks=zs:=⟨_,rfl⟩
      have CT:zs.length=(g.cl x).ks.length:=by rw[<-sr,List.length_zip];omega
      have ug:=(hr.len x).1
      have U7:GH g (mK up y x) (aN H y (Ob.var (Sh.cell 192) [AV.ob x 0,Sv (g.cl y).nm,Iv (g.cl y).num,AV.os (g.c8 y) 1 0 (g.cl y).ks.length])):=by
       have:=hG.up (x:=x) jc GI
       simp only[cA,mK,if_true]at this
       exact this
      refine AP.loop rfl (α:=Nat×(Nat->Option Nat)×(Nat->Nat)×(Nat->Nat)×aa) (fun q=>[(0,.ob u 0),(1,.ob x 0),(2,.ob y 0),(85,Iv (g.cl x).ks.length),(86,Iv q.1)]) (fun q=>q.2.2.2.2) (fun q=>RZ nb g H (sY g.L up) (cw rt y x) zs q.1 q.2.1 q.2.2.1 q.2.2.2.1 q.2.2.2.2) (fun q=>zs.length-q.1) (0,_,_,_,_)
       ⟨U7,hR.put kX jc ou G7 tJ,p9.refl _,II jc G6,Nat.zero_le _,fun z _ hz=>cm _ _ _ _ fun e=>hz (e▸jc)⟩ (sU) rfl fun⟨k,Re,IH,PS,H1⟩ hq=>?_
      simp only at hq⊢
      rcases Nat.eq_or_lt_of_le hq.k with aM|ag
      ·rw[CT]at aM
       refine gO ?_
       refine cF ?_
       refine gO ?_
       have hl:=hq.l
       rw[aM,<-CT,List.drop_length]at hl
       refine AE.ret rfl ⟨rfl,trivial⟩ ⟨⟨Re,IH,PS,true,rfl,hq.gh,hq.r,?_,Nat.le_of_lt hq.n⟩,hq.bQ⟩
       refine gp.fn hr.dn rT (by rw[hx];exact h3) (by rw[hy];exact h2) (by rw[hx,hy];exact h4.1) (by rw[hx,hy];exact h4.2) ?_
       rw[hx,hy,sr]
       exact hl
      ·have iH:k<(g.cl x).ks.length:=by omega
       obtain⟨p,hp⟩:∃p,(g.cl x).ks[k]?=some p:=⟨_,List.getElem?_eq_getElem iH⟩
       obtain⟨q,CF⟩:∃q,(g.cl y).ks[k]?=some q:=⟨_,List.getElem?_eq_getElem (by omega)⟩
       have qG:=hr.kids x kX p (List.mem_of_getElem? hp)
       have Ng:=hr.kids y jc q (List.mem_of_getElem? CF)
       have hz:zs[k]?=some (p,q):=by rw[<-sr,List.getElem?_zip_eq_some];exact⟨hp,CF⟩
       have fZ:zs.drop k=(p,q)::zs.drop (k+1):=by
        rw[List.drop_eq_getElem_cons ag]
        rw[List.getElem?_eq_getElem ag,Option.some.injEq]at hz
        rw[hz]
       have hw:=wr (x:=(k:Int)+1) (by omega)
       obtain⟨n1,ei⟩:∃n1,au nb H1=n1:=⟨_,rfl⟩
       have cq:=dh nb H1
       rw[ei]at cq
       have FF:N-1<N:=by have:=hq.n;omega
       have ih:=Rc g hr u (N-1) Re IH PS p q n1 H1 (by have:=hq.n;omega) hq.gh cq.2 hq.r qG Ng (by omega)
       have c1:=hq.gh.cell x kX
       have c2:=hq.gh.cell y jc
       have r1:=hq.gh.row x kX
       have r2:=hq.gh.row y jc
       have j1:=bq (show u<n1 by omega)
       have j2:=bq (show x<n1 by have:=(hG.lt hnb x kX).1;omega)
       have j3:=bq (show y<n1 by have:=(hG.lt hnb y jc).1;omega)
       have j4:=bq (show p<n1 by have:=(hq.gh.lt cq.2 p qG).1;omega)
       have j5:=bq (show q<n1 by have:=(hq.gh.lt cq.2 q Ng).1;omega)
       have j6:=bq (show g.c8 x<n1 by have:=(hq.gh.lt cq.2 x kX).2;omega)
       have j7:=bq (show g.c8 y<n1 by have:=(hq.gh.lt cq.2 y jc).2;omega)
       unfold cA at c1 c2
       refine gO ?_
       refine cT ?_
       refine gO ?_
       refine AP.db 17 (Tree.node [] [0,1,2,3,4,5,6,8,9,10,11,12,13] [7,14] [Tree.node [0,8,9,10,11,12,13] [] [14] [Tree.node [0] [] [15] [Tree.node [] [16] [] []]],Tree.node [0,1,2,3,4,5,6] [] [7] [Tree.node [0] [] [15] [Tree.node [] [16] [] []]]]) (by kernel_rfl) rfl (by kernel_rfl) (by kernel_rfl) ?_
       refine c_ ?_
       refine sE (an @c1 @c2) ?_
       refine⟨⟨by omega,by omega⟩,⟨by omega,by omega⟩,?_,?_⟩
       all_goals first|refine AQ.uU (by kernel_rfl) rfl r1 (wK hp) Tryz.s7 Tryz.pU ?_|refine AQ.uU (by kernel_rfl) rfl r2 (wK CF) Tryz.s7 Tryz.pU ?_
       all_goals refine sI ?_
       all_goals refine AQ.nx rfl ?_
       all_goals refine sE (an @c1 @c2) ?_
       all_goals refine⟨⟨by omega,by omega⟩,?_⟩
       all_goals first|refine AQ.uU (by kernel_rfl) rfl r1 (wK hp) Tryz.s7 Tryz.pU ?_|refine AQ.uU (by kernel_rfl) rfl r2 (wK CF) Tryz.s7 Tryz.pU ?_
       all_goals refine sI ?_
       all_goals refine AQ.nx rfl ?_
       all_goals refine sE (an @c1 @c2) ?_
       all_goals refine AQ.iB n1 (er cq.1) (by kernel_rfl) rfl rfl rfl ih (fun r H' h=>h.low hq.gh) fun r H2 hU=>?_
       all_goals obtain⟨Rf,P6,PT,ok,rfl,lF,Mh,Me,Ve⟩:=hU.ex
       all_goals have d1:=lF.cell x kX
       all_goals have d2:=lF.cell y jc
       all_goals unfold cA at d1 d2
       all_goals simp only[go_sem,Nat.reduceAdd,Nat.reduceLeDiff,Nat.reduceSub,Int.reduceToNat,reduceCtorEq,j1,j2,j3,j4,j5,j6,j7]
       all_goals refine AQ.nx rfl ?_
       all_goals simp only[go_sem,Nat.reduceAdd,Nat.reduceLeDiff,Nat.reduceSub,Int.reduceToNat,reduceCtorEq,d1,d2]
       all_goals refine AQ.done ?_
       all_goals have eC:∀z,z<nb->z∉g.L->lk H2 z=lk H z:=fun z hz NG=>(hU.bQ z (by omega) NG).trans (hq.bQ z hz NG)
       all_goals have kS:(p,q)∈zs:=List.mem_of_getElem? hz
       all_goals have hl:=hq.l
       all_goals rw[fZ]at hl
       all_goals cases ok with
        |false=>
         refine gO ?_
         refine AE.ret rfl ⟨rfl,trivial⟩ ⟨⟨Rf,P6,PT,false,rfl,lF,Mh,?_,by have:=hq.n;omega⟩,eC⟩
         refine gp.stop (rt':=IH) (rest:=zs.drop (k+1)) (p:=(p,q)) hr.dn (by rw[hx];exact h3) (by rw[hy];exact h2) ?_ ?_ Me
         ·rw[hx,hy,sr];exact hl
         ·rw[hx,hy,sr];exact kS
        |true=>
         refine gE @hw ?_
         exact AE.round (k+1,Rf,P6,PT,H2) ⟨lF,Mh,hl.step kS Me,Nat.lt_of_le_of_lt Ve hq.n,ag,eC⟩ (by simp only;omega) (sU) rfl
termination_by N=>N
decreasing_by exact FF
def oN (t:Tm):List AV:=[Iv ((min (wT t) 8000:Nat):Int),Iv (cd t)]
def lx:Option Tm->AV
 |none=> .agg [Bv true,Iv 0,Iv 0]
 |some t=> .agg (Bv false::oN t)
def kK (k:Kn):List AV:=(k.map (·.1)).map fun j=> .ob j 0
def kV (k:Kn):List AV:=k.map fun p=>lx p.2
theorem xy:Tryz.prog.underlying 179=some (.map 187 194):=by kernel_rfl
theorem aaW:Tryz.prog.underlying 187=some (.pointer 192):=by kernel_rfl
theorem Hl {k:Kn} {j:Nat} {p:Nat×Option Tm} (h:k[j]?=some p):(kV k)[j]?=some (lx p.2):=by rw[kV,List.getElem?_map,h];rfl
theorem C5 {g:Gs} {up:Nat->Option Nat} {H:aa} (hG:GH g up H) {rt:Nat->Nat} {k:Kn} (hK:gM g.cl rt g.L k) {r:Nat} (hr:r∈g.L):∀(φ:ai) (I:Nat->Prop) (w:World) (us:List Value) (u:Value),Real w φ I H->AV.ab w φ I (kK k) us->AV.den w φ I (.ob r 0) u->
  tg Tryz.prog 187 w us u/\(r∉k.map (·.1)->u∉us)/\∀j:Nat,(k.map (·.1))[j]?=some r->us[j]?=some u:=fun φ I w us u hR dI hu=>
 Zn (n:=3) aaW Tryz.QN hR hK.nd (fun j hj=>by
  refine⟨_,_,hG.cell j ?_⟩
  rcases List.mem_cons.1 hj with rfl|hj
  ·exact hr
  ·obtain⟨p,hp,rfl⟩:=List.mem_map.1 hj
   exact(hK.ro p hp).1) dI hu
structure Jx (nb kb n0 gi:Nat) (g:Gs) (up:Nat->Option Nat) (H:aa) (rt:Nat->Nat) (k1:Kn) (ks:List Nat) (k:Kn) (ts:List Tm) (H1:aa):Prop where
 gh:GH g up H1
 pm:∃ob,lk H1 kb=some ob/\k7 ob (kK k) (kV k)
 ok:gM g.cl rt g.L k
 le:il k1 k
 d:oS k
 t6:lk H1 n0=some (.var (.cell 164) [Iv 0,Iv 0])
 t10:lk H1 gi=some (.var (.cell 164) [Iv ((min (1+aK ts) 8000:Nat):Int),Iv ((1+dj ts:Nat):Int)])
 tl:ts.length<=ks.length
 tt:∀(j:Nat) x t,ks[j]?=some x->ts[j]?=some t->(rt x,some t)∈k
 bQ:∀x,x<nb->x≠kb->lk H1 x=lk H x
 low:cu nb H H1
theorem Ll {α:Type} {p q:α->Bool}:∀{L:List α},(∀c∈L,q c=true->p c=true)->(L.filter q).length<=(L.filter p).length
 |[],_=>by simp
 |c::L,h=>by
  have i:=Ll (L:=L) fun c hc=>h c (List.mem_cons_of_mem _ hc)
  have hc:=h c (List.mem_cons_self ..)
  rw[List.filter_cons,List.filter_cons]
  cases hq:q c with
  |true=>rw[hc hq];simpa using i
  |false=>
   simp only[Bool.false_eq_true,if_false]
   split
   ·simp;omega
   ·exact i
theorem XK (k:Kn) (r:Nat) (o:Option Tm):kK (k++[(r,o)])=kK k++[.ob r 0]:=by simp[kK]
theorem XN (k:Kn) (r:Nat) (o:Option Tm):kV (k++[(r,o)])=kV k++[lx o]:=by simp[kV]
theorem XM (k:Kn) (j r:Nat) (o:Option Tm):kV (k.set j (r,o))=(kV k).set j (lx o):=by rw[kV,kV,List.map_set]
theorem XJ {k:Kn} {j r:Nat} {o o':Option Tm} (h:k[j]?=some (r,o)):kK (k.set j (r,o'))=kK k:=by rw[kK,kK,Qn h]
structure R0 (nb kb:Nat) (g:Gs) (H:aa) (rt:Nat->Nat) (k:Kn) (c:Nat) (r:AV) (H':aa):Prop where
 ex:(∃k' t ob,r= .aG [.agg (oN t),Bv true]/\lk H' kb=some ob/\k7 ob (kK k') (kV k')/\gM g.cl rt g.L k'/\il k k'/\oS k'/\(rt c,some t)∈k')\/
  ∃x y,r= .aG [.agg [Iv x,Iv y],Bv false]/\∀s,kE g.d rt s->Em g.d s k c->False
 bQ:∀x,x<nb->x≠kb->lk H' x=lk H x
 low:cu nb H H'
theorem OI (g:Gs) (hr:Gr g) (up:Nat->Option Nat) (rt rk:Nat->Nat) (hR:Rt g.L up rt rk) (Vb:g.L.length<=1000000) (u kb:Nat):∀(N:Nat) (k:Kn) (c nb:Nat) (H:aa) (ob:Ob),pG g.L k<=N->GH g up H->bB H<=nb->c∈g.L->u<nb->
  lk H kb=some ob->k7 ob (kK k) (kV k)->gM g.cl rt g.L k->oS k->dv Tryz.prog nb 179 [.ob u 0,.ob c 0,.mp kb] H (R0 nb kb g H rt k c)
 |N,k,c,nb,H,ob,hN,hG,hnb,hc,hu,na,jz,hK,hD=>by
  have dV:=hR.mem hc
  obtain⟨r,hx⟩:∃r,rt c=r:=⟨_,rfl⟩
  have s1:=xg nb hG hR hc
  rw[hx]at dV s1
  have ou:rt r=r:=hx▸hR.idem c
  have cr:=hG.cell r dV
  have rr:=hG.row r dV
  have zd:=bU H kb _ na
  have Gf:∀x∈g.L,x≠kb/\g.c8 x≠kb:=fun x hx=>by
   obtain⟨bs,clock,e,_⟩:=jz
   subst e
   refine⟨fun e=>?_,fun e=>?_⟩
   ·have:=hG.cell x hx;rw[e,na]at this;cases this
   ·have:=hG.row x hx;rw[e,na]at this
    unfold jh lW at this
    split at this<;>cases this
  obtain⟨n0,jb⟩:∃n0,au nb H=n0:=⟨_,rfl⟩
  have cq:=dh nb H
  rw[jb]at cq
  simp only[go_sem,au]at jb
  obtain⟨H1,mS⟩:∃H1:aa,H1=(n0,Ob.var (.cell 164) [Iv 0,Iv 0])::H:=⟨_,rfl⟩
  have rP:GH g up H1:=by rw[mS];exact hG.cons cq.2
  have ei:bB H1=n0+1:=by rw[mS];exact uL cq.2
  have o1:∀x,x<n0->lk H1 x=lk H x:=fun x hx=>by rw[mS,ct (by omega)]
  have s1:=xg (n0+1) rP hR hc
  rw[hx]at s1
  have ag:=hG.lt cq.2
  have ku:=bq (show u<n0+1 by omega)
  have kc:=bq (show c<n0+1 by have:=(ag c hc).1;omega)
  have kr:=bq (show r<n0+1 by have:=(ag r dV).1;omega)
  have kk:=bq (show kb<n0+1 by omega)
  have k0:=bq (show n0<n0+1 by omega)
  have ba:=C5 rP hK dV
  have Ct:lk H1 kb=some ob:=(o1 kb (by omega)).trans na
  refine dv.walk [0,1,2,6,7,8,9,10,12,13,14,23,36,37,38,39,50] [6,8,10,13] Tryz.func179 rfl Tryz.ntmps179 (by kernel_rfl) (by rfl) fun W own I0 aq lay=>?_
  refine gO ?_
  rw[jb]
  rw[<-mS]
  refine AQ.iB (n0+1) (er (show nb<=n0+1 by omega)) (by kernel_rfl) rfl rfl rfl s1 (fun r H' e=>by rw[e.1];exact cu.refl _ _) fun r' H' ⟨e1,e2⟩=>?_
  rw[e1,e2]
  clear e1 e2
  simp only[go_sem,Nat.reduceAdd,Nat.reduceLeDiff,Nat.reduceSub,Int.reduceToNat,reduceCtorEq,ku,kc,kr,kk,k0]
  refine AQ.go (by kernel_rfl) ?_
  refine sI ?_
  refine gO ?_
  by_cases hm:r∈k.map (·.1)
  ·obtain⟨j,hj⟩:=List.getElem?_of_mem hm
   obtain⟨o,Gd⟩:∃o,k[j]?=some (r,o):=by
    rw[List.getElem?_map]at hj
    cases h:k[j]? with
    |none=>rw[h]at hj;cases hj
    |some p=>rw[h]at hj;cases hj;exact⟨_,rfl⟩
   have kS:=List.mem_of_getElem? Gd
   have cH:=@AQ.Dx
   have kO:lk H1 n0=some (.var (.cell 164) [Iv 0,Iv 0]):=by rw[mS,gG]
   have Cw:=dh nb H1
   obtain⟨n8,sj⟩:∃n,au nb H1=n:=⟨_,rfl⟩
   rw[sj]at Cw
   simp only[go_sem,au]at sj
   have mO:=cP (show n8≠n0 by omega)
   have hold:∀x,x<nb->∀o o',lk ((n8,o)::aN H1 n0 o') x=lk H x:=fun x iK o o'=>by rw[ct (by omega),cm _ _ _ _ (by omega),o1 x (by omega)]
   have wu:∀o,lk (aN H1 n0 o) n0=some o:=fun o=>cV _ _ _ kO
   cases o with
   |none=>
    refine AQ.Dx (x:=lx none) j (by kernel_rfl) rfl rfl Ct jz xy (fun φ I w us u jo U h2=>⟨(ba φ I w us u jo U h2).1,(ba φ I w us u jo U h2).2.2 j hj⟩) (Hl Gd) ?_
    simp only[go_sem,Nat.reduceAdd,Nat.reduceLeDiff,Nat.reduceSub,Int.reduceToNat,reduceCtorEq,lx]
    refine gO ?_
    rw[sj]
    refine sI ?_
    repeat(first|refine xA ?_|refine xB ?_|refine xC ?_|refine xE ?_|refine xD ?_|refine xK ?_|refine xS ?_|refine xM ?_|refine xT ?_|refine xF ?_|((first|refine xR ?_|refine xW ?_|refine fR ?_);simp only[go_sem,Nat.reduceAdd,Nat.reduceLeDiff,Nat.reduceSub,Int.reduceToNat,reduceCtorEq,mO,kO])|(refine⟨by first|omega|(intros;simp_all;done)|(intros;simp_all;omega),?_⟩;try simp only[go_sem,Nat.reduceAdd,Nat.reduceLeDiff,Nat.reduceSub,Int.reduceToNat,reduceCtorEq,mO,kO]))
    refine AP.db 7 (Tree.node [] [0,1,2,3,4] [5] [Tree.node [2,3,4] [6] [] []]) (by kernel_rfl) rfl (by kernel_rfl) (by kernel_rfl) ?_
    refine c_ ?_
    simp only[go_sem,Nat.reduceAdd,Nat.reduceLeDiff,Nat.reduceSub,Int.reduceToNat,reduceCtorEq,mO,kO]
    refine AQ.go (by kernel_rfl) ?_
    simp only[go_sem,Nat.reduceAdd,Nat.reduceLeDiff,Nat.reduceSub,Int.reduceToNat,reduceCtorEq,mO,kO]
    refine AQ.nx rfl ?_
    simp only[go_sem,Nat.reduceAdd,Nat.reduceLeDiff,Nat.reduceSub,Int.reduceToNat,reduceCtorEq,mO,kO]
    refine AQ.done ?_
    refine gO ?_
    refine AE.ret (sc:=(0+2<=2)/\True/\True) (xs:=[.agg [Iv 0,Iv 0],Bv false]) ?_ ?_ ?_
    ·show eG _ _ _ [.cell 6 164,.tmp 7]=_
     simp only[go_sem,Nat.reduceAdd,Nat.reduceLeDiff,Nat.reduceSub,Int.reduceToNat,reduceCtorEq,eG,mO,wu]
    ·exact⟨Nat.le_refl _,trivial,trivial⟩
    ·refine⟨.inr ⟨0,0,rfl,fun s hs kZ=>?_⟩,fun x iK _=>hold x iK _ _,fun x iK=>by rw[hold x iK]⟩
     have U:=kZ r kS
     rw[hs c,hx]at U
     omega
   |some t=>
    refine AQ.Dx (x:=lx (some t)) j (by kernel_rfl) rfl rfl Ct jz xy (fun φ I w us u jo U h2=>⟨(ba φ I w us u jo U h2).1,(ba φ I w us u jo U h2).2.2 j hj⟩) (Hl Gd) ?_
    simp only[go_sem,Nat.reduceAdd,Nat.reduceLeDiff,Nat.reduceSub,Int.reduceToNat,reduceCtorEq,lx,oN]
    refine gO ?_
    rw[sj]
    refine sI ?_
    repeat(first|refine xA ?_|refine xB ?_|refine xC ?_|refine xE ?_|refine xD ?_|refine xK ?_|refine xS ?_|refine xM ?_|refine xT ?_|refine xF ?_|((first|refine xR ?_|refine xW ?_|refine fR ?_);simp only[go_sem,Nat.reduceAdd,Nat.reduceLeDiff,Nat.reduceSub,Int.reduceToNat,reduceCtorEq,mO,kO])|(refine⟨by first|omega|(intros;simp_all;done)|(intros;simp_all;omega),?_⟩;try simp only[go_sem,Nat.reduceAdd,Nat.reduceLeDiff,Nat.reduceSub,Int.reduceToNat,reduceCtorEq,mO,kO]))
    refine AP.db 7 (Tree.node [] [0,1,2,3,4] [5] [Tree.node [2,3,4] [6] [] []]) (by kernel_rfl) rfl (by kernel_rfl) (by kernel_rfl) ?_
    refine c_ ?_
    simp only[go_sem,Nat.reduceAdd,Nat.reduceLeDiff,Nat.reduceSub,Int.reduceToNat,reduceCtorEq,mO,kO]
    refine AQ.go (by kernel_rfl) ?_
    simp only[go_sem,Nat.reduceAdd,Nat.reduceLeDiff,Nat.reduceSub,Int.reduceToNat,reduceCtorEq,mO,kO]
    refine AQ.nx rfl ?_
    simp only[go_sem,Nat.reduceAdd,Nat.reduceLeDiff,Nat.reduceSub,Int.reduceToNat,reduceCtorEq,mO,kO]
    refine AQ.done ?_
    refine gO ?_
    refine AE.ret (sc:=(0+2<=2)/\True/\True) (xs:=[.agg (oN t),Bv true]) ?_ ?_ ?_
    ·show eG _ _ _ [.cell 6 164,.tmp 7]=_
     simp only[go_sem,Nat.reduceAdd,Nat.reduceLeDiff,Nat.reduceSub,Int.reduceToNat,reduceCtorEq,eG,mO,wu,oN]
    ·exact⟨Nat.le_refl _,trivial,trivial⟩
    ·exact⟨.inl ⟨k,t,ob,rfl,(hold kb (by omega) _ _).trans na,jz,hK,il.refl k,hD,by rw[hx];exact kS⟩,fun x iK _=>hold x iK _ _,fun x iK=>by rw[hold x iK]⟩
  ·have Cw:=dh nb H1
   obtain⟨n8,sj⟩:∃n,au nb H1=n:=⟨_,rfl⟩
   rw[sj]at Cw
   simp only[go_sem,au]at sj
   refine AQ.Zo (zx:= .agg [Bv false,Iv 0,Iv 0]) (z:= .agg #[.bool false,.int .i64 0,.int .i64 0]) (by kernel_rfl) rfl rfl Ct jz xy (fun φ I w us u jo U h2=>⟨(ba φ I w us u jo U h2).1,(ba φ I w us u jo U h2).2.1 hm⟩) (by kernel_rfl) (fun w φ I=>by simp[AV.den,AV.ab,IV.den,Value.oneCell']) ?_
   refine sI ?_
   refine gO ?_
   rw[sj]
   refine gO ?_
   obtain⟨H2,qk⟩:∃H2:aa,H2=(n8,Ob.var (.cell 194) [Bv false,Iv 0,Iv 0])::H1:=⟨_,rfl⟩
   have o2:∀x,x<n8->lk H2 x=lk H1 x:=fun x hx=>by rw[qk,ct (by omega)]
   have lF:GH g up H2:=by rw[qk];exact rP.cons Cw.2
   have M6:=C5 lF hK dV
   have MK:lk H2 kb=some ob:=(o2 kb (by omega)).trans Ct
   have kO:lk H2 n0=some (.var (.cell 164) [Iv 0,Iv 0]):=by rw[o2 n0 (by omega),mS,gG]
   rw[<-qk]
   refine AQ.Zs (kx:= .ob r 0) (xv:=lx none) (by kernel_rfl) rfl rfl rfl MK jz xy (fun φ I w us u jo U h2=>⟨(M6 φ I w us u jo U h2).1,(M6 φ I w us u jo U h2).2.1 hm⟩) fun Ih WI=>?_
   obtain⟨H3,oZ⟩:∃H3,H3=aN H2 kb Ih:=⟨_,rfl⟩
   have o3:∀x,x≠kb->lk H3 x=lk H2 x:=fun x hx=>by rw[oZ,cm _ _ _ _ hx]
   have Ge:lk H3 kb=some Ih:=by rw[oZ];exact cV _ _ _ MK
   have tM:GH g up H3:=lF.same fun x hx=>⟨o3 x (Gf x hx).1,o3 _ (Gf x hx).2⟩
   have L1:=(o3 n0 (by omega)).trans kO
   rw[<-oZ]
   obtain⟨gi,G3⟩:∃n,au nb H3=n:=⟨_,rfl⟩
   have Gp:=dh nb H3
   rw[G3]at Gp
   have ac8:=bU H3 n0 _ L1
   simp only[go_sem,au]at G3
   refine sI ?_
   refine gO ?_
   rw[G3]
   have WV:=tM.lt Gp.2
   have SS:=cP (show gi≠r by have:=(WV r dV).1;omega)
   have vO:=tM.cell r dV
   unfold cA at vO
   simp only[go_sem,Nat.reduceAdd,Nat.reduceLeDiff,Nat.reduceSub,Int.reduceToNat,reduceCtorEq,SS,vO]
   refine gO ?_
   obtain⟨H4,lB⟩:∃H4:aa,H4=(gi,Ob.var (.cell 164) [Iv 1,Iv 1])::H3:=⟨_,rfl⟩
   have o4:∀x,x<gi->lk H4 x=lk H3 x:=fun x hx=>by rw[lB,ct (by omega)]
   have ac4:=bU H3 kb _ Ge
   have qs:Jx nb kb n0 gi g up H rt (k++[(r,none)]) (g.cl r).ks (k++[(r,none)]) [] H4:=by
    refine⟨by rw[lB];exact tM.cons Gp.2,⟨Ih,(o4 kb (by omega)).trans Ge,by rw[XK,XN];exact WI⟩,hK.opened dV ou hm,il.refl _,hD.opened r,(o4 n0 (by omega)).trans L1,by rw[lB,gG];rfl,Nat.zero_le _,fun j x t _ h=>by simp at h,fun x iK qM=>?_,fun x iK=>?_⟩
    ·rw[o4 x (by omega),o3 x qM,o2 x (by omega),o1 x (by omega)]
    ·by_cases pD:x=kb
     ·subst pD
      rw[o4 x (by omega),Ge,na];rfl
     ·rw[o4 x (by omega),o3 x pD,o2 x (by omega),o1 x (by omega)]
   have Vd:pG g.L (k++[(r,none)])<pG g.L k:=XY dV hm (by simp) (fun c hc=>by simp at hc⊢;exact .inl hc)
   have Va:=(hr.len r).1
   have Gg:∀ki:Kn,il (k++[(r,none)]) ki->∀s x,kE g.d rt s->Em g.d s k c->(g.cl r).nm≠[]->x∈(g.cl r).ks->Em g.d s ki x:=fun ki hle s x hs kZ e_ pD r' kW=>by
    have h0:=hr.dn.SG e_ pD s
    rcases List.mem_append.1 ((hle.b r').1 kW)with U|U
    ·have h2:=kZ r' U
     rw[hs c,hx]at h2
     omega
    ·cases List.mem_singleton.1 U
     exact h0
   rw[<-lB]
   refine AP.loop rfl (α:=Kn×List Tm×aa) (fun q=>[(0,.ob u 0),(1,.ob r 0),(2,.mp kb),(6,.ob n0 0),(10,.ob gi 0),(36,.os (g.c8 r) 1 0 (g.cl r).ks.length),(37,Iv (g.cl r).ks.length),(38,Iv q.2.1.length)]) (fun q=>q.2.2) (fun q=>Jx nb kb n0 gi g up H rt (k++[(r,none)]) (g.cl r).ks q.1 q.2.1 q.2.2) (fun q=>(g.cl r).ks.length-q.2.1.length) (_,[],H4) qs (sU) rfl fun⟨ki,ts,H5⟩ hq=>?_
   simp only at hq⊢
   rcases Nat.eq_or_lt_of_le hq.tl with aM|rZ
   ·have Np:=hq.t10
    have W3:=hq.t6
    obtain⟨O9,za,Gz⟩:=hq.pm
    have kS:(r,(none:Option Tm))∈ki:=(hq.le.b r).2 (by simp)
    obtain⟨j,hj⟩:=List.getElem?_of_mem kS
    have jY:(ki.map (·.1))[j]?=some r:=by rw[List.getElem?_map,hj];rfl
    have M7:=C5 hq.gh hq.ok dV
    obtain⟨t,ht⟩:∃t,t=(if(g.cl r).nm=[]then bg (g.cl r).num else .mk (g.cl r).nm 0 ts):=⟨_,rfl⟩
    have se:(g.cl r).nm=[]->ts=[]:=fun e=>by
     have:=hr.vk r e
     rw[this]at aM
     exact List.eq_nil_of_length_eq_zero aM
    have sg:wT t=1+aK ts/\cd t=1+dj ts:=by
     by_cases e:(g.cl r).nm=[]
     ·rw[ht,if_pos e,se e];exact⟨rfl,rfl⟩
     ·rw[ht,if_neg e,wT,cd];exact⟨rfl,rfl⟩
    have W8:Tc g.cl rt r t:=by
     by_cases e:(g.cl r).nm=[]
     ·rw[ht,if_pos e]
      have:=Tc.var (cl:=g.cl) (rt:=rt) (c:=r) (by rw[ou];exact e)
      rw[ou]at this;exact this
     ·rw[ht,if_neg e]
      have:=Tc.fn (cl:=g.cl) (rt:=rt) (c:=r) (ts:=ts) (by rw[ou];exact e) (by rw[ou];exact aM) (fun i x t U h2=>by
       rw[ou]at U
       exact(hq.ok.tc _ t (hq.tt i x t U h2)).same (by rw[hR.idem]))
      rw[ou]at this;exact this
    have fi:∀x∈(g.cl r).ks,∃u,(rt x,some u)∈ki:=fun x hx=>by
     obtain⟨i,hi⟩:=List.getElem?_of_mem hx
     have hil:=(List.getElem?_eq_some_iff.1 hi).1
     exact⟨ts[i]'(by omega),hq.tt i x _ hi (List.getElem?_eq_getElem (by omega))⟩
    have tX:cd t<=mF ki+1:=by
     rw[sg.2]
     have:=KX ts (mF ki) fun t ht=>by
      obtain⟨i,hi,e⟩:=List.getElem_of_mem ht
      exact hq.d _ t (hq.tt i ((g.cl r).ks[i]'(by omega)) t (List.getElem?_eq_getElem (by omega)) (by rw[List.getElem?_eq_getElem hi,e]))
     omega
    refine gO ?_
    refine cF ?_
    refine gE @Np ?_
    refine AQ.Zr (kx:= .ob r 0) (xv:=lx (some t)) j (by kernel_rfl) rfl rfl (by simp only[go_sem,Nat.reduceAdd,Nat.reduceLeDiff,Nat.reduceSub,Int.reduceToNat,reduceCtorEq,sg.1,sg.2,lx,oN]) za Gz xy (fun φ I w us u jo U h2=>⟨(M7 φ I w us u jo U h2).1,(M7 φ I w us u jo U h2).2.2 j jY⟩) fun Ad GA=>?_
    obtain⟨H6,rH⟩:∃H6,H6=aN H5 kb Ad:=⟨_,rfl⟩
    have o6:∀x,x≠kb->lk H6 x=lk H5 x:=fun x hx=>by rw[rH,cm _ _ _ _ hx]
    have zb:lk H6 kb=some Ad:=by rw[rH];exact cV _ _ _ za
    have o_:=(o6 n0 (by omega)).trans W3
    have vS:=(o6 gi (by omega)).trans Np
    have wu:∀o,lk (aN H6 n0 o) n0=some o:=fun o=>cV _ _ _ o_
    have hold:∀x,x≠n0->∀o,lk (aN H6 n0 o) x=lk H6 x:=fun x h o=>cm _ _ _ _ h
    rw[<-rH]
    refine sI ?_
    refine gE (an @o_ @vS) ?_
    refine AE.ret (sc:=(0+2<=2)/\True/\True) (xs:=[.agg (oN t),Bv true]) ?_ ?_ ?_
    ·show eG _ _ _ [.cell 6 164,.tmp 7]=_
     simp only[go_sem,Nat.reduceAdd,Nat.reduceLeDiff,Nat.reduceSub,Int.reduceToNat,reduceCtorEq,eG,wu,oN,sg.1,sg.2]
    ·exact⟨Nat.le_refl _,trivial,trivial⟩
    ·refine⟨.inl ⟨ki.set j (r,some t),t,Ad,rfl,(hold kb (by omega) _).trans zb,by rw[XJ hj,XM];exact GA,hq.ok.closed hj W8 fi,hq.le.closed hq.ok hm hj,hq.d.closed hq.ok hj tX,?_⟩,fun x iK qM=>?_,fun x iK=>?_⟩
     ·rw[hx];exact(DT hq.ok.nd hj _).2 (.inl rfl)
     ·rw[hold x (by omega),o6 x qM];exact hq.bQ x iK qM
     ·by_cases pD:x=kb
      ·subst pD
       rw[hold x (by omega),zb,na];rfl
      ·rw[hold x (by omega),o6 x pD];exact hq.low x iK
   ·obtain⟨x,si⟩:∃x,(g.cl r).ks[ts.length]?=some x:=⟨_,List.getElem?_eq_getElem rZ⟩
    have qN:=hr.kids r dV x (List.mem_of_getElem? si)
    have GJ:lk H5 (g.c8 r)=some (.var (.row 187) ((g.cl r).ks.map fun k=> .ob k 0)):=by
     have:=hq.gh.row r dV
     unfold jh lW at this
     cases gY:(g.cl r).ks with
     |nil=>rw[gY]at rZ;simp at rZ
     |cons a b=>rw[gY]at this;exact this
    have hw:=wr (x:=(ts.length:Int)+1) (by omega)
    refine gO ?_
    refine cT ?_
    refine gE @GJ ?_
    refine AQ.uU (by kernel_rfl) rfl (hq.gh.row r dV) (wK si) Tryz.s7 Tryz.pU ?_
    refine sI ?_
    refine gO ?_
    obtain⟨O9,za,Gz⟩:=hq.pm
    obtain⟨n5,r9⟩:∃n,au nb H5=n:=⟨_,rfl⟩
    have jX:=dh nb H5
    rw[r9]at jX
    have hkN:pG g.L ki<pG g.L k:=Nat.lt_of_le_of_lt (Nat.le_of_not_lt fun h=>by
     have:pG g.L ki<=pG g.L (k++[(r,none)]):=Ll fun c _ hc=>by
      simp only[Bool.not_eq_true',List.contains_eq_mem,decide_eq_false_iff_not]at hc⊢
      exact fun h'=>hc (hq.le.keys h')
     omega) Vd
    have FF:N-1<N:=by omega
    have tN:=hq.gh.lt jX.2
    have XZ:=bU H5 n0 _ hq.t6
    have adf:=bU H5 gi _ hq.t10
    have lkb:=bU H5 kb _ za
    have ih:=OI g hr up rt rk hR Vb u kb (N-1) ki x n5 H5 O9 (by omega) hq.gh jX.2 qN (by omega) za Gz hq.ok hq.d
    have j1:=bq (show u<n5 by omega)
    have j2:=bq (show r<n5 by have:=(tN r dV).1;omega)
    have j3:=bq (show kb<n5 by omega)
    have j4:=bq (show n0<n5 by omega)
    have j5:=bq (show gi<n5 by omega)
    have j6:=bq (show g.c8 r<n5 by have:=(tN r dV).2;omega)
    have j7:=bq (show x<n5 by have:=(tN x qN).1;omega)
    refine AQ.iB n5 (er jX.1) (by kernel_rfl) rfl rfl rfl ih (fun r H' h=>h.low) fun r6 H6 hM=>?_
    have o_:=(hM.bQ n0 (by omega) (by omega)).trans hq.t6
    have vS:=(hM.bQ gi (by omega) (by omega)).trans hq.t10
    obtain⟨qU,qB⟩:∃n,au nb H6=n:=⟨_,rfl⟩
    have Cj:=dh nb H6
    rw[qB]at Cj
    simp only[go_sem,au]at qB
    have l0:=bU H6 n0 _ o_
    have l10:=bU H6 gi _ vS
    have Co:∀z,z<nb->z≠kb->lk H6 z=lk H z:=fun z fk np=>(hM.bQ z (by omega) np).trans (hq.bQ z fk np)
    have Cp:cu nb H H6:=fun z hz=>(hM.low z (by omega)).trans (hq.low z hz)
    have JZ:=cP (show qU≠n0 by omega)
    have x8:=cP (show qU≠gi by omega)
    simp only[go_sem,Nat.reduceAdd,Nat.reduceLeDiff,Nat.reduceSub,Int.reduceToNat,reduceCtorEq,j1,j2,j3,j4,j5,j6,j7]
    rcases hM.ex with⟨k',t,Ad,rfl,zb,GA,Mf,MR,Mb,uh⟩|⟨a,b,rfl,a6⟩
    ·refine AQ.go (by kernel_rfl) ?_
     simp only[go_sem,Nat.reduceAdd,Nat.reduceLeDiff,Nat.reduceSub,Int.reduceToNat,reduceCtorEq,oN]
     refine gO ?_
     rw[qB]
     refine gO ?_
     have CI:∀o,lk (aN H6 gi o) gi=some o:=fun o=>cV _ _ _ vS
     refine AP.db 16 (Tree.node [] [0,1,2,3,4,5,6,7,8,9,10,11,12] [13] [Tree.node [8,9,10,11] [14] [15] [Tree.node [] [] [] []]]) (by kernel_rfl) rfl (by kernel_rfl) (by kernel_rfl) ?_
     refine c_ ?_
     simp only[go_sem,Nat.reduceAdd,Nat.reduceLeDiff,Nat.reduceSub,Int.reduceToNat,reduceCtorEq,x8,vS]
     refine AQ.go (by kernel_rfl) ?_
     simp only[go_sem,Nat.reduceAdd,Nat.reduceLeDiff,Nat.reduceSub,Int.reduceToNat,reduceCtorEq,x8,vS]
     refine AQ.nx rfl ?_
     simp only[go_sem,Nat.reduceAdd,Nat.reduceLeDiff,Nat.reduceSub,Int.reduceToNat,reduceCtorEq,x8,CI]
     have lJ:cd t<=1000000:=by
      have U:=Mb _ t uh
      have h2:=YC Mf
      omega
     have w1:=wr (x:=((min (1+aK ts) 8000:Nat):Int)+((min (wT t) 8000:Nat):Int)) (by omega)
     have w2:=wr (x:=(cd t:Int)+1) (by omega)
     have e1:(if 8000<((min (1+aK ts) 8000:Nat):Int)+((min (wT t) 8000:Nat):Int)then 8000 else((min (1+aK ts) 8000:Nat):Int)+((min (wT t) 8000:Nat):Int))=((min (1+aK (ts++[t])) 8000:Nat):Int):=by
      rw[Jk];split<;>omega
     have e2:(if((1+dj ts:Nat):Int)<(cd t:Int)+1 then(cd t:Int)+1 else((1+dj ts:Nat):Int))=((1+dj (ts++[t]):Nat):Int):=by
      rw[KY];split<;>omega
     refine AQ.go (by kernel_rfl) ?_
     simp only[go_sem,Nat.reduceAdd,Nat.reduceLeDiff,Nat.reduceSub,Int.reduceToNat,reduceCtorEq,x8,CI,w1,w2,e1,e2]
     refine AQ.nx rfl ?_
     simp only[go_sem,Nat.reduceAdd,Nat.reduceLeDiff,Nat.reduceSub,Int.reduceToNat,reduceCtorEq,x8,CI,w1,w2,e1,e2]
     rw[zw]
     refine AQ.done ?_
     refine gE @hw ?_
     have Gk:(ts++[t]).length=ts.length+1:=by rw[List.length_append];rfl
     have h7:∀z,z≠gi->z<qU->∀o o',lk ((qU,o)::aN H6 gi o') z=lk H6 z:=fun z U h2 o o'=>by rw[ct (by omega),cm _ _ _ _ U]
     refine AE.round (k',ts++[t],_) ?_ (by simp only[Gk];omega) (by simp only[Gk];exact(sU)) rfl
     refine⟨hq.gh.same fun z hz=>?_,⟨Ad,(h7 kb (by omega) (by have:=bU H6 kb _ zb;omega) _ _).trans zb,GA⟩,Mf,hq.le.trans MR,Mb,(h7 n0 (by omega) (by omega) _ _).trans o_,by rw[ct (by omega),CI],by rw[Gk];omega,fun i y v U h2=>?_,fun z fk np=>?_,fun z hz=>?_⟩
     ·have d1:=tN z hz
      have d2:=Gf z hz
      have d3:z≠gi:=fun e=>by
       have:=hq.gh.cell z hz
       rw[e,hq.t10]at this
       cases this
      have d4:g.c8 z≠gi:=fun e=>by
       have:=hq.gh.row z hz
       rw[e,hq.t10]at this
       unfold jh lW at this
       split at this<;>cases this
      have q1:=hM.bQ z d1.1 d2.1
      have q2:=hM.bQ (g.c8 z) d1.2 d2.2
      have p1:=bU H6 z _ (q1.trans (hq.gh.cell z hz))
      have p2:=bU H6 _ _ (q2.trans (hq.gh.row z hz))
      exact⟨(h7 z d3 (by omega) _ _).trans q1,(h7 _ d4 (by omega) _ _).trans q2⟩
     ·rcases Nat.lt_or_ge i ts.length with hi|hi
      ·rw[List.getElem?_append_left hi]at h2
       exact MR.f _ _ (hq.tt i y v U h2)
      ·rw[List.getElem?_append_right hi]at h2
       have ua:i=ts.length:=by
        have:=(List.getElem?_eq_some_iff.1 h2).1
        simp at this;omega
       subst ua
       rw[si]at U
       cases U
       simp at h2
       subst h2
       exact uh
     ·exact(h7 z (by omega) (by omega) _ _).trans (Co z fk np)
     ·exact(congrArg Option.isSome (h7 z (by omega) (by omega) _ _)).trans (Cp z hz)
    ·refine AQ.go (by kernel_rfl) ?_
     refine sI ?_
     refine gO ?_
     rw[qB]
     refine gO ?_
     simp only[go_sem,Nat.reduceAdd,Nat.reduceLeDiff,Nat.reduceSub,Int.reduceToNat,reduceCtorEq,JZ,o_]
     refine gO ?_
     have wu:∀o,lk (aN H6 n0 o) n0=some o:=fun o=>cV _ _ _ o_
     have h7:∀z,z≠n0->z<qU->∀o o',lk ((qU,o)::aN H6 n0 o') z=lk H6 z:=fun z U h2 o o'=>by rw[ct (by omega),cm _ _ _ _ U]
     refine AE.ret (sc:=(0+2<=2)/\True/\True) (xs:=[.agg [Iv 0,Iv 0],Bv false]) ?_ ?_ ?_
     ·show eG _ _ _ [.cell 6 164,.tmp 7]=_
      simp only[go_sem,Nat.reduceAdd,Nat.reduceLeDiff,Nat.reduceSub,Int.reduceToNat,reduceCtorEq,eG,wu,JZ]
     ·exact⟨Nat.le_refl _,trivial,trivial⟩
     ·refine⟨.inr ⟨0,0,rfl,fun s hs kZ=>a6 s hs (Gg ki hq.le s x hs kZ (fun e=>?_) (List.mem_of_getElem? si))⟩,fun z fk np=>?_,fun z hz=>?_⟩
      ·rw[hr.vk r e]at rZ;simp at rZ
      ·rw[h7 z (by omega) (by omega)];exact Co z fk np
      ·rw[h7 z (by omega) (by omega)];exact Cp z hz
termination_by N=>N
decreasing_by exact FF
theorem GH.wQ {g:Gs} {up:Nat->Option Nat} {rt rk:Nat->Nat} {H:aa} (h:GH g up H) (hr:Gr g) (hR:Rt g.L up rt rk) {nb:Nat} (hn:bB H<=nb):∀c∈g.L,kC nb (.var 192 (cA g up c))/\kC nb (jh (g.cl c).ks):=fun c hc=>by
 refine⟨fun x hx=>?_,fun x hx=>DJ fun hk=>by have:=(h.lt hn x (hr.kids c hc x hk)).1;omega⟩
 have U:=(h.lt hn c hc).2
 have h2:(oQ (up c)).men x=false:=by
  cases hu:up c with
  |none=>rfl
  |some d=>
   have:=(h.lt hn d (hR.go c hc d hu).1).1
   simp only[oQ,AV.men,cP (show d≠x by omega)]
 simp only[Ob.men,cA,AV.mens,h2,AV.men,cP (show g.c8 c≠x by omega),Bool.or_false]
theorem GH.bQ {g:Gs} {up:Nat->Option Nat} {rt rk:Nat->Nat} {H H':aa} (h:GH g up H) (hr:Gr g) (hR:Rt g.L up rt rk) {nb:Nat} (hn:bB H<=nb) (ho:∀x o,x<nb->lk H x=some o->kC nb o->lk H' x=some o):GH g up H':=
 ⟨fun c hc=>ho c _ (h.lt hn c hc).1 (h.cell c hc) (h.wQ hr hR hn c hc).1,fun c hc=>ho _ _ (h.lt hn c hc).2 (h.row c hc) (h.wQ hr hR hn c hc).2⟩
structure R1 (nb:Nat) (H:aa) (t:Tm) (r:AV) (H':aa):Prop where
 r:r=bf t
 bQ:∀x o,x<nb->lk H x=some o->kC nb o->lk H' x=some o
 low:cu nb H H'
structure Jz (nb n2 n3 n4:Nat) (g:Gs) (up:Nat->Option Nat) (H:aa) (nm:List UInt8) (ts:List Tm) (k:Nat) (H1:aa):Prop where
 gh:GH g up H1
 c2:lk H1 n2=some (.var (.cell 71) [Sv [],Iv 0,eO])
 c3:lk H1 n3=some (.var (.cell 71) [Sv nm,Iv 0,.os n4 3 0 k])
 c4:lk H1 n4=some (.vec 71 3 (az (ts.take k)))
 kl:k<=ts.length
 bQ:∀x o,x<nb->lk H x=some o->kC nb o->lk H1 x=some o
 low:cu nb H H1
theorem QR (g:Gs) (hr:Gr g) (up:Nat->Option Nat) (rt rk:Nat->Nat) (hR:Rt g.L up rt rk):∀(N:Nat) (t:Tm) (c nb:Nat) (H:aa),wT t<=N->Tc g.cl rt c t->c∈g.L->GH g up H->bB H<=nb->dv Tryz.prog nb 123 [.ob c 0] H (R1 nb H t)
 |0,t,_,_,_,h,_,_,_,_=>by have:=u9 t;omega
 |N+1,t,c,nb,H,hN,hT,hc,hG,hnb=>by
  have dV:=hR.mem hc
  obtain⟨r,hx⟩:∃r,rt c=r:=⟨_,rfl⟩
  rw[hx]at dV
  obtain⟨n2,fN⟩:∃n,au nb H=n:=⟨_,rfl⟩
  have cq:=dh nb H
  rw[fN]at cq
  simp only[go_sem,au]at fN
  obtain⟨H1,mS⟩:∃H1:aa,H1=(n2,Ob.var (.cell 71) [Sv [],Iv 0,eO])::H:=⟨_,rfl⟩
  have rP:GH g up H1:=by rw[mS];exact hG.cons cq.2
  have ei:bB H1=n2+1:=by rw[mS];exact uL cq.2
  have o1:∀x,x<n2->lk H1 x=lk H x:=fun x hx=>by rw[mS,ct (by omega)]
  have Fq:lk H1 n2=some (Ob.var (.cell 71) [Sv [],Iv 0,eO]):=by rw[mS,gG]
  have s1:=xg (n2+1) rP hR hc
  rw[hx]at s1
  have ag:=hG.lt cq.2
  have Wg:=rP.lt (Nat.le_refl _)
  have kc:=bq (show c<n2+1 by have:=(ag c hc).1;omega)
  have kr:=bq (show r<n2+1 by have:=(ag r dV).1;omega)
  have k2:=bq (show n2<n2+1 by omega)
  have cr:=rP.cell r dV
  unfold cA at cr
  refine dv.walk [0,2,3,5,12,26,27,28,29] [2,3] Tryz.func123 rfl Tryz.ntmps123 (by kernel_rfl) (by rfl) fun W own I0 aq lay=>?_
  refine gO ?_
  rw[fN]
  rw[<-mS]
  refine AQ.iB (n2+1) (er (show nb<=n2+1 by omega)) (by kernel_rfl) rfl rfl rfl s1 (fun r H' e=>by rw[e.1];exact cu.refl _ _) fun r' H' ⟨e1,e2⟩=>?_
  rw[e1,e2]
  clear e1 e2
  simp only[go_sem,Nat.reduceAdd,Nat.reduceLeDiff,Nat.reduceSub,Int.reduceToNat,reduceCtorEq,kc,kr,k2]
  refine AQ.go (by kernel_rfl) ?_
  refine sI ?_
  repeat(first|refine xA ?_|refine xB ?_|refine xC ?_|refine xE ?_|refine xD ?_|refine xK ?_|refine xS ?_|refine xM ?_|refine xT ?_|refine xF ?_|((first|refine xR ?_|refine xW ?_|refine fR ?_);simp only[go_sem,Nat.reduceAdd,Nat.reduceLeDiff,Nat.reduceSub,Int.reduceToNat,reduceCtorEq,cr])|(refine⟨by first|omega|(intros;simp_all;done)|(intros;simp_all;omega),?_⟩;try simp only[go_sem,Nat.reduceAdd,Nat.reduceLeDiff,Nat.reduceSub,Int.reduceToNat,reduceCtorEq,cr]))
  refine AP.cond rfl rfl (fun h=>?_) (fun h=>?_)
  ·have h:(g.cl r).nm=[]:=by simpa using h
   have ht:t=bg (g.cl r).num:=by
    have:=Tc.yr hT (.var (by rw[hx];exact h))
    rw[hx]at this;exact this
   have gD:∀o,lk (aN H1 n2 o) n2=some o:=fun o=>cV _ _ _ Fq
   repeat(first|refine xA ?_|refine xB ?_|refine xC ?_|refine xE ?_|refine xD ?_|refine xK ?_|refine xS ?_|refine xM ?_|refine xT ?_|refine xF ?_|((first|refine xR ?_|refine xW ?_|refine fR ?_);simp only[go_sem,Nat.reduceAdd,Nat.reduceLeDiff,Nat.reduceSub,Int.reduceToNat,reduceCtorEq,cr])|(refine⟨by first|omega|(intros;simp_all;done)|(intros;simp_all;omega),?_⟩;try simp only[go_sem,Nat.reduceAdd,Nat.reduceLeDiff,Nat.reduceSub,Int.reduceToNat,reduceCtorEq,cr]))
   refine AQ.fn (by kernel_rfl) rfl rfl rfl (AF _) rfl ?_
   refine sE @Fq ?_
   refine gO ?_
   refine AE.ret (sc:=(0+3<=3)) (xs:=[bf t]) ?_ ?_ ?_
   ·show eG _ _ _ [.cell 2 71]=_
    simp only[go_sem,Nat.reduceAdd,Nat.reduceLeDiff,Nat.reduceSub,Int.reduceToNat,reduceCtorEq,eG,gD]
    rw[ht,iR]
   ·exact Nat.le_refl _
   ·have eC:∀x,x<nb->∀o,lk (aN H1 n2 o) x=lk H x:=fun x hx o=>by rw[cm _ _ _ _ (by omega),o1 x (by omega)]
    exact⟨rfl,fun x o hx h _=>(eC x hx _).trans h,fun x hx=>by rw[eC x hx]⟩
  ·have h:(g.cl r).nm≠[]:=by simpa using h
   obtain⟨ts,ht,hl,hk⟩:∃ts,t= .mk (g.cl r).nm 0 ts/\ts.length=(g.cl r).ks.length/\∀(k x:Nat) (t:Tm),(g.cl r).ks[k]?=some x->ts[k]?=some t->Tc g.cl rt x t:=by
    cases hT with
    |var hv=>rw[hx]at hv;exact absurd hv h
    |fn _ hl hk=>rw[hx]at hl hk⊢;exact⟨_,rfl,hl,hk⟩
   have NC:au nb H1=n2+1:=by
    unfold au
    rw[ei,er (by omega),cond_true]
   simp only[go_sem,au]at NC
   repeat(first|refine xA ?_|refine xB ?_|refine xC ?_|refine xE ?_|refine xD ?_|refine xK ?_|refine xS ?_|refine xM ?_|refine xT ?_|refine xF ?_|((first|refine xR ?_|refine xW ?_|refine fR ?_);simp only[go_sem,Nat.reduceAdd,Nat.reduceLeDiff,Nat.reduceSub,Int.reduceToNat,reduceCtorEq,cr])|(refine⟨by first|omega|(intros;simp_all;done)|(intros;simp_all;omega),?_⟩;try simp only[go_sem,Nat.reduceAdd,Nat.reduceLeDiff,Nat.reduceSub,Int.reduceToNat,reduceCtorEq,cr]))
   rw[NC]
   have SU:=cP (show n2+1≠r by have:=(ag r dV).1;omega)
   simp only[go_sem,Nat.reduceAdd,Nat.reduceLeDiff,Nat.reduceSub,Int.reduceToNat,reduceCtorEq,SU]
   refine gO ?_
   refine AP.jg (n2+1) 2 71 3 gG rfl ?_
   have Xp:∀o,au nb ((n2+1,o)::H1)=n2+2:=fun o=>by
    unfold au
    rw[uL (by omega),er (by omega),cond_true]
   rw[Xp,GO]
   refine sI ?_
   obtain⟨H4,lB⟩:∃H4:aa,H4=(n2+2,Ob.vec 71 3 [])::(n2+1,Ob.var (.cell 71) [Sv (g.cl r).nm,Iv 0,.os (n2+2) 3 0 0])::H1:=⟨_,rfl⟩
   have Va:=(hr.len r).1
   have o4:∀x,x≠n2+2->x≠n2+1->lk H4 x=lk H1 x:=fun x U h2=>by rw[lB,ct U,ct h2]
   have qs:Jz nb n2 (n2+1) (n2+2) g up H (g.cl r).nm ts 0 H4:=by
    refine⟨rP.same fun c hc=>?_,(o4 n2 (by omega) (by omega)).trans Fq,by rw[lB,ct (by omega),gG],by rw[lB,gG];rfl,Nat.zero_le _,fun x o hx h _=>?_,fun x hx=>?_⟩
    ·have:=Wg c hc
     exact⟨o4 _ (by omega) (by omega),o4 _ (by omega) (by omega)⟩
    ·rw[o4 x (by omega) (by omega),o1 x (by omega)];exact h
    ·rw[o4 x (by omega) (by omega),o1 x (by omega)]
   refine AP.loop rfl (α:=Nat×aa) (fun q=>[(2,.ob n2 0),(3,.ob (n2+1) 0),(26,.os (g.c8 r) 1 0 (g.cl r).ks.length),(27,Iv (g.cl r).ks.length),(28,Iv q.1)]) (fun q=>q.2) (fun q=>Jz nb n2 (n2+1) (n2+2) g up H (g.cl r).nm ts q.1 q.2) (fun q=>ts.length-q.1) (0,H4) qs (sU) lB.symm fun⟨k,H5⟩ hq=>?_
   simp only at hq⊢
   have vQ:=hq.c2
   have BR:=hq.c3
   have Fu:=hq.c4
   rcases Nat.eq_or_lt_of_le hq.kl with aM|rZ
   ·subst aM
    refine gO ?_
    refine cF ?_
    refine gE (an @BR @vQ) ?_
    have gD:∀o,lk (aN H5 n2 o) n2=some o:=fun o=>cV _ _ _ vQ
    have mo:∀x,x≠n2->∀o,lk (aN H5 n2 o) x=lk H5 x:=fun x h o=>cm _ _ _ _ h
    have mq:(az (ts.take ts.length)).length=ts.length:=by rw[List.take_length,aw]
    have f1:=cP (show g.c8 r≠n2+2 by have:=(ag r dV).2;omega)
    have f2:=cP (show n2≠n2+2 by omega)
    have f3:=cP (show n2+1≠n2+2 by omega)
    refine sI ?_
    refine AE.Ff (n2+2) [n2,n2+1] ((mo _ (by omega) _).trans Fu) (fun j hj o ho=>?_) ?_ fun H9 UU UW UX=>?_
    ·rcases List.mem_cons.1 hj with rfl|hj
     ·rw[gD]at ho;cases ho
      simp only[tK,fx,eh,Nat.beq_refl,cond_true]
      exact⟨trivial,trivial,by omega,trivial⟩
     ·rw[List.mem_singleton.1 hj,mo _ (by omega),BR]at ho;cases ho
      simp only[tK,fx,eh,Nat.beq_refl,cond_true]
      exact⟨trivial,trivial,by omega,trivial⟩
    ·simp only[go_sem,Nat.reduceAdd,Nat.reduceLeDiff,Nat.reduceSub,Int.reduceToNat,reduceCtorEq,f1,f2,f3]
    ·have Fx:=UU n2 (by simp) (by omega)
     rw[gD,Option.map_some]at Fx
     simp only[lC,gy,dN,Nat.beq_refl,cond_true,List.drop_zero,List.take_of_length_le (Nat.le_of_eq mq),List.take_length]at Fx
     simp only[go_sem,Nat.reduceAdd,Nat.reduceLeDiff,Nat.reduceSub,Int.reduceToNat,reduceCtorEq,f1,f2,f3]
     refine AE.ret (sc:=(0+3<=3)) (xs:=[bf t]) ?_ ?_ ?_
     ·show eG _ _ _ [.cell 2 71]=_
      simp only[go_sem,Nat.reduceAdd,Nat.reduceLeDiff,Nat.reduceSub,Int.reduceToNat,reduceCtorEq,eG,Fx]
      rw[ht,List.take_of_length_le (by rw[aw];exact Nat.le_refl _)];rfl
     ·exact Nat.le_refl _
     ·refine⟨rfl,fun x o hx h dH=>?_,fun x hx=>?_⟩
      ·exact UW x o (by omega) ((mo x (by omega) _).trans (hq.bQ x o hx h dH)) (dH _ (by omega))
      ·rw[UX x (by omega),mo x (by omega)];exact hq.low x hx
   ·obtain⟨x,si⟩:∃x,(g.cl r).ks[k]?=some x:=⟨_,List.getElem?_eq_getElem (by omega)⟩
    obtain⟨v,GV⟩:∃v,ts[k]?=some v:=⟨_,List.getElem?_eq_getElem rZ⟩
    have qN:=hr.kids r dV x (List.mem_of_getElem? si)
    have GJ:lk H5 (g.c8 r)=some (.var (.row 187) ((g.cl r).ks.map fun k=> .ob k 0)):=by
     have:=hq.gh.row r dV
     unfold jh lW at this
     cases gY:(g.cl r).ks with
     |nil=>rw[gY]at hl;have hl:ts.length=0:=hl;omega
     |cons a b=>rw[gY]at this;exact this
    have hw:=wr (x:=(k:Int)+1) (by omega)
    have G0:wT v<=N:=by
     have:=Ji (List.mem_of_getElem? GV)
     rw[ht,wT]at hN
     omega
    obtain⟨n5,r9⟩:∃n,au nb H5=n:=⟨_,rfl⟩
    have jX:=dh nb H5
    rw[r9]at jX
    have tN:=hq.gh.lt jX.2
    have l4:=bU H5 _ _ Fu
    have ih:=QR g hr up rt rk hR N v x n5 H5 G0 (hk k x v si GV) qN hq.gh jX.2
    have j1:=bq (show n2<n5 by omega)
    have j2:=bq (show n2+1<n5 by omega)
    have j3:=bq (show n2+2<n5 by omega)
    have j4:=bq (show g.c8 r<n5 by have:=(tN r dV).2;omega)
    have j5:=bq (show x<n5 by have:=(tN x qN).1;omega)
    refine gO ?_
    refine cT ?_
    refine gE @GJ ?_
    refine AQ.uU (by kernel_rfl) rfl (hq.gh.row r dV) (wK si) Tryz.s7 Tryz.pU ?_
    refine sI ?_
    refine gO ?_
    refine AP.db 8 (Tree.node [] [0,1,2] [3] [Tree.node [0,1] [] [4] [Tree.node [0,1] [] [5] [Tree.node [] [6] [7] [Tree.node [] [] [] []]]]]) (by kernel_rfl) rfl (by kernel_rfl) (by kernel_rfl) ?_
    refine c_ ?_
    refine sE @BR ?_
    refine AQ.iB n5 (er jX.1) (by kernel_rfl) rfl rfl rfl ih (fun r H' h=>h.low) fun r6 H6 tR=>?_
    rw[tR.r]
    have yH:=tR.bQ _ _ (by omega) vQ (fun y hy=>rfl)
    have BS:=tR.bQ _ _ (by omega) BR (fun y hy=>by simp only[Ob.men,AV.mens,AV.men,cP (show n2+2≠y by omega),Bool.or_false])
    have L6:=tR.bQ _ _ (by omega) Fu (fun y hy=>rfl)
    rw[iR]
    simp only[go_sem,Nat.reduceAdd,Nat.reduceLeDiff,Nat.reduceSub,Int.reduceToNat,reduceCtorEq,j1,j2,j3,j4,j5,BS]
    refine AQ.nx rfl ?_
    refine sE @BS ?_
    refine AQ.go (by kernel_rfl) ?_
    refine sI ?_
    refine AQ.nx rfl ?_
    refine sE @BS ?_
    have bc:(az (ts.take k)).length=k:=by rw[aw,List.length_take];omega
    have l6:=bU H6 _ _ L6
    refine AQ.Ri (es:=2) (show nb<=n2+2 by omega) (by kernel_rfl) rfl rfl L6 Tryz.s8 Tryz.s6 ?_ Tryz.rB bc.symm (by rw[bc];simp only[List.length_cons,List.length_nil];omega) (by rw[bc];simp only[List.length_cons,List.length_nil];omega) fun H7 UP M0=>?_
    ·show Option.map _ (aA Tryz.prog 71)=_;rw[Tryz.td];rfl
    have vU:=M0 (n2+1) (by omega)
    rw[BS]at vU
    simp only[Option.map_some,eZ,iO,AV.men,Nat.beq_refl,cond_true,cond_false]at vU
    have f1:=cP (show g.c8 r≠n2+2 by have:=(ag r dV).2;omega)
    have f2:=cP (show n2≠n2+2 by omega)
    have f3:=cP (show n2+1≠n2+2 by omega)
    have f4:=cP (show x≠n2+2 by have:=(ag x qN).1;omega)
    simp only[go_sem,Nat.reduceAdd,Nat.reduceLeDiff,Nat.reduceSub,Int.reduceToNat,reduceCtorEq,f1,f2,f3,f4,bc,List.length_cons,List.length_nil]
    refine AQ.nx rfl ?_
    refine sE @vU ?_
    refine AQ.go (by kernel_rfl) ?_
    refine sE @vU ?_
    refine AQ.nx rfl ?_
    refine sE @vU ?_
    refine AQ.done ?_
    refine gE @hw ?_
    have h8:∀y,y≠n2+1->y≠n2+2->∀o,lk (aN H7 (n2+1) o) y=(lk H6 y).map (eZ (n2+2)):=fun y U h2 o=>by rw[cm _ _ _ _ U,M0 y h2]
    refine AE.round (k+1,_) ?_ (by simp only;omega) (sU) rfl
    have rQ:=hq.gh.bQ hr hR jX.2 tR.bQ
    refine⟨⟨fun z hz=>?_,fun z hz=>?_⟩,?_,cV _ _ _ vU,?_,rZ,fun y o hy h dH=>?_,fun y hy=>?_⟩
    ·have:=(ag z hz).1
     refine(h8 z (by omega) (by omega) _).trans ?_
     rw[rQ.cell z hz,Option.map_some,j9 ((hG.wQ hr hR (Nat.le_refl _) z hz).1 _ (by omega))]
    ·have:=(ag z hz).2
     refine(h8 _ (by omega) (by omega) _).trans ?_
     rw[rQ.row z hz,Option.map_some,j9 ((hG.wQ hr hR (Nat.le_refl _) z hz).2 _ (by omega))]
    ·refine(h8 n2 (by omega) (by omega) _).trans ?_
     rw[yH];rfl
    ·refine(cm _ _ _ _ (by omega)).trans ?_
     rw[UP,dX GV,rh]
    ·refine(h8 y (by omega) (by omega) _).trans ?_
     rw[tR.bQ y o (by omega) (hq.bQ y o hy h dH) (dH.mono (by omega)),Option.map_some,j9 (dH _ (by omega))]
    ·refine(congrArg Option.isSome (h8 y (by omega) (by omega) _)).trans ?_
     rw[Option.isSome_map]
     exact(tR.low y (by omega)).trans (hq.low y hy)
def g0:Gs:=⟨[],fun _=>⟨[],-1,[]⟩,fun _=>0,fun _=>bg (-1),[]⟩
theorem Uy:Gr g0:=⟨fun _ h=>(nomatch h),fun _ _=>rfl,fun _=>rfl,fun _ _=>rfl,List.nodup_nil,fun _ h=>(nomatch h),fun _ h=>(nomatch h),fun _=>⟨Nat.zero_le _,Nat.zero_le _⟩⟩
structure l9 (s t:Tm) (u kb:Nat) (H:aa) where
 g:Gs
 up:Nat->Option Nat
 rt:Nat->Nat
 rk:Nat->Nat
 m:Nat
 a:Nat
 b:Nat
 k:Kn
 ob:Ob
 gh:GH g up H
 gr:Gr g
 r:Rt g.L up rt rk
 qo:Good g.cl rt []
 e:rt a=rt b
 aL:a∈g.L
 bL:b∈g.L
 ad:g.d a=s
 bd:g.d b=t
 nF:∀q,l_ s t q->kE g.d rt q
 hu:lk H u=some (.var 189 [.mp m])
 hm:lk H m=some (.var (.map (kI g.vs)) (vC g.vs))
 hk:lk H kb=some ob
 pm:k7 ob (kK k) (kV k)
 ok:gM g.cl rt g.L k
 ta:∃x,(rt a,some x)∈k
 tb:∃x,(rt b,some x)∈k
 uS:∀p∈g.vs,nM g.cl a p.2\/nM g.cl b p.2
 ll:g.L.length<=wT s+wT t
structure R2 (nb:Nat) (H:aa) (s t:Tm) (r:AV) (H':aa):Prop where
 ex:(r= .aG [oF,.im (.v (.map none)),Bv false]/\∀q,¬l_ s t q)\/∃u kb,r= .aG [.ob u 0,.mp kb,Bv true]/\nb<=u/\nb<=kb/\Nonempty (l9 s t u kb H')
 bQ:∀x o,x<nb->lk H x=some o->kC nb o->lk H' x=some o
 low:cu nb H H'
theorem Ux (cl:Nat->Nd) (D:List (Nat×Nat)):Good cl (fun c=>c) D:=⟨fun _=>rfl,fun _ h=>⟨h,Int.le_refl _⟩,fun a b e _ _=>by
 have e:a=b:=e
 subst e
 exact⟨rfl,eo.refl _⟩⟩
structure Jw (nb n0 kb:Nat) (g:Gs) (up:Nat->Option Nat) (H:aa) (rt:Nat->Nat) (a b n7:Nat) (i:Nat) (k:Kn) (H1:aa):Prop where
 gh:GH g up H1
 pm:∃ob,lk H1 kb=some ob/\k7 ob (kK k) (kV k)
 ok:gM g.cl rt g.L k
 le:il [] k
 d:oS k
 u:lk H1 (n0+1)=some (.var (.cell 189) [.mp n0])
 m:lk H1 n0=some (.var (.map (kI g.vs)) (vC g.vs))
 row:lk H1 n7=some (.var (.row 187) [.ob a 0,.ob b 0])
 ib:i<=2
 ta:1<=i->∃x,(rt a,some x)∈k
 tb:2<=i->∃x,(rt b,some x)∈k
 bQ:∀x o,x<nb->lk H x=some o->kC nb o->lk H1 x=some o
 low:cu nb H H1
theorem aa1 (s t:Tm) (mo:c7 s=true) (CM:c7 t=true) (mn:aR s) (mq:aR t) (NA:wT s<=4001) (sg:wT t<=4001) (nb:Nat) (H:aa):dv Tryz.prog nb 119 [bf s,bf t] H (R2 nb H s t):=by
 obtain⟨n0,jb⟩:∃n,au nb H=n:=⟨_,rfl⟩
 have cq:=dh nb H
 rw[jb]at cq
 simp only[go_sem,au]at jb
 have l1:=er (show bB H<=n0 by omega)
 have l2:=er (show nb<=n0+1 by omega)
 have l3:=er (show n0+1<=n0+1 by omega)
 have l4:=er (show nb<=n0+2 by omega)
 refine dv.walk [0,1,2,3,4,5,6,7,8,9,10,12,14,29,32,33,34,35,46] [7,13,17] Tryz.func119 rfl Tryz.ntmps119 (by kernel_rfl) (by rfl) fun W own I0 aq lay=>?_
 refine gO ?_
 refine AQ.wW (by kernel_rfl) ?_
 refine sI ?_
 rw[jb]
 refine gO ?_
 simp only[go_sem,Nat.reduceAdd,Nat.reduceLeDiff,Nat.reduceSub,Int.reduceToNat,reduceCtorEq,l1,l2]
 refine AQ.wW (by kernel_rfl) ?_
 simp only[go_sem,Nat.reduceAdd,Nat.reduceLeDiff,Nat.reduceSub,Int.reduceToNat,reduceCtorEq,l1,l2,l3,l4]
 obtain⟨H3,oZ⟩:∃H3:aa,H3=(n0+2,Ob.var (.map []) [])::(n0+1,Ob.var (.cell 189) [.mp n0])::(n0,Ob.var (.map []) [])::H:=⟨_,rfl⟩
 have o3:∀x,x<n0->lk H3 x=lk H x:=fun x hx=>by rw[oZ,ct (by omega),ct (by omega),ct (by omega)]
 have Wk:bB H3=n0+3:=by rw[oZ];simp only[bB,l1,l3,cond_true,er (show n0+2<=n0+2 by omega)]
 have UJ:lk H3 n0=some (.var (.map []) []):=by rw[oZ,ct (by omega),ct (by omega),gG]
 have L0:lk H3 (n0+1)=some (.var (.cell 189) [.mp n0]):=by rw[oZ,ct (by omega),gG]
 have UK:lk H3 (n0+2)=some (.var (.map []) []):=by rw[oZ,gG]
 rw[<-oZ]
 obtain⟨kb,na⟩:∃kb,n0+1+1=kb:=⟨_,rfl⟩
 rw[na]
 have UL:lk H3 kb=some (.var (.map []) []):=by rw[<-na];exact UK
 have c1:=EG (wT s) s (n0+3) H3 (n0+1) n0 g0 (Nat.le_refl _) mo mn (by omega) ⟨fun _ h=>(nomatch h),fun _ h=>(nomatch h)⟩ Uy L0 UJ
 rw[iR]at c1
 have j1:=bq (show n0<n0+3 by omega)
 have j2:=bq (show n0+1<n0+3 by omega)
 have j3:=bq (show kb<n0+3 by omega)
 refine gO ?_
 refine AP.db 8 (Tree.node [] [0,1,3,4] [2] [Tree.node [3,4] [] [5] [Tree.node [] [6,7] [] []]]) (by kernel_rfl) rfl (by kernel_rfl) (by kernel_rfl) ?_
 refine c_ ?_
 refine sI ?_
 refine AQ.iB (n0+3) (er (show nb<=n0+3 by omega)) (by kernel_rfl) rfl rfl rfl c1 (fun r H' h=>h.low) fun r4 H4 yJ=>?_
 obtain⟨g4,a,rfl,Md,Nj,Wd,Wh,FM,Vo,WT,ac6⟩:=yJ.ex
 have Ft:=yJ.bQ (n0+1) _ (by omega) (by omega) L0 (fun y hy=>by simp only[Ob.men,AV.mens,AV.men,cP (show n0≠y by omega),Bool.or_false])
 have L2:=yJ.bQ kb _ (by omega) (by omega) UL (fun y hy=>rfl)
 have l41:=bU H4 _ _ Ft
 have l42:=bU H4 _ _ L2
 obtain⟨n4,Wl⟩:∃n,au nb H4=n:=⟨_,rfl⟩
 have Ck:=dh nb H4
 rw[Wl]at Ck
 have c2:=EG (wT t) t n4 H4 (n0+1) n0 g4 (Nat.le_refl _) CM mq Ck.2 Md Nj Ft Wh
 rw[iR]at c2
 have i1:=bq (show n0+1<n4 by omega)
 have i2:=bq (show kb<n4 by omega)
 have i3:=bq (show a<n4 by have:=(Md.lt Ck.2 a FM).1;omega)
 simp only[go_sem,Nat.reduceAdd,Nat.reduceLeDiff,Nat.reduceSub,Int.reduceToNat,reduceCtorEq,j1,j2,j3]
 refine AQ.nx rfl ?_
 refine sI ?_
 refine AQ.iB n4 (er Ck.1) (by kernel_rfl) rfl rfl rfl c2 (fun r H' h=>h.low) fun r5 H5 yK=>?_
 obtain⟨g,b,rfl,yL,GF,Gi,Wi,B3,FP,WU,ac7⟩:=yK.ex
 have L4:=yK.bQ (n0+1) _ (by omega) (by omega) Ft (fun y hy=>by simp only[Ob.men,AV.mens,AV.men,cP (show n0≠y by omega),Bool.or_false])
 have vQ:=yK.bQ kb _ (by omega) (by omega) L2 (fun y hy=>rfl)
 obtain⟨B1,ac0,_,B2⟩:=Gi.b_ a FM
 rw[Vo]at B2
 simp only[go_sem,Nat.reduceAdd,Nat.reduceLeDiff,Nat.reduceSub,Int.reduceToNat,reduceCtorEq,i1,i2,i3]
 refine AQ.nx rfl ?_
 refine sI ?_
 refine AQ.done ?_
 have Cl:∀x∈g.L,n0+3<=x:=fun x hx=>by
  by_cases h:x∈g4.L
  ·exact(Wd.new x h (fun h=>(nomatch h))).1
  ·have:=(Gi.new x hx h).1;omega
 obtain⟨n5,r9⟩:∃n,au nb H5=n:=⟨_,rfl⟩
 have jX:=dh nb H5
 rw[r9]at jX
 have l51:=bU H5 _ _ L4
 have l52:=bU H5 _ _ vQ
 have c3:=Rc g GF (n0+1) (sY g.L rm) rm (fun c=>c) (fun _=>0) a b n5 H5 (Nat.le_refl _) yL jX.2 (Rt.id g.L) B1 B3 (by omega)
 have i1:=bq (show n0+1<n5 by omega)
 have i2:=bq (show kb<n5 by omega)
 have i3:=bq (show a<n5 by have:=(yL.lt jX.2 a B1).1;omega)
 have i4:=bq (show b<n5 by have:=(yL.lt jX.2 b B3).1;omega)
 refine gO ?_
 refine AQ.iB n5 (er jX.1) (by kernel_rfl) rfl rfl rfl c3 (fun r H' h=>h.low yL) fun r6 H6 vV=>?_
 have Yo:=vV.low yL
 obtain⟨up,rt,rk,ok,rfl,rQ,Mi,BV,_⟩:=vV.ex
 have L5:=(vV.bQ (n0+1) (by omega) (fun h=>by have:=Cl _ h;omega)).trans L4
 have yH:=(vV.bQ kb (by omega) (fun h=>by have:=Cl _ h;omega)).trans vQ
 have o_:=(vV.bQ n0 (by omega) (fun h=>by have:=Cl _ h;omega)).trans Wi
 have Pk:∀x o,x<nb->lk H x=some o->kC nb o->lk H6 x=some o:=fun x o hx h dH=>by
  have a1:=yJ.bQ x o (by omega) (by omega) ((o3 x (by omega)).trans h) (dH.mono (by omega))
  have a2:=yK.bQ x o (by omega) (by omega) a1 (dH.mono (by omega))
  exact(vV.bQ x (by omega) (fun h=>by have:=Cl _ h;omega)).trans a2
 have OF:cu nb H H6:=fun x hx=>by
  rw[Yo x (by omega),yK.low x (by omega),yJ.low x (by omega),o3 x (by omega)]
 simp only[go_sem,Nat.reduceAdd,Nat.reduceLeDiff,Nat.reduceSub,Int.reduceToNat,reduceCtorEq,i1,i2,i3,i4]
 cases ok with
 |false=>
  refine AQ.go (by kernel_rfl) ?_
  refine sI ?_
  refine gO ?_
  refine AE.ret rfl ⟨rfl,rfl,rfl,trivial⟩ ⟨.inl ⟨rfl,fun q hq=>?_⟩,Pk,OF⟩
  have:=(BV.nF q (fun _=>rfl) (by rw[B2,FP];exact hq)).1
  cases this
 |true=>
  have V1:=BV.qo rfl [] (Ux _ _)
  have heq:=BV.eq rfl
  have Nn:∀q,l_ s t q->kE g.d rt q:=fun q hq=>(BV.nF q (fun _=>rfl) (by rw[B2,FP];exact hq)).2
  refine AQ.go (by kernel_rfl) ?_
  refine sI ?_
  refine gO ?_
  refine AQ.Zp kb yH fun Ij WJ=>?_
  obtain⟨H7,EZ⟩:∃H7,H7=aN H6 kb Ij:=⟨_,rfl⟩
  have o7:∀x,x≠kb->lk H7 x=lk H6 x:=fun x hx=>by rw[EZ,cm _ _ _ _ hx]
  have yI:lk H7 kb=some Ij:=by rw[EZ];exact cV _ _ _ yH
  rw[<-EZ]
  obtain⟨n7,Gq⟩:∃n,au nb H7=n:=⟨_,rfl⟩
  have MA:=dh nb H7
  rw[Gq]at MA
  simp only[go_sem,au]at Gq
  refine AQ.S8 (by kernel_rfl) rfl rfl Tryz.IX Tryz.pU Tryz.Jr ?_
  refine sE @Gq ?_
  refine gO ?_
  obtain⟨H8,BG⟩:∃H8:aa,H8=(n7,Ob.var (.row 187) [.ob a 0,.ob b 0])::H7:=⟨_,rfl⟩
  have o8:∀x,x≠n7->lk H8 x=lk H7 x:=fun x hx=>by rw[BG,ct hx]
  have XZ:=bU H6 _ _ o_
  have l61:=bU H6 _ _ L5
  have l62:=bU H7 _ _ yI
  have lt7:∀x o,lk H7 x=some o->x<n7:=fun x o h=>by have:=bU H7 x o h;omega
  have L7:=(o7 n0 (by omega)).trans o_
  have L8:=(o7 (n0+1) (by omega)).trans L5
  have B4:∀x∈g.L,x≠kb/\g.c8 x≠kb:=rQ.ne yH
  have BT:GH g up H7:=rQ.same fun x hx=>⟨o7 x (B4 x hx).1,o7 _ (B4 x hx).2⟩
  have qs:Jw nb n0 kb g up H rt a b n7 0 [] H8:=by
   refine⟨by rw[BG];exact BT.cons MA.2,⟨Ij,(o8 kb (by have:=lt7 _ _ yI;omega)).trans yI,WJ⟩,gM.nil _ _ _,il.refl _,fun _ _ h=>(nomatch h),(o8 _ (by have:=lt7 _ _ L8;omega)).trans L8,(o8 _ (by have:=lt7 _ _ L7;omega)).trans L7,by rw[BG,gG],by omega,fun h=>by omega,fun h=>by omega,fun x o hx h dH=>?_,fun x hx=>?_⟩
   ·rw[o8 x (by omega),o7 x (by omega)];exact Pk x o hx h dH
   ·rw[o8 x (by omega),o7 x (by omega)];exact OF x hx
  rw[<-BG]
  have U_:g.L.length<=wT s+wT t:=by
   have:g0.L.length=0:=rfl
   omega
  refine AP.loop rfl (α:=Nat×Kn×aa) (fun q=>[(7,.ob (n0+1) 0),(8,.mp kb),(32,.os n7 1 0 2),(33,Iv 2),(34,Iv q.1)]) (fun q=>q.2.2) (fun q=>Jw nb n0 kb g up H rt a b n7 q.1 q.2.1 q.2.2) (fun q=>2-q.1) (0,[],H8) qs (sU) rfl fun⟨i,k,H9⟩ hq=>?_
  simp only at hq⊢
  rcases Nat.eq_or_lt_of_le hq.ib with aM|ag
  ·subst aM
   refine gO ?_
   obtain⟨Ik,h9,CD⟩:=hq.pm
   refine AE.ret rfl ⟨rfl,rfl,rfl,trivial⟩ ⟨.inr ⟨n0+1,kb,rfl,by omega,by omega,⟨⟨g,up,rt,rk,n0,a,b,k,Ik,hq.gh,GF,Mi,V1,heq,B1,B3,B2,FP,Nn,hq.u,hq.m,h9,CD,hq.ok,hq.ta (by omega),hq.tb (by omega),fun p hp=>?_,U_⟩⟩⟩,hq.bQ,hq.low⟩
   rcases WU p hp with h|h
   ·rcases WT p h with h|h
    ·cases h
    ·exact .inl (h.mono (P:=(·∈g4.L)) (fun c hc=>⟨(Gi.b_ c hc).2.1,Nj.kids c hc⟩) FM)
   ·exact .inr h
  ·obtain⟨c,vY,tT,vX,v7⟩:∃c,([AV.ob a 0,.ob b 0]:List AV)[i]?=some (.ob c 0)/\c∈g.L/\(i=0->c=a)/\(i=1->c=b):=by
    rcases(by omega:i=0\/i=1)with rfl|rfl
    ·exact⟨a,rfl,B1,fun _=>rfl,fun h=>by omega⟩
    ·exact⟨b,rfl,B3,fun h=>by omega,fun _=>rfl⟩
   obtain⟨Ik,h9,CD⟩:=hq.pm
   obtain⟨n9,Wm⟩:∃n,au nb H9=n:=⟨_,rfl⟩
   have y5:=dh nb H9
   rw[Wm]at y5
   have la:=bU H9 _ _ hq.u
   have lb:=bU H9 _ _ hq.m
   have lc:=bU H9 _ _ h9
   have ld:=bU H9 _ _ hq.row
   have fj:=OI g GF up rt rk Mi (by omega) (n0+1) kb (pG g.L k) k c n9 H9 Ik (Nat.le_refl _) hq.gh y5.2 tT (by omega) h9 CD hq.ok hq.d
   have i1:=bq (show n0+1<n9 by omega)
   have i2:=bq (show kb<n9 by omega)
   have i3:=bq (show n7<n9 by omega)
   have i4:=bq (show c<n9 by have:=(hq.gh.lt y5.2 c tT).1;omega)
   have hw:=wr (x:=(i:Int)+1) (by omega)
   have aX:=hq.row
   refine gO ?_
   refine cT ?_
   refine gE @aX ?_
   refine AQ.uU (by kernel_rfl) rfl (show lk H9 n7=some (lW 187 [.ob a 0,.ob b 0]) from aX) vY Tryz.s7 Tryz.pU ?_
   refine sI ?_
   refine gO ?_
   refine AQ.iB n9 (er y5.1) (by kernel_rfl) rfl rfl rfl fj (fun r H' h=>h.low) fun r10 p5 hM=>?_
   obtain⟨qU,qB⟩:∃n,au nb p5=n:=⟨_,rfl⟩
   have Cj:=dh nb p5
   rw[qB]at Cj
   simp only[go_sem,au]at qB
   have Ns:=(hM.bQ (n0+1) (by omega) (by omega)).trans hq.u
   have MV:=(hM.bQ n0 (by omega) (by omega)).trans hq.m
   have Nh:=(hM.bQ n7 (by omega) (fun e=>by rw[e,h9]at aX;cases aX;obtain⟨_,_,e,_⟩:=CD;cases e)).trans aX
   have U4:GH g up p5:=hq.gh.same fun x hx=>by
    have U:=hq.gh.lt y5.2 x hx
    exact⟨hM.bQ x U.1 (B4 x hx).1,hM.bQ _ U.2 (B4 x hx).2⟩
   have Pj:∀o x o',x<nb->lk H x=some o'->kC nb o'->lk ((qU,o)::p5) x=some o':=fun o x o' hx h dH=>by
    rw[ct (by omega),hM.bQ x (by omega) (by omega)];exact hq.bQ x o' hx h dH
   have Oy:∀o,cu nb H ((qU,o)::p5):=fun o x hx=>by
    rw[ct (by omega),hM.bQ x (by omega) (by omega)];exact hq.low x hx
   have ra:=bU p5 _ _ Ns
   have rb:=bU p5 _ _ MV
   have rd:=bU p5 _ _ Nh
   simp only[go_sem,Nat.reduceAdd,Nat.reduceLeDiff,Nat.reduceSub,Int.reduceToNat,reduceCtorEq,i1,i2,i3,i4]
   rcases hM.ex with⟨k',v,Y0,rfl,LY,WB,U9,MQ,U3,uh⟩|⟨x,y,rfl,a6⟩
   ·have rc:=bU p5 _ _ LY
    refine AQ.go (by kernel_rfl) ?_
    simp only[go_sem,Nat.reduceAdd,Nat.reduceLeDiff,Nat.reduceSub,Int.reduceToNat,reduceCtorEq,oN]
    refine gO ?_
    rw[qB,hw]
    refine AE.round (i+1,k',_) ⟨U4.cons Cj.2,⟨Y0,(ct (by omega)).trans LY,WB⟩,U9,hq.le.trans MQ,U3,(ct (by omega)).trans Ns,(ct (by omega)).trans MV,(ct (by omega)).trans Nh,ag,fun _=>?_,fun hi=>?_,Pj _,Oy _⟩ (by simp only;omega) (sU) rfl
    ·by_cases hi:i=0
     ·rw[vX hi]at uh;exact⟨_,uh⟩
     ·obtain⟨x,hx⟩:=hq.ta (by omega)
      exact⟨x,MQ.f _ _ hx⟩
    ·have hi:2<=i+1:=hi
     rw[v7 (by omega)]at uh;exact⟨_,uh⟩
   ·refine AQ.go (by kernel_rfl) ?_
    refine sI ?_
    refine gO ?_
    rw[qB]
    refine gO ?_
    refine AE.ret rfl ⟨rfl,rfl,rfl,trivial⟩ ⟨.inl ⟨rfl,fun q mm=>a6 q (Nn q mm) fun r kW=>?_⟩,Pj _,Oy _⟩
    have:=(hq.le.b r).1 kW
    cases this
def jP (us:List Value):List AV:=us.map nU
theorem Lb (us:List Value):(jP us).length=us.length:=List.length_map ..
@[go_sem] theorem PX (ρ:Nat->Nat) (us:List Value):AV.cO ρ (jP us)=jP us:=PW ρ us
@[go_sem] theorem sG (b:Nat) (us:List Value):AV.mens b (jP us)=false:=OL b us
@[go_sem] theorem ade (b:Nat) (us:List Value):iO b (jP us)=jP us:=Hp (sG b us)
@[go_sem] theorem Uq (b:Nat):∀us:List Value,AV.iX b (jP us)=false
 |[]=>rfl
 |u::us=>by rw[jP,List.map_cons,AV.iX,<-jP,Uq b us];rfl
@[go_sem] theorem acZ (b es:Nat) (rows:List (List IV)) (us:List Value):gy b es rows (jP us)=jP us:=(rN _ (sG b us)).1
@[go_sem] theorem acY (b:Nat) (rows:List (List IV)) (us:List Value):fx b rows (jP us)=True:=eq_true (rN (es:=0) _ (sG b us)).2
def ow (m:List (Int×Nat)) (us:List Value):aa:=[(1,.var 186 [.mp 0]),(0,.var (.map (kI m)) (jP us))]
theorem XS {m:List (Int×Nat)} (bS:eE m) {ks:List Int} (hp:ks.Perm (m.map (·.1))):dD ks=dD (m.map (·.1)):=by
 have h0:∀l:List Int,(dD l).Perm l:=fun l=>List.mergeSort_perm l _
 have h2:∀l:List Int,(dD l).Pairwise (fun x y=>decide (x<=y)=true):=fun l=>List.pairwise_mergeSort (fun a b c h k=>by simp at h k⊢;omega) (fun a b=>by simp;omega) l
 have h3:∀l:List Int,l.Nodup->(dD l).Pairwise (·<·):=fun l h=>(List.Pairwise.and (h2 l) ((h0 l).symm.nodup h)).imp fun{a b} h=>by
  have h4:a<=b:=by simpa using h.1
  have:=h.2
  omega
 exact Qy _ _ (h3 _ (hp.symm.nodup bS)) (h3 _ bS) fun v=>by rw[(h0 _).mem_iff,(h0 _).mem_iff,hp.mem_iff]
noncomputable def vy (l:Nat) (m:List (Int×Nat)) (us:List Value) (acc:List Int):aa:=[(5,qf l .ready),(4,.vec 3 1 (fl acc)),(2,.var 46 [.os 4 1 0 acc.length]),(1,.var 186 [.mp 0]),(0,.var (.map (kI m)) (jP us))]
noncomputable def tA (l:Nat) (m:List (Int×Nat)) (us:List Value) (bs:List Nat) (clock:Nat) (seen:List Nat) (acc:List Int):aa:=[(3,.var (.raw (j0 clock seen clock)) [.mp 0]),(5,qf l .ready),(4,.vec 3 1 (fl acc)),(2,.var 46 [.os 4 1 0 acc.length]),(1,.var 186 [.mp 0]),(0,.var (.raw (k9 (kI m) bs clock)) (jP us))]
theorem TB (l:Nat) (m:List (Int×Nat)) (us:List Value) (bs:List Nat) (clock:Nat) (seen:List Nat) (acc:List Int) (v:Int) (hx:acc.length<=1000000):gN Tryz.prog 4 l [Iv v] (tA l m us bs clock seen acc) (fun r H'=>r=Bv true/\H'=tA l m us bs clock seen (acc++[v])):=by
 refine gN.walk (b:=5) [2,5,7,8,9,10,11] [] rfl rfl rfl fun w own I0 aq lay=>?_
 simp only[go_sem,Nat.reduceAdd,Nat.reduceLeDiff,Nat.reduceSub,Int.reduceToNat,reduceCtorEq,p3,tA,qf]
 refine gO ?_
 refine AE.begin (b:=5) rfl rfl _ ?_
 refine sI ?_
 refine gO ?_
 refine AQ.kill 4 ?_
 refine sI ?_
 refine AQ.append (hnb:=rfl) (rows:=fl acc) (es:=0) (by kernel_rfl) rfl rfl rfl (by first|(simp only[go_sem,noMen,AV.mens,AV.men,Bool.or_false];done)|(simp only[go_sem,noMen,AV.mens,AV.men,Bool.or_false];rfl)) Tryz.aaG Tryz.sz3 (by show Option.map _ (aA Tryz.prog 3)=_;rw[Tryz.zr3];rfl) Tryz.Td (by first|rfl|(simp only[qP,List.length_cons,List.length_nil];done)|(simp only[qP,List.length_cons,List.length_nil];omega)) (by simp only[qP,List.length_cons,List.length_nil];omega) (by simp only[qP,List.length_cons,List.length_nil];omega) ?_
 refine sE (an @qP (an @Xz @XC)) ?_
 refine gO ?_
 refine AE.xh (b:=5) rfl ⟨rfl,?_⟩
 simp only[go_sem,Nat.reduceAdd,Nat.reduceLeDiff,Nat.reduceSub,Int.reduceToNat,reduceCtorEq,tA,qf,List.length_append,List.length_singleton]
def sy (m:List (Int×Nat)) (js:List Nat):List Int:=js.map fun j=>(m.getD j (0,0)).1
def As (bs:List Nat) (js:List Nat):List Nat:=js.map fun j=>bs.getD j 0
theorem XP {m:List (Int×Nat)} {js:List Nat} (U:js.Nodup) (h2:∀j∈js,j<m.length) (h3:∀j,j<m.length->j∈js):(sy m js).Perm (m.map (·.1)):=by
 have hp:js.Perm (List.range m.length):=(List.perm_ext_iff_of_nodup U List.nodup_range).2 fun j=>by rw[List.mem_range];exact⟨h2 j,h3 j⟩
 refine(hp.map _).trans ?_
 have:(List.range m.length).map (fun j=>(m.getD j (0,0)).1)=m.map (·.1):=by
  apply List.ext_getElem (by simp)
  intro i h4 h5
  have h6:i<m.length:=by simpa using h5
  simp[List.getElem?_eq_getElem h6]
 rw[this]
theorem XR (l:Nat) (m:List (Int×Nat)) (us:List Value) (hu:us.length=m.length) (hm:m.length<=4000):dv Tryz.prog 3 182 [Yl l,.ob 1 0] (vy l m us []) (fun _ H'=>∃ks:List Int,ks.Perm (m.map (·.1))/\H'=vy l m us ks):=by
 refine dv.walk [0,1,3,5,7,13] [] Tryz.func182 rfl Tryz.ntmps182 (by kernel_rfl) (by rfl) fun W own I0 aq lay=>?_
 simp only[go_sem,Nat.reduceAdd,Nat.reduceLeDiff,Nat.reduceSub,Int.reduceToNat,reduceCtorEq,vy,qf]
 refine gO ?_
 refine AQ.HU (by kernel_rfl) rfl rfl AA fun bs clock bG=>?_
 have cz:(jP us).length=bs.length:=by rw[<-bG.len,Lb,wI,hu]
 have lH:bs.length=m.length:=by rw[<-cz,Lb,hu]
 have jx:=Hj m
 refine sI ?_
 refine gO ?_
 refine AP.rename 6 3 rfl rfl rfl ?_
 refine sI ?_
 refine AP.loop rfl (α:=List Nat) (fun _=>[(0,Yl l),(5,.ob 3 0)]) (fun js=>tA l m us bs clock (As bs js) (sy m js)) (fun js=>js.Nodup/\∀j∈js,j<m.length) (fun js=>m.length-js.length) [] ⟨List.nodup_nil,fun _ h=>by cases h⟩ (sU) rfl fun js ⟨hn,hj⟩=>?_
 have pg:js.length<=m.length:=by
  have:=(List.Nodup.length_le_of_subset hn (fun j h=>List.mem_range.2 (hj j h)):js.length<=(List.range m.length).length)
  simpa using this
 simp only[go_sem,Nat.reduceAdd,Nat.reduceLeDiff,Nat.reduceSub,Int.reduceToNat,reduceCtorEq,tA,qf]
 refine gO ?_
 refine AQ.HS (by kernel_rfl) rfl rfl rfl bG rfl rfl jx cz (fun iE=>?_) (fun j n key y eK qE pj hy=>?_)
 ·refine sI ?_
  refine gO ?_
  refine AE.oD 0 rfl bG cz ?_
  refine sI ?_
  exact AE.T2 [3] rfl trivial (by simp only[go_sem,Nat.reduceAdd,Nat.reduceLeDiff,Nat.reduceSub,Int.reduceToNat,reduceCtorEq,bN,noMen,AV.mens,AV.men,sG,Bool.or_false];first|done|rfl) ⟨sy m js,XP hn hj fun j h=>by
   have:=iE (bs.getD j 0) (by rw[List.getD_eq_getElem?_getD,List.getElem?_eq_getElem (by omega)];exact List.getElem_mem _)
   obtain⟨i,hi,e⟩:=List.mem_map.1 this
   have rW:=hj i hi
   rw[List.getD_eq_getElem?_getD,List.getElem?_eq_getElem (by omega:i<bs.length),List.getD_eq_getElem?_getD,List.getElem?_eq_getElem (by omega:j<bs.length)]at e
   have:=(List.getElem_inj bG.nd).1 e
   exact this▸hi,rfl⟩
 ·obtain⟨p,hp,rfl⟩:=C2 pj
  have lK:=(List.getElem?_eq_some_iff.1 hp).1
  have y9:j∉js:=fun h=>qE (List.mem_map.2 ⟨j,h,by rw[List.getD_eq_getElem?_getD,eK];rfl⟩)
  have e1:As bs js++[n]=As bs (js++[j]):=by simp[As,eK]
  have e2:sy m js++[p.1]=sy m (js++[j]):=by simp[sy,hp]
  have hr:=TB l m us bs clock (As bs (js++[j])) (sy m js) p.1 (by rw[sy,List.length_map];omega)
  rw[e2]at hr
  refine sI ?_
  refine gO ?_
  refine AQ.HP (by kernel_rfl) rfl rfl rfl bG jx cz eK pj hy ?_
  refine sI ?_
  refine gO ?_
  refine AQ.AI 4 rfl (by kernel_rfl) rfl ⟨rfl,rfl⟩ rfl rfl (by rw[e1];exact hr) (fun r H' h=>by rw[h.2];exact cu.of _ _ _ rfl) fun r H' h=>?_
  obtain⟨rfl,rfl⟩:=h
  simp only[go_sem,Nat.reduceAdd,Nat.reduceLeDiff,Nat.reduceSub,Int.reduceToNat,reduceCtorEq,tA,qf]
  refine AQ.go (by kernel_rfl) ?_
  refine gO ?_
  have qC:(js++[j]).Nodup:=List.nodup_append.2 ⟨hn,List.pairwise_singleton ..,fun a ha b hb=>by rw[List.mem_singleton.1 hb];exact fun e=>y9 (e▸ha)⟩
  have e_:∀i∈js++[j],i<m.length:=fun i hi=>by
   rcases List.mem_append.1 hi with hi|hi
   ·exact hj i hi
   ·rw[List.mem_singleton.1 hi];exact lK
  have g_:(js++[j]).length<=m.length:=by
   have:=(List.Nodup.length_le_of_subset qC (fun j h=>List.mem_range.2 (e_ j h)):(js++[j]).length<=(List.range m.length).length)
   simpa using this
  exact AE.round (js++[j]) ⟨qC,e_⟩ (by rw[List.length_append,List.length_singleton]at*;omega) (sU) rfl
theorem TF (m:List (Int×Nat)) (us:List Value) (hu:us.length=m.length) (hm:m.length<=4000):ao Tryz.prog 214 [eO,.fn 182 [] [.ob 1 0]] (ow m us) (fun r H'=>∃ks:List Int,ks.Perm (m.map (·.1))/\r= .os 4 1 0 ks.length/\H'=(4,.vec 3 1 (fl ks))::ow m us):=by
 refine ao.walk [0,1,2,4,5,6,7] [2] Tryz.func214 rfl Tryz.ntmps214 (by kernel_rfl) (by rfl) rfl fun W own I0 aq lay=>?_
 simp only[go_sem,Nat.reduceAdd,Nat.reduceLeDiff,Nat.reduceSub,Int.reduceToNat,reduceCtorEq,ow]
 refine gO ?_
 refine AP.jg 2 0 3 1 rfl rfl ?_
 refine sI ?_
 refine AP.rename 3 4 rfl rfl rfl ?_
 refine sI ?_
 refine AP.DE 3 0 5 [(2,.ob 2 0)] (R:=fun l _ H'=>∃ks:List Int,ks.Perm (m.map fun p:Int×Nat=>p.1)/\H'=vy l m us ks) rfl rfl (by kernel_rfl) (sU) rfl rfl (fun l=>XR l m us hu hm) (fun l r H' hR=>?_)
 obtain⟨ks,hk,rfl⟩:=hR
 refine⟨cu.of _ _ _ rfl,.ready,_,rfl,by simp only[go_sem,Nat.reduceAdd,Nat.reduceLeDiff,Nat.reduceSub,Int.reduceToNat,reduceCtorEq,vy,qf,noMen,AV.mens,AV.men,sG,Bool.or_false];first|done|rfl,?_⟩
 simp only[go_sem,Nat.reduceAdd,Nat.reduceLeDiff,Nat.reduceSub,Int.reduceToNat,reduceCtorEq,vy,qf]
 refine gO ?_
 exact AE.bm [2] rfl ⟨rfl,trivial⟩ (by simp only[go_sem,Nat.reduceAdd,Nat.reduceLeDiff,Nat.reduceSub,Int.reduceToNat,reduceCtorEq,bN,noMen,AV.mens,AV.men,sG,Bool.or_false];first|done|rfl) ⟨ks,hk,rfl,rfl⟩
theorem TE (m:List (Int×Nat)) (us:List Value) (hu:us.length=m.length) (hm:m.length<=4000):ao Tryz.prog 180 [.fn 182 [] [.ob 1 0]] (ow m us) (fun r H'=>∃ks:List Int,ks.Perm (m.map (·.1))/\r= .os 6 1 0 ks.length/\H'=(6,.vec 3 1 (fl ks))::ow m us):=by
 refine ao.walk [0,2] [] Tryz.func180 rfl Tryz.ntmps180 (by kernel_rfl) (by rfl) rfl fun W own I0 aq lay=>?_
 simp only[go_sem,Nat.reduceAdd,Nat.reduceLeDiff,Nat.reduceSub,Int.reduceToNat,reduceCtorEq,ow]
 refine gO ?_
 refine AQ.bR [(1,1),(0,0)] (by kernel_rfl) rfl rfl rfl rfl rfl rfl (by refine⟨?_,?_,trivial⟩<;>(simp only[dK,AV.cO,AV.rn,PX];rfl)) rfl (TF m us hu hm) fun r' H' ⟨ks,hk,e1,e2⟩=>?_
 subst e1;subst e2
 simp only[go_sem,Nat.reduceAdd,Nat.reduceLeDiff,Nat.reduceSub,Int.reduceToNat,reduceCtorEq,en,h_,cR,jD,ow]
 refine gO ?_
 exact AE.bm [] rfl ⟨rfl,trivial⟩ (by simp only[go_sem,Nat.reduceAdd,Nat.reduceLeDiff,Nat.reduceSub,Int.reduceToNat,reduceCtorEq,bN,noMen,AV.mens,AV.men,sG,Bool.or_false];first|done|rfl) ⟨ks,hk,rfl,rfl⟩
theorem aai (m:List (Int×Nat)) (us:List Value) (bS:eE m) (hu:us.length=m.length) (hm:m.length<=4000):ao Tryz.prog 120 [.fn 182 [] [.ob 1 0]] (ow m us) (fun r H'=>r= .im (.sl 1 (fl (dD (m.map (·.1)))))/\H'=ow m us):=by
 refine ao.walk [0,2,3] [] Tryz.func120 rfl Tryz.ntmps120 (by kernel_rfl) (by rfl) rfl fun W own I0 aq lay=>?_
 simp only[go_sem,Nat.reduceAdd,Nat.reduceLeDiff,Nat.reduceSub,Int.reduceToNat,reduceCtorEq,ow]
 refine gO ?_
 refine AQ.bR [(1,1),(0,0)] (by kernel_rfl) rfl rfl rfl rfl rfl rfl (by refine⟨?_,?_,trivial⟩<;>(simp only[dK,AV.cO,AV.rn,PX];rfl)) rfl (TE m us hu hm) fun r' H' ⟨ks,hk,e1,e2⟩=>?_
 subst e1;subst e2
 have MM:ks.length<=4000:=by rw[hk.length_eq,List.length_map];exact hm
 have mo:=XS bS hk
 simp only[go_sem,Nat.reduceAdd,Nat.reduceLeDiff,Nat.reduceSub,Int.reduceToNat,reduceCtorEq,en,h_,cR,jD,ow]
 refine gO ?_
 refine AQ.bR [(0,8)] (by kernel_rfl) rfl rfl rfl rfl rfl rfl (by exact⟨rfl,trivial⟩) rfl (aaj ks (by omega)) ?_
 rintro r H1 ⟨rfl,rfl⟩
 refine⟨rfl,?_⟩
 refine sH ?_
 refine gO ?_
 have MN:(fl (dD ks)).length=ks.length:=by rw[qP,IQ]
 refine AE.freeze 8 (el:=3) (es:=1) (rows:=fl (dD ks)) rfl (by simp[go_sem,MN]) (by simp[go_sem,MN]) ?_
 refine sI ?_
 rw[show List.take ks.length (fl (dD ks))=fl (dD (m.map (·.1))) by rw[List.take_of_length_le (by omega),mo]]
 exact AE.bm [] rfl ⟨rfl,trivial⟩ (by simp only[go_sem,Nat.reduceAdd,Nat.reduceLeDiff,Nat.reduceSub,Int.reduceToNat,reduceCtorEq,bN,noMen,AV.mens,AV.men,sG,Bool.or_false];first|done|rfl) ⟨rfl,rfl⟩
def Ey (f:Int->Tm) (ks:List Int):Prop:=ks.Pairwise (·<·)/\∀v,v∈ks↔f v≠bg v
def vl (s t:Tm) (out:Bd) (e:Int):Prop:=
 (
  e=5/\out=[]/\∀g,¬l_ s t g)\/∃f ks,vj s t f/\Ey f ks/\(∀v,aR (f v))/\(∀v∈ks,0<=v/\v<1000)/\
  ((e=15/\out=[]/\∃v∈ks,4000<=wT (f v)\/100<cd (f v))\/(e=0/\(¬∃v∈ks,4000<=wT (f v)\/100<cd (f v))/\out=nA f ks))
noncomputable def iU (cl:Nat->Nd) (rt:Nat->Nat) (vs:List (Int×Nat)) (v:Int):Tm:=
 match aU vs v with
 |some c=>open Classical in if h:∃t,Tc cl rt c t then h.choose else bg v
 |none=>bg v
theorem yi {cl:Nat->Nd} {rt:Nat->Nat} {vs:List (Int×Nat)} {v:Int} {c:Nat} {t:Tm} (h:aU vs v=some c) (ht:Tc cl rt c t):iU cl rt vs v=t:=by
 have hx:∃t,Tc cl rt c t:=⟨t,ht⟩
 rw[iU,h]
 simp only[hx,dif_pos]
 exact hx.choose_spec.yr ht
theorem Br {cl:Nat->Nd} {rt:Nat->Nat} {vs:List (Int×Nat)} {v:Int} (h:aU vs v=none):iU cl rt vs v=bg v:=by rw[iU,h]
theorem aaI {g:Gs} (hr:Gr g) {rt:Nat->Nat} {c:Nat} {t:Tm} (h:Tc g.cl rt c t):aR t:=by
 induction h with
 |var _=>rw[bg,aR,bI];simp
 |@fn c ts hn hl _ ih=>
  rw[aR]
  refine⟨(hr.len _).2,by rw[hl];exact(hr.len _).1,?_⟩
  have:∀l:List Tm,(∀a∈l,aR a)->bI l:=fun l=>by
   induction l with
   |nil=>intro _;rw[bI];trivial
   |cons a l ih=>intro h;rw[bI];exact⟨h a (by simp),ih fun b hb=>h b (by simp[hb])⟩
  refine this ts fun a ha=>?_
  obtain⟨i,hi,e⟩:=List.getElem_of_mem ha
  exact ih i _ a (List.getElem?_eq_getElem (by omega)) (by rw[List.getElem?_eq_getElem hi,e])
theorem uG {α:Type}:∀{m:List (Int×α)} {p:Int×α},eE m->p∈m->aU m p.1=some p.2:=fun{m p} hn hp=>by
 cases h:aU m p.1 with
 |none=>exact absurd (List.mem_map.2 ⟨p,hp,rfl⟩) (HB h)
 |some x=>
  have U:=nw h
  obtain⟨i,hi,e1⟩:=List.getElem_of_mem hp
  obtain⟨j,hj,e2⟩:=List.getElem_of_mem U
  have g1:(m.map (·.1))[i]?=some p.1:=by rw[List.getElem?_map,List.getElem?_eq_getElem hi,e1];rfl
  have g2:(m.map (·.1))[j]?=some p.1:=by rw[List.getElem?_map,List.getElem?_eq_getElem hj,e2];rfl
  have:=(List.getElem?_inj (by rw[List.length_map];exact hi) hn).1 (g1.trans g2.symm)
  subst this
  rw[e1]at e2
  rw[e2]
section
variable {s t:Tm} {u kb:Nat} {H:aa} (S:l9 s t u kb H)
theorem l9.tc:∀p∈S.g.vs,∃x,(S.rt p.2,some x)∈S.k/\Tc S.g.cl S.rt p.2 x:=fun p hp=>by
 have hv:∃x,(S.rt p.2,some x)∈S.k:=by
  rcases S.uS p hp with h|h
  ·exact S.ok.uS S.qo h S.gr.vk S.ta
  ·exact S.ok.uS S.qo h S.gr.vk S.tb
 obtain⟨x,hx⟩:=hv
 exact⟨x,hx,(S.ok.tc _ x hx).same (by rw[S.r.idem])⟩
theorem l9.HQ:vj s t (iU S.g.cl S.rt S.g.vs):=by
 have h:=UC (cl:=S.g.cl) (rt:=S.rt) (d:=S.g.d) (vs:=S.g.vs) (a:=S.a) (b:=S.b) (f:=iU S.g.cl S.rt S.g.vs) S.qo S.gr.dn S.e (fun q hq=>S.nF q (by rw[S.ad,S.bd]at hq;exact hq)) (by
  obtain⟨x,hx⟩:=S.ta
  exact⟨x,(S.ok.tc _ x hx).same (by rw[S.r.idem])⟩) (fun p hp=>by
  have U:=S.gr.vs p hp
  obtain⟨x,hx,qM⟩:=S.tc p hp
  refine⟨U.2.1,U.2.2.1,?_⟩
  rw[yi (uG S.gr.nd hp) qM]
  exact qM) (fun c t hc ht=>?_) fun v hv=>?_
 ·rw[S.ad,S.bd]at h;exact h
 ·by_cases hL:c∈S.g.L
  ·have:=S.gr.sv c hL hc
   rw[yi (uG S.gr.nd this) ht]
  ·have U:=S.gr.out c hL
   have h2:=S.r.out c hL
   have h3:aU S.g.vs (-1)=none:=by
    cases h:aU S.g.vs (-1)with
    |none=>rfl
    |some x=>have:=(S.gr.vs _ (nw h)).2.2.2.1;simp at this
   rw[U]
   show iU _ _ _ (-1)=t
   rw[Br h3]
   have:Tc S.g.cl S.rt c (bg (S.g.cl (S.rt c)).num):= .var (by rw[h2,U])
   rw[h2,U]at this
   exact this.yr ht
 ·refine Br ?_
  cases h:aU S.g.vs v with
  |none=>rfl
  |some x=>exact absurd (List.mem_map.2 ⟨_,nw h,rfl⟩) hv
theorem l9.aR (v:Int):aR (iU S.g.cl S.rt S.g.vs v):=by
 cases h:aU S.g.vs v with
 |none=>rw[Br h,bg,Go.Proofs.YtpfohmboflcneaaGreatDoor.aR,bI];simp
 |some c=>
  obtain⟨x,_,hx⟩:=S.tc _ (nw h)
  rw[yi h hx]
  exact aaI S.gr hx
theorem l9.bound {p:Int×Nat} (hp:p∈S.g.vs):iU S.g.cl S.rt S.g.vs p.1=bg p.1↔S.up p.2=none:=by
 obtain⟨U,h2,h3,_⟩:=S.gr.vs p hp
 obtain⟨x,_,hx⟩:=S.tc p hp
 rw[yi (uG S.gr.nd hp) hx,S.r.root U]
 constructor
 ·intro e
  rw[e]at hx
  by_cases hv:(S.g.cl (S.rt p.2)).nm=[]
  ·have h4:=hx.yr (.var hv)
   rw[bg,bg,Tm.mk.injEq]at h4
   have h5:=S.gr.sv _ (S.r.mem U) hv
   rw[<-h4.2.1]at h5
   have h6:=uG S.gr.nd h5
   rw[uG S.gr.nd hp]at h6
   exact(Option.some.inj h6).symm
  ·generalize hy:bg p.1=y at hx
   cases hx with
   |var jC=>exact absurd jC hv
   |fn hn _ _=>rw[bg,Tm.mk.injEq]at hy;exact absurd hy.1.symm hn
 ·intro e
  have:=hx.yr (.var (by rw[e];exact h2))
  rw[this,e,h3]
end
theorem XQ (nb m:Nat) (H:aa):dv Tryz.prog nb 121 [.mp m] H (fun r H'=>∃b,r= .fn 182 [] [.ob b 0]/\nb<=b/\bB H<=b/\H'=(b,.var (.cell 186) [.mp m])::H):=by
 obtain⟨n0,jb⟩:∃n,au nb H=n:=⟨_,rfl⟩
 have cq:=dh nb H
 rw[jb]at cq
 simp only[go_sem,au]at jb
 refine dv.walk [0,1,2] [1] Tryz.func121 rfl Tryz.ntmps121 (by kernel_rfl) (by rfl) fun W own I0 aq lay=>?_
 refine gO ?_
 rw[jb]
 refine gO ?_
 exact AE.ret rfl ⟨rfl,trivial⟩ ⟨n0,rfl,cq.1,cq.2,rfl⟩
theorem aak (nb:Nat) {H:aa} {m b:Nat} {vs:List (Int×Nat)} {cs:List AV} (hm:lk H m=some (.var (.map (kI vs)) cs)) (hb:lk H b=some (.var (.cell 186) [.mp m])) (gY:cs.length=vs.length) (bS:eE vs) (hl:vs.length<=4000):
  dv Tryz.prog nb 120 [.fn 182 [] [.ob b 0]] H (fun r H'=>r= .im (.sl 1 (fl (dD (vs.map (·.1)))))/\H'=H):=
 dv.frame hm hb (by kernel_rfl) rfl fun us dI=>aai vs us bS (by omega) hl
theorem Hm (b:Nat):∀k:Kn,AV.mens b (kV k)=false
 |[]=>rfl
 |(c,none)::k=>by show(AV.men b (lx none)||AV.mens b (kV k))=false;rw[Hm b k];rfl
 |(c,some t)::k=>by show(AV.men b (lx (some t))||AV.mens b (kV k))=false;rw[Hm b k];rfl
theorem OK (b:Nat):∀xs ys:List AV,AV.mens b (xs++ys)=(AV.mens b xs||AV.mens b ys)
 |[],_=>rfl
 |x::xs,ys=>by simp only[List.cons_append,AV.mens,OK b xs ys,Bool.or_assoc]
theorem PE {ob:Ob} {k:Kn} (h:k7 ob (kK k) (kV k)) {b:Nat} (hb:∀p∈k,p.1≠b):ob.men b=false:=by
 obtain⟨bs,clock,rfl,_⟩:=h
 have:∀k:Kn,(∀p∈k,p.1≠b)->AV.mens b (kK k)=false:=fun k=>by
  induction k with
  |nil=>intro _;rfl
  |cons p k ih=>
   intro h
   show(Nat.beq p.1 b||AV.mens b (kK k))=false
   rw[cP (h p (by simp)),ih fun q hq=>h q (by simp[hq])];rfl
 show AV.mens b (kK k++kV k)=false
 rw[OK,this k hb,Hm];rfl
def iw (up:Nat->Option Nat) (vs:List (Int×Nat)) (v:Int):Bool:=match aU vs v with
 |some c=>(up c).isSome
 |none=>false
structure JA {s t:Tm} {u kb:Nat} {H0:aa} (S:l9 s t u kb H0) (gi:Nat) (k:Nat) (H:aa):Prop where
 gh:GH S.g S.up H
 hu:lk H u=some (.var 189 [.mp S.m])
 hm:lk H S.m=some (.var (.map (kI S.g.vs)) (vC S.g.vs))
 hk:lk H kb=some S.ob
 row:lk H gi=some (.vec 98 4 (fq (nA (iU S.g.cl S.rt S.g.vs) (((dD (S.g.vs.map (·.1))).take k).filter (iw S.up S.g.vs)))))
 kl:k<=S.g.vs.length
 nb:¬∃v∈((dD (S.g.vs.map (·.1))).take k).filter (iw S.up S.g.vs),4000<=wT (iU S.g.cl S.rt S.g.vs v)\/100<cd (iU S.g.cl S.rt S.g.vs v)
theorem aam {l:List Int} (h:l.Nodup):(dD l).Pairwise (·<·):=by
 have h2:(dD l).Pairwise (fun x y=>decide (x<=y)=true):=List.pairwise_mergeSort (fun a b c h k=>by simp at h k⊢;omega) (fun a b=>by simp;omega) l
 refine(List.Pairwise.and h2 ((List.mergeSort_perm l _).symm.nodup h)).imp fun{a b} h=>?_
 have h4:a<=b:=by simpa using h.1
 have:=h.2
 omega
theorem l9.N2 {s t:Tm} {u kb:Nat} {H:aa} (S:l9 s t u kb H) {p:Int×Nat} (hp:p∈S.g.vs):iw S.up S.g.vs p.1=true↔iU S.g.cl S.rt S.g.vs p.1≠bg p.1:=by
 rw[Ne,S.bound hp,iw,uG S.gr.nd hp]
 show(S.up p.2).isSome=true↔¬(S.up p.2=none)
 cases S.up p.2<;>simp
theorem l9.bk {s t:Tm} {u kb:Nat} {H:aa} (S:l9 s t u kb H):Ey (iU S.g.cl S.rt S.g.vs) ((dD (S.g.vs.map (·.1))).filter (iw S.up S.g.vs)):=by
 refine⟨(aam S.gr.nd).sublist List.filter_sublist,fun v=>?_⟩
 rw[List.mem_filter,(List.mergeSort_perm _ _).mem_iff]
 constructor
 ·rintro⟨U,h2⟩
  obtain⟨p,hp,rfl⟩:=List.mem_map.1 U
  exact(S.N2 hp).1 h2
 ·intro h
  have U:v∈S.g.vs.map (·.1):=Classical.byContradiction fun U=>h (Br (by
   cases h2:aU S.g.vs v with
   |none=>rfl
   |some x=>exact absurd (List.mem_map.2 ⟨_,nw h2,rfl⟩) U))
  obtain⟨p,hp,rfl⟩:=List.mem_map.1 U
  exact⟨U,(S.N2 hp).2 h⟩
theorem l9.rg {s t:Tm} {u kb:Nat} {H:aa} (S:l9 s t u kb H):∀v∈(dD (S.g.vs.map (·.1))).filter (iw S.up S.g.vs),0<=v/\v<1000:=fun v hv=>by
 have U:=(List.mergeSort_perm _ _).mem_iff.1 (List.mem_filter.1 hv).1
 obtain⟨p,hp,rfl⟩:=List.mem_map.1 U
 exact⟨(S.gr.vs p hp).2.2.2.1,(S.gr.vs p hp).2.2.2.2⟩
theorem aa3 (s t:Tm) (mn:aR s) (mq:aR t):
  ao Tryz.prog 49 [bf s,bf t] [] (fun r H'=>H'=[]/\∃out e,(gW s t≠0/\e=gW s t/\out=[]\/gW s t=0/\vl s t out e)/\(r= .aG [gV out,Iv e]\/out=[]/\r= .aG [eO,Iv e])):=by
 have hk:=EJ [s,t] (by simp) (fun u hu=>by
  rcases List.mem_cons.1 hu with rfl|hu
  ·exact mn
  ·rw[List.mem_singleton.1 hu];exact mq)
 rw[Tt]at hk
 have e:(.im (.sl 3 (az [s,t])):AV)= .im (.sl 3 [[Si s.nm,Ii s.ix,.sl 3 (az s.xs)],[Si t.nm,Ii t.ix,.sl 3 (az t.xs)]]):=by simp only[az,jJ]
 rw[e]at hk
 by_cases U:gW s t=0
 ·obtain⟨k1,k2⟩:=Tq U
  rw[U]at hk
  obtain⟨a1,a2,a3⟩:=rC k1
  obtain⟨b1,b2,b3⟩:=rC k2
  have hu:=aa1 s t a1 b1 mn mq (by omega) (by omega) 0 []
  rw[iR,iR]at hu
  refine ao.walk [0,1,2,3,4,5,6,7,8,9,10,12,13,14,20,30,36,37,38,39,52,67] [14] Tryz.func49 rfl Tryz.ntmps49 (by kernel_rfl) (by rfl) rfl fun W own I0 aq lay=>?_
  refine gO ?_
  refine AQ.fn (by kernel_rfl) rfl rfl rfl (hk) rfl ?_
  refine sI ?_
  refine gO ?_
  refine AQ.iB 0 rfl (by kernel_rfl) rfl rfl rfl hu (fun r H' h=>h.low) fun r1 H1 hU=>?_
  refine sI ?_
  rcases hU.ex with⟨rfl,a6⟩|⟨u,kb,rfl,_,_,⟨S⟩⟩
  ·refine AQ.go (by kernel_rfl) ?_
   refine sI ?_
   refine gO ?_
   exact AE.bz rfl ⟨rfl,rfl,trivial⟩ rfl ⟨rfl,[],5,.inr ⟨U,.inl ⟨rfl,rfl,a6⟩⟩,.inr ⟨rfl,rfl⟩⟩
  ·refine AQ.go (by kernel_rfl) ?_
   refine sI ?_
   have CN:=S.hu
   refine gE @CN ?_
   have fF:S.g.vs.length<=1000:=by
    have:=Dq 1000 (S.g.vs.map fun p:Int×Nat=>p.1) S.gr.nd fun x hx=>by
     obtain⟨p,hp,rfl⟩:=List.mem_map.1 hx
     exact⟨(S.gr.vs p hp).2.2.2.1,(S.gr.vs p hp).2.2.2.2⟩
    simpa using this
   obtain⟨n1,ei⟩:∃n,bB H1=n:=⟨_,rfl⟩
   have lu:=bU H1 _ _ S.hu
   have lm:=bU H1 _ _ S.hm
   have lb:=bU H1 _ _ S.hk
   rw[ei]at lu lm lb
   have i1:=bq lu
   have i2:=bq lm
   have i3:=bq lb
   refine AQ.iB n1 (er (Nat.zero_le n1)) (by kernel_rfl) rfl rfl rfl (XQ n1 S.m H1) (fun r H' ⟨b,_,U,_,h2⟩ x hx=>by rw[h2,ct (by omega)]) fun r2 H2 ⟨b,e2,cp,fY,e3⟩=>?_
   subst e2
   have o2:∀x,x<n1->lk H2 x=lk H1 x:=fun x hx=>by rw[e3,ct (by omega)]
   have UI:lk H2 b=some (.var (.cell 186) [.mp S.m]):=by rw[e3,gG]
   have fN:bB H2=b+1:=by rw[e3];exact uL (by omega)
   have lF:GH S.g S.up H2:=by rw[e3];exact S.gh.cons (by omega)
   have j1:=bq (show u<b+1 by omega)
   have j2:=bq (show S.m<b+1 by omega)
   have j3:=bq (show kb<b+1 by omega)
   have j4:=bq (show b<b+1 by omega)
   simp only[go_sem,Nat.reduceAdd,Nat.reduceLeDiff,Nat.reduceSub,Int.reduceToNat,reduceCtorEq,i1,i2,i3]
   refine AQ.go (by kernel_rfl) ?_
   refine sI ?_
   refine AQ.iB (b+1) (er (Nat.zero_le _)) (by kernel_rfl) rfl rfl rfl (aak (b+1) ((o2 _ lm).trans S.hm) UI (by rw[vC,List.length_map]) S.gr.nd (by omega)) (fun r H' h=>by rw[h.2];exact cu.refl _ _) fun r3 H3 ⟨e4,e5⟩=>?_
   rw[e4,e5]
   clear e4 e5
   have wx:(dD (S.g.vs.map (·.1))).length=S.g.vs.length:=by rw[IQ,List.length_map]
   simp only[go_sem,Nat.reduceAdd,Nat.reduceLeDiff,Nat.reduceSub,Int.reduceToNat,reduceCtorEq,j1,j2,j3,j4]
   refine AQ.go (by kernel_rfl) ?_
   refine sE (an @qP @wx) ?_
   refine gO ?_
   refine AP.own 10 98 4 rfl ?_
   have z1:=er (Nat.zero_le (b+1))
   refine sI ?_
   rw[fN]
   simp only[go_sem,Nat.reduceAdd,Nat.reduceLeDiff,Nat.reduceSub,Int.reduceToNat,reduceCtorEq,z1]
   obtain⟨H4,lB⟩:∃H4:aa,H4=(b+1,Ob.vec 98 4 [])::H2:=⟨_,rfl⟩
   have o4:∀x,x<b+1->lk H4 x=lk H2 x:=fun x hx=>by rw[lB,ct (by omega)]
   rw[<-lB]
   have qs:JA S (b+1) 0 H4:=by
    refine⟨by rw[lB];exact lF.cons (by omega),(o4 u (by omega)).trans ((o2 _ lu).trans S.hu),(o4 _ (by omega)).trans ((o2 _ lm).trans S.hm),(o4 _ (by omega)).trans ((o2 _ lb).trans S.hk),by rw[lB,gG];rfl,Nat.zero_le _,fun⟨v,hv,_⟩=>?_⟩
    simp at hv
   refine AP.loop rfl (α:=Nat×aa×Nat) (fun q=>[(7,.ob u 0),(8,.mp kb),(10,.os (b+1) 4 0 q.2.2),(36,.im (.sl 1 (fl (dD (S.g.vs.map (·.1)))))),(37,Iv S.g.vs.length),(38,Iv q.1)]) (fun q=>q.2.1) (fun q=>JA S (b+1) q.1 q.2.1/\q.2.2=(((dD (S.g.vs.map (·.1))).take q.1).filter (iw S.up S.g.vs)).length) (fun q=>S.g.vs.length-q.1) (0,H4,0) ⟨qs,by simp⟩ (sU) rfl fun⟨k,H5,nr⟩ ⟨hq,po⟩=>?_
   simp only at hq po⊢
   rcases Nat.eq_or_lt_of_le hq.kl with aM|ag
   ·refine gO ?_
    refine cF ?_
    refine gO ?_
    subst aM
    have hnb:=hq.nb
    have aX:=hq.row
    rw[List.take_of_length_le (by rw[wx];exact Nat.le_refl _)]at hnb aX po
    have lH:(fq (nA (iU S.g.cl S.rt S.g.vs) ((dD (S.g.vs.map (·.1))).filter (iw S.up S.g.vs)))).length=nr:=by rw[gU,nA,List.length_map,po]
    have f1:=cP (show u≠b+1 by omega)
    have f2:=cP (show kb≠b+1 by omega)
    refine sI ?_
    refine AE.Ff (b+1) [] aX (fun _ h=>(nomatch h)) ?_ fun H9 _ _ _=>?_
    ·simp only[go_sem,Nat.reduceAdd,Nat.reduceLeDiff,Nat.reduceSub,Int.reduceToNat,reduceCtorEq,f1,f2,Nat.beq_refl]
     refine⟨?_,?_⟩<;>omega
    ·simp only[go_sem,Nat.reduceAdd,Nat.reduceLeDiff,Nat.reduceSub,Int.reduceToNat,reduceCtorEq,f1,f2,Nat.beq_refl,List.drop_zero,List.take_of_length_le (Nat.le_of_eq lH)]
     exact AE.bz rfl ⟨rfl,rfl,trivial⟩ rfl ⟨rfl,_,0,.inr ⟨U,.inr ⟨_,_,S.HQ,S.bk,S.aR,S.rg,.inr ⟨rfl,hnb,rfl⟩⟩⟩,.inl rfl⟩
   ·obtain⟨v,hv⟩:∃v,(dD (S.g.vs.map (·.1)))[k]?=some v:=⟨_,List.getElem?_eq_getElem (by rw[wx];exact ag)⟩
    have Xj:v∈S.g.vs.map (·.1):=(List.mergeSort_perm _ _).mem_iff.1 (List.mem_of_getElem? hv)
    obtain⟨p,hp,nj⟩:=List.mem_map.1 Xj
    have eB:=uG S.gr.nd hp
    rw[nj]at eB
    obtain⟨j,uc,jY⟩:=zX eB
    have Nw:(fl (dD (S.g.vs.map (·.1)))).getD k []=[Ii v]:=by rw[XB _ _ (by rw[wx];exact ag),List.getD_eq_getElem?_getD,hv];rfl
    have hw:=wr (x:=(k:Int)+1) (by omega)
    have qG:=(S.gr.vs p hp).1
    have cc:=hq.gh.cell p.2 qG
    have q1:=hq.hu
    unfold cA at cc
    refine gE (an @qP @wx) ?_
    refine cT ?_
    repeat(first|refine xA ?_|refine xB ?_|refine xC ?_|refine xE ?_|refine xD ?_|refine xK ?_|refine xS ?_|refine xM ?_|refine xT ?_|refine xF ?_|((first|refine xR ?_|refine xW ?_|refine fR ?_);simp only[go_sem,Nat.reduceAdd,Nat.reduceLeDiff,Nat.reduceSub,Int.reduceToNat,reduceCtorEq,Nw,q1])|(refine⟨by first|omega|(intros;simp_all;done)|(intros;simp_all;omega),?_⟩;try simp only[go_sem,Nat.reduceAdd,Nat.reduceLeDiff,Nat.reduceSub,Int.reduceToNat,reduceCtorEq,Nw,q1]))
    refine⟨⟨by omega,by rw[qP,wx];omega⟩,?_⟩
    repeat(first|refine xA ?_|refine xB ?_|refine xC ?_|refine xE ?_|refine xD ?_|refine xK ?_|refine xS ?_|refine xM ?_|refine xT ?_|refine xF ?_|((first|refine xR ?_|refine xW ?_|refine fR ?_);simp only[go_sem,Nat.reduceAdd,Nat.reduceLeDiff,Nat.reduceSub,Int.reduceToNat,reduceCtorEq,q1])|(refine⟨by first|omega|(intros;simp_all;done)|(intros;simp_all;omega),?_⟩;try simp only[go_sem,Nat.reduceAdd,Nat.reduceLeDiff,Nat.reduceSub,Int.reduceToNat,reduceCtorEq,q1]))
    refine AQ.sF j (by kernel_rfl) rfl rfl hq.hm AA u3 (gF _) rfl (List.mem_of_getElem? (qQ jY)) (fun i hi=>qR S.gr.nd jY hi) (Rg jY) ?_
    refine sI ?_
    cases je:S.up p.2 with
    |none=>
     rw[je]at cc
     simp only[oQ]at cc
     repeat(first|refine xA ?_|refine xB ?_|refine xC ?_|refine xE ?_|refine xD ?_|refine xK ?_|refine xS ?_|refine xM ?_|refine xT ?_|refine xF ?_|((first|refine xR ?_|refine xW ?_|refine fR ?_);simp only[go_sem,Nat.reduceAdd,Nat.reduceLeDiff,Nat.reduceSub,Int.reduceToNat,reduceCtorEq,cc])|(refine⟨by first|omega|(intros;simp_all;done)|(intros;simp_all;omega),?_⟩;try simp only[go_sem,Nat.reduceAdd,Nat.reduceLeDiff,Nat.reduceSub,Int.reduceToNat,reduceCtorEq,cc]))
     have B6:iw S.up S.g.vs v=false:=by
      rw[iw,eB]
      show(S.up p.2).isSome=false
      rw[je];rfl
     have bc:((dD (S.g.vs.map (·.1))).take (k+1)).filter (iw S.up S.g.vs)=((dD (S.g.vs.map (·.1))).take k).filter (iw S.up S.g.vs):=by
      rw[dX hv,List.filter_append,List.filter_cons,B6]
      simp
     rw[hw]
     exact AE.round (k+1,H5,nr) ⟨⟨hq.gh,hq.hu,hq.hm,hq.hk,by rw[bc];exact hq.row,ag,by rw[bc];exact hq.nb⟩,by rw[bc];exact po⟩ (by simp only;omega) (sU) rfl
    |some d=>
     rw[je]at cc
     simp only[oQ]at cc
     repeat(first|refine xA ?_|refine xB ?_|refine xC ?_|refine xE ?_|refine xD ?_|refine xK ?_|refine xS ?_|refine xM ?_|refine xT ?_|refine xF ?_|((first|refine xR ?_|refine xW ?_|refine fR ?_);simp only[go_sem,Nat.reduceAdd,Nat.reduceLeDiff,Nat.reduceSub,Int.reduceToNat,reduceCtorEq,cc])|(refine⟨by first|omega|(intros;simp_all;done)|(intros;simp_all;omega),?_⟩;try simp only[go_sem,Nat.reduceAdd,Nat.reduceLeDiff,Nat.reduceSub,Int.reduceToNat,reduceCtorEq,cc]))
     have B6:iw S.up S.g.vs v=true:=by
      rw[iw,eB]
      show(S.up p.2).isSome=true
      rw[je];rfl
     have bc:((dD (S.g.vs.map (·.1))).take (k+1)).filter (iw S.up S.g.vs)=((dD (S.g.vs.map (·.1))).take k).filter (iw S.up S.g.vs)++[v]:=by
      rw[dX hv,List.filter_append,List.filter_cons,B6]
      simp
     obtain⟨x,pD,ND⟩:=S.tc p hp
     have pf:iU S.g.cl S.rt S.g.vs v=x:=yi eB ND
     have dV:=S.r.mem qG
     obtain⟨r,hr⟩:∃r,S.rt p.2=r:=⟨_,rfl⟩
     rw[hr]at pD dV
     obtain⟨n5,r9⟩:∃n,bB H5=n:=⟨_,rfl⟩
     have l1:=bU H5 _ _ hq.hu
     have l2:=bU H5 _ _ hq.hm
     have l3:=bU H5 _ _ hq.hk
     have l4:=bU H5 _ _ hq.row
     have l5:=hq.gh.lt (Nat.le_refl _) p.2 qG
     have l6:=hq.gh.lt (Nat.le_refl _) r dV
     rw[r9]at l1 l2 l3 l4 l5 l6
     have s1:=xg n5 hq.gh S.r qG
     rw[hr]at s1
     have m1:=bq l1
     have m2:=bq l2
     have m3:=bq l3
     have m4:=bq l4
     have m5:=bq l5.1
     have m6:=bq l6.1
     refine AQ.iB n5 (er (Nat.zero_le _)) (by kernel_rfl) rfl rfl rfl s1 (fun r H' e=>by rw[e.1];exact cu.refl _ _) fun r' H' ⟨e1,e2⟩=>?_
     rw[e1,e2]
     clear e1 e2
     refine sE (an @m1 (an @m2 (an @m3 (an @m4 (an @m5 @m6))))) ?_
     refine AQ.go (by kernel_rfl) ?_
     refine sI ?_
     obtain⟨j2,MG⟩:=List.getElem?_of_mem pD
     have V7:(S.k.map (·.1))[j2]?=some r:=by rw[List.getElem?_map,MG];rfl
     have ba:=C5 hq.gh S.ok dV
     refine AQ.Dx (x:=lx (some x)) j2 (by kernel_rfl) rfl rfl hq.hk S.pm xy (fun φ I w us u jo U h2=>⟨(ba φ I w us u jo U h2).1,(ba φ I w us u jo U h2).2.2 j2 V7⟩) (Hl MG) ?_
     simp only[go_sem,Nat.reduceAdd,Nat.reduceLeDiff,Nat.reduceSub,Int.reduceToNat,reduceCtorEq,lx,oN]
     refine gO ?_
     have Xi:v∈(dD (S.g.vs.map (·.1))).filter (iw S.up S.g.vs):=List.mem_filter.2 ⟨List.mem_of_getElem? hv,B6⟩
     have z5:=er (Nat.zero_le n5)
     have w5:=wr (x:=((min (wT x) 8000:Nat):Int)+1) (by omega)
     rw[r9]
     simp only[go_sem,Nat.reduceAdd,Nat.reduceLeDiff,Nat.reduceSub,Int.reduceToNat,reduceCtorEq,z5,w5]
     refine AP.cond rfl rfl (fun h3=>?_) (fun h3=>?_)
     ·have h3:4000<=wT x\/100<cd x:=by
       simp only[Bool.or_eq_true,decide_eq_true_eq]at h3
       omega
      refine gO ?_
      exact AE.bz rfl ⟨rfl,rfl,trivial⟩ rfl ⟨rfl,[],15,.inr ⟨U,.inr ⟨_,_,S.HQ,S.bk,S.aR,S.rg,.inl ⟨rfl,rfl,v,Xi,by rw[pf];exact h3⟩⟩⟩,.inr ⟨rfl,rfl⟩⟩
     ·have h3:¬(4000<=wT x\/100<cd x):=by
       simp only[Bool.or_eq_false_iff,decide_eq_false_iff_not]at h3
       omega
      obtain⟨H6,rH⟩:∃H6:aa,H6=(n5,Ob.var (.cell 194) [Bv false,Iv ((min (wT x) 8000:Nat):Int),Iv (cd x)])::H5:=⟨_,rfl⟩
      have o6:∀y,y<n5->lk H6 y=lk H5 y:=fun y hy=>by rw[rH,ct (by omega)]
      have rQ:GH S.g S.up H6:=by rw[rH];exact hq.gh.cons (by omega)
      have hn6:bB H6=n5+1:=by rw[rH];exact uL (by omega)
      have ht:=QR S.g S.gr S.up S.rt S.rk S.r (wT x) x p.2 (n5+1) H6 (Nat.le_refl _) ND qG rQ (by omega)
      have m1:=bq (show u<n5+1 by omega)
      have m3:=bq (show kb<n5+1 by omega)
      have m4:=bq (show b+1<n5+1 by omega)
      have m5:=bq (show p.2<n5+1 by omega)
      have m6:=bq (show n5<n5+1 by omega)
      rw[<-rH]
      refine gO ?_
      refine AQ.iB (n5+1) (er (Nat.zero_le _)) (by kernel_rfl) rfl rfl rfl ht (fun r H' h=>h.low) fun r7 H7 hT=>?_
      rw[hT.r,iR]
      refine sE (an @m1 (an @m3 (an @m4 (an @m5 @m6)))) ?_
      refine AQ.go (by kernel_rfl) ?_
      refine sI ?_
      have ja:=fun y o (hy:y<n5) (h:lk H5 y=some o) (dH:kC (n5+1) o)=>hT.bQ y o (by omega) ((o6 y hy).trans h) dH
      have V_:∀q∈S.k,q.1<n5:=fun q mm=>by have:=(hq.gh.lt (Nat.le_refl _) _ (S.ok.ro q mm).1).1;omega
      have Xd:∀q∈S.g.vs,q.2<n5:=fun q mm=>by have:=(hq.gh.lt (Nat.le_refl _) _ (S.gr.vs q mm).1).1;omega
      have US:=ja u _ l1 hq.hu (fun y hy=>by simp only[Ob.men,AV.mens,AV.men,cP (show S.m≠y by omega),Bool.or_false])
      have UQ:=ja S.m _ l2 hq.hm (fun y hy=>D7 fun q mm=>by have:=Xd q mm;omega)
      have yI:=ja kb _ l3 hq.hk (fun y hy=>PE S.pm fun q mm=>by have:=V_ q mm;omega)
      have UR:=ja (b+1) _ l4 hq.row (fun y hy=>rfl)
      have BT:GH S.g S.up H7:=rQ.bQ S.gr S.r (by omega) hT.bQ
      have lH:(fq (nA (iU S.g.cl S.rt S.g.vs) (((dD (S.g.vs.map (·.1))).take k).filter (iw S.up S.g.vs)))).length=nr:=by rw[gU,nA,List.length_map,po]
      have ac_:nr<=1000:=by
       have h4:=List.length_filter_le (iw S.up S.g.vs) ((dD (S.g.vs.map (·.1))).take k)
       rw[List.length_take]at h4
       omega
      refine AQ.Ri (es:=3) (show 0<=b+1 by omega) (by kernel_rfl) rfl rfl UR Tryz.QS Tryz.QO ?_ Tryz.Ka lH.symm (by rw[lH];simp only[List.length_cons,List.length_nil];omega) (by rw[lH];simp only[List.length_cons,List.length_nil];omega) fun H8 UT o8=>?_
      ·show Option.map _ (aA Tryz.prog 98)=_;rw[Tryz.RO];rfl
      have d1:u≠b+1:=by omega
      have d2:kb≠b+1:=by omega
      have d3:∀c∈S.g.L,c≠b+1/\S.g.c8 c≠b+1:=fun c hc=>by have:=lF.lt (Nat.le_of_eq fN) c hc;omega
      have f1:=cP d1
      have f2:=cP d2
      have f3:=cP (d3 p.2 qG).1
      have f4:=cP (show n5≠b+1 by omega)
      simp only[go_sem,Nat.reduceAdd,Nat.reduceLeDiff,Nat.reduceSub,Int.reduceToNat,reduceCtorEq,f1,f2,f3,f4,lH,List.length_cons,List.length_nil]
      refine gE @hw ?_
      refine AE.round (k+1,H8,nr+1) ⟨⟨⟨fun c hc=>?_,fun c hc=>?_⟩,?_,?_,?_,?_,ag,?_⟩,?_⟩ (by simp only;omega) (sU) rfl
      ·refine(o8 c (d3 c hc).1).trans ?_
       rw[BT.cell c hc,Option.map_some,j9]
       have h5:=(lF.wQ S.gr S.r (Nat.le_of_eq fN) c hc).1
       exact h5 _ (Nat.le_refl _)
      ·refine(o8 _ (d3 c hc).2).trans ?_
       rw[BT.row c hc,Option.map_some,j9]
       exact(lF.wQ S.gr S.r (Nat.le_of_eq fN) c hc).2 _ (Nat.le_refl _)
      ·refine(o8 u d1).trans ?_
       rw[US,Option.map_some,j9]
       simp only[Ob.men,AV.mens,AV.men,cP (show S.m≠b+1 by omega),Bool.or_false]
      ·refine(o8 S.m (by omega)).trans ?_
       rw[UQ,Option.map_some,j9]
       exact D7 fun q mm=>(d3 _ (S.gr.vs q mm).1).1
      ·refine(o8 kb d2).trans ?_
       rw[yI,Option.map_some,j9 (PE S.pm fun q mm=>(d3 _ (S.ok.ro q mm).1).1)]
      ·rw[UT,bc,nA,nA,List.map_append,fq,fq,List.map_append]
       show some (Ob.vec 98 4 (_++_))=some (Ob.vec 98 4 (_++[x9 (v,iU S.g.cl S.rt S.g.vs v)]))
       rw[pf]
      ·rw[bc]
       rintro⟨w,cL,iJ⟩
       rcases List.mem_append.1 cL with cL|cL
       ·exact hq.nb ⟨w,cL,iJ⟩
       ·rw[List.mem_singleton.1 cL,pf]at iJ
        exact h3 iJ
      ·show nr+1=_
       rw[bc,List.length_append,<-po];rfl
 ·refine ao.walk [0,1,2,3,4,5,6,7,8,9,10,12,13,14,20,30,36,37,38,39,52,67] [14] Tryz.func49 rfl Tryz.ntmps49 (by kernel_rfl) (by rfl) rfl fun W own I0 aq lay=>?_
  refine gO ?_
  refine AQ.fn (by kernel_rfl) rfl rfl rfl (hk) rfl ?_
  refine sI ?_
  refine gO ?_
  refine AP.cond rfl rfl (fun h2=>?_) (fun h2=>?_)
  ·refine gO ?_
   exact AE.bz rfl ⟨rfl,rfl,trivial⟩ rfl ⟨rfl,[],_,.inl ⟨U,rfl,rfl⟩,.inr ⟨rfl,rfl⟩⟩
  ·exact absurd (by simpa using h2) U
theorem vl.iy {s t:Tm} {out:Bd} {e:Int} (h:vl s t out e):iy out:=by
 rcases h with⟨_,rfl,_⟩|⟨f,ks,_,hK,hL,hR,⟨_,rfl,_⟩|⟨_,_,rfl⟩⟩
 ·exact⟨Nat.zero_le _,fun b hb=>(nomatch hb)⟩
 ·exact⟨Nat.zero_le _,fun b hb=>(nomatch hb)⟩
 ·refine⟨?_,fun b hb=>?_⟩
  ·have:=Dq 1000 ks (hK.1.imp fun h=>by omega) hR
   rw[nA,List.length_map];omega
  ·obtain⟨v,_,rfl⟩:=List.mem_map.1 hb
   exact hL v
theorem aaK {P:Program} {f:FuncId} {args:List AV} {R:Bd->Int->Prop} (h:ao P f args [] (fun r H'=>H'=[]/\∃out e,R out e/\(r= .aG [gV out,Iv e]\/out=[]/\r= .aG [eO,Iv e]))):
  ao P f args [] (fun r H'=>H'=[]/\∃out e,R out e/\r= .aG [gV out,Iv e]):=
 ⟨h.gv,fun w φ I vs hd hR hV=>(h.run w φ I vs hd hR hV).mono fun e w' ⟨r,H',φ',I',v,⟨hH,out,ec,Vj,hr⟩,he,a8,hS⟩=>by
  refine⟨.aG [gV out,Iv ec],H',φ',I',v,⟨hH,out,ec,Vj,rfl⟩,he,?_,hS⟩
  rcases hr with rfl|⟨rfl,rfl⟩
  ·exact a8
  ·exact(show da (.aG [eO,Iv ec]) (.aG [gV [],Iv ec]) from da.aG (bY.nT (da.im (fp.nil 4)) (bY.refl _))) _ _ _ _ a8⟩
theorem x7 {x:Tm} {l:Bd}:dE (aJ x) l=0↔bp 4 9 2 3 (aJ x)=0/\fT [] l=0/\wT (al (aV l) x)<=3999/\cd (al (aV l) x)<=100:=by
 rw[dE]
 by_cases U:bp 4 9 2 3 (aJ x)=0
 ·rw[if_neg (by simpa using U)]
  by_cases h2:fT [] l=0
  ·rw[if_neg (by simpa using h2),JR U]
   have e:cU (aV l) (aJ x)=aJ (al (aV l) x):=by rw[aJ,aJ,cU,List.map_cons,List.map_nil,fK,bK,bK]
   rw[e,mP]
   simp only[aJ,b8,jF,fw,dj,List.map_cons,List.map_nil,List.sum_cons,List.sum_nil,aK]
   by_cases h3:4000<wT (al (aV l) x)+1
   ·constructor
    ·intro h
     have h:(if(decide (4000<1+(wT (al (aV l) x)+0)+0)||decide (100<max (max (cd (al (aV l) x)) 0) 0))=true then 15 else 0)=(0:Int):=h
     rw[if_pos (by rw[Bool.or_eq_true];left;simp;omega)]at h
     cases h
    ·intro h;omega
   ·by_cases h4:100<cd (al (aV l) x)
    ·constructor
     ·intro h
      have h:(if(decide (4000<1+(wT (al (aV l) x)+0)+0)||decide (100<max (max (cd (al (aV l) x)) 0) 0))=true then 15 else 0)=(0:Int):=h
      rw[if_pos (by rw[Bool.or_eq_true];right;simp;omega)]at h
      cases h
     ·intro h;omega
    ·refine⟨fun _=>⟨U,h2,by omega,by omega⟩,fun _=>?_⟩
     show(if(decide (4000<1+(wT (al (aV l) x)+0)+0)||decide (100<max (max (cd (al (aV l) x)) 0) 0))=true then 15 else 0)=(0:Int)
     rw[if_neg]
     rw[Bool.or_eq_true]
     simp
     omega
  ·rw[if_pos h2]
   exact⟨fun h=>absurd h h2,fun h=>absurd h.2.1 h2⟩
 ·rw[if_pos U]
  exact⟨fun h=>absurd h U,fun h=>absurd h.1 U⟩
theorem uX {x:Tm} {l:Bd} (h:dE (aJ x) l=0):dR l x=al (aV l) x:=by rw[dR,if_pos h]
theorem Z6 {l:Bd} (h:fT [] l=0) {v:Int} (hv:0<=v/\v<1000):c7 (aV l v)=true:=by
 rw[aV,sB]
 cases hq:aU l v with
 |none=>
  rw[Option.getD_none]
  show c7 (.mk [] v [])=true
  rw[c7,if_pos rfl];simp[hv]
 |some t=>exact(rC (yc l [] h _ (nw hq)).2.2).1
theorem Y2:∀{t:Tm},c7 t=true->∀v∈dm t,0<=v/\v<1000:=fun{t} h=>by
 have:∀n (t:Tm),wT t<=n->c7 t=true->∀v∈dm t,0<=v/\v<1000:=fun n=>by
  induction n with
  |zero=>intro t h;have:=u9 t;omega
  |succ n ih=>
   intro t hw ho v hv
   rw[sQ]at ho
   rw[Rp]at hv
   rw[xL]at hw
   by_cases hn:t.nm=[]
   ·rw[if_pos hn]at ho hv
    simp only[Bool.and_eq_true,List.isEmpty_iff,decide_eq_true_eq]at ho
    rw[ho.1,bJ,List.append_nil]at hv
    rw[List.mem_singleton.1 hv]
    exact ho.2
   ·rw[if_neg hn]at ho hv
    rw[Bool.and_eq_true]at ho
    rw[List.nil_append]at hv
    have:∀l:List Tm,cB l=true->aK l<=n->v∈bJ l->0<=v/\v<1000:=fun l=>by
     induction l with
     |nil=>intro _ _ h;rw[bJ]at h;cases h
     |cons a l zQ=>
      intro ho hw h
      rw[cB,Bool.and_eq_true]at ho
      rw[aK]at hw
      rw[bJ]at h
      rcases List.mem_append.1 h with h|h
      ·exact ih a (by omega) ho.1 v h
      ·exact zQ ho.2 (by omega) h
    exact this t.xs ho.2 (by omega) hv
 exact this _ t (Nat.le_refl _) h
theorem SQ {x:Tm} {l:Bd} (h:dE (aJ x) l=0):bp 4 9 2 3 (aJ (al (aV l) x))=0:=by
 obtain⟨U,h2,h3,h4⟩:=x7.1 h
 have ho:=(rC U).1
 exact Tu (Pe _ x ho fun v hv=>Z6 h2 (Y2 ho v hv)) h3 h4
theorem Z5 {f:Int->Tm} {ks:List Int} (h:Ey f ks):aV (nA f ks)=f:=by
 funext v
 rw[aV,sB]
 cases hq:aU (nA f ks) v with
 |none=>
  have U:=HB hq
  rw[nA,List.map_map]at U
  have h2:v∉ks:=fun hv=>U (List.mem_map.2 ⟨v,hv,rfl⟩)
  rw[Option.getD_none]
  exact(Classical.not_not.1 fun hn=>h2 ((h.2 v).2 hn)).symm
 |some x=>
  have U:=nw hq
  obtain⟨w,hw,e⟩:=List.mem_map.1 U
  cases e
  rfl
theorem HR {s t:Tm} {f:Int->Tm} (h:vj s t f) (x:Tm):al f (al f x)=al f x:=by
 rw[vr]
 congr 1
 funext v
 exact h.m f h.u v
theorem Tr {s t:Tm} (h:bp 4 9 2 3 (aJ s)=0) (k:bp 4 9 2 3 (aJ t)=0):gW s t=0:=by
 rw[gW,if_neg (by simpa using h)];exact k
theorem JC {s t:Tm} {out:Bd} {e:Int} (hO:gW s t≠0/\e=gW s t/\out=[]\/gW s t=0/\vl s t out e) (he:e=0):∃f,vj s t f/\aV out=f/\∀b∈out,b.2=f b.1:=by
 subst he
 rcases hO with⟨U,h2,_⟩|⟨_,⟨h,_⟩|⟨f,ks,hM,hK,_,_,⟨h,_⟩|⟨_,_,rfl⟩⟩⟩
 ·exact absurd h2.symm U
 ·cases h
 ·cases h
 ·exact⟨f,hM,Z5 hK,fun b hb=>by obtain⟨v,_,rfl⟩:=List.mem_map.1 hb;rfl⟩
theorem R3 {s t:Tm} {out:Bd} {e:Int} (hO:gW s t≠0/\e=gW s t/\out=[]\/gW s t=0/\vl s t out e):iy out:=by
 rcases hO with⟨_,_,rfl⟩|⟨_,h⟩
 ·exact⟨Nat.zero_le _,fun b hb=>(nomatch hb)⟩
 ·exact h.iy
theorem R4 {s t:Tm} {out:Bd} {e:Int} (hO:gW s t≠0/\e=gW s t/\out=[]\/gW s t=0/\vl s t out e) (hk:gW s t=0) {g:Int->Tm} (hg:l_ s t g):e=15\/e=0:=by
 rcases hO with⟨U,_⟩|⟨_,⟨_,_,h⟩|⟨f,ks,_,_,_,_,⟨h,_⟩|⟨h,_⟩⟩⟩
 ·exact absurd hk U
 ·exact absurd hg (h g)
 ·exact .inl h
 ·exact .inr h
theorem aa2 (s t:Tm) (l:Bd) (hs:jj s) (ht:jj t) (hl:iy l):bh Tryz.prog 9 [bf s,bf t,gV l] (Bv true):=by
 have dq:=Zh s t hs ht
 refine ao.walk [0,1,2,3,4,6,7,8,9,10,11,12,13,14,15,16,17,18,19,20,21,23,24,25,26,27,36,49,67,88,114,117,120,121,122,123,124,151] [7,8,11,13,15,18,20,23,24,26] Tryz.func9 rfl Tryz.ntmps9 (by kernel_rfl) (by rfl) rfl fun W own I0 aq lay=>?_
 refine gO ?_
 refine AQ.fn (by kernel_rfl) rfl rfl rfl (dq) rfl ?_
 refine sI ?_
 refine gE @gU ?_
 refine AP.cond rfl rfl (fun h=>?_) (fun h=>?_)
 ·refine gO ?_
  refine AQ.fn (by kernel_rfl) rfl rfl rfl (Bk) rfl ?_
  refine sI ?_
  refine gO ?_
  exact AE.bz rfl ⟨rfl,trivial⟩ rfl ⟨rfl,rfl⟩
 have U:oM (aJ s) 51=true/\oM (aJ t) 51=true/\l.length<=8:=by
  cases hA:oM (aJ s) 51<;>cases hB:oM (aJ t) 51<;>rw[hA,hB]at h<;>simp at h
  rw[gU]at h
  exact⟨rfl,rfl,by omega⟩
 obtain⟨wv,zy⟩:=Qw U.1
 obtain⟨CK,zA⟩:=Qw U.2.1
 have hu:=aaK (aa3 s t wv CK)
 rw[iR,iR]at hu
 have he:∀x:Tm,AV.agg [Sv x.nm,Iv x.ix,.im (.sl 3 (az x.xs))]=bf x:=fun x=>(iR x).symm
 refine gO ?_
 refine AP.cut (α:=Unit) (fun _=>[(2,gV l),(6,Bv false),(7,.im (.pt [Si s.nm,Ii s.ix,.sl 3 (az s.xs)])),(8,.im (.pt [Si t.nm,Ii t.ix,.sl 3 (az t.xs)]))]) (fun _=>[]) (fun _=>True) ?_ fun _ _=>?_
 ·skip
  refine AP.db 8 (Tree.node [] [0,2] [1,4,5] [Tree.node [2] [] [3,4,5] [Tree.node [] [] [4,5] [Tree.node [] [] [5] [Tree.node [] [] [6] [Tree.node [] [] [7] [Tree.node [] [] [] []]]],Tree.node [] [] [4] [Tree.node [] [] [6] [Tree.node [] [] [7] [Tree.node [] [] [] []]]]],Tree.node [2] [] [3,5] [Tree.node [] [] [5] [Tree.node [] [] [6] [Tree.node [] [] [7] [Tree.node [] [] [] []]]],Tree.node [2] [] [3] [Tree.node [] [] [6] [Tree.node [] [] [7] [Tree.node [] [] [] []]]]],Tree.node [2] [] [3,4] [Tree.node [] [] [4] [Tree.node [] [] [6] [Tree.node [] [] [7] [Tree.node [] [] [] []]]],Tree.node [2] [] [3] [Tree.node [] [] [6] [Tree.node [] [] [7] [Tree.node [] [] [] []]]]]],Tree.node [0,2] [] [1,5] [Tree.node [2] [] [3,5] [Tree.node [] [] [5] [Tree.node [] [] [6] [Tree.node [] [] [7] [Tree.node [] [] [] []]]],Tree.node [2] [] [3] [Tree.node [] [] [6] [Tree.node [] [] [7] [Tree.node [] [] [] []]]]],Tree.node [0,2] [] [1] [Tree.node [2] [] [3] [Tree.node [] [] [6] [Tree.node [] [] [7] [Tree.node [] [] [] []]]]]],Tree.node [0,2] [] [1,4] [Tree.node [2] [] [3,4] [Tree.node [] [] [4] [Tree.node [] [] [6] [Tree.node [] [] [7] [Tree.node [] [] [] []]]],Tree.node [2] [] [3] [Tree.node [] [] [6] [Tree.node [] [] [7] [Tree.node [] [] [] []]]]],Tree.node [0,2] [] [1] [Tree.node [2] [] [3] [Tree.node [] [] [6] [Tree.node [] [] [7] [Tree.node [] [] [] []]]]]]]) (by kernel_rfl) rfl (by kernel_rfl) (by kernel_rfl) ?_
  refine c_ ?_
  refine sI ?_
  repeat' (first|with_reducible exact True.intro|with_reducible refine And.intro (by omega) ?_|with_reducible refine And.intro ?_ ?_|(refine AQ.nx rfl ?_;refine sI ?_)|(refine AQ.fn (by kernel_rfl) rfl rfl rfl (ym s wv) rfl ?_;refine sI ?_)|(refine AQ.fn (by kernel_rfl) rfl rfl rfl (ym t CK) rfl ?_;refine sI ?_)|refine AQ.done ?_|(refine AQ.go (by kernel_rfl) ?_;refine sI ?_;repeat(with_reducible refine And.intro (by omega) ?_);refine AQ.nx rfl ?_;refine sI ?_))
  all_goals(refine AE.fix 0 rfl rfl ?_;refine sI ?_;refine AE.fix 1 rfl rfl ?_;refine sI ?_;exact AE.meet () trivial (sU) rfl)
 refine gO ?_
 refine AQ.Bp (by kernel_rfl) rfl rfl rfl hu fun r' H' ⟨e3,out,e,hO,hr⟩=>?_
 subst e3
 subst hr
 have lH:=R3 hO
 refine sI ?_
 refine gO ?_
 refine AP.cut (α:=Unit) (fun _=>[(2,gV l),(6,Bv false),(7,.im (.pt [Si s.nm,Ii s.ix,.sl 3 (az s.xs)])),(8,.im (.pt [Si t.nm,Ii t.ix,.sl 3 (az t.xs)])),(9,gV out),(10,Iv e)]) (fun _=>[]) (fun _=>True) ?_ fun _ _=>?_
 ·refine AP.cond rfl rfl (fun h0=>?_) (fun h0=>?_)
  ·have h0:e=0:=by simpa using h0
   obtain⟨f,hM,uy,yR⟩:=JC hO h0
   have u1:=u6 s out wv lH
   have u2:=u6 t out CK lH
   rw[iR]at u1 u2
   refine gO ?_
   refine AQ.fn (by kernel_rfl) rfl rfl rfl (u1) rfl ?_
   refine sI ?_
   refine gO ?_
   refine AQ.fn (by kernel_rfl) rfl rfl rfl (u2) rfl ?_
   refine sI ?_
   refine gO ?_
   refine AP.cond rfl rfl (fun h2=>?_) (fun h2=>?_)
   ·refine gO ?_
    exact AE.bz rfl ⟨rfl,trivial⟩ rfl ⟨rfl,rfl⟩
   ·have h2:dE (aJ s) out=0/\dE (aJ t) out=0:=by
     cases hA:(dE (aJ s) out==0)<;>cases hB:(dE (aJ t) out==0)<;>rw[hA,hB]at h2<;>simp at h2
     exact⟨by simpa using hA,by simpa using hB⟩
    obtain⟨i1,i2,i3,i4⟩:=x7.1 h2.1
    have ea:dR out s=al f s:=by rw[uX h2.1,uy]
    have eb:dR out t=al f s:=by rw[uX h2.2,uy,<-hM.u]
    have FL:aR (al f s):=ea▸I5 wv lH
    have hc:=SQ h2.1
    rw[uy]at hc i3 i4
    have ez:dE (aJ (al f s)) out=0:=x7.2 ⟨hc,i2,by rw[uy,HR hM];exact i3,by rw[uy,HR hM];exact i4⟩
    have ec:dR out (al f s)=al f s:=by rw[uX ez,uy,HR hM]
    have u3:=u6 (al f s) out FL lH
    have fe:=ym (al f s) FL
    have uA:=DR (al f s) (al f s) FL
    rw[ec,ez]at u3
    rw[K8]at uA
    rw[iR]at fe uA
    rw[h2.1,h2.2,ea,eb]
    have hz:((0:Int)==0)=true:=rfl
    rw[hz]
    rw[hz]at u3
    refine gO ?_
    refine AQ.fn (by kernel_rfl) rfl rfl rfl (fe) rfl ?_
    refine sI ?_
    refine AQ.fn (by kernel_rfl) rfl rfl rfl (u3) rfl ?_
    refine sI ?_
    refine gO ?_
    refine AQ.fn (by kernel_rfl) rfl rfl rfl (uA) rfl ?_
    refine sI ?_
    refine AQ.nW (by simp only[go_sem]) ?_
    refine AQ.fn (by kernel_rfl) rfl rfl rfl (uA) rfl ?_
    refine sI ?_
    refine gO ?_
    refine AE.eJ [0,1,2] rfl ?_
    refine sI ?_
    exact AE.meet () trivial (sU) rfl
  ·refine gO ?_
   exact AE.meet () trivial (sU) rfl
 have fE:=X1 l hl
 have v1:=u6 s l wv hl
 have v2:=u6 t l CK hl
 rw[iR]at v1 v2
 refine gO ?_
 refine AQ.fn (by kernel_rfl) rfl rfl rfl (fE) rfl ?_
 refine sI ?_
 refine gO ?_
 refine AQ.fn (by kernel_rfl) rfl rfl rfl (v1) rfl ?_
 refine sI ?_
 refine gO ?_
 refine AQ.fn (by kernel_rfl) rfl rfl rfl (v2) rfl ?_
 refine sI ?_
 refine gO ?_
 have uA:=DR (dR l s) (dR l t) (I5 wv hl)
 rw[iR,iR]at uA
 refine AQ.rK (by kernel_rfl) rfl rfl (fun h=>by first|(simp[gs,AV.g];done)|(simp[gs,AV.g,cn];done)|(simp[gs,AV.g,cn,bw]at h⊢;done)|(simp[gs,AV.g,cn,bw]at h⊢;exact h)|(simp[gs,AV.g,cn,bw]at h⊢;simp[h];done)|(simp[bw]at h;done)|(simp[gs,AV.g,bw]at h⊢;simp[h];done)|(simp[gs,AV.g,bw]at h⊢;exact h.1)|(simp[gs,AV.g];rfl)|(simp[gs,AV.g,bw]at h⊢;rfl)|(simp[gs,AV.g,bw]at h⊢;simp[h];rfl)|(simp[gs,AV.g,bw]at h⊢;simp_all)) rfl (fun _=>uA) rfl ?_
 refine sI ?_
 refine gO ?_
 refine AP.cond rfl rfl (fun h3=>?_) (fun h3=>?_)
 ·refine gO ?_
  refine AQ.fn (by kernel_rfl) rfl rfl rfl (Bk) rfl ?_
  refine sI ?_
  refine gO ?_
  exact AE.bz rfl ⟨rfl,trivial⟩ rfl ⟨rfl,rfl⟩
 have h3:dE (aJ s) l=0/\dE (aJ t) l=0/\d_ (dR l s) (dR l t)=true:=by
  cases hA:(dE (aJ s) l==0)<;>cases hB:(dE (aJ t) l==0)<;>cases hC:d_ (dR l s) (dR l t)<;>rw[hA,hB,hC]at h3<;>simp at h3
  exact⟨by simpa using hA,by simpa using hB,rfl⟩
 obtain⟨k1,k2,k3⟩:=h3
 have Ml:l_ s t (aV l):=by
  have:=(E4 _ _).1 k3
  rw[uX k1,uX k2]at this
  exact this
 have iZ:=Tr (x7.1 k1).1 (x7.1 k2).1
 have VR:=R4 hO iZ Ml
 refine gO ?_
 refine AP.cond rfl rfl (fun h4=>?_) (fun h4=>?_)
 ·refine gO ?_
  refine AQ.fn (by kernel_rfl) rfl rfl rfl (Bk) rfl ?_
  refine sI ?_
  refine gO ?_
  exact AE.bz rfl ⟨rfl,trivial⟩ rfl ⟨rfl,rfl⟩
 have h0:e=0:=VR.resolve_left (by simpa using h4)
 obtain⟨f,hM,uy,yR⟩:=JC hO h0
 subst h0
 have ada:=lH.1
 refine gE @gU ?_
 refine AP.loop rfl (α:=Nat) (fun k=>[(6,Bv false),(17,gV l),(121,gV out),(122,Iv out.length),(123,Iv k)]) (fun _=>[(1,.var (.cell 57) [Sv (dR l t).nm,Iv (dR l t).ix,.im (.sl 3 (az (dR l t).xs))]),(0,.var (.cell 57) [Sv (dR l s).nm,Iv (dR l s).ix,.im (.sl 3 (az (dR l s).xs))])]) (fun k=>k<=out.length) (fun k=>out.length-k) 0 (Nat.zero_le _) (sU) rfl fun k hk=>?_
 rcases Nat.eq_or_lt_of_le hk with aM|ag
 ·refine gO ?_
  refine cF ?_
  refine gO ?_
  refine AQ.fn (by kernel_rfl) rfl rfl rfl (Bk) rfl ?_
  refine sI ?_
  refine gO ?_
  exact AE.bz rfl ⟨rfl,trivial⟩ rfl ⟨rfl,rfl⟩
 ·obtain⟨b,hb,aX⟩:=Ev out k ag
  have nZ:=List.mem_of_getElem? hb
  have Vy:=lH.2 b nZ
  have hw:=wr (x:=(k:Int)+1) (by omega)
  have w1:=(u6 (bg b.1) l (by rw[bg,aR,bI];simp) hl).vp (xs:=[.agg [Sv [],Iv b.1,eO],gV l]) (bY.nT (show da (.agg [Sv [],Iv b.1,eO]) (.agg [Sv [],Iv b.1,.im (.sl 3 [])]) from(by repeat' (first|with_reducible exact da.refl _|with_reducible exact fp.refl _|exact fp.nil _|with_reducible exact bY.refl _|with_reducible exact kg.refl _|with_reducible exact kj.refl _|refine bY.nT ?_ ?_|refine da.agg ?_|refine da.im ?_|refine fp.sl ?_|refine kj.cons ?_ ?_|refine kg.cons ?_ ?_))) (bY.refl _))
  have w2:=u6 b.2 l Vy hl
  have w3:=DR (dR l (bg b.1)) (dR l b.2) (I5 (by rw[bg,aR,bI];simp) hl)
  rw[iR]at w1
  rw[iR,iR]at w2 w3
  have a6:((dE (aJ (bg b.1)) l==0)&&(dE (aJ b.2) l==0)&&!d_ (dR l (bg b.1)) (dR l b.2))=false:=by
   cases hA:(dE (aJ (bg b.1)) l==0)<;>cases hB:(dE (aJ b.2) l==0)<;>try rfl
   have e1:dR l (bg b.1)=aV l b.1:=by rw[uX (by simpa using hA),bg,al,if_pos rfl]
   have e2:dR l b.2=aV l b.1:=by rw[uX (by simpa using hB),yR b nZ,hM.m _ Ml]
   rw[e1,e2,K8];rfl
  refine gO ?_
  refine cT ?_
  refine gE @aX ?_
  refine⟨by rw[gU];omega,?_⟩
  refine gO ?_
  refine AQ.fn (by kernel_rfl) rfl rfl rfl (w1) rfl ?_
  refine sI ?_
  refine gO ?_
  refine AQ.fn (by kernel_rfl) rfl rfl rfl (w2) rfl ?_
  refine sI ?_
  refine gO ?_
  refine AQ.rK (by kernel_rfl) rfl rfl (fun h=>by first|(simp[gs,AV.g];done)|(simp[gs,AV.g,cn];done)|(simp[gs,AV.g,cn,bw]at h⊢;done)|(simp[gs,AV.g,cn,bw]at h⊢;exact h)|(simp[gs,AV.g,cn,bw]at h⊢;simp[h];done)|(simp[bw]at h;done)|(simp[gs,AV.g,bw]at h⊢;simp[h];done)|(simp[gs,AV.g,bw]at h⊢;exact h.1)|(simp[gs,AV.g];rfl)|(simp[gs,AV.g,bw]at h⊢;rfl)|(simp[gs,AV.g,bw]at h⊢;simp[h];rfl)|(simp[gs,AV.g,bw]at h⊢;simp_all)) rfl (fun _=>w3) rfl ?_
  refine sE @a6 ?_
  refine gE @a6 ?_
  rw[hw]
  refine AE.eJ [2,3,4] rfl ?_
  refine sI ?_
  exact AE.round (k+1) (by omega) (by omega) (sU) rfl
end Go.Proofs.YtpfohmboflcneaaGreatDoor
end
