import Derived.Test.YtpfohmboflcneaaGreatDoorAl2
import Derived.MapKept
import Derived.Laws.CopyRow
import Derived.Laws.MakeOwn
import Derived.Lib.BufferWrite
import Derived.RecoverIn
import Derived.Sort.Grow
import Derived.Sort.EncStr
import Derived.Maps.RangeRun
set_option linter.unusedSimpArgs false
set_option linter.unusedVariables false
set_option linter.unnecessarySimpa false
section
namespace Go.AL
open Go
mutual
theorem AV.wH {nb b:Nat} (h:nb<=b):∀(x:AV),x.ge nb=false->x.men b=false
 | .ob b' _,hx=>by simp only[AV.ge,AV.men]at hx⊢;exact fR (by have:=nJ hx;omega)
 | .oe b' _ _ _,hx=>by simp only[AV.ge,AV.men]at hx⊢;exact fR (by have:=nJ hx;omega)
 | .os b' _ _ _,hx=>by simp only[AV.ge,AV.men]at hx⊢;exact fR (by have:=nJ hx;omega)
 | .fn f fs aD,hx=>by simp only[AV.ge,AV.men,Bool.or_eq_false_iff]at hx⊢;exact⟨AV.td h fs hx.1,AV.td h aD hx.2⟩
 | .agg cs,hx=>by simp only[AV.ge,AV.men]at hx⊢;exact AV.td h cs hx
 | .aK cs,hx=>by simp only[AV.ge,AV.men]at hx⊢;exact AV.td h cs hx
 | .opt g x,hx=>by simp only[AV.ge,AV.men]at hx⊢;exact AV.wH h x hx
 | .im x,_=>rfl
 | .ar x,_=>rfl
 | .top,_=>rfl
 | .mp b',hx=>by simp only[AV.ge,AV.men]at hx⊢;exact fR (by have:=nJ hx;omega)
 | .wr k x,hx=>by simp only[AV.ge,AV.men]at hx⊢;exact AV.wH h x hx
theorem AV.td {nb b:Nat} (h:nb<=b):∀(xs:List AV),AV.hU nb xs=false->AV.mens b xs=false
 |[],_=>rfl
 |x::xs,hx=>by simp only[AV.hU,AV.mens,Bool.or_eq_false_iff]at hx⊢;exact⟨AV.wH h x hx.1,AV.td h xs hx.2⟩
end
theorem BT {nb b:Nat} (h:nb<=b):∀(E:Env) (i:Nat) (x:AV),lk (iP nb E) i=some x->x.men b=false
 |[],i,x,hx=>by simp[iP,lk]at hx
 |(j,y)::r,i,x,hx=>by
  simp only[iP]at hx
  cases hm:y.ge nb with
  |true=>
   rw[hm]at hx
   simp only[cond_true,lk]at hx
   cases hb:Nat.beq j i with
   |true=>rw[hb]at hx;simp only[cond_true,Option.some.injEq]at hx;subst hx;rfl
   |false=>rw[hb]at hx;exact BT h r i x hx
  |false=>
   rw[hm]at hx
   simp only[cond_false,lk]at hx
   cases hb:Nat.beq j i with
   |true=>rw[hb]at hx;simp only[cond_true,Option.some.injEq]at hx;subst hx;exact AV.wH h y hm
   |false=>rw[hb]at hx;exact BT h r i x hx
theorem St.RB {B:Bs} {φ:ak} {I:Nat->Prop} {H:aa} {w:World} {l:Nat} {r:Loop} {o':Obj} (h:St B φ I H w) (hl:w.heap[l]?=some (.loop r)) (hI:¬I l) (aq:∀b,φ b≠some (some l)) (ho:B.own l\/B.w0.heap.size<=l):
  St B φ I H (w.putObj l o')/\bh w φ I (w.putObj l o') φ I:=by
 have k:bh w φ I (w.putObj l o') φ I:=xU hl hI
 refine⟨⟨⟨h.real.bf,fun b' o p aA hp=>?_,fun b' g hp=>?_,h.real.inj,fun g hg=>?_⟩,h.ext.trans (Fe (own:=fun g=>g=l) hl rfl) (fun g hg=>by subst hg;exact ho),h.bU,h.cN,h.cd,h.cu⟩,k⟩
 ·exact Ob.ja k.im k.I k.phi k.sh (fun g hg=>World.putObj_heap_other (fun e=>by subst e;subst hg;exact aq b' hp)) (h.real.own b' o p aA hp)
 ·have:=h.real.off b' g hp
  exact⟨this.1,by simpa using this.2⟩
 ·have:=h.real.bI g hg
  simpa using this
def r4 (C:Cx) (K:List PK) (E:Env) (H:aa):fP->Prop
 | .ready=>AE C .normal K E H
 | .done .ret=>AE C .ret K E H
 | .done (.exit id)=>AE C (.exit id) K E H
 |_=>False
def CQ (C:Cx) (H:aa) (b0:Nat):Prop:=match C.rd with
 |none=>C.ds=[]
 |some l0=>match lk H b0 with
  |some (.lp l1 _ _ _ _ _ _)=>l1=l0
  |_=>False
section
variable {C:Cx} {K:List PK} {E:Env} {H:aa}
theorem AP.range (nb b0:Nat) {p:List Nat} {t:Tmp} {ps:List Tmp} {as bd:Code} {f:FuncId} {fs aD:List AV} (EL:Env) {R:Nat->AV->aa->Prop}
  (hc:bS C.fn p= .rangeFunc (.tmp t) ps.toArray as bd) (ew:lk E t=some (.fn f fs aD)) (hnb:Nat.ble C.B.nb nb=true) (Aa:Sub E EL) (e_:CQ C H b0)
  (tm:∀l,gX C.P nb f (fs++[Yl l]++aD) ((aE nb H,.lp l C.n .ready C.fn p ps EL)::H) (R l))
  (jP:∀l r H',R l r H'->dT nb ((aE nb H,.lp l C.n .ready C.fn p ps EL)::H) H')
  (rb:∀l r H',R l r H'->∃st E',lk H' (aE nb H)=some (.lp l C.n st C.fn p ps E')/\noMen (aE nb H) (dG (aE nb H) H')=true/\r4 C K (iP nb E) (dG (aE nb H) H') st):AP C p K E H:=by
 unfold AP
 rw[hc]
 intro φ I a w hs
 have OG:=Nat.le_of_ble_eq_true hnb
 obtain⟨b,hb⟩:∃b,aE nb H=b:=⟨_,rfl⟩
 rw[hb]at tm jP rb
 have FQ:lk H b=none:=hb▸jZ nb H
 have e6:nb<=b:=hb▸(fZ nb H).1
 refine wpIn_rangeFunc (F:=Fw C.rd) fun b8 _=>?_
 obtain⟨wD,ID,rS,D,e1,nZ,kD,hM⟩:∃(wD:World) (ID:Nat->Prop) (rS:List Deferred) (D:Nat),
   (Instr.enterLoop b8 a.tmps ps.toArray as bd C.rd).run C.P w= .ok (wD.heap.size,rS) (wD.alloc (.loop {state:= .ready,pending:=none,fn:=b8,tmps:=a.tmps,params:=ps.toArray,assign:=as,body:=bd,defers:=D}))/\
   St C.B φ ID H wD/\bh w φ I wD φ ID/\Marks C.ds C.B.w0.heap.size wD ID (rS++a.defers):=by
  unfold CQ at e_
  cases hr:C.rd with
  |none=>
   obtain⟨hS,k⟩:=hs.st.H8 (w':=w.alloc (.deferred (some []))) (by simp) (fun g hg=>heap_alloc_old w _ hg) rfl rfl rfl
   refine⟨w.alloc (.deferred (some [])),_,[rR w.heap.size],w.heap.size,?_,hS,k,?_⟩
   ·rw[run_enterLoop_outer];simp[rR]
   ·obtain⟨ms,U,h2,h3,_⟩:=hs.bo
    rw[hr]at e_
    refine⟨w.heap.size::ms,by rw[U];rfl,List.nodup_cons.2 ⟨fun hm=>?_,h2⟩,(fun D' ke=>?_),fun aG=>absurd e_ aG⟩
    ·have:=hs.st.real.bI _ (h3 _ hm).1
     omega
    ·rcases List.mem_cons.1 ke with rfl|ke
     ·exact⟨.inr rfl,hs.st.ext.size,World.alloc_heap_new w _⟩
     ·obtain⟨h4,h5,h6⟩:=h3 D' ke
      exact⟨.inl h4,h5,(k.im D' h4).trans h6⟩
  |some l0=>
   rw[hr]at e_
   simp only at e_
   split at e_
   ·rename_i l1 n1 VA U_ p1 Vx E1 eM
    subst e_
    have hd:=hs.st.real.bf b0
    rw[eM]at hd
    cases hp:φ b0 with
    |none=>rw[hp]at hd;cases hd
    |some p0=>
     have aH:=hs.st.real.own b0 _ p0 eM hp
     simp only[Ob.at]at aH
     obtain⟨rfl,T,D,zP,U,h2,h3⟩:=aH
     refine⟨w,I,[],D,?_,hs.st,bh.refl _ _ _,by simpa using hs.bo⟩
     unfold Instr.enterLoop
     simp only[Sem.run_bind,run_newObj_alloc,Result.andThen,Sem.run_pure,run_getLoop h2]
   ·exact e_.elim
 have fE:=aL hs.env (x:= .tmp t) ew
 simp only[AV.den]at fE
 obtain⟨dw,us,kk,fH,k0⟩:=fE
 obtain⟨rec,xh⟩:∃rec:Loop,rec={state:= .ready,pending:=none,fn:=b8,tmps:=a.tmps,params:=ps.toArray,assign:=as,body:=bd,defers:=D}:=⟨_,rfl⟩
 have NJ:=nZ.vU (b:=b) FQ (by omega) (ob:= .loop rec) (o:= .lp wD.heap.size C.n .ready C.fn p ps EL) (by
  simp only[Ob.at]
  refine⟨trivial,a.tmps,D,b8,hs.bp,?_,fun i x hx=>?_⟩
  ·rw[World.alloc_heap_new,xh,hc];rfl
  ·obtain⟨u,hu,hd⟩:=hs.env i x (Aa i x hx)
   refine⟨u,hu,?_⟩
   have Au:=kD.den hd
   refine AV.jc (fun g hg=>heap_alloc_old wD _ (nZ.real.bI g hg)) (fun _ h=>h) (fun b' p' b6=>?_) (fun _ g n _ da=>(pz (fun _=>False) wD _).shaped (fun h=>h) da) x u Au
   unfold aT
   rw[if_neg (fun e=>by subst e;rw[nZ.B5 FQ]at b6;cases b6)]
   exact b6)
 obtain⟨q4,k2⟩:=NJ
 have ig:a_ C (aT φ b (some wD.heap.size)) ID E ((b,.lp wD.heap.size C.n .ready C.fn p ps EL)::H) {a with defers:=rS++a.defers} (wD.alloc (.loop rec)):=
  ⟨hM.mono k2.im k2.I,hs.bp,fun i x hx=>let⟨u,hu,hd⟩:=hs.env i x hx;⟨u,hu,k2.den (kD.den hd)⟩,q4⟩
 have tu:=(tm wD.heap.size).fC
 rw[<-xh]at e1
 refine⟨wD.heap.size,rS,wD.alloc (.loop rec),{target:= .fn (.func f) us.toArray,args:=dw.toArray++#[Value.func (.yield wD.heap.size) #[] #[]]},wD.alloc (.loop rec),f,(dw++[Value.func (.yield wD.heap.size) #[] #[]]++us).toArray,wD.alloc (.loop rec),e1,?_,fun _ _=>trivial,?_,fun h=>(by cases h),?_⟩
 ·have:(resolve a.eval (rangeCall (.tmp t) wD.heap.size) 0)=Deferred.ofValue (a.eval (.tmp t)) #[Value.func (.yield wD.heap.size) #[] #[]]:=by
   simp[resolve,Act.eval]
  rw[this,k0]
  simp only[Deferred.ofValue,Sem.run_pure]
 ·simp only[invoke]
  rw[r8 tu]
  simp
 ·have aW:AV.ab (wD.alloc (.loop rec)) (aT φ b (some wD.heap.size)) ID (fs++[Yl wD.heap.size]++aD) (dw++[Value.func (.yield wD.heap.size) #[] #[]]++us):=by
   refine AQ.kU.j7 _ _ _ _ (AQ.kU.j7 _ _ _ _ (AV.gh k2.im k2.I k2.phi k2.sh _ _ (AV.gh kD.im kD.I kD.phi kD.sh _ _ kk)) ?_) (AV.gh k2.im k2.I k2.phi k2.sh _ _ (AV.gh kD.im kD.I kD.phi kD.sh _ _ fH))
   simp only[AV.ab,AV.den,IV.den]
   exact⟨_,_,rfl,⟨rfl,rfl⟩,rfl⟩
  refine(zl ((tm wD.heap.size).run _ _ ID _ aW q4.real q4.vk)).mono fun e w3 ⟨r,H3,KZ,I3,v,hr,he,bN,th⟩=>?_
  subst he
  obtain⟨st,E',e8,bG,gl⟩:=rb _ r H3 hr
  have ry:=ig.sJ OG th (jP _ r H3 hr)
  have hd:=th.real.bf b
  rw[e8]at hd
  cases hp:KZ b with
  |none=>rw[hp]at hd;cases hd
  |some p0=>
   have aH:=th.real.own b _ p0 e8 hp
   simp only[Ob.at]at aH
   obtain⟨rfl,T,D',zP,U,h2,h3⟩:=aH
   have OH:st.state≠ .busy:=by
    cases st with
    |busy=>exact gl.elim
    |ready=>simp[fP.state]
    |done c=>simp[fP.state]
   refine⟨_,_,run_endLoop h2 OH,?_⟩
   have jR:=th.real.off b _ hp
   have NK:=ry.st.forget b bG
   obtain⟨wL,ko⟩:=NK.RB (o':= .loop {state:= .exhausted,pending:=st.qk,fn:=zP,tmps:=T,params:=ps.toArray,assign:=child 0 (bS C.fn p),body:=child 1 (bS C.fn p),defers:=D'}) h2 jR.1 (fun b' bF=>by
    simp only[fv]at bF
    by_cases e:b'=b
    ·simp[e]at bF
    ·rw[if_neg e]at bF
     exact e (th.real.inj b' b _ bF hp)) (.inr nZ.ext.size)
   have Bh:a_ C (fv KZ b) I3 (iP nb E) (dG b H3) {a with defers:=rS++a.defers} (w3.putObj wD.heap.size (.loop {state:= .exhausted,pending:=st.qk,fn:=zP,tmps:=T,params:=ps.toArray,assign:=child 0 (bS C.fn p),body:=child 1 (bS C.fn p),defers:=D'})):=
    ⟨ry.bo.mono ko.im ko.I,ry.bp,fun i x hx=>by
     obtain⟨u,hu,cP⟩:=ry.env i x hx
     exact⟨u,hu,ko.den (AV.mX (fun b' bF=>by simp[fv,bF]) x u (BT e6 E i x hx) cP)⟩,wL⟩
   cases st with
   |busy=>exact gl.elim
   |ready=>
    simp only[r4]at gl
    unfold AE at gl
    exact gl _ _ _ _ Bh
   |done c=>
    simp only[fP.qk]
    cases c with
    |ret=>
     simp only[r4]at gl
     unfold AE at gl
     exact wpIn_ret (gl _ _ _ _ Bh)
    |exit id=>
     simp only[r4]at gl
     unfold AE at gl
     exact wpIn_exit (gl _ _ _ _ Bh)
    |_=>exact gl.elim
theorem AP.yw (nb b0 b:Nat) {p:List Nat} {t:Tmp} {ps:List Tmp} {as bd:Code} {f:FuncId} {fs aD:List AV} (EL:Env) {R:Nat->AV->aa->Prop}
  (hc:bS C.fn p= .rangeFunc (.tmp t) ps.toArray as bd) (ew:lk E t=some (.fn f fs aD)) (hnb:Nat.ble C.B.nb nb=true) (Aa:Sub E EL) (e_:CQ C H b0) (hb:aE nb H=b)
  (tm:∀l,gX C.P nb f (fs++[Yl l]++aD) ((b,.lp l C.n .ready C.fn p ps EL)::H) (R l))
  (rb:∀l r H',R l r H'->dT nb ((b,.lp l C.n .ready C.fn p ps EL)::H) H'/\∃st E',lk H' b=some (.lp l C.n st C.fn p ps E')/\noMen b (dG b H')=true/\r4 C K (iP nb E) (dG b H') st):AP C p K E H:=by
 subst hb
 exact AP.range nb b0 EL hc ew hnb Aa e_ tm (fun l r H' h=>(rb l r H' h).1) (fun l r H' h=>(rb l r H' h).2)
def Qn (nb:Nat) (H H':aa):Bool:=(List.range nb).all fun b=>(lk H' b).isSome==(lk H b).isSome
theorem dT.of (nb:Nat) (H H':aa) (h:Qn nb H H'=true):dT nb H H':=fun b hb=>by
 have:=List.all_eq_true.1 h b (List.mem_range.2 hb)
 simpa using this
end
attribute [go_sem] r4
section
variable {C:Cx} {K:List PK} {E:Env} {H:aa}
theorem AQ.skip {ds:List (Nat×Nat)} {i:Nat} {o:Oper} {os:List Oper} (ah:a6 C.n (o::os)=true) (hG:gd ds E o.guard=some false) (h:vq C K os (aQ o.dst i ds) (i+1) (aS o.dst (.opt false .top) E) H):AQ C ds i (o::os) K E H:=
 AQ.qZ (dE ah).1 hG (AQ.go (dE ah).2 h)
end
attribute [go_sem] Bool.bne_false Bool.bne_true
def sb:Exit->List PK->Option (Sum (List Nat) Exit×List PK)
 | .normal,.seq q::K=>some (.inl q,K)
 | .normal,.dn _::K=>some (.inr .normal,K)
 | .normal,.sc::K=>some (.inr .normal,K)
 | .exit id,.seq _::K=>some (.inr (.exit id),K)
 | .exit id,.dn jU::K=>bif id==jU then some (.inr .normal,K)else some (.inr (.exit id),K)
 | .exit id,.sc::K=>some (.inr (.exit id),K)
 | .exit id,.lp _::K=>some (.inr (.exit id),K)
 | .ret,.seq _::K=>some (.inr .ret,K)
 | .ret,.dn _::K=>some (.inr .ret,K)
 | .ret,.sc::K=>some (.inr .ret,K)
 | .ret,.lp _::K=>some (.inr .ret,K)
 |_,_=>none
def nu (fn:Func) (p:List Nat) (K:List PK):Option (Sum (List Nat) Exit×List PK):=
 match bS fn p with
 | .seq _ _=>some (.inl (0::p),.seq (1::p)::K)
 | .block id _=>some (.inl (0::p),.dn id::K)
 | .scope _=>some (.inl (0::p),.sc::K)
 | .skip=>some (.inr .normal,K)
 | .ret=>some (.inr .ret,K)
 | .exit id=>some (.inr (.exit id),K)
 | .label _=>some (.inr .normal,K)
 |_=>none
def qh (fn:Func):Nat->Sum (List Nat) Exit->List PK->Sum (List Nat) Exit×List PK
 |0,s,K=>(s,K)
 |n+1,.inl p,K=>match nu fn p K with
  |some (s,K')=>qh fn n s K'
  |none=>(.inl p,K)
 |n+1,.inr e,K=>match sb e K with
  |some (s,K')=>qh fn n s K'
  |none=>(.inr e,K)
def rW (fn:Func) (p:List Nat) (K:List PK):Option (Sum (List Nat) Exit×List PK):=
 match nu fn p K with
 |some (s,K')=>some (qh fn 99 s K')
 |none=>none
def rV (fn:Func) (e:Exit) (K:List PK):Option (Sum (List Nat) Exit×List PK):=
 match sb e K with
 |some (s,K')=>some (qh fn 99 s K')
 |none=>none
def AS (C:Cx) (s:Sum (List Nat) Exit) (K:List PK) (E:Env) (H:aa):Prop:=match s with
 | .inl p=>AP C p K E H
 | .inr e=>AE C e K E H
section
variable {C:Cx} {K K':List PK} {E:Env} {H:aa}
theorem JX {e:Exit} {s:Sum (List Nat) Exit} (hs:sb e K=some (s,K')) (h:AS C s K' E H):AE C e K E H:=by
 unfold sb at hs
 split at hs
 all_goals first
  |(cases hs;done)
  |(cases hs;first|exact AE.seq h|exact AE.dn h|exact AE.sc h|exact AE.JB h|exact AE.Jy h|exact AE.HJ h|exact AE.JC h|exact AE.D3 h|exact AE.Jz h|exact AE.HK h)
  |skip
 rename_i id jU K0
 cases hb:(id==jU)with
 |true=>
  rw[hb]at hs
  cases hs
  have:id=jU:=by simpa using hb
  subst this
  exact AE.zh h
 |false=>
  rw[hb]at hs
  cases hs
  exact AE.zi hb h
theorem JY {p:List Nat} {s:Sum (List Nat) Exit} (hs:nu C.fn p K=some (s,K')) (h:AS C s K' E H):AP C p K E H:=by
 unfold nu at hs
 split at hs
 all_goals first
  |(cases hs;done)
  |(cases hs;rename_i hc;first|exact AP.seq hc h|exact AP.block hc h|exact AP.scope hc h|exact AP.skip hc h|exact AP.ret hc h|exact AP.exit hc h|exact AP.label hc h)
theorem yi:∀(n:Nat) (s s':Sum (List Nat) Exit) (K K':List PK),qh C.fn n s K=(s',K')->AS C s' K' E H->AS C s K E H
 |0,s,s',K,K',hs,h=>by cases hs;exact h
 |n+1,.inl p,s',K,K',hs,h=>by
  simp only[qh]at hs
  cases U:nu C.fn p K with
  |none=>rw[U]at hs;cases hs;exact h
  |some q=>
   obtain⟨s1,K1⟩:=q
   rw[U]at hs
   exact JY U (yi n s1 s' K1 K' hs h)
 |n+1,.inr e,s',K,K',hs,h=>by
  simp only[qh]at hs
  cases U:sb e K with
  |none=>rw[U]at hs;cases hs;exact h
  |some q=>
   obtain⟨s1,K1⟩:=q
   rw[U]at hs
   exact JX U (yi n s1 s' K1 K' hs h)
theorem Io {p:List Nat} {s:Sum (List Nat) Exit} (hs:rW C.fn p K=some (s,K')) (h:AS C s K' E H):AP C p K E H:=by
 unfold rW at hs
 cases U:nu C.fn p K with
 |none=>rw[U]at hs;cases hs
 |some q=>
  obtain⟨s1,K1⟩:=q
  rw[U]at hs
  exact JY U (yi 99 s1 s K1 K' (Option.some.inj hs) h)
theorem Im {e:Exit} {s:Sum (List Nat) Exit} (hs:rV C.fn e K=some (s,K')) (h:AS C s K' E H):AE C e K E H:=by
 unfold rV at hs
 cases U:sb e K with
 |none=>rw[U]at hs;cases hs
 |some q=>
  obtain⟨s1,K1⟩:=q
  rw[U]at hs
  exact JX U (yi 99 s1 s K1 K' (Option.some.inj hs) h)
theorem Tz {p p':List Nat} (hs:rW C.fn p K=some (.inl p',K')) (h:AP C p' K' E H):AP C p K E H:=Io hs h
theorem Ty {p:List Nat} {e:Exit} (hs:rW C.fn p K=some (.inr e,K')) (h:AE C e K' E H):AP C p K E H:=Io hs h
theorem Tx {p':List Nat} {e:Exit} (hs:rV C.fn e K=some (.inl p',K')) (h:AP C p' K' E H):AE C e K E H:=Im hs h
theorem Tw {e e':Exit} (hs:rV C.fn e K=some (.inr e',K')) (h:AE C e' K' E H):AE C e K E H:=Im hs h
end
attribute [go_sem] List.all_cons List.all_nil Value.oneCell'
def IZ (o:Oper):Bool:=match o.op with
 | .move _| .assign _| .pick _ _ _| .build _ _| .load _ _| .nilCheck _| .binOp _ _ _ _ _| .unOp _ _ _| .convert _ _ _| .slice _ _ _ _ _| .fieldAddr _ _ _| .field _ _ _| .indexAddr _ _ _| .index _ _ _| .extract _ _=>true
 | .call {callee:= .builtin b,.. }=>match b with
  | .len| .min| .max=>true
  |_=>false
 |_=>false
section
variable {C:Cx} {K:List PK} {E:Env} {H:aa} {p:List Nat}
end
def h_:List Nat->aa->aa
 |[],H=>H
 |b::l,H=>h_ l (dG b H)
def bW:List Nat->AV->aa->Bool
 |[],_,_=>true
 |b::l,r,H=>noMen b (dG b H)&&!(AV.men b r)&&bW l r (dG b H)
theorem qO {B:Bs} {I:Nat->Prop} {w:World} {r:AV} {v:Value}:∀(l:List Nat) (φ:ak) (H:aa),bW l r H=true->AV.den w φ I r v->St B φ I H w->∃φ',AV.den w φ' I r v/\St B φ' I (h_ l H) w
 |[],φ,H,_,hd,hS=>⟨φ,hd,hS⟩
 |b::l,φ,H,hk,hd,hS=>by
  simp only[bW,Bool.and_eq_true,Bool.not_eq_true']at hk
  exact qO l (fv φ b) (dG b H) hk.2 (AV.mX (fun b' hb=>by simp[fv,hb]) r v hk.1.2 hd) (hS.forget b hk.1.1)
section
variable {C:Cx} {E:Env} {H:aa}
theorem AE.bk (l:List Nat) {sc:Prop} {xs:List AV} (h:gT C.P E H C.fn.results.toList=some (sc,xs)) (au:sc) (hk:bW l (dA xs) H=true) (hR:C.R (dA xs) (h_ l H)):AE C .ret [] E H:=by
 unfold AE
 intro φ I a w hs
 refine hs.leave fun w' hS hE=>?_
 obtain⟨v,hv,hd⟩:=qn hE hS.real h au
 obtain⟨φ',dF,mE⟩:=qO l φ H hk hd hS
 exact⟨v,hv,dA xs,h_ l H,φ',I,v,hR,rfl,dF,mE⟩
theorem AE.MW (l:List Nat) {sc:Prop} {xs:List AV} (h:gT C.P E H C.fn.results.toList=some (sc,xs)) (au:sc) (hk:bW l (dA xs) H=true) (hR:C.R (dA xs) (h_ l H)):AE C .normal [] E H:=by
 unfold AE
 intro φ I a w hs
 refine hs.leave fun w' hS hE=>?_
 obtain⟨v,hv,hd⟩:=qn hE hS.real h au
 obtain⟨φ',dF,mE⟩:=qO l φ H hk hd hS
 exact⟨v,hv,dA xs,h_ l H,φ',I,v,hR,rfl,dF,mE⟩
theorem AE.eu {e:Exit} {K:List PK}:∀(l:List Nat) {E:Env} {H:aa},bW l .top H=true->AE C e K (l.foldl (fun E b=>killE b E) E) (h_ l H)->AE C e K E H
 |[],_,_,_,h=>h
 |b::l,E,H,hk,h=>by
  simp only[bW,Bool.and_eq_true,Bool.not_eq_true']at hk
  exact AE.forget b hk.1.1 (AE.eu l hk.2 h)
end
attribute [go_sem] h_ bW List.foldl_cons List.foldl_nil
theorem AQ.nx {C Cn:Cx} {K:List PK} {ops:List Oper} {n:Nat} {R P es:List Nat} {ts:List Tree} {ds gw:List (Nat×Nat)} {i:Nat} {E:Env} {H:aa} (hC:Cn=C.nr)
  (
   h:vR C ops H R gw E/\vP C ops H (fun ds E=>match es with
   |[]=>vq C K (ops.drop n) [] n E H
   |_::_=>kN C K ops n es ts ds E H) P gw E):
  AQ Cn ds i [] [.lp (sx C (vd C K ops n (.node R P es ts) gw)),.bot (nh C K ops)] E H:=by
 subst hC
 exact AQ.next (de h)
def kH (rows yB:List (List IV)):Prop:=∀(w:World) (I:Nat->Prop) (ae:List (List Value)),IV.aC w I rows ae->IV.aC w I yB ae
section
variable {C:Cx} {K:List PK} {E:Env} {H:aa}
end
theorem Cp {w:World} {I:Nat->Prop} {es:Nat} {u:Value} (h:IV.den w I (.v (.slice none 0 0)) u):IV.den w I (.sl es []) u:=by
 simp only[IV.den]at h⊢
 obtain⟨rfl,_⟩:=h
 exact⟨none,0,[],rfl,Nat.le_refl _,by simp[IV.aC],(fun vs h=>absurd h (List.not_mem_nil)),fun h=>absurd rfl h⟩
def vg (C:Cx) (H:aa) (k:List (Nat×Nat)->Env->Prop):List Oper->List (Nat×Nat)->Nat->Env->Prop
 |[],ds,_,E=>k ds E
 |o::os,ds,i,E=>match gd ds E o.guard with
  |none=>False
  |some G=>match o_ C.P E H o.op G with
   |none=>False
   |some (sc,v)=>(G=true->sc)/\vg C H k os (aQ o.dst i ds) (i+1) (aS o.dst (wrap o.guard G v) E)
theorem Ky {C:Cx} {ops:List Oper} {H:aa} {k:List (Nat×Nat)->Env->Prop}:∀(rest:List Oper) (ds:List (Nat×Nat)) (i:Nat) (E:Env),(∀j,rest[j]?=ops[i+j]?)->vg C H k rest ds i E->vP C ops H k (List.range' i rest.length) ds E
 |[],ds,i,E,_,h=>by simpa[vP,vg]using h
 |o::os,ds,i,E,hr,h=>by
  have h0:ops[i]?=some o:=by have:=hr 0;simpa using this.symm
  simp only[List.length_cons,List.range'_succ,vP,h0]
  simp only[vg]at h
  revert h
  cases gd ds E o.guard with
  |none=>exact fun h=>h
  |some G=>
   simp only
   cases o_ C.P E H o.op G with
   |none=>exact fun h=>h
   |some q=>
    obtain⟨sc,v⟩:=q
    simp only
    exact fun h=>⟨h.1,Ky os _ _ _ (fun j=>by have:=hr (j+1);rw[show i+1+j=i+(j+1) by omega];simpa using this) h.2⟩
def zF (n:Nat):Tree:= .node [] (List.range' 0 n) [] []
section
variable {C:Cx} {K:List PK} {E:Env} {H:aa} {p:List Nat}
theorem AP.ML {id:Nat} {ops:List Oper} (hc:bS C.fn p= .region id ops.toArray true) (Gw:ops.all IZ=true) (hq:(a6 C.n ops&&wy ops ops.length (zF ops.length)&&C.P.follows .mixedOrders)=true)
  (h:vg C H (fun _ En=>AQ C [] ops.length [] K En H) ops [] 0 E):AP C p K E H:=by
 simp only[Bool.and_eq_true]at hq
 refine AP.dh ops.length (zF ops.length) hq.2 hc hq.1.1 hq.1.2 ?_
 refine de ⟨trivial,?_⟩
 refine Ky ops [] 0 E (fun j=>by rw[Nat.zero_add]) ?_
 simp only[List.drop_length,vq]
 exact h
end
attribute [go_sem] vg
section
variable {C:Cx} {E:Env} {H:aa}
section
variable {K:List PK}
end
end
def reorder:List Nat->aa->aa
 |[],_=>[]
 |b::l,H=>match lk H b with
  |some o=>(b,o)::reorder l H
  |none=>reorder l H
def pn (ids:List Nat):aa->Bool
 |[]=>true
 |(b,_)::r=>bC ids b&&pn ids r
theorem uv:∀(l:List Nat) (b:Nat),bC l b=true->∀H:aa,lk (reorder l H) b=lk H b
 |[],b,h,H=>by simp[bC]at h
 |c::l,b,h,H=>by
  simp only[bC]at h
  simp only[reorder]
  cases hb:Nat.beq c b with
  |true=>
   have:=Nat.eq_of_beq_eq_true hb
   subst this
   cases hl:lk H c with
   |some o=>simp[lk]
   |none=>
    simp only
    cases hi:bC l c with
    |true=>rw[uv l c hi H,hl]
    |false=>exact x4 l c hi H
  |false=>
   rw[hb]at h
   simp only[cond_false]at h
   cases hl:lk H c with
   |some o=>simp only[lk,hb,cond_false];exact uv l b h H
   |none=>simp only;exact uv l b h H
where
 x4:∀(l:List Nat) (b:Nat),bC l b=false->∀H:aa,lk (reorder l H) b=none
  |[],b,_,H=>rfl
  |c::l,b,h,H=>by
   simp only[bC]at h
   cases hb:Nat.beq c b with
   |true=>rw[hb]at h;simp at h
   |false=>
    rw[hb]at h
    simp only[cond_false]at h
    simp only[reorder]
    cases hl:lk H c with
    |some o=>simp only[lk,hb,cond_false];exact x4 l b h H
    |none=>simp only;exact x4 l b h H
theorem Ey (ids:List Nat):∀(H:aa) (b:Nat),pn ids H=true->bC ids b=false->lk H b=none
 |[],b,_,_=>rfl
 |(c,o)::r,b,h,hb=>by
  simp only[pn,Bool.and_eq_true]at h
  simp only[lk]
  cases hc:Nat.beq c b with
  |true=>
   have:=Nat.eq_of_beq_eq_true hc
   subst this
   rw[h.1]at hb;cases hb
  |false=>simp only[cond_false];exact Ey ids r b h.2 hb
theorem CR {ids:List Nat} {H:aa} (h:pn ids H=true) (b:Nat):lk H b=lk (reorder ids H) b:=by
 cases hb:bC ids b with
 |true=>exact(uv ids b hb H).symm
 |false=>rw[Ey ids H b h hb,uv.x4 ids b hb H]
section
variable {C:Cx} {K:List PK} {E:Env} {H:aa}
theorem AE.order {e:Exit} (ids:List Nat) (hc:pn ids H=true) (h:AE C e K E (reorder ids H)):AE C e K E H:=AE.perm _ (CR hc) h
theorem AP.order {p:List Nat} (ids:List Nat) (hc:pn ids H=true) (h:AP C p K E (reorder ids H)):AP C p K E H:=AP.perm _ (CR hc) h
theorem AQ.order {ds:List (Nat×Nat)} {i:Nat} {rest:List Oper} (ids:List Nat) (hc:pn ids H=true) (h:AQ C ds i rest K E (reorder ids H)):AQ C ds i rest K E H:=AQ.perm _ (CR hc) h
end
attribute [go_sem] reorder Sh.lit
end Go.AL
end
section
namespace Go.AL
open Go Go.MapKept
def nE (d:TypeDesc) (ks:List Value):Prop:=∀k∈ks,IsKey d k
theorem zd {w:World} {φ:ak} {I:Nat->Prop} {cs:List AV} {us:List Value} (h:AV.ab w φ I cs us):us.length=cs.length:=gv cs us h
section
variable {P:Program} {w:World} {φ:ak} {I:Nat->Prop} {H:aa} {b:Nat} {ks:List Value} {cs:List AV}
theorem oE (hR:Real w φ I H) (hH:lk H b=some (.var (.map ks) cs)) {u:Value} (hu:AV.den w φ I (.mp b) u):
  ∃g es clock,u= .map (some g)/\φ b=some (some g)/\w.heap[g]?=some (.map es clock)/\es.toList.map (·.key)=ks/\AV.ab w φ I cs (es.toList.map (·.val))/\nD es clock:=by
 simp only[AV.den]at hu
 obtain⟨g,hg,rfl⟩:=hu
 have:=hR.own b _ _ hH hg
 simp only[Ob.at,Sh.has]at this
 obtain⟨g',us,cY,⟨es,clock,U,h2,h3,h5⟩,h4,_⟩:=this
 cases cY
 subst h3
 exact⟨g,es,clock,rfl,hg,U,h2,h4,h5⟩
end
section
variable {C:Cx} {K:List PK} {E:Env} {H:aa}
theorem rQ {d:TypeDesc} {es:Array MapEntry} {ks:List Value} {kv:Value} (cm:es.toList.map (·.key)=ks) (jN:nE d ks) (hk:IsKey d kv):
  (Instr.findNow d kv es.toList 0=some none/\kv∉ks)\/∃j e,Instr.findNow d kv es.toList 0=some (some (j,e.val))/\es.toList[j]?=some e/\e.key=kv/\ks[j]?=some kv:=by
 subst cm
 rcases findNow_spec hk es.toList 0 (fun x hx=>jN _ (List.mem_map.2 ⟨x,hx,rfl⟩))with⟨U,h2⟩|⟨j,e,U,h2,h3⟩
 ·exact .inl ⟨U,fun h=>by obtain⟨x,hx,e⟩:=List.mem_map.1 h;exact h2 x hx e⟩
 ·exact .inr ⟨j,e,by rw[Nat.zero_add]at U;exact U,h2,h3,by rw[List.getElem?_map,h2,<-h3];rfl⟩
theorem AQ.uF (j:Nat) {ds:List (Nat×Nat)} {i:Nat} {d:Option Nat} {ty t kt et:TypeId} {pos:String} {af:Array Edge} {os:List Oper} {m k:Operand} {ok:Bool} {b:Nat} {ks:List Value} {cs:List AV} {kv:Value} {x:AV} {dk:TypeDesc}
  (ah:a6 C.n ({dst:=d,op:= .lookup t m k ok,type:=ty,pos:=pos,after:=af,guard:=none}::os)=true)
  (hm:ev E m=some (.mp b)) (hk:ev E k=some (.im (.v kv))) (hH:lk H b=some (.var (.map ks) cs)) (ht:C.P.underlying t=some (.map kt et)) (hd:C.P.underlying kt=some dk)
  (jN:nE dk ks) (fl:IsKey dk kv) (bH:kv∈ks) (hj:∀i,ks[i]?=some kv->i=j) (hx:cs[j]?=some x)
  (h:vq C K os (aQ d i ds) (i+1) (aS d (bif ok then .aK [x,.im (.v (.bool true))]else x) E) H):
  AQ C ds i ({dst:=d,op:= .lookup t m k ok,type:=ty,pos:=pos,after:=af,guard:=none}::os) K E H:=by
 refine AQ.val (bif ok then .aK [x,.im (.v (.bool true))]else x) ah rfl (fun φ I a w hs=>?_) h
 obtain⟨g,es,clock,gI,hg,hh,aN,hY,kg⟩:=oE hs.st.real hH (aL hs.env hm)
 have gF:=aL hs.env hk
 simp only[AV.den,IV.den]at gF
 rcases rQ aN jN fl with⟨_,h2⟩|⟨j',e,U,h2,h3,h4⟩
 ·exact absurd bH h2
 ·have:=hj j' h4
  subst this
  obtain⟨v,hv,bN⟩:=gr cs _ j' x hY hx
  have p8:v=e.val:=by rw[List.getElem?_map,h2]at hv;cases hv;rfl
  subst p8
  have ax:(Instr.lookup t (a.eval m) (a.eval k) ok).run C.P w= .ok (if ok then .tuple #[e.val,.bool true]else e.val) w:=by
   rw[gI,gF.1]
   cases ok<;>simp[Instr.lookup,run_underlying ht,MapKept.run_getObj_map hh,run_checkKey hd fl,run_findKey hd U,Result.andThen]
  refine⟨if ok then .tuple #[e.val,.bool true]else e.val,by simp only[execOp,Sem.run_bind,Sem.run_map,ax,Result.andThen_ok,Sem.run_pure],?_⟩
  cases ok with
  |true=>simp only[cond_true,if_true,AV.den,AV.ab];exact⟨_,⟨_,_,rfl,bN,_,_,rfl,by simp only[IV.den];exact⟨trivial,rfl⟩,rfl⟩,rfl⟩
  |false=>simpa using bN
theorem AQ.B9 {ds:List (Nat×Nat)} {i:Nat} {d:Option Nat} {ty t kt et:TypeId} {pos:String} {af:Array Edge} {os:List Oper} {m k:Operand} {ok:Bool} {b:Nat} {ks:List Value} {cs:List AV} {kv z:Value} {dk:TypeDesc}
  (ah:a6 C.n ({dst:=d,op:= .lookup t m k ok,type:=ty,pos:=pos,after:=af,guard:=none}::os)=true)
  (hm:ev E m=some (.mp b)) (hk:ev E k=some (.im (.v kv))) (hH:lk H b=some (.var (.map ks) cs)) (ht:C.P.underlying t=some (.map kt et)) (hd:C.P.underlying kt=some dk)
  (jN:nE dk ks) (fl:IsKey dk kv) (bH:kv∉ks) (hz:(C.P.info? et).bind (·.zero)=some z) (iK:z.oneCell'=true)
  (h:vq C K os (aQ d i ds) (i+1) (aS d (bif ok then .aK [.im (.v z),.im (.v (.bool false))]else .im (.v z)) E) H):
  AQ C ds i ({dst:=d,op:= .lookup t m k ok,type:=ty,pos:=pos,after:=af,guard:=none}::os) K E H:=by
 refine AQ.val (bif ok then .aK [.im (.v z),.im (.v (.bool false))]else .im (.v z)) ah rfl (fun φ I a w hs=>?_) h
 obtain⟨g,es,clock,gI,hg,hh,aN,hY,kg⟩:=oE hs.st.real hH (aL hs.env hm)
 have gF:=aL hs.env hk
 simp only[AV.den,IV.den]at gF
 rcases rQ aN jN fl with⟨U,_⟩|⟨j',e,U,h2,h3,h4⟩
 ·have BD:(zeroValue et).run C.P w= .ok z w:=by
   cases hi:C.P.info? et with
   |none=>rw[hi]at hz;cases hz
   |some inf=>
    rw[hi]at hz
    simp only[Option.bind_some]at hz
    simp[zeroValue,typeInfo,hi,hz]
  have ax:(Instr.lookup t (a.eval m) (a.eval k) ok).run C.P w= .ok (if ok then .tuple #[z,.bool false]else z) w:=by
   rw[gI,gF.1]
   cases ok<;>simp[Instr.lookup,run_underlying ht,MapKept.run_getObj_map hh,run_checkKey hd fl,run_findKey hd U,BD,Result.andThen]
  refine⟨if ok then .tuple #[z,.bool false]else z,by simp only[execOp,Sem.run_bind,Sem.run_map,ax,Result.andThen_ok,Sem.run_pure],?_⟩
  cases ok with
  |true=>simp only[cond_true,if_true,AV.den,AV.ab,IV.den];exact⟨_,⟨_,_,rfl,⟨rfl,iK⟩,_,_,rfl,⟨rfl,rfl⟩,rfl⟩,rfl⟩
  |false=>simp only[cond_false,Bool.false_eq_true,if_false,AV.den,IV.den];exact⟨trivial,iK⟩
 ·exact absurd (List.mem_of_getElem? h4) bH
theorem AQ.QB {ds:List (Nat×Nat)} {i:Nat} {d:Option Nat} {ty t kt et:TypeId} {pos:String} {af:Array Edge} {os:List Oper} {m:Operand} {b:Nat} {ks:List Value} {cs:List AV}
  (ah:a6 C.n ({dst:=d,op:= .call {callee:= .builtin .len,args:=#[m],argTypes:=#[t]},type:=ty,pos:=pos,after:=af,guard:=none}::os)=true)
  (hm:ev E m=some (.mp b)) (hH:lk H b=some (.var (.map ks) cs)) (ht:C.P.underlying t=some (.map kt et))
  (h:vq C K os (aQ d i ds) (i+1) (aS d (.im (.v (.int .i64 ks.length))) E) H):
  AQ C ds i ({dst:=d,op:= .call {callee:= .builtin .len,args:=#[m],argTypes:=#[t]},type:=ty,pos:=pos,after:=af,guard:=none}::os) K E H:=by
 refine AQ.val (.im (.v (.int .i64 ks.length))) ah rfl (fun φ I a w hs=>?_) h
 obtain⟨g,es,clock,gI,hg,hh,aN,hY,kg⟩:=oE hs.st.real hH (aL hs.env hm)
 have aO:es.size=ks.length:=by rw[<-aN];simp
 have ax:(Builtin.len_ #[t] ty #[a.eval m]).run C.P w= .ok (.int .i64 es.size) w:=by
  rw[gI]
  simp[Builtin.len_,run_underlying ht,MapKept.run_getObj_map hh,Result.andThen,goInt]
 refine⟨.int .i64 es.size,by simp only[execOp,resolve,invoke,builtin,Sem.run_bind,Sem.run_pure,Result.andThen_ok,List.map_toArray,List.map_cons,List.map_nil,ax],?_⟩
 simp only[AV.den,IV.den,aO]
 exact⟨trivial,rfl⟩
end
theorem LZ {es:Array MapEntry} {clock:Nat} {k v:Value} (h:nD es clock):nD (es.push {key:=k,val:=v,born:=clock}) (clock+1):=by
 refine⟨?_,fun e he=>?_⟩
 ·rw[Array.toList_push,List.map_append,List.nodup_append]
  refine⟨h.1,by simp,fun a ha b hb=>?_⟩
  obtain⟨e,he,rfl⟩:=List.mem_map.1 ha
  have:=h.2 e he
  have hb:b=clock:=by simpa using hb
  omega
 ·rw[Array.toList_push,List.mem_append]at he
  rcases he with he|he
  ·have:=h.2 e he;omega
  ·have:e={key:=k,val:=v,born:=clock}:=by simpa using he
   rw[this];exact Nat.lt_succ_self _
theorem L0 {es cX:Array MapEntry} {clock j:Nat} {e:MapEntry} {k v:Value} (hj:es.toList[j]?=some e) (hs:cX.toList=es.toList.set j {e with key:=k,val:=v}) (h:nD es clock):nD cX clock:=by
 have hb:cX.toList.map (·.born)=es.toList.map (·.born):=by
  rw[hs,List.map_set]
  refine List.ext_getElem? fun i=>?_
  rw[List.getElem?_set]
  split
  ·rename_i ia
   subst ia
   split
   ·rw[List.getElem?_map,hj];rfl
   ·rename_i hl
    rw[List.length_map]at hl
    rw[List.getElem?_eq_none (by rw[List.length_map];omega)]
  ·rfl
 refine⟨by rw[hb];exact h.1,fun x hx=>?_⟩
 have:x.born∈cX.toList.map (·.born):=List.mem_map.2 ⟨x,hx,rfl⟩
 rw[hb]at this
 obtain⟨y,hy,e2⟩:=List.mem_map.1 this
 rw[<-e2];exact h.2 y hy
section
variable {w:World} {φ:ak} {I:Nat->Prop} {l:Nat} {es:Array MapEntry} {clock:Nat} {o':Obj}
theorem Sa (hl:w.heap[l]?=some (.map es clock)) (g n:Nat) (h:shaped w g n):shaped (w.putObj l o') g n:=by
 obtain⟨c,e,hc,hn⟩:=h
 have hg:g≠l:=fun h=>by subst h;rw[hl]at hc;cases hc
 exact⟨c,e,(World.putObj_heap_other hg).trans hc,hn⟩
theorem xV (hl:w.heap[l]?=some (.map es clock)) (hI:¬I l):bh w φ I (w.putObj l o') φ I:=
 ⟨fun g hg=>World.putObj_heap_other (fun e=>hI (e▸hg)),fun _ h=>h,fun _ _ h=>h,fun _ g n _=>Sa hl g n⟩
theorem MU {own:Nat->Prop} (hl:w.heap[l]?=some (.map es clock)) (ho:own l):Ext own w (w.putObj l o'):=
 ⟨by simp,fun g _ hn=>World.putObj_heap_other (fun e=>hn (e▸ho)),fun g c e fz hc=>⟨c,fz,(World.putObj_heap_other (fun e=>by subst e;rw[hl]at hc;cases hc)).trans hc,rfl⟩,rfl,rfl,rfl⟩
theorem St.CN {B:Bs} {H:aa} (h:St B φ I H w) {b:Nat} (hb:φ b=some (some l)) (hl:w.heap[l]?=some (.map es clock)) {l6 ob:Ob} (e8:lk H b=some l6) (aH:ob.at (w.putObj l o') φ I (some l)):
  St B φ I (bt H b ob) (w.putObj l o')/\bh w φ I (w.putObj l o') φ I:=by
 have hI:¬I l:=(h.real.off b l hb).1
 have k:bh w φ I (w.putObj l o') φ I:=xV hl hI
 refine⟨⟨⟨fun b'=>?_,fun b' o p aA hp=>?_,fun b' g hp=>?_,h.real.inj,fun g hg=>?_⟩,h.ext.trans (MU (own:=fun g=>g=l) hl rfl) (fun g hg=>by subst hg;exact h.bU b _ hb),h.bU,h.cN,h.cd,fun b' p o ag h0 aA=>?_⟩,k⟩
 ·by_cases ai:b'=b
  ·subst ai;rw[gQ H b' _ e8,hb];rfl
  ·rw[eH H b b' _ ai];exact h.real.bf b'
 ·by_cases ai:b'=b
  ·subst ai
   rw[gQ H b' _ e8]at aA;cases aA
   rw[hb]at hp;cases hp
   exact aH
  ·rw[eH H b b' _ ai]at aA
   exact Ob.ja k.im k.I k.phi k.sh (fun g hg=>World.putObj_heap_other (fun e=>by subst e;subst hg;exact ai (h.real.inj b' b g hp hb))) (h.real.own b' o p aA hp)
 ·have:=h.real.off b' g hp
  exact⟨this.1,by simpa using this.2⟩
 ·have:=h.real.bI g hg
  simpa using this
 ·by_cases ai:b'=b
  ·subst ai;exact h.cu b' p l6 ag h0 e8
  ·rw[eH H b b' _ ai]at aA;exact h.cu b' p o ag h0 aA
end
theorem EK {w:World} {φ:ak} {I:Nat->Prop} {x:AV} {u:Value} (hx:AV.den w φ I x u):∀(cs:List AV) (us:List Value),AV.ab w φ I cs us->AV.ab w φ I (cs++[x]) (us++[u])
 |[],us,h=>by simp only[AV.ab]at h;subst h;simp only[List.nil_append,AV.ab];exact⟨u,[],rfl,hx,rfl⟩
 |y::cs,us,h=>by
  simp only[AV.ab]at h
  obtain⟨v,vs,rfl,U,h2⟩:=h
  simp only[List.cons_append,AV.ab]
  exact⟨v,_,rfl,U,EK hx cs vs h2⟩
theorem EI {w:World} {φ:ak} {I:Nat->Prop} {x:AV} {u:Value} (hx:AV.den w φ I x u):∀(cs:List AV) (us:List Value) (j:Nat),AV.ab w φ I cs us->AV.ab w φ I (cs.set j x) (us.set j u)
 |[],us,j,h=>by simp only[AV.ab]at h;subst h;simp[AV.ab]
 |y::cs,us,0,h=>by
  simp only[AV.ab]at h
  obtain⟨v,vs,rfl,U,h2⟩:=h
  simp only[List.set_cons_zero,AV.ab]
  exact⟨u,vs,rfl,hx,h2⟩
 |y::cs,us,j+1,h=>by
  simp only[AV.ab]at h
  obtain⟨v,vs,rfl,U,h2⟩:=h
  simp only[List.set_cons_succ,AV.ab]
  exact⟨v,_,rfl,U,EI hx cs vs j h2⟩
section
variable {C:Cx} {K:List PK} {E:Env} {H:aa}
theorem AQ.Cb {ds:List (Nat×Nat)} {i:Nat} {d:Option Nat} {ty t:TypeId} {pos:String} {af:Array Edge} {os:List Oper}
  (ah:a6 C.n ({dst:=d,op:= .makeMap t none,type:=ty,pos:=pos,after:=af,guard:=none}::os)=true)
  (h:vq C K os (aQ d i ds) (i+1) (aS d (.mp (aE C.B.nb H)) E) ((aE C.B.nb H,.var (.map []) [])::H)):
  AQ C ds i ({dst:=d,op:= .makeMap t none,type:=ty,pos:=pos,after:=af,guard:=none}::os) K E H:=by
 obtain⟨hd,b9⟩:=dE ah
 have bm:=AQ.go b9 h
 unfold AQ at bm⊢
 refine AO.step fun ops φ I a w aM _ hs Kn bB=>?_
 have pX:=fZ C.B.nb H
 obtain⟨U,h2⟩:=hs.st.vU (ob:= .map #[] 0) (o:= .var (.map []) []) (jZ C.B.nb H) pX.1 (by
  simp only[Ob.at,Sh.has,Sh.one,AV.ab]
  exact⟨_,[],rfl,⟨#[],0,by simpa using fQ w _,rfl,rfl,List.nodup_nil,fun _ h=>by cases h⟩,rfl,trivial⟩)
 rw[if_pos (by simp[Region.wanted])]
 unfold Oper.wp
 have ax:(execOp a.eval {dst:=d,op:= .makeMap t none,type:=ty,pos:=pos,after:=af,guard:=none}).run C.P w= .ok (.value (.map (some w.heap.size))) (w.alloc (.map #[] 0)):=by
  have OE:(Instr.makeMap t none).run C.P w= .ok (.map (some w.heap.size)) (w.alloc (.map #[] 0)):=rfl
  simp only[execOp,Option.map_none,Sem.run_bind,Sem.run_map,OE,Result.andThen_ok,Sem.run_pure]
 rw[ax,Oper.upon_value]
 exact bB _ _ _ I _ _ bm (hs.put U h2 hd (by simp only[AV.den,aT];exact⟨_,by simp,rfl⟩))
theorem AQ.Cc {ds:List (Nat×Nat)} {i:Nat} {ty t kt et:TypeId} {pos:String} {af:Array Edge} {os:List Oper} {m k x:Operand} {b:Nat} {ks:List Value} {cs:List AV} {kv:Value} {xv:AV} {dk:TypeDesc}
  (ah:a6 C.n ({dst:=none,op:= .mapUpdate t m k x,type:=ty,pos:=pos,after:=af,guard:=none}::os)=true)
  (hm:ev E m=some (.mp b)) (hk:ev E k=some (.im (.v kv))) (hx:ev E x=some xv) (hH:lk H b=some (.var (.map ks) cs)) (ht:C.P.underlying t=some (.map kt et)) (hd:C.P.underlying kt=some dk)
  (jN:nE dk ks) (fl:IsKey dk kv) (bH:kv∉ks)
  (h:vq C K os ds (i+1) E (bt H b (.var (.map (ks++[kv])) (cs++[xv])))):
  AQ C ds i ({dst:=none,op:= .mapUpdate t m k x,type:=ty,pos:=pos,after:=af,guard:=none}::os) K E H:=by
 obtain⟨fG,b9⟩:=dE ah
 have bm:=AQ.go b9 h
 unfold AQ at bm⊢
 refine AO.step fun ops φ I a w aM _ hs Kn bB=>?_
 obtain⟨g,es,clock,gI,hg,hh,aN,hY,kg⟩:=oE hs.st.real hH (aL hs.env hm)
 have gF:=aL hs.env hk
 simp only[AV.den,IV.den]at gF
 have jq:=aL hs.env hx
 rcases rQ aN jN fl with⟨U,_⟩|⟨j',e,U,h2,h3,h4⟩
 ·rw[if_pos (by simp[Region.wanted])]
  unfold Oper.wp
  have ag:g<w.heap.size:=(hs.st.real.off b g hg).2
  have ax:(Instr.mapUpdate t (a.eval m) (a.eval k) (a.eval x)).run C.P w= .ok () (w.putObj g (.map (es.push {key:=kv,val:=a.eval x,born:=clock}) (clock+1))):=by
   rw[gI,gF.1]
   simp[Instr.mapUpdate,run_underlying ht,MapKept.run_getObj_map hh,run_checkKey hd fl,run_findKey hd U,MapKept.run_setObj_map _ hh,Result.andThen,World.putObj]
  have Bf:(execOp a.eval {dst:=none,op:= .mapUpdate t m k x,type:=ty,pos:=pos,after:=af,guard:=none}).run C.P w= .ok .skip (w.putObj g (.map (es.push {key:=kv,val:=a.eval x,born:=clock}) (clock+1))):=by
   simp only[execOp,Sem.run_bind,Sem.run_map,ax,Result.andThen_ok,Sem.run_pure]
  rw[Bf,Oper.upon_skip]
  obtain⟨hS,tF⟩:=hs.st.CN (o':= .map (es.push {key:=kv,val:=a.eval x,born:=clock}) (clock+1)) (ob:= .var (.map (ks++[kv])) (cs++[xv])) hg hh hH (by
   simp only[Ob.at,Sh.has,Sh.one]
   refine⟨g,es.toList.map (·.val)++[a.eval x],rfl,⟨_,_,World.putObj_heap_same ag,by simp[aN],by simp,LZ kg⟩,?_,trivial⟩
   have hK:=xV (φ:=φ) (o':= .map (es.push {key:=kv,val:=a.eval x,born:=clock}) (clock+1)) hh (hs.st.real.off b g hg).1
   exact AV.gh hK.im hK.I hK.phi hK.sh _ _ (EK jq cs _ hY))
  exact bB _ _ φ I _ _ bm (hs.put hS tF fG (v:= .top) (by simp only[AV.den]))
 ·exact absurd (List.mem_of_getElem? h4) bH
theorem AQ.QC (j:Nat) {ds:List (Nat×Nat)} {i:Nat} {ty t kt et:TypeId} {pos:String} {af:Array Edge} {os:List Oper} {m k x:Operand} {b:Nat} {ks:List Value} {cs:List AV} {kv:Value} {xv:AV} {dk:TypeDesc}
  (ah:a6 C.n ({dst:=none,op:= .mapUpdate t m k x,type:=ty,pos:=pos,after:=af,guard:=none}::os)=true)
  (hm:ev E m=some (.mp b)) (hk:ev E k=some (.im (.v kv))) (hx:ev E x=some xv) (hH:lk H b=some (.var (.map ks) cs)) (ht:C.P.underlying t=some (.map kt et)) (hd:C.P.underlying kt=some dk)
  (jN:nE dk ks) (fl:IsKey dk kv) (bH:kv∈ks) (hj:∀i,ks[i]?=some kv->i=j)
  (h:vq C K os ds (i+1) E (bt H b (.var (.map ks) (cs.set j xv)))):
  AQ C ds i ({dst:=none,op:= .mapUpdate t m k x,type:=ty,pos:=pos,after:=af,guard:=none}::os) K E H:=by
 obtain⟨fG,b9⟩:=dE ah
 have bm:=AQ.go b9 h
 unfold AQ at bm⊢
 refine AO.step fun ops φ I a w aM _ hs Kn bB=>?_
 obtain⟨g,es,clock,gI,hg,hh,aN,hY,kg⟩:=oE hs.st.real hH (aL hs.env hm)
 have gF:=aL hs.env hk
 simp only[AV.den,IV.den]at gF
 have jq:=aL hs.env hx
 rcases rQ aN jN fl with⟨_,h2⟩|⟨j',e,U,h2,h3,h4⟩
 ·exact absurd bH h2
 ·have:=hj j' h4
  subst this
  rw[if_pos (by simp[Region.wanted])]
  unfold Oper.wp
  have ag:g<w.heap.size:=(hs.st.real.off b g hg).2
  have fk:es[j']?=some e:=by simpa using h2
  have ax:(Instr.mapUpdate t (a.eval m) (a.eval k) (a.eval x)).run C.P w= .ok () (w.putObj g (.map (es.modify j' fun e=>{e with key:=kv,val:=a.eval x}) clock)):=by
   rw[gI,gF.1]
   simp[Instr.mapUpdate,run_underlying ht,MapKept.run_getObj_map hh,run_checkKey hd fl,run_findKey hd U,fk,h3,run_keyThatStays fl,MapKept.run_setObj_map _ hh,Result.andThen,World.putObj]
  have Bf:(execOp a.eval {dst:=none,op:= .mapUpdate t m k x,type:=ty,pos:=pos,after:=af,guard:=none}).run C.P w= .ok .skip (w.putObj g (.map (es.modify j' fun e=>{e with key:=kv,val:=a.eval x}) clock)):=by
   simp only[execOp,Sem.run_bind,Sem.run_map,ax,Result.andThen_ok,Sem.run_pure]
  rw[Bf,Oper.upon_skip]
  have AY:(es.modify j' fun e=>{e with key:=kv,val:=a.eval x}).toList=es.toList.set j' {e with key:=kv,val:=a.eval x}:=by
   rw[Array.toList_modify]
   exact HT h2
  obtain⟨hS,tF⟩:=hs.st.CN (o':= .map (es.modify j' fun e=>{e with key:=kv,val:=a.eval x}) clock) (ob:= .var (.map ks) (cs.set j' xv)) hg hh hH (by
   simp only[Ob.at,Sh.has,Sh.one]
   refine⟨g,(es.toList.map (·.val)).set j' (a.eval x),rfl,⟨_,_,World.putObj_heap_same ag,?_,?_,L0 h2 AY kg⟩,?_,trivial⟩
   ·rw[AY,List.map_set,aN]
    exact JE h4
   ·rw[AY,List.map_set]
   ·have hK:=xV (φ:=φ) (o':= .map (es.modify j' fun e=>{e with key:=kv,val:=a.eval x}) clock) hh (hs.st.real.off b g hg).1
    exact AV.gh hK.im hK.I hK.phi hK.sh _ _ (EI jq cs _ j' hY))
  exact bB _ _ φ I _ _ bm (hs.put hS tF fG (v:= .top) (by simp only[AV.den]))
where
 HT {α:Type} {f:α->α} {x:α}:∀{l:List α} {j:Nat},l[j]?=some x->l.modify j f=l.set j (f x)
  |[],_,h=>by simp at h
  |y::l,0,h=>by simp at h;subst h;rfl
  |y::l,j+1,h=>by simp only[List.getElem?_cons_succ]at h;simp only[List.modify_succ_cons,List.set_cons_succ];rw[HT h]
 JE {α:Type} {x:α}:∀{l:List α} {j:Nat},l[j]?=some x->l.set j x=l
  |[],_,h=>by simp at h
  |y::l,0,h=>by simp at h;subst h;rfl
  |y::l,j+1,h=>by simp only[List.getElem?_cons_succ]at h;simp only[List.set_cons_succ];rw[JE h]
end
section
variable {C:Cx} {K:List PK} {E:Env} {H:aa}
end
end Go.AL
end
section
namespace Go.AL
open Go
theorem St.RH {B:Bs} {φ:ak} {I:Nat->Prop} {H:aa} {w:World} (h:St B φ I H w) {b:Nat} {o o':Ob} (hl:lk H b=some o) (hd:∀p,φ b=some p->o.at w φ I p->o'.at w φ I p):
  St B φ I (bt H b o') w:=by
 refine⟨⟨fun b'=>?_,fun b' o2 p aA hp=>?_,h.real.off,h.real.inj,h.real.bI⟩,h.ext,h.bU,h.cN,h.cd,fun b' p o2 ag h0 aA=>?_⟩
 ·by_cases ai:b'=b
  ·subst ai;rw[gQ H b' _ hl,h.real.bf b',hl];rfl
  ·rw[eH H b b' _ ai];exact h.real.bf b'
 ·by_cases ai:b'=b
  ·subst ai
   rw[gQ H b' _ hl]at aA
   cases aA
   exact hd p hp (h.real.own b' _ p hl hp)
  ·rw[eH H b b' _ ai]at aA;exact h.real.own b' o2 p aA hp
 ·by_cases ai:b'=b
  ·subst ai;exact h.cu b' p _ ag h0 hl
  ·rw[eH H b b' _ ai]at aA;exact h.cu b' p o2 ag h0 aA
theorem St.fU {B:Bs} {φ:ak} {I:Nat->Prop} {H H':aa} {w:World} (h:St B φ I H w) (he:∀b,lk H b=lk H' b):St B φ I H' w:=
 ⟨⟨fun b=>by rw[h.real.bf b,he b],fun b o p hl hp=>h.real.own b o p ((he b).trans hl) hp,h.real.off,h.real.inj,h.real.bI⟩,h.ext,h.bU,h.cN,h.cd,fun b p o ag h0 hl=>h.cu b p o ag h0 ((he b).trans hl)⟩
section
variable {C:Cx} {K:List PK} {E:Env} {H:aa}
theorem AE.fU {e:Exit} (H':aa) (he:∀b,lk H b=lk H' b) (h:AE C e K E H'):AE C e K E H:=by
 unfold AE at h⊢
 exact fun φ I a w hs=>h _ _ _ _ ⟨hs.bo,hs.bp,hs.env,hs.st.fU he⟩
theorem AP.fU {p:List Nat} (H':aa) (he:∀b,lk H b=lk H' b) (h:AP C p K E H'):AP C p K E H:=by
 unfold AP at h⊢
 exact fun φ I a w hs=>h _ _ _ _ ⟨hs.bo,hs.bp,hs.env,hs.st.fU he⟩
theorem AQ.fU {ds:List (Nat×Nat)} {i:Nat} {rest:List Oper} (H':aa) (he:∀b,lk H b=lk H' b) (h:AQ C ds i rest K E H'):AQ C ds i rest K E H:=by
 unfold AQ at h⊢
 exact fun ops U h2 φ I a w hs=>h ops U h2 _ _ _ _ ⟨hs.bo,hs.bp,hs.env,hs.st.fU he⟩
end
section
variable {C:Cx} {K:List PK} {E:Env} {H:aa}
end
end Go.AL
end
section
namespace Go.AL
open Go
variable {es:Nat} {el:TypeId}
section
variable {C:Cx} {K:List PK} {E:Env}
end
end Go.AL
end
section
namespace Go.AL
open Go
section
variable {C:Cx} {K:List PK} {E:Env} {H:aa}
theorem EB {Hc:aa}:∀(m:List (Nat×Nat)),(∀b c,(b,c)∈m->(lk Hc b).isSome=true)->bZ Hc m=[]
 |[],_=>rfl
 |(b,c)::r,h=>by
  have U:=h b c (by simp)
  obtain⟨o,ho⟩:=Option.isSome_iff_exists.1 U
  simp only[bZ,ho]
  exact EB r fun b' c' hb=>h b' c' (by simp[hb])
theorem Hr:∀(m:List (Nat×Nat)) (b c:Nat),(b,c)∈m->(lk m b).isSome=true
 |[],_,_,h=>by cases h
 |(b',c')::r,b,c,h=>by
  simp only[lk]
  cases hb:Nat.beq b' b with
  |true=>rfl
  |false=>
   rcases List.mem_cons.1 h with h|h
   ·cases h;simp at hb
   ·simpa using Hr r b c h
theorem AQ.wa (m:List (Nat×Nat)) {ds:List (Nat×Nat)} {i:Nat} {d:Option Nat} {ty:TypeId} {pos:String} {af:Array Edge} {os:List Oper} {aZ:Operand} {f:FuncId} {fs aD:List AV} {xs:List Operand} {aP:Array TypeId} {l fy:List AV} {Hc:aa} {r:AV}
  (ah:a6 C.n ({dst:=d,op:= .call {callee:= .value aZ,args:=xs.toArray,argTypes:=aP},type:=ty,pos:=pos,after:=af,guard:=none}::os)=true)
  (ew:ev E aZ=some (.fn f fs aD)) (hl:di E xs=some l) (cZ:gs l=true)
  (jj:ec m=kA Hc) (gn:fb (ec m)=true) (jn:fb (iy m)=true) (jo:∀k,iU (a8 m k) H Hc)
  (cE:∀k,AV.cy (a8 m k) fy=fs++l.map AV.st++aD) (hr:∀k,AV.rn (a8 m k) r=r) (hc:al C.P f fy Hc (fun r' H'=>H'=Hc/\r'=r))
  (h:vq C K os (aQ d i ds) (i+1) (aS d r E) H):
  AQ C ds i ({dst:=d,op:= .call {callee:= .value aZ,args:=xs.toArray,argTypes:=aP},type:=ty,pos:=pos,after:=af,guard:=none}::os) K E H:=by
 have hH:Hand m (aE C.B.nb H) H Hc:=⟨jj,gn,jn,jo _,fun b o hb=>by have:=mZ H b o hb;have:=(fZ C.B.nb H).2;omega⟩
 refine AQ.kU m ah ew hl cZ jj gn jn (jo _) (cE _) hc fun r' H1 ⟨e1,e2⟩=>?_
 subst e1;subst e2
 have N4:bZ H1 m=[]:=EB m fun b c hb=>by rw[<-hH.bf];exact Hr m b c hb
 rw[N4,hr]
 refine⟨rfl,AQ.fU H (fun c=>?_) (AQ.go (dE ah).2 h)⟩
 rcases Nat.lt_or_ge c (aE C.B.nb H)with ag|e7
 ·rw[hH.x3 ag]
  cases hi:c6 m c with
  |none=>rfl
  |some b=>
   obtain⟨o,U,h2⟩:=hH.get (hH.rG hi)
   simp only[U,h2,Option.map_some]
 ·obtain⟨b,rfl⟩:=Nat.exists_eq_add_of_le e7
  rw[hH.BZ b]
  have hn:lk H (aE C.B.nb H+b)=none:=by
   cases hq:lk H (aE C.B.nb H+b)with
   |none=>rfl
   |some o=>have:=hH.fresh _ _ hq;omega
  rw[hn]
  cases hm:lk m b with
  |some c=>rfl
  |none=>
   have:=hH.bf b
   rw[hm]at this
   cases hq:lk H1 b with
   |none=>rfl
   |some o=>rw[hq]at this;cases this
end
section
variable {C:Cx} {K:List PK} {E:Env} {H:aa}
theorem AP.cut {p:List Nat} {α:Type} (LE:α->Env) (LH:α->aa) (ok:α->Prop) (h:AP C p (.lp (qz C LE LH ok (fun _=>0) 1)::K) E H) (h':∀q,ok q->AE C .normal K (LE q) (LH q)):AP C p K E H:=by
 unfold AP at h⊢
 unfold AE at h'
 intro φ I a w hs
 refine wpIn_mono (h φ I a w hs) (fun e a w hq=>?_)
 cases e with
 |normal=>
  obtain⟨q,U,_,aU,I1,h2⟩:=hq
  exact h' q U aU I1 a w h2
 |_=>exact hq
theorem AE.meet {α:Type} {LE:α->Env} {LH:α->aa} {ok:α->Prop} (q:α) (ah:ok q) (hE:Sub E (LE q)) (hH:H=LH q):
  AE C .normal (.lp (qz C LE LH ok (fun _=>0) 1)::K) E H:=AE.round q ah (Nat.lt_succ_self 0) hE hH
def ct (cs cs':List AV):Prop:=∀(w:World) (φ:ak) (I:Nat->Prop) (us:List Value),AV.ab w φ I cs us->AV.ab w φ I cs' us
theorem ct.refl (cs:List AV):ct cs cs:=fun _ _ _ _ h=>h
theorem ct.cons {x:AV} {cs cs':List AV} (h:ct cs cs'):ct (x::cs) (x::cs'):=fun w φ I us hd=>by
 simp only[AV.ab]at hd⊢
 obtain⟨u,aj,e,U,h2⟩:=hd
 exact⟨u,aj,e,U,h w φ I aj h2⟩
theorem ct.nil {es:Nat} {cs cs':List AV} (h:ct cs cs'):ct (.im (.v (.slice none 0 0))::cs) (.im (.sl es [])::cs'):=fun w φ I us hd=>by
 simp only[AV.ab]at hd⊢
 obtain⟨u,aj,e,U,h2⟩:=hd
 exact⟨u,aj,e,by simp only[AV.den]at U⊢;exact Cp U,h w φ I aj h2⟩
theorem St.eQ {B:Bs} {φ:ak} {I:Nat->Prop} {H:aa} {w:World} (h:St B φ I H w) {b:Nat} {e:Sh} {cs cs':List AV} (hl:lk H b=some (.var e cs)) (hc:ct cs cs'):St B φ I (bt H b (.var e cs')) w:=
 h.RH hl fun p _ ho=>by
  simp only[Ob.at]at ho⊢
  obtain⟨g,us,U,h2,h3,h4⟩:=ho
  exact⟨g,us,U,h2,hc w φ I us h3,h4⟩
theorem AE.eQ {e:Exit} (b:Nat) (cs':List AV) {s:Sh} {cs:List AV} (hl:lk H b=some (.var s cs)) (hc:ct cs cs') (h:AE C e K E (bt H b (.var s cs'))):AE C e K E H:=by
 unfold AE at h⊢
 exact fun φ I a w hs=>h _ _ _ _ ⟨hs.bo,hs.bp,hs.env,hs.st.eQ hl hc⟩
theorem AP.eQ {p:List Nat} (b:Nat) (cs':List AV) {s:Sh} {cs:List AV} (hl:lk H b=some (.var s cs)) (hc:ct cs cs') (h:AP C p K E (bt H b (.var s cs'))):AP C p K E H:=by
 unfold AP at h⊢
 exact fun φ I a w hs=>h _ _ _ _ ⟨hs.bo,hs.bp,hs.env,hs.st.eQ hl hc⟩
end
section
variable {C:Cx} {K:List PK} {E:Env} {H:aa}
theorem AQ.step1 (x:AV) (H':aa) {ds:List (Nat×Nat)} {i:Nat} {o:Oper} {os:List Oper} (ah:a6 C.n (o::os)=true) (hg:o.guard=none)
  (hex:∀φ I a w,a_ C φ I E H a w->∃u w' φ' I',(execOp a.eval o).run C.P w= .ok (.value u) w'/\AV.den w' φ' I' x u/\St C.B φ' I' H' w'/\bh w φ I w' φ' I')
  (h:vq C K os (aQ o.dst i ds) (i+1) (aS o.dst x E) H'):AQ C ds i (o::os) K E H:=by
 obtain⟨hd,b9⟩:=dE ah
 have bm:=AQ.go b9 h
 unfold AQ at bm⊢
 refine AO.step (o:=o) fun ops φ I a w aM _ hs Kn bB=>?_
 have hw:Region.wanted o (yielded ops a.tmps)=true:=by simp[Region.wanted,hg]
 rw[if_pos hw]
 obtain⟨u,w',φ',I',ax,aW,hS,hK⟩:=hex φ I a w hs
 unfold Oper.wp
 rw[ax,Oper.upon_value]
 exact bB _ _ φ' I' _ _ bm (hs.put hS hK hd aW)
def Dk (C:Cx) (K:List PK):Nat->List Oper->List (Nat×Nat)->Nat->Env->aa->Prop
 |0,os,ds,i,E,H=>AQ C ds i os K E H
 |_+1,[],ds,i,E,H=>AQ C ds i [] K E H
 |n+1,o::os,ds,i,E,H=>match gd ds E o.guard with
  |none=>AQ C ds i (o::os) K E H
  |some G=>match gf C.P E H o.op with
   |some (sc,v)=>(G=true->sc)/\Dk C K n os (aQ o.dst i ds) (i+1) (aS o.dst (wrap o.guard G v) E) H
   |none=>match o.guard with
    |some _=>AQ C ds i (o::os) K E H
    |none=>match ml C.P C.B.nb C.ob E H o with
     |some (sc,v,H')=>sc/\Dk C K n os (aQ o.dst i ds) (i+1) (aS o.dst v E) H'
     |none=>AQ C ds i (o::os) K E H
end
attribute [go_sem] Dk
def rL (φ:ak) (I:Nat->Prop) (g:Nat):Prop:=I g\/∃b,φ b=some (some g)
def j6 (H:aa) (x:AV) (y:IV):Prop:=∀(w:World) (φ:ak) (I:Nat->Prop),Real w φ I H->∀u,AV.den w φ I x u->IV.den w (rL φ I) y u
def o4 (H:aa) (xs:List AV) (ys:List IV):Prop:=∀(w:World) (φ:ak) (I:Nat->Prop),Real w φ I H->∀us,AV.ab w φ I xs us->IV.ab w (rL φ I) ys us
def lA (H:aa) (x y:AV):Prop:=∀(w:World) (φ:ak) (I:Nat->Prop),Real w φ I H->∀u,AV.den w φ I x u->AV.den w (fun _=>none) (rL φ I) y u
def nF (H:aa) (xs ys:List AV):Prop:=∀(w:World) (φ:ak) (I:Nat->Prop),Real w φ I H->∀us,AV.ab w φ I xs us->AV.ab w (fun _=>none) (rL φ I) ys us
theorem o4.nil {H:aa}:o4 H [] []:=fun _ _ _ _ us h=>by simpa only[AV.ab,IV.ab]using h
theorem o4.cons {H:aa} {x:AV} {y:IV} {xs:List AV} {ys:List IV} (h:j6 H x y) (h':o4 H xs ys):o4 H (x::xs) (y::ys):=fun w φ I hR us hd=>by
 simp only[AV.ab]at hd
 obtain⟨u,aj,rfl,U,h2⟩:=hd
 simp only[IV.ab]
 exact⟨u,aj,rfl,h w φ I hR u U,h' w φ I hR aj h2⟩
theorem nF.nil {H:aa}:nF H [] []:=fun _ _ _ _ us h=>by simpa only[AV.ab]using h
theorem nF.cons {H:aa} {x y:AV} {xs ys:List AV} (h:lA H x y) (h':nF H xs ys):nF H (x::xs) (y::ys):=fun w φ I hR us hd=>by
 simp only[AV.ab]at hd⊢
 obtain⟨u,aj,rfl,U,h2⟩:=hd
 exact⟨u,aj,rfl,h w φ I hR u U,h' w φ I hR aj h2⟩
theorem j6.im {H:aa} (x:IV):j6 H (.im x) x:=fun w φ I hR u hd=>by
 simp only[AV.den]at hd
 exact IV.lG (fun _ _ _ _ h=>h) (fun g hg=> .inl hg) x u hd
theorem lA.of {H:aa} {x:AV} {y:IV} (h:j6 H x y):lA H x (.im y):=fun w φ I hR u hd=>by
 simp only[AV.den];exact h w φ I hR u hd
theorem lA.im {H:aa} (x:IV):lA H (.im x) (.im x):=lA.of (j6.im x)
theorem lA.agg {H:aa} {xs ys:List AV} (h:nF H xs ys):lA H (.agg xs) (.agg ys):=fun w φ I hR u hd=>by
 simp only[AV.den]at hd⊢
 obtain⟨us,U,h2⟩:=hd
 exact⟨us,h w φ I hR us U,h2⟩
theorem lA.fn {H:aa} {f:FuncId} {xs ys as bs:List AV} (h:nF H xs ys) (h':nF H as bs):lA H (.fn f xs as) (.fn f ys bs):=fun w φ I hR u hd=>by
 simp only[AV.den]at hd⊢
 obtain⟨us,vs,U,h2,h3⟩:=hd
 exact⟨us,vs,h w φ I hR us U,h' w φ I hR vs h2,h3⟩
theorem j6.os {H:aa} {b es i n:Nat} {el:TypeId} {rows:List (List IV)} (hl:lk H b=some (.vec el es rows)) (hn:i+n<=rows.length):j6 H (.os b es i n) (.sl es ((rows.drop i).take n)):=fun w φ I hR u hd=>by
 obtain⟨p,hp⟩:∃p,φ b=some p:=by
  have:=hR.bf b
  rw[hl]at this
  cases hq:φ b with
  |none=>rw[hq]at this;cases this
  |some p=>exact⟨p,rfl⟩
 have aH:=hR.own b _ p hl hp
 simp only[Ob.at]at aH
 have hb:(φ b=some none/\rows=[])\/∃g ae,φ b=some (some g)/\rL φ I g/\IV.aC w I rows ae/\(∀vs∈ae,vs.length=es)/\cr w g 0 ae.flatten:=by
  rcases aH with⟨rfl,hr⟩|⟨g,ae,rest,rfl,b5,hd,tJ⟩
  ·exact .inl ⟨hp,hr⟩
  ·refine .inr ⟨g,ae,hp,.inr ⟨b,hp⟩,hd,tJ,fun j u hu=>?_⟩
   have ag:j<ae.flatten.length:=by
    rcases Nat.lt_or_ge j ae.flatten.length with h|h
    ·exact h
    ·rw[List.getElem?_eq_none h]at hu;cases hu
   simp only[World.cell?,b5,Option.isSome_none,Bool.false_eq_true,if_false,List.getElem?_toArray,Nat.zero_add]
   rw[List.getElem?_append_left ag];exact hu
 have:=qX (φ':=φ) (I':=rL φ I) (b:=b) (es:=es) (rows:=rows) (fun _ _=>rfl) (fun g hg=> .inl hg) hb (.os b es i n) u (by simpa[gj]using hn) hd
 simpa[fj,AV.den]using this
theorem j6.ob {H:aa} {b:Nat} {e:TypeId} {cs:List AV} {ys:List IV} (o:Nat) (hl:lk H b=some (.var (.cell e) cs)) (hc:o4 H cs ys):j6 H (.ob b o) (.pt (ys.drop o)):=fun w φ I hR u hd=>by
 simp only[AV.den]at hd
 obtain⟨g,hg,rfl⟩:=hd
 have aH:=hR.own b _ _ hl hg
 simp only[Ob.at,Sh.has]at aH
 obtain⟨g',us,cY,b5,aM,_⟩:=aH
 cases cY
 simp only[IV.den]
 refine⟨g,o,us.drop o,rfl,.inr ⟨b,hg⟩,rF o _ _ (hc w φ I hR us aM),fun j u hj=>?_⟩
 rw[List.getElem?_drop]at hj
 simp only[World.cell?,b5,Option.isSome_none,Bool.false_eq_true,if_false,List.getElem?_toArray]
 exact hj
theorem j6.l6 {H:aa} {b:Nat} {e:TypeId} {cs:List AV} {ys:List IV} (hl:lk H b=some (.var (.cell e) cs)) (hc:o4 H cs ys):j6 H (.ob b 0) (.pt ys):=j6.ob 0 hl hc
def IV.plain:IV->Bool
 | .v _=>true
 | .sl _ []=>true
 |_=>false
def IV.yn:List IV->Bool
 |[]=>true
 |x::xs=>x.plain&&IV.yn xs
def RW (rows:List (List IV)):Prop:=∀r∈rows,IV.yn r=true
mutual
def AV.plain:AV->Bool
 | .im x=>x.plain
 | .ar xs=>IV.yn xs
 | .agg xs=>AV.ql xs
 | .aK xs=>AV.ql xs
 | .fn _ xs ys=>AV.ql xs&&AV.ql ys
 | .opt _ x=>AV.plain x
 | .wr _ x=>AV.plain x
 |_=>true
def AV.ql:List AV->Bool
 |[]=>true
 |x::xs=>AV.plain x&&AV.ql xs
end
def Ob.plain:Ob->Prop
 | .var _ cs=>AV.ql cs=true
 | .vec _ _ rows=>RW rows
 | .lp .. =>False
def DK (k:Nat):aa->aa->aa
 |[],H=>H
 |(b,o)::r,H=>(k+b,c7 (fun c=>k+c) o)::DK k r H
attribute [go_sem] DK AV.plain AV.ql IV.plain IV.yn
section
variable {C:Cx} {K:List PK} {E:Env} {H:aa}
end
section
variable {C:Cx} {K:List PK} {E:Env} {H:aa}
theorem AQ.iu {ds:List (Nat×Nat)} {i:Nat} {rest:List Oper} (b off:Nat) (el:TypeId) (es:Nat) {e:Sh} {cs:List AV} (hl:lk H b=some (.var e cs)) (hc:cs[off]?=some (.im (.v (.slice none 0 0))))
  (h:AQ C ds i rest K E ((aE C.B.nb H,.vec el es [])::bt H b (.var e (cs.set off (.os (aE C.B.nb H) es 0 0))))):AQ C ds i rest K E H:=by
 unfold AQ at h⊢
 exact fun ops U h2 φ I a w hs=>by
  obtain⟨φ',dQ⟩:=hs.iu hl hc el es
  exact h ops U h2 _ _ _ _ dQ
end
section
variable {C:Cx} {K K':List PK} {E:Env} {H:aa} {p p':List Nat} {e e':Exit} {ds:List (Nat×Nat)} {i:Nat} {os:List Oper}
theorem xA (h:AP C p' K' E H) (hs:rW C.fn p K=some (.inl p',K'):=by exact rfl):AP C p K E H:=Tz hs h
theorem xB (h:AE C e K' E H) (hs:rW C.fn p K=some (.inr e,K'):=by exact rfl):AP C p K E H:=Ty hs h
theorem xC (h:AP C p' K' E H) (hs:rV C.fn e K=some (.inl p',K'):=by exact rfl):AE C e K E H:=Tx hs h
theorem xE (h:AE C e' K' E H) (hs:rV C.fn e K=some (.inr e',K'):=by exact rfl):AE C e K E H:=Tw hs h
theorem xD (h:AE C .normal K (jX C.kp E) H):AQ C ds i [] K E H:=AQ.done h
theorem xK {o:Oper} (h:vq C K os (aQ o.dst i ds) (i+1) (aS o.dst (.opt false .top) E) H) (ah:a6 C.n (o::os)=true:=by kernel_rfl) (hG:gd ds E o.guard=some false:=by exact rfl):AQ C ds i (o::os) K E H:=AQ.skip ah hG h
theorem xS {d:Option Nat} {ty s dt e:TypeId} {x:Operand} {pos:String} {af:Array Edge} {l:List UInt8}
  (h:vq C K os (aQ d i ds) (i+1) (aS d (.im (.sl 1 (cU l))) E) H) (ah:a6 C.n ({dst:=d,op:= .convert s dt x,type:=ty,pos:=pos,after:=af,guard:=none}::os)=true:=by kernel_rfl)
  (
   hx:ev E x=some (Sv l):=by exact rfl) (hs:(C.P.underlying s).isSome=true:=by exact rfl) (hd:tk C.P dt= .slice e:=by exact rfl) (he:tk C.P e= .int .u8:=by exact rfl)
   :
  AQ C ds i ({dst:=d,op:= .convert s dt x,type:=ty,pos:=pos,after:=af,guard:=none}::os) K E H:=AQ.R0 ah hx hs hd he h
theorem xM {d:Option Nat} {ty t e:TypeId} {x:Operand} {pos:String} {af:Array Edge} {b es n:Nat} {el:TypeId} {rows:List (List IV)}
  (h:vq C K os (aQ d i ds) (i+1) (aS d (.im (.sl es rows)) (killE b E)) (dG b H)) (ah:a6 C.n ({dst:=d,op:= .convert t t x,type:=ty,pos:=pos,after:=af,guard:=none}::os)=true:=by kernel_rfl)
  (
   hx:ev E x=some (.os b es 0 n):=by exact rfl) (hl:lk H b=some (.vec el es rows):=by exact rfl) (hn:n=rows.length:=by exact rfl) (aG:Nat.beq n 0=false:=by exact rfl) (bG:noMen b (dG b H)=true:=by exact rfl) (hd:tk C.P t= .slice e:=by exact rfl) (he:tk C.P e= .int .u8:=by exact rfl)
   :
  AQ C ds i ({dst:=d,op:= .convert t t x,type:=ty,pos:=pos,after:=af,guard:=none}::os) K E H:=AQ.mark ah hx hl hn aG bG hd he h
theorem xT {t:Tmp} {x y:Code} (ht:AP C (0::p) K E H) (hc:bS C.fn p= .cond (.tmp t) x y:=by exact rfl) (hb:lk E t=some (.im (.v (.bool true))):=by exact rfl):AP C p K E H:=AP.cond_true hc hb ht
theorem xF {t:Tmp} {x y:Code} (hf:AP C (1::p) K E H) (hc:bS C.fn p= .cond (.tmp t) x y:=by exact rfl) (hb:lk E t=some (.im (.v (.bool false))):=by exact rfl):AP C p K E H:=AP.cond_false hc hb hf
theorem xR {id:Nat} {ops:List Oper} (h:vq C K ops [] 0 E H) (hc:bS C.fn p= .region id ops.toArray false:=by exact rfl) (ah:a6 C.n ops=true:=by kernel_rfl):AP C p K E H:=AP.region hc ah h
theorem xW {id:Nat} {ops:List Oper} (h:vg C H (fun _ En=>AQ C [] ops.length [] K En H) ops [] 0 E) (hc:bS C.fn p= .region id ops.toArray true:=by exact rfl) (Gw:ops.all IZ=true:=by exact rfl) (hq:(a6 C.n ops&&wy ops ops.length (zF ops.length)&&C.P.follows .mixedOrders)=true:=by kernel_rfl)
   :AP C p K E H:=AP.ML hc Gw hq h
end
end Go.AL
end
section
namespace Go.AL
open Go Go.RowKit Go.Lib
section
variable {P:Program} {w:World}
end
section
variable {C:Cx} {K:List KI} {E:Env} {H:aa}
end
section
variable {C:Cx} {K:List PK} {E:Env} {H:aa}
end
section
variable {C:Cx} {K:List PK} {E:Env} {H:aa}
end
end Go.AL
end
section
namespace Go.AL
open Go
section
variable {C:Cx} {K:List PK} {E:Env} {H:aa}
theorem MP {w:World} {φ:ak} {I:Nat->Prop} {a:Act} (he:df w φ I E a):df w φ I (qq E) a:=fun j x hx=>by
 obtain⟨y,hy,rfl⟩:=JR E j x hx
 obtain⟨u,hu,hd⟩:=he j y hy
 exact⟨u,hu,Sp hd⟩
def wz (C:Cx) (K:List PK) (E:Env) (H:aa) (ds:List (Nat×Nat)) (i:Nat) (o:Oper) (os:List Oper):Prop:=
 match ml C.P C.B.nb C.ob (qq E) H o with
 |some (sc,v,H')=>sc/\vq C K os (aQ o.dst i ds) (i+1) (aS o.dst v E) H'
 |none=>False
theorem AQ.wz {ds:List (Nat×Nat)} {i:Nat} {o:Oper} {os:List Oper} (ah:a6 C.n (o::os)=true) (hg:o.guard=none) (h:wz C K E H ds i o os):AQ C ds i (o::os) K E H:=by
 unfold AL.wz at h
 split at h
 ·rename_i sc v H' he
  obtain⟨au,pW⟩:=h
  obtain⟨hd,b9⟩:=dE ah
  have eZ:=AQ.go b9 pW
  unfold AQ at eZ⊢
  refine AO.step (o:=o) fun ops φ I a w aM _ hs Kn bB=>?_
  have hw:Region.wanted o (yielded ops a.tmps)=true:=by simp[Region.wanted,hg]
  rw[if_pos hw]
  obtain⟨nx,w',φ',I',ax,pX,hS,hk⟩:=DM (P:=C.P) (MP hs.env) hs.st he au
  unfold Oper.wp
  rw[ax]
  rcases pX with⟨u,rfl,aW⟩|⟨rfl,aW⟩
  ·rw[Oper.upon_value]
   exact bB _ _ φ' I' _ _ eZ (hs.put hS hk hd aW)
  ·rw[Oper.upon_skip]
   exact bB _ _ φ' I' _ _ eZ (hs.put hS hk hd aW)
 ·exact h.elim
end
attribute [go_sem] wz
section
variable {C:Cx} {K:List PK} {E:Env} {H:aa}
theorem I4 (l:List Value):∀(n i:Nat),i<n*l.length->(List.replicate n l).flatten[i]?=l[i%l.length]?
 |0,i,h=>by simp at h
 |n+1,i,h=>by
  rw[List.replicate_succ,List.flatten_cons]
  rcases Nat.lt_or_ge i l.length with hi|hi
  ·rw[List.getElem?_append_left hi,Nat.mod_eq_of_lt hi]
  ·rw[List.getElem?_append_right hi,I4 l n (i-l.length) (by rw[Nat.add_mul]at h;omega),<-Nat.mod_eq_sub_mod hi]
theorem TC (z:Array Value) (n:Nat):(Builtin.zeroCells z n).toList=(List.replicate n z.toList).flatten:=by
 refine List.ext_getElem? fun i=>?_
 rcases Nat.lt_or_ge i (n*z.size)with h|h
 ·have hz:0<z.size:=by
   rcases Nat.eq_zero_or_pos z.size with h0|h0
   ·rw[h0]at h;simp at h
   ·exact h0
  rw[I4 _ _ _ (by simpa using h)]
  have hm:i%z.size<z.size:=Nat.mod_lt _ hz
  simp[Builtin.zeroCells,h,hm]
 ·rw[List.getElem?_eq_none (by simp[Builtin.zeroCells];exact h),List.getElem?_eq_none (by simp;exact h)]
theorem St.RE {B:Bs} {φ:ak} {I:Nat->Prop} {w:World} (hS:St B φ I H w) {b g j es:Nat} {e:TypeId} {rows xs:List (List IV)} {ae ws:List (List Value)} {rest:List Value}
  (hH:lk H b=some (.vec e es rows)) (hb:φ b=some (some g)) (dO:w.heap[g]?=some (.cells (ae.flatten++rest).toArray e (0,0))) (hd:IV.aC w I rows ae) (fI:∀v∈ae,v.length=es)
  (hx:IV.aC w I xs ws) (cQ:∀v∈ws,v.length=es) (hj:j+xs.length<=rows.length):
  St B φ I (bt H b (.vec e es (rows.take j++xs++rows.drop (j+xs.length)))) (w.setRow g ((ae.flatten++rest).toArray.toList.take (j*es)++ws.flatten++(ae.flatten++rest).toArray.toList.drop (j*es+ws.flatten.length)).toArray)/\
   bh w φ I (w.setRow g ((ae.flatten++rest).toArray.toList.take (j*es)++ws.flatten++(ae.flatten++rest).toArray.toList.drop (j*es+ws.flatten.length)).toArray) φ I:=by
 have hlen:=je rows ae hd
 have jT:=je xs ws hx
 have c_:=mA ae es fI
 have wY:=mA ws es cQ
 have hle:j*es+ws.length*es<=ae.length*es:=by rw[<-Nat.add_mul];exact Nat.mul_le_mul_right _ (by omega)
 have mH:(ae.flatten++rest).toArray.toList.take (j*es)++ws.flatten++(ae.flatten++rest).toArray.toList.drop (j*es+ws.flatten.length)=(ae.take j++ws++ae.drop (j+ws.length)).flatten++rest:=by
  have e1:(ae.take j).flatten=ae.flatten.take (j*es):=s8 j ae es fI (by omega)
  have e2:(ae.drop (j+ws.length)).flatten=ae.flatten.drop ((j+ws.length)*es):=qU (j+ws.length) ae es fI (by omega)
  rw[List.flatten_append,List.flatten_append,e1,e2,wY,Nat.add_mul]
  simp only[List.toList_toArray]
  rw[List.take_append_of_le_length (by omega),List.drop_append_of_le_length (by omega)]
  simp
 have aO:((ae.flatten++rest).toArray.toList.take (j*es)++ws.flatten++(ae.flatten++rest).toArray.toList.drop (j*es+ws.flatten.length)).toArray.size=(ae.flatten++rest).toArray.size:=by
  simp only[List.size_toArray,List.toList_toArray,List.length_append,List.length_take,List.length_drop]
  omega
 refine hS.write (o':= .vec e es (rows.take j++xs++rows.drop (j+xs.length))) hH hb dO aO (fun _ _ e=>by cases e) ?_
 rw[mH]
 simp only[Ob.at]
 refine .inr ⟨g,_,rest,rfl,setRow_heap w g _ _ e (0,0) dO,?_,fun vs db=>?_⟩
 ·have hI:∀g',I g'->(w.setRow g ((ae.take j++ws++ae.drop (j+ws.length)).flatten++rest).toArray).heap[g']?=w.heap[g']?:=fun g' cg=>setRow_other w g g' _ (fun e=>by subst e;exact(hS.real.off b g' hb).1 cg)
  refine IV.fT hI (fun _ h=>h) _ _ ?_
  rw[jT]
  exact po _ _ _ _ (po _ _ _ _ (wv j _ _ hd) hx) (wo _ _ _ hd)
 ·simp only[List.mem_append]at db
  rcases db with(db|db)|db
  ·exact fI vs (List.mem_of_mem_take db)
  ·exact cQ vs db
  ·exact fI vs (List.mem_of_mem_drop db)
theorem EO {w:World} {I:Nat->Prop}:∀(zs:List Value),(∀z∈zs,z.oneCell'=true)->IV.ab w I (zs.map IV.v) zs
 |[],_=>by simp[IV.ab]
 |z::zs,h=>by
  simp only[List.map_cons,IV.ab,IV.den]
  exact⟨z,zs,rfl,⟨rfl,h z (by simp)⟩,EO zs fun y hy=>h y (by simp[hy])⟩
theorem EP {w:World} {I:Nat->Prop} {zs:List Value} (hz:∀z∈zs,z.oneCell'=true):∀n,IV.aC w I (List.replicate n (zs.map IV.v)) (List.replicate n zs)
 |0=>by simp[IV.aC]
 |n+1=>by
  simp only[List.replicate_succ,IV.aC]
  exact⟨_,_,rfl,EO zs hz,EP hz n⟩
theorem AQ.clear {ds:List (Nat×Nat)} {i:Nat} {d:Option Nat} {ty t e e':TypeId} {x:Operand} {pos:String} {af:Array Edge} {os:List Oper} {b j n es:Nat} {rows:List (List IV)} {zs:List Value}
  (ah:a6 C.n ({dst:=d,op:= .call {callee:= .builtin .clear,args:=#[x],argTypes:=#[t]},type:=ty,pos:=pos,after:=af,guard:=none}::os)=true)
  (hx:ev E x=some (.os b es j n)) (hH:lk H b=some (.vec e es rows)) (ht:tk C.P t= .slice e') (hz:az C.P e'=some zs) (cm:zs.length=es) (iK:(zs.all Value.oneCell')=true)
  (h:(0<n/\j+n<=rows.length)/\vq C K os (aQ d i ds) (i+1) (aS d .top E) (bt H b (.vec e es (rows.take j++List.replicate n (zs.map IV.v)++rows.drop (j+n))))):
  AQ C ds i ({dst:=d,op:= .call {callee:= .builtin .clear,args:=#[x],argTypes:=#[t]},type:=ty,pos:=pos,after:=af,guard:=none}::os) K E H:=by
 obtain⟨⟨U,h2⟩,h⟩:=h
 refine AQ.step1 _ _ ah rfl (fun φ I a w hs=>?_) h
 have jq:=aL hs.env hx
 simp only[AV.den]at jq
 rcases jq with⟨_,_,rp,_⟩|⟨g,c,hb,hu,h4,h5,h6⟩
 ·omega
 have bg:=hs.st.real.own b _ _ hH hb
 simp only[Ob.at]at bg
 rcases bg with⟨hn,_⟩|⟨g',ae,rest,hg,dO,hd,fI⟩
 ·cases hn
 cases hg
 obtain⟨iz,zv,hi,Ot,Pw⟩:=vn hz
 have ku:=List.all_eq_true.1 iK
 have hlen:=je rows ae hd
 have c_:=mA ae es fI
 obtain⟨hS,hK⟩:=hs.st.RE (j:=j) (xs:=List.replicate n (zs.map IV.v)) hH hb dO hd fI (EP ku n) (fun v hv=>by rw[List.eq_of_mem_replicate hv,cm]) (by rw[List.length_replicate];exact h2)
 have Px:(Builtin.zeroCells zv.cells n).toList=(List.replicate n zs).flatten:=by rw[TC,Pw]
 have lU:(List.replicate n zs).flatten.length=n*es:=by rw[mA _ es (fun v hv=>by rw[List.eq_of_mem_replicate hv,cm]),List.length_replicate]
 have tv:j*es+n*es<=(ae.flatten++rest).toArray.size:=by
  have e:(ae.flatten++rest).toArray.size=ae.flatten.length+rest.length:=by simp only[List.size_toArray,List.length_append]
  have:j*es+n*es<=ae.length*es:=by rw[<-Nat.add_mul];exact Nat.mul_le_mul_right _ (by omega)
  omega
 have bz:=run_storeCells_at C.P g (j*es) e (List.replicate n zs).flatten 0 (ae.flatten++rest).toArray w dO (by rw[lU];omega) (fun v hv=>by
  obtain⟨l,hl,fo⟩:=List.mem_flatten.1 hv
  rw[List.eq_of_mem_replicate hl]at fo
  exact ku v fo)
 rw[Nat.add_zero]at bz
 rw[List.length_replicate]at hS
 refine⟨.tuple #[],_,φ,I,?_,?_,hS,hK⟩
 ·have rp:n≠0:=by omega
  obtain⟨n',rfl⟩:∃n',n=n'+1:=⟨n-1,by omega⟩
  simp[execOp,resolve,invoke,builtin,Builtin.clear_,hu,run_underlying (ei ht),zeroValue,typeInfo,hi,Ot,Px,bz]
 ·simp only[AV.den]
end
section
variable {C:Cx} {K:List PK} {E:Env} {H:aa}
theorem AQ.eQ {ds:List (Nat×Nat)} {i:Nat} {rest:List Oper} (b:Nat) (cs':List AV) {s:Sh} {cs:List AV} (hl:lk H b=some (.var s cs)) (hc:ct cs cs') (h:AQ C ds i rest K E (bt H b (.var s cs'))):AQ C ds i rest K E H:=by
 unfold AQ at h⊢
 exact fun ops U h2 φ I a w hs=>h ops U h2 _ _ _ _ ⟨hs.bo,hs.bp,hs.env,hs.st.eQ hl hc⟩
end
section
variable {C:Cx} {K:List PK} {E:Env} {H:aa}
def cI (C:Cx) (r:AV) (K:List PK) (E:Env) (H:aa):Prop:=
 ∀φ I a w v,a_ C φ I E H a w->AV.den w φ I r v->c8 C (K.map (PK.ki C.fn)) (.panic [{v:=v,recovered:=false}]) a w
def la:List PK->Bool
 |[]=>true
 | .bot _::_=>false
 | .seq _::K=>la K
 | .dn _::K=>la K
 | .lp _::K=>la K
 | .sc::K=>la K
theorem qN:∀(K:List PK),la K=true->∀c a w,v8 C (.panic c) a w->c8 C (K.map (PK.ki C.fn)) (.panic c) a w
 |[],_,_,_,_,h=>h
 | .seq _::K,hK,c,a,w,h=>qN K hK c a w h
 | .dn _::K,hK,c,a,w,h=>qN K hK c a w h
 | .lp _::K,hK,c,a,w,h=>qN K hK c a w h
 | .sc::K,hK,c,a,w,h=>qN K hK c a w h
 | .bot _::_,hK,_,_,_,_=>by cases hK
theorem IK (l:List Nat) {r:AV} {v:Value} {φ:ak} {I:Nat->Prop} {a:Act} {w:World} (lL:Marks C.ds C.B.w0.heap.size w I a.defers) (bz:St C.B φ I H w) (bN:AV.den w φ I r v) (hk:bW l r H=true) (hX:C.X r (h_ l H)):v8 C (.panic [{v:=v,recovered:=false}]) a w:=by
 intro aM
 obtain⟨ms,U,h2,h3,_⟩:=lL
 rw[U,aM,List.filterMap_nil,List.append_nil]
 have key:∀(ms:List Nat) (w:World),ms.Nodup->(∀D∈ms,C.B.w0.heap.size<=D/\w.heap[D]?=some (.deferred (some [])))->St C.B φ I H w->AV.den w φ I r v->
   LeavesInM Fence.wide 3 C.P C.fn a.tmps (iA C) (ms.map rR) (.panicking [{v:=v,recovered:=false}]) w:=by
  intro ms
  induction ms with
  |nil=>
   intro w _ _ hS hd
   simp only[List.map_nil,LeavesInM,LeavesIn]
   obtain⟨φ',dF,mE⟩:=qO l φ H hk hd hS
   exact .inr ⟨r,h_ l H,φ',I,v,hX,rfl,dF,mE⟩
  |cons D ms ih=>
   intro w hn hd hS bN
   simp only[List.map_cons,LeavesInM]
   obtain⟨U,h2⟩:=hd D (by simp)
   rw[List.nodup_cons]at hn
   refine⟨by simp,.inl ⟨D,_,rfl,run_takeDeferred h2,ih _ hn.2 (fun D' ke=>?_) (hS.CM U h2) (wk h2 r v bN)⟩⟩
   obtain⟨h3,h4⟩:=hd D' (by simp[ke])
   exact⟨h3,(World.putObj_heap_other (fun e=>hn.1 (by rw[<-e];exact ke))).trans h4⟩
 exact key ms w h2 (fun D hD=>(h3 D hD).2) bz bN
theorem cI.out (l:List Nat) {r:AV} (hK:la K=true) (hk:bW l r H=true) (hX:C.X r (h_ l H)):cI C r K E H:=fun φ I a w v hs hd=>
 qN K hK _ a w (IK l hs.bo hs.st hd hk hX)
theorem cI.Iy (l:List Nat) {r:AV} {Cn:Cx} {J:Act->World->Prop} {ops:List Oper} (hC:Cn=C.nr) (hK:la K=true) (hk:bW l r H=true) (hX:C.X r (h_ l H)):cI Cn r [.lp J,.bot (nh C K ops)] E H:=fun φ I a w v hs hd=>by
 subst hC
 show nh C K ops (.panic _) a w
 intro a' Ai _ _
 exact qN K hK _ a' w (IK (C:=C) (a:=a') l (by rw[Ai];exact hs.bo) hs.st hd hk hX)
theorem BQ:∀(l:List Nat) (E:Env) (i:Nat) (x:AV),lk (jX l E) i=some x->i∈l
 |[],E,i,x,h=>by simp[jX,lk]at h
 |j::r,E,i,x,h=>by
  rw[jX]at h
  cases hj:lk E j with
  |none=>rw[hj]at h;exact List.mem_cons_of_mem _ (BQ r E i x h)
  |some y=>
   rw[hj]at h
   simp only[lk]at h
   cases hb:Nat.beq j i with
   |true=>have:=Nat.eq_of_beq_eq_true hb;subst this;exact List.mem_cons_self ..
   |false=>rw[hb]at h;exact List.mem_cons_of_mem _ (BQ r E i x h)
theorem cI.draw (ids:List Nat) {r:AV} {Cn:Cx} {J:Act->World->Prop} {ops:List Oper} (hC:Cn=C.nr) (hi:(ids.all fun i=>ops.all fun o=>o.dst !=some i)=true) (h:cI C r K (jX ids E) H):cI Cn r [.lp J,.bot (nh C K ops)] E H:=fun φ I a w v hs hd=>by
 subst hC
 show nh C K ops (.panic _) a w
 intro a' U h2 h3
 refine h φ I a' w v ⟨by rw[U];exact hs.bo,by rw[h2];exact hs.bp,fun i x hx=>?_,hs.st⟩ hd
 obtain⟨u,hu,cP⟩:=hs.env i x (xQ ids E i x hx)
 refine⟨u,(h3 i fun o ho e=>?_).trans hu,cP⟩
 have:=List.all_eq_true.1 (List.all_eq_true.1 hi i (BQ ids E i x hx)) o ho
 rw[e]at this
 simp at this
theorem cO.walk {P:Program} {f:FuncId} {fn:Func} {c:Code} {n nb:Nat} {args:List AV} {H:aa} {R X:AV->aa->Prop} (kp ob:List Nat) (hf:P.funcs[f]?=some fn) (hb:fn.body=some c) (hn:fn.ntmps=n)
  (iG:enters P f=true) (cE:Nat.ble args.length n=true) (hnb:cH H=nb)
  (h:∀(w:World) (own I0:Nat->Prop) (aw:ak) (lay:Lay P ⟨w,own,I0,aw,nb⟩),AP ⟨P,fn,n,⟨w,own,I0,aw,nb⟩,kp,ob,R,none,X,[],lay⟩ [] [] (enum 0 args) H):cO P f args H R X:=
 cO.intro kp ob hf hb hn iG cE hnb fun w own I0 aw lay=>by
  have:=h w own I0 aw lay
  unfold AP at this
  simp only[bS,hb,Option.getD_some]at this
  exact this
theorem cO.mono {P:Program} {f:FuncId} {args:List AV} {H:aa} {R R' X X':AV->aa->Prop} (h:cO P f args H R X) (hr:∀r H',R r H'->R' r H') (hx:∀r H',X r H'->X' r H'):cO P f args H R' X':=
 ⟨h.fC,fun w φ I vs hd hR hV=>(h.run w φ I vs hd hR hV).mono fun _ _ h=>by
  rcases h with⟨r,H',φ',I',v,U,h2⟩|⟨r,H',φ',I',v,U,h2⟩
  ·exact .inl ⟨r,H',φ',I',v,hr _ _ U,h2⟩
  ·exact .inr ⟨r,H',φ',I',v,hx _ _ U,h2⟩⟩
theorem AQ.kV (m:List (Nat×Nat)) {ds:List (Nat×Nat)} {i:Nat} {d:Option Nat} {ty:TypeId} {pos:String} {af:Array Edge} {os:List Oper} {aZ:Operand} {f:FuncId} {fs aD:List AV} {xs:List Operand} {aP:Array TypeId} {l fy:List AV} {Hc:aa} {R X:AV->aa->Prop}
  (ah:a6 C.n ({dst:=d,op:= .call {callee:= .value aZ,args:=xs.toArray,argTypes:=aP},type:=ty,pos:=pos,after:=af,guard:=none}::os)=true)
  (ew:ev E aZ=some (.fn f fs aD)) (hl:di E xs=some l) (cZ:gs l=true)
  (jj:ec m=kA Hc) (gn:fb (ec m)=true) (jn:fb (iy m)=true) (jo:iU (a8 m (aE C.B.nb H)) H Hc)
  (cE:AV.cy (a8 m (aE C.B.nb H)) fy=fs++l.map AV.st++aD) (hc:cO C.P f fy Hc R X)
  (hx:∀r H1,X r H1->iT (bZ H1 m) (cK m H)=true/\cI C (AV.rn (a8 m (aE C.B.nb H)) r) K (eN (bZ H1 m) E) (dU m (aE C.B.nb H) H H1))
  (h:∀r H1,R r H1->iT (bZ H1 m) (cK m H)=true/\AQ C (aQ d i ds) (i+1) os K (aS d (AV.rn (a8 m (aE C.B.nb H)) r) (eN (bZ H1 m) E)) (dU m (aE C.B.nb H) H H1)):
  AQ C ds i ({dst:=d,op:= .call {callee:= .value aZ,args:=xs.toArray,argTypes:=aP},type:=ty,pos:=pos,after:=af,guard:=none}::os) K E H:=by
 obtain⟨hd,b9⟩:=dE ah
 generalize hk:aE C.B.nb H=k at*
 have hH:Hand m k H Hc:=⟨jj,gn,jn,jo,fun b o hb=>by have:=mZ H b o hb;have:=(fZ C.B.nb H).2;omega⟩
 have bm:=h
 unfold AQ at bm⊢
 refine AO.step (o:={dst:=d,op:= .call {callee:= .value aZ,args:=xs.toArray,argTypes:=aP},type:=ty,pos:=pos,after:=af,guard:=none}) fun ops φ I a w aM _ hs Kn bB=>?_
 have hw:Region.wanted {dst:=d,op:= .call {callee:= .value aZ,args:=xs.toArray,argTypes:=aP},type:=ty,pos:=pos,after:=af,guard:=none} (yielded ops a.tmps)=true:=by simp[Region.wanted]
 rw[if_pos hw]
 have fE:=aL hs.env ew
 simp only[AV.den]at fE
 obtain⟨dw,us,kk,fH,k0⟩:=fE
 have aW:AV.ab w φ I (fs++l.map AV.st++aD) (dw++xs.map a.eval++us):=AQ.kU.j7 _ _ _ _ (AQ.kU.j7 _ _ _ _ kk (kc hs.env _ _ hl cZ)) fH
 rw[<-cE]at aW
 have tq:=AV.nn (ρ:=a8 m k) (φ:=fun b=>φ (a8 m k b)) (fun _=>rfl) _ _ aW
 have ax:(execOp a.eval {dst:=d,op:= .call {callee:= .value aZ,args:=xs.toArray,argTypes:=aP},type:=ty,pos:=pos,after:=af,guard:=none}).run C.P w= .ok (.enter f (dw++xs.map a.eval++us).toArray) w:=by
  have:execOp a.eval {dst:=d,op:= .call {callee:= .value aZ,args:=xs.toArray,argTypes:=aP},type:=ty,pos:=pos,after:=af,guard:=none}=(do let d<-Deferred.ofValue (a.eval aZ) (xs.toArray.map a.eval);invoke d.target d.args):=rfl
  rw[this,k0,yk (t:=ty) hc.fC]
  simp
 unfold Oper.wp
 rw[ax,Oper.upon_enter]
 have iH:∀r H1 aU I1 v w',iT (bZ H1 m) (cK m H)=true->AV.den w' aU I1 r v->St ⟨w,cB fun b=>φ (a8 m k b),I,fun b=>φ (a8 m k b),cH Hc⟩ aU I1 H1 w'->
   a_ C (fO m k φ aU) I1 (eN (bZ H1 m) E) (dU m k H H1) a w'/\AV.den w' (fO m k φ aU) I1 (AV.rn (a8 m k) r) v:=fun r H1 aU I1 v w' ic bN hS=>by
  obtain⟨jg,hf,ji,hI,da⟩:=hH.after (by have:=(fZ C.B.nb H).1;omega) hs.st hS ic
  refine⟨⟨hs.bo.mono ji hI,hs.bp,fun j x hx=>?_,jg⟩,AV.qp (φ':=fO m k φ aU) (fun b p hb=>hH.fwd (φ:=φ) hb) r v bN⟩
  obtain⟨y,hy,fW⟩:=xX (w:=w) (I:=I) _ φ E j x hx
  obtain⟨u,hu,hd⟩:=hs.env j y hy
  exact⟨u,hu,AV.jc ji hI hf da x u (fW u hd)⟩
 refine(hc.run w (fun b=>φ (a8 m k b)) I _ tq (hH.real hs.st) hs.st.vk).mono fun e w' he=>?_
 rcases he with⟨r,H1,aU,I1,v,hr,he,bN,hS⟩|⟨r,H1,aU,I1,v,hr,he,bN,hS⟩
 ·subst he
  obtain⟨ic,gl⟩:=bm r H1 hr
  obtain⟨ig,e_⟩:=iH r H1 aU I1 v w' ic bN hS
  exact bB _ _ (fO m k φ aU) I1 _ _ gl (ig.put ig.st (bh.refl w' (fO m k φ aU) I1) hd e_)
 ·subst he
  obtain⟨ic,gl⟩:=hx r H1 hr
  obtain⟨ig,e_⟩:=iH r H1 aU I1 v w' ic bN hS
  exact gl _ _ _ _ _ ig e_
theorem AQ.panic {ds:List (Nat×Nat)} {i:Nat} {d:Option Nat} {ty:TypeId} {pos:String} {af:Array Edge} {os:List Oper} {x:Operand} {t:TypeId} {y:AV}
  (hx:ev E x=some (.wr (.iface t) y)) (h:cI C (.wr (.iface t) y) K E H):
  AQ C ds i ({dst:=d,op:= .panic x,type:=ty,pos:=pos,after:=af,guard:=none}::os) K E H:=by
 unfold AQ
 refine AO.step (o:={dst:=d,op:= .panic x,type:=ty,pos:=pos,after:=af,guard:=none}) fun ops φ I a w aM _ hs Kn bB=>?_
 rw[if_pos (by simp[Region.wanted])]
 have hv:=aL hs.env hx
 have xq:=hv
 simp only[AV.den,WK.rel]at hv
 obtain⟨v,hu,_⟩:=hv
 have ax:(execOp a.eval {dst:=d,op:= .panic x,type:=ty,pos:=pos,after:=af,guard:=none}).run C.P w= .halt (.panic (a.eval x)) w:=by
  have e:execOp a.eval {dst:=d,op:= .panic x,type:=ty,pos:=pos,after:=af,guard:=none}=(do pure (.value (<-Instr.panic (a.eval x))):Sem Next):=rfl
  rw[e,hu]
  rfl
 unfold Oper.wp
 rw[ax]
 exact h φ I a w _ hs xq
end
def mw:Value->Deferred
 | .func fn dw us=>{target:= .fn fn us,args:=dw}
 |_=>{target:= .nil,args:=#[]}
def kT (C:Cx):Exit->Act->World->Prop
 | .normal,a,w| .ret,a,w=>LeavesInM Fence.wide 3 C.P C.fn a.tmps (iA C) a.defers .returning w
 | .panic c,a,w=>LeavesInM Fence.wide 3 C.P C.fn a.tmps (iA C) a.defers (.panicking c) w
 |_,_,_=>False
def rT:Option AV->Value->FrameMode
 |none,_=> .returning
 |some _,v=> .panicking [{v:=v,recovered:=false}]
structure kP (P:Program) (f:FuncId) (args:List AV) (H:aa) (r:Option AV) (R:aa->Prop):Prop where
 fC:enters P f=true
 run:∀(w:World) (φ:ak) (I:Nat->Prop) (vs:List Value) (v:Value),AV.ab w φ I args vs->Real w φ I H->VK P w I->(∀r0,r=some r0->AV.den w φ I r0 v)->
  CallsDIn Fence.wide 2 P f vs.toArray (rT r v) w (fun e u' w'=>∃H' φ' I' x,R H'/\e= .returned x/\settle u'= .returning/\St ⟨w,cB φ,I,φ,cH H⟩ φ' I' H' w')
section
variable {C:Cx} {K:List PK} {E:Env} {H:aa}
theorem sY (D:List (Option Deferred)):∀(K:List PK),la K=false->c8 {C with ds:=D} (K.map (PK.ki C.fn))=c8 C (K.map (PK.ki C.fn))
 |[],h=>by cases h
 | .bot _::_,_=>rfl
 | .seq q::K,h=>by
  have ih:=sY D K h
  funext e a w
  simp only[List.map_cons,PK.ki,c8,ih]
 | .dn _::K,h=>by
  have ih:=sY D K h
  funext e a w
  simp only[List.map_cons,PK.ki,c8,ih]
 | .lp _::K,h=>by
  have ih:=sY D K h
  funext e a w
  simp only[List.map_cons,PK.ki,c8,ih]
 | .sc::K,h=>by
  have ih:=sY D K h
  funext e a w
  simp only[List.map_cons,PK.ki,c8,ih]
theorem AQ.defer {ds:List (Nat×Nat)} {i:Nat} {ty:TypeId} {pos:String} {af:Array Edge} {os:List Oper} {t:Tmp} {aP:Array TypeId} {f:FuncId} {fs aD:List AV}
  (hK:la K=false) (aM:C.ds=[none]) (hl:lk E t=some (.fn f fs aD))
  (h:∀u,AQ {C with ds:=[some (mw u)]} (aQ none i ds) (i+1) os K ((t,.wr (.exact u) (.fn f fs aD))::E) H):
  AQ C ds i ({dst:=none,op:= .defer {callee:= .value (.tmp t),args:=#[],argTypes:=aP},type:=ty,pos:=pos,after:=af,guard:=none}::os) K E H:=by
 unfold AQ AO at h⊢
 intro ops U h2 φ I a w hs
 have hv:=aL hs.env (x:= .tmp t) hl
 obtain⟨v,Bu⟩:∃v,a.eval (.tmp t)=v:=⟨_,rfl⟩
 rw[Bu]at hv
 have xq:=hv
 simp only[AV.den]at xq
 obtain⟨dw,us,kk,fH,re⟩:=xq
 unfold fw
 rw[if_pos (by simp[Region.wanted])]
 refine .inl ?_
 have ax:(execOp a.eval {dst:=none,op:= .defer {callee:= .value (.tmp t),args:=#[],argTypes:=aP},type:=ty,pos:=pos,after:=af,guard:=none}).run C.P w= .ok (.defer (mw v)) w:=by
  have e:execOp a.eval {dst:=none,op:= .defer {callee:= .value (.tmp t),args:=#[],argTypes:=aP},type:=ty,pos:=pos,after:=af,guard:=none}=(do let d<-Deferred.ofValue (a.eval (.tmp t)) ((#[]:Array Operand).map a.eval);pure (.defer d):Sem Next):=rfl
  rw[e,Bu,re]
  simp[Deferred.ofValue,Sem.run_bind,mw]
 unfold Oper.wp
 rw[ax,Oper.upon_defer]
 have hh:=h v ops (fun j d hj=>U j d (by simpa[aQ]using hj)) (fun j o hj=>by
  have:=h2 (j+1) o (by simpa using hj)
  rwa [show i+1+j=i+(j+1) by omega]) φ I ({a with defers:=mw v::a.defers}) w
 rw[sY _ K hK]at hh
 obtain⟨ms,g1,g2,g3,g4⟩:=hs.bo
 have pQ:=g4 (by rw[aM];simp)
 have pH:a.defers=[]:=by rw[g1,pQ,aM];rfl
 refine hh ⟨?_,hs.bp,fun j x hx=>?_,hs.st⟩
 ·refine⟨[],?_,List.nodup_nil,(fun D hD=>by cases hD),fun _=>rfl⟩
  show mw v::a.defers=_
  rw[pH];rfl
 ·simp only[lk]at hx
  cases hb:Nat.beq t j with
  |true=>
   rw[hb]at hx
   have:=Nat.eq_of_beq_eq_true hb
   subst this
   simp only[cond_true,Option.some.injEq]at hx
   subst hx
   obtain⟨u,hu,_⟩:=hs.env t _ hl
   refine⟨u,hu,?_⟩
   have t_:a.eval (.tmp t)=u:=by simp[Act.eval,hu]
   rw[Bu]at t_
   subst t_
   rw[AV.den]
   exact⟨v,⟨rfl,rfl⟩,hv⟩
  |false=>
   rw[hb]at hx
   exact hs.env j x hx
def LV (C:Cx) (E:Env) (H:aa):Prop:=∀φ I a w,St C.B φ I H w->df w φ I E a->LeavesInM Fence.wide 3 C.P C.fn a.tmps (iA C) [] .returning w
theorem LV.bk (l:List Nat) {sc:Prop} {xs:List AV} (h:gT C.P E H C.fn.results.toList=some (sc,xs)) (au:sc) (hk:bW l (dA xs) H=true) (hR:C.R (dA xs) (h_ l H)):LV C E H:=fun φ I a w hS hE=>by
 simp only[LeavesInM,LeavesIn]
 obtain⟨v,hv,hd⟩:=qn hE hS.real h au
 obtain⟨φ',dF,mE⟩:=qO l φ H hk hd hS
 exact⟨v,hv,.inl ⟨dA xs,h_ l H,φ',I,v,hR,rfl,dF,mE⟩⟩
theorem RZ {P:Program} {f:FuncId} {dw us:Array Value} {w:World} (tu:enters P f=true):(invoke (.fn (.func f) us) dw).run P w= .ok (.enter f (dw++us)) w:=by
 simp only[invoke]
 exact r8 tu _ w
theorem Hj (m:List (Nat×Nat)) {t:Tmp} {u:Value} {f:FuncId} {fs aD fy:List AV} {Hc:aa} {r:Option AV} {RD:aa->Prop}
  (aM:C.ds=[some (mw u)]) (hl:lk E t=some (.wr (.exact u) (.fn f fs aD)))
  (jj:ec m=kA Hc) (gn:fb (ec m)=true) (jn:fb (iy m)=true) (jo:iU (a8 m (aE C.B.nb H)) H Hc)
  (cE:AV.cy (a8 m (aE C.B.nb H)) fy=fs++aD) (hc:kP C.P f fy Hc r RD)
  (h:∀H1,RD H1->iT (bZ H1 m) (cK m H)=true/\LV C (eN (bZ H1 m) E) (dU m (aE C.B.nb H) H H1))
  {φ:ak} {I:Nat->Prop} {a:Act} {w:World} (hs:a_ C φ I E H a w) (v:Value) (hr:∀r0,r=some r0->AV.den w φ I (AV.rn (a8 m (aE C.B.nb H)) r0) v):
  LeavesInM Fence.wide 3 C.P C.fn a.tmps (iA C) a.defers (rT r v) w:=by
 obtain⟨ms,g1,g2,g3,g4⟩:=hs.bo
 have pQ:=g4 (by rw[aM];simp)
 have pH:a.defers=[mw u]:=by rw[g1,pQ,aM];rfl
 rw[pH]
 generalize hk:aE C.B.nb H=k at*
 have hH:Hand m k H Hc:=⟨jj,gn,jn,jo,fun b o hb=>by have:=mZ H b o hb;have:=(fZ C.B.nb H).2;omega⟩
 obtain⟨u',Vp,dF⟩:=hs.env t _ hl
 simp only[AV.den,WK.rel]at dF
 obtain⟨v',⟨rfl,rfl⟩,dw,us,kk,fH,re⟩:=dF
 have aW:AV.ab w φ I (fs++aD) (dw++us):=AQ.kU.j7 _ _ _ _ kk fH
 rw[<-cE]at aW
 have tq:=AV.nn (ρ:=a8 m k) (φ:=fun b=>φ (a8 m k b)) (fun _=>rfl) _ _ aW
 subst re
 simp only[LeavesInM]
 refine⟨by cases r<;>simp[rT],.inr ⟨fun h=>(by cases h),.func f,us.toArray,f,(dw++us).toArray,rfl,?_,fun _ _=>trivial,?_⟩⟩
 ·show(invoke (.fn (.func f) us.toArray) dw.toArray).run C.P w=_
  rw[RZ hc.fC,List.append_toArray]
 ·refine(hc.run w (fun b=>φ (a8 m k b)) I (dw++us) v tq (hH.real hs.st) hs.st.vk (fun r0 mO=>AV.uW (ρ:=a8 m k) (φ:=fun b=>φ (a8 m k b)) (fun _=>rfl) _ _ (hr r0 mO))).mono fun e u' w' he=>?_
  obtain⟨H1,aU,I1,x,NI,rfl,bt,hS⟩:=he
  show LeavesInM Fence.wide 3 C.P C.fn a.tmps (iA C) [] (settle u') w'
  rw[bt]
  obtain⟨ic,tJ⟩:=h H1 NI
  obtain⟨jg,hf,ji,hI,da⟩:=hH.after (by have:=(fZ C.B.nb H).1;omega) hs.st hS ic
  refine tJ _ _ a w' jg fun j y hy=>?_
  obtain⟨z,hz,BC⟩:=xX (w:=w) (I:=I) _ φ E j y hy
  obtain⟨q,hq,OY⟩:=hs.env j z hz
  exact⟨q,hq,AV.jc ji hI hf da y q (BC q OY)⟩
theorem AE.rK (m:List (Nat×Nat)) {C0:Cx} {e:Exit} {t:Tmp} {u:Value} {f:FuncId} {fs aD fy:List AV} {Hc:aa} {RD:aa->Prop}
  (he:e= .ret\/e= .normal) (aM:C.ds=[some (mw u)]) (hl:lk E t=some (.wr (.exact u) (.fn f fs aD)))
  (jj:ec m=kA Hc) (gn:fb (ec m)=true) (jn:fb (iy m)=true) (jo:iU (a8 m (aE C.B.nb H)) H Hc)
  (cE:AV.cy (a8 m (aE C.B.nb H)) fy=fs++aD) (hc:kP C.P f fy Hc none RD)
  (h:∀H1,RD H1->iT (bZ H1 m) (cK m H)=true/\LV C (eN (bZ H1 m) E) (dU m (aE C.B.nb H) H H1)) (hC:kT C0=kT C:=by rfl):AE C e [.bot (kT C0)] E H:=by
 unfold AE
 intro φ I a w hs
 have:=Hj m aM hl jj gn jn jo cE hc h hs undef (fun _ h=>by cases h)
 rw[hC]
 rcases he with rfl|rfl<;>exact this
theorem cI.rK (m:List (Nat×Nat)) {C0:Cx} {K':List PK} {r:AV} {t:Tmp} {u:Value} {f:FuncId} {fs aD fy:List AV} {Hc:aa} {RD:aa->Prop}
  (aM:C.ds=[some (mw u)]) (hl:lk E t=some (.wr (.exact u) (.fn f fs aD)))
  (jj:ec m=kA Hc) (gn:fb (ec m)=true) (jn:fb (iy m)=true) (jo:iU (a8 m (aE C.B.nb H)) H Hc)
  (cE:AV.cy (a8 m (aE C.B.nb H)) fy=fs++aD) (hc:kP C.P f fy Hc (some r) RD) (tT:AV.rn (a8 m (aE C.B.nb H)) r=r)
  (h:∀H1,RD H1->iT (bZ H1 m) (cK m H)=true/\LV C (eN (bZ H1 m) E) (dU m (aE C.B.nb H) H H1)) (hK:la K'=true) (hC:kT C0=kT C:=by rfl):cI C r (K'++[.bot (kT C0)]) E H:=by
 intro φ I a w v hs hd
 have h0:=Hj m aM hl jj gn jn jo cE hc h hs v (fun r0 h=>by cases h;rw[tT];exact hd)
 have key:∀(K':List PK),la K'=true->c8 C ((K'++[PK.bot (kT C0)]).map (PK.ki C.fn)) (.panic [{v:=v,recovered:=false}]) a w:=fun K'=>by
  induction K' with
  |nil=>intro _;rw[hC];exact h0
  |cons x K' ih=>
   intro hK
   cases x with
   |bot Q=>cases hK
   |_=>exact ih hK
 exact key K' hK
theorem cO.Tl {P:Program} {f:FuncId} {fn:Func} {c:Code} {n nb:Nat} {args:List AV} {H:aa} {R X:AV->aa->Prop} (kp ob:List Nat) (hf:P.funcs[f]?=some fn) (hb:fn.body=some c) (hn:fn.ntmps=n)
  (iG:enters P f=true) (cE:Nat.ble args.length n=true) (hnb:cH H=nb)
  (h:∀(w:World) (own I0:Nat->Prop) (aw:ak) (lay:Lay P ⟨w,own,I0,aw,nb⟩),AP ⟨P,fn,n,⟨w,own,I0,aw,nb⟩,kp,ob,R,none,X,[none],lay⟩ [] [.bot (kT ⟨P,fn,n,⟨w,own,I0,aw,nb⟩,kp,ob,R,none,X,[none],lay⟩)] (enum 0 args) H):cO P f args H R X:=by
 refine⟨iG,fun w φ I vs hd hR hV=>?_⟩
 subst hnb
 have hl:=gv args vs hd
 have n5:=Nat.le_of_ble_eq_true cE
 have h0:=h w (cB φ) I φ (hR.lay hV _)
 unfold AP at h0
 simp only[bS,hb,Option.getD_some]at h0
 have U:=h0 φ I {tmps:=vs.toArray++Array.replicate (fn.ntmps-vs.toArray.size) undef,defers:=[]} w ⟨Marks.nil,?_,fun i x hx=>?_,oN hR _⟩
 ·refine callsIn_wide.1 (callsIn_of_wp_marks (F:=Fence.wide) (n:=3) hf hb trivial (Go.wpIn_mono (F:=Fence.wide) U fun e a w he=>?_))
  cases e with
  |normal=>exact he
  |ret=>exact he
  |panic c=>exact he
  |_=>exact he.elim
 ·simp only[Array.size_append,List.size_toArray,Array.size_replicate,hn];omega
 ·obtain⟨j,rfl,hj⟩:=pw args 0 i x hx
  obtain⟨u,hu,cP⟩:=gr args vs j x hd hj
  refine⟨u,?_,cP⟩
  have ag:j<vs.length:=by
   rcases Nat.lt_or_ge j vs.length with h|h
   ·exact h
   ·rw[List.getElem?_eq_none h]at hu;cases hu
  rw[Nat.zero_add,Array.getElem?_append_left (by simpa using ag)]
  simpa using hu
end
def sP (C:Cx):Exit->Act->World->Prop
 | .normal,a,w| .ret,a,w=>a.defers=[]/\∃v,(results C.fn a.tmps).run C.P w= .ok v w/\j5 C.B C.R (.returned v) w
 |_,_,_=>False
def oO:Option AV->AV
 |none=> .im (.v .nilIface)
 |some r=>r
section
variable {C:Cx} {K:List PK} {E:Env} {H:aa}
theorem AE.I5 (l:List Nat) {e:Exit} {C0:Cx} {sc:Prop} {xs:List AV} (he:e= .ret\/e= .normal) (aM:C.ds=[none]) (h:gT C.P E H C.fn.results.toList=some (sc,xs)) (au:sc) (hk:bW l (dA xs) H=true) (hR:C.R (dA xs) (h_ l H)) (hC:sP C0=sP C:=by rfl):AE C e [.bot (sP C0)] E H:=by
 unfold AE
 intro φ I a w hs
 obtain⟨ms,g1,g2,g3,g4⟩:=hs.bo
 have pQ:=g4 (by rw[aM];simp)
 have pH:a.defers=[]:=by rw[g1,pQ,aM];rfl
 obtain⟨v,hv,hd⟩:=qn hs.env hs.st.real h au
 obtain⟨φ',dF,mE⟩:=qO l φ H hk hd hs.st
 rw[hC]
 have:a.defers=[]/\∃v,(results C.fn a.tmps).run C.P w= .ok v w/\j5 C.B C.R (.returned v) w:=⟨pH,v,hv,dA xs,h_ l H,φ',I,v,hR,rfl,dF,mE⟩
 rcases he with rfl|rfl<;>exact this
theorem KN {P:Program} {c:Code} {Q:Exit->Act->World->Prop} {a:Act} {w:World} (h:c.wpIn Fence.wide 3 P Q a w):c.wpIn Fence.wide 2 P Q a w:=wpIn_wide.2 (wpIn_wide.1 h)
theorem kP.walk {P:Program} {f:FuncId} {fn:Func} {c2:Code} {n nb id d0 d1:Nat} {o0 o1:Oper} {args:List AV} {H:aa} {r:Option AV} {RD:aa->Prop} (kp ob:List Nat) (hf:P.funcs[f]?=some fn)
  (hb:fn.body=some (.seq (.region id #[o0,o1] false) c2)) (hn:fn.ntmps=n)
  (xc:(match o0.op with| .call c=>(match c.callee with| .builtin .recover=>c.args.size==0|_=>false)|_=>false)=true/\o0.dst=some d0/\o0.guard=none)
  (lQ:o1.op= .assign (.tmp d0)/\o1.dst=some d1/\o1.guard=none) (hd:(Nat.blt d0 n&&Nat.blt d1 n)=true)
  (iG:enters P f=true) (cE:Nat.ble args.length n=true) (hnb:cH H=nb)
  (h:∀(w:World) (own I0:Nat->Prop) (aw:ak) (lay:Lay P ⟨w,own,I0,aw,nb⟩),AP ⟨P,fn,n,⟨w,own,I0,aw,nb⟩,kp,ob,fun _ H'=>RD H',none,fun _ _=>False,[none],lay⟩ [1] [.bot (sP ⟨P,fn,n,⟨w,own,I0,aw,nb⟩,kp,ob,fun _ H'=>RD H',none,fun _ _=>False,[none],lay⟩)] ((d1,oO r)::(d0,oO r)::enum 0 args) H):kP P f args H r RD:=by
 refine⟨iG,fun w φ I vs v aW hR hV hr=>?_⟩
 subst hnb
 have hl:=gv args vs aW
 have n5:=Nat.le_of_ble_eq_true cE
 simp only[Bool.and_eq_true,Nat.blt_eq]at hd
 obtain⟨⟨tM,N8,wZ⟩,Gp,N9,k3⟩:=And.intro xc lQ
 have h0:=h w (cB φ) I φ (hR.lay hV _)
 unfold AP at h0
 obtain⟨x,hx⟩:∃x,x=(match r with|none=>Value.nilIface|some _=>v):=⟨_,rfl⟩
 obtain⟨T,hT⟩:∃T:Array Value,T=vs.toArray++Array.replicate (fn.ntmps-vs.toArray.size) undef:=⟨_,rfl⟩
 have wM:T.size=n:=by rw[hT];simp only[Array.size_append,List.size_toArray,Array.size_replicate,hn];omega
 have xu:AV.den w φ I (oO r) x:=by
  cases r with
  |none=>rw[hx];simp[oO,AV.den,IV.den,Value.oneCell']
  |some r0=>rw[hx];exact hr r0 rfl
 have iH:a_ ⟨P,fn,n,⟨w,cB φ,I,φ,cH H⟩,kp,ob,fun _ H'=>RD H',none,fun _ _=>False,[none],hR.lay hV _⟩ φ I ((d1,oO r)::(d0,oO r)::enum 0 args) H {tmps:=(T.setIfInBounds d0 x).setIfInBounds d1 x,defers:=[]} w:=by
  refine⟨Marks.nil,by simpa using wM,fun i y hy=>?_,oN hR _⟩
  simp only[lk]at hy
  cases eL:Nat.beq d1 i with
  |true=>
   rw[eL]at hy
   have:=Nat.eq_of_beq_eq_true eL
   subst this
   simp only[cond_true,Option.some.injEq]at hy
   subst hy
   exact⟨x,by simp[wM,hd.2],xu⟩
  |false=>
   rw[eL]at hy
   have Gl:d1≠i:=fun e=>by subst e;simp at eL
   simp only[cond_false]at hy
   cases e5:Nat.beq d0 i with
   |true=>
    rw[e5]at hy
    have:=Nat.eq_of_beq_eq_true e5
    subst this
    simp only[cond_true,Option.some.injEq]at hy
    subst hy
    exact⟨x,by rw[Array.getElem?_setIfInBounds_ne Gl];simp[wM,hd.1],xu⟩
   |false=>
    rw[e5]at hy
    have OJ:d0≠i:=fun e=>by subst e;simp at e5
    simp only[cond_false]at hy
    obtain⟨j,rfl,hj⟩:=pw args 0 i y hy
    obtain⟨u,hu,cP⟩:=gr args vs j y aW hj
    refine⟨u,?_,cP⟩
    have ag:j<vs.length:=by
     rcases Nat.lt_or_ge j vs.length with h|h
     ·exact h
     ·rw[List.getElem?_eq_none h]at hu;cases hu
    rw[Array.getElem?_setIfInBounds_ne Gl,Array.getElem?_setIfInBounds_ne OJ,hT,Nat.zero_add,Array.getElem?_append_left (by simpa using ag)]
    simpa using hu
 have wN:bS fn [1]=c2:=by simp[bS,hb,child]
 have rD:=h0 φ I _ w iH
 rw[wN]at rD
 refine callsDIn_of_wpSIn hf hb trivial fun j_ cs rl=>?_
 rw[<-hT]
 refine wpSIn_seq (wpSIn_region ?_)
 obtain⟨qM,q9⟩:∃qM:List Frame,qM=(match r with|none=>j_::cs|some _=>{j_ with mode:= .panicking [{v:=v,recovered:=true}]}::cs):=⟨_,rfl⟩
 have bt:∃u',qM={j_ with mode:=u'}::cs/\settle u'= .returning:=by
  cases r with
  |none=>exact⟨.returning,by rw[q9];simp only[rT]at rl;rw[<-rl],rfl⟩
  |some r0=>exact⟨_,q9,rfl⟩
 have wW:c2.wpSIn Fence.wide 2 P (bodyPostS P fn j_ cs fun e u' w'=>∃H' φ' I' x,RD H'/\e= .returned x/\settle u'= .returning/\St ⟨w,cB φ,I,φ,cH H⟩ φ' I' H' w') {tmps:=(T.setIfInBounds d0 x).setIfInBounds d1 x,defers:=[]} qM w:=by
  refine wpSIn_of_wpIn rfl (Go.wpIn_mono (KN rD) fun e a' w' he=>?_)
  obtain⟨u',GD,od⟩:=bt
  cases e with
  |normal=>
   obtain⟨lK,v',mR,rr,H',φ',I',vv,pG,_,_,hS⟩:=he
   exact⟨lK,u',GD,v',mR,H',φ',I',v',pG,rfl,od,hS⟩
  |ret=>
   obtain⟨lK,v',mR,rr,H',φ',I',vv,pG,_,_,hS⟩:=he
   exact⟨lK,u',GD,v',mR,H',φ',I',v',pG,rfl,od,hS⟩
  |_=>exact he.elim
 have xh:(execOp ({tmps:=T,defers:=[]}:Act).eval o0).run P w= .ok .recover w:=by
  obtain⟨dst,op,ty,pos,af,g⟩:=o0
  cases op with
  |call cc=>
   obtain⟨callee,as,aP⟩:=cc
   simp only at tM
   cases callee with
   |builtin bb=>
    cases bb<;>first|(simp only at tM;exact absurd tM (by decide))|rfl
   |_=>simp at tM
  |_=>simp at tM
 have NV:∀a:Act,(execOp a.eval o1).run P w= .ok (.value (a.eval (.tmp d0))) w:=fun a=>by
  obtain⟨dst,op,ty,pos,af,g⟩:=o1
  simp only at Gp
  subst Gp
  rfl
 have e0:({tmps:=T,defers:=[]}:Act).put o0.dst x={tmps:=T.setIfInBounds d0 x,defers:=[]}:=by rw[N8];rfl
 have e1:({tmps:=T.setIfInBounds d0 x,defers:=[]}:Act).put o1.dst x={tmps:=(T.setIfInBounds d0 x).setIfInBounds d1 x,defers:=[]}:=by rw[N9];rfl
 have MQ:({tmps:=T.setIfInBounds d0 x,defers:=[]}:Act).eval (.tmp d0)=x:=by simp[Act.eval,wM,hd.1]
 have GB:wpOpsSIn Fence.wide 2 P #[o0,o1] (Exit.thenS (c2.wpSIn Fence.wide 2 P (bodyPostS P fn j_ cs fun e u' w'=>∃H' φ' I' x,RD H'/\e= .returned x/\settle u'= .returning/\St ⟨w,cB φ,I,φ,cH H⟩ φ' I' H' w')) (bodyPostS P fn j_ cs fun e u' w'=>∃H' φ' I' x,RD H'/\e= .returned x/\settle u'= .returning/\St ⟨w,cB φ,I,φ,cH H⟩ φ' I' H' w')) [1] (({tmps:=T,defers:=[]}:Act).put o0.dst x) qM w:=by
  simp only[wpOpsSIn,List.getElem?_toArray,List.getElem?_cons_zero,List.getElem?_cons_succ]
  refine⟨fun _ _=>trivial,?_⟩
  rw[if_pos (by simp[Region.wanted,k3]),NV,e0,MQ]
  show Exit.thenS _ _ Exit.normal (({tmps:=T.setIfInBounds d0 x,defers:=[]}:Act).put o1.dst x) qM w
  rw[e1]
  exact wW
 show wpOpsSIn Fence.wide 2 P #[o0,o1] _ [0,1] _ (j_::cs) w
 rw[wpOpsSIn]
 have On:(#[o0,o1]:Array Oper)[0]?=some o0:=rfl
 rw[On]
 refine⟨fun _ _=>trivial,?_⟩
 rw[if_pos (by simp[Region.wanted,wZ]),xh]
 cases r with
 |none=>
  simp only[rT]at rl
  have e_:recoverD (j_::cs)=none:=by simp[recoverD,rl]
  simp only at hx q9
  subst hx
  subst q9
  show(match recoverD (j_::cs)with|some (v,cs')=>_|none=>_)
  rw[e_]
  exact GB
 |some r0=>
  simp only[rT]at rl
  have e_:recoverD (j_::cs)=some (v,{j_ with mode:= .panicking [{v:=v,recovered:=true}]}::cs):=by simp[recoverD,rl]
  simp only at hx q9
  subst hx
  subst q9
  show(match recoverD (j_::cs)with|some (v,cs')=>_|none=>_)
  rw[e_]
  exact GB
end
def yQ:TK->Bool
 | .iface=>false
 | .other=>false
 |_=>true
theorem Ks {P:Program} {t:TypeId} (h:yQ (tk P t)=true):∃u,P.underlying t=some u/\∀m,u≠ .interface m:=by
 unfold tk at h
 cases hu:P.underlying t with
 |none=>rw[hu]at h;cases h
 |some u=>
  refine⟨u,rfl,fun m e=>?_⟩
  subst e
  rw[hu]at h
  cases h
section
variable {C:Cx} {K:List PK} {E:Env} {H:aa}
theorem AQ.iface {ds:List (Nat×Nat)} {i:Nat} {d:Option Nat} {ty t:TypeId} {pos:String} {af:Array Edge} {os:List Oper} {x:Operand} {y:AV}
  (ah:a6 C.n ({dst:=d,op:= .makeInterface t x,type:=ty,pos:=pos,after:=af,guard:=none}::os)=true)
  (hx:ev E x=some y) (hg:y.g=true) (ht:yQ (tk C.P t)=true)
  (h:vq C K os (aQ d i ds) (i+1) (aS d (.wr (.iface t) y.st) E) H):
  AQ C ds i ({dst:=d,op:= .makeInterface t x,type:=ty,pos:=pos,after:=af,guard:=none}::os) K E H:=by
 obtain⟨hd,b9⟩:=dE ah
 have bm:=AQ.go b9 h
 unfold AQ at bm⊢
 refine AO.step (o:={dst:=d,op:= .makeInterface t x,type:=ty,pos:=pos,after:=af,guard:=none}) fun ops φ I a w aM _ hs Kn bB=>?_
 rw[if_pos (by simp[Region.wanted])]
 have hv:=kc hs.env [x] [y] (by simp[di,hx]) (by simp[gs,hg])
 simp only[List.map_cons,List.map_nil,AV.ab]at hv
 obtain⟨v0,Dg,h0,hv,_⟩:=hv
 cases h0
 obtain⟨u,hu,A0⟩:=Ks ht
 have ax:(execOp a.eval {dst:=d,op:= .makeInterface t x,type:=ty,pos:=pos,after:=af,guard:=none}).run C.P w= .ok (.value (.iface t (a.eval x))) w:=by
  have e:execOp a.eval {dst:=d,op:= .makeInterface t x,type:=ty,pos:=pos,after:=af,guard:=none}=(do pure (.value (<-Instr.makeInterface t (a.eval x))):Sem Next):=rfl
  rw[e]
  unfold Instr.makeInterface
  cases u<;>first|exact absurd rfl (A0 _)|simp[run_underlying hu]
 unfold Oper.wp
 rw[ax,Oper.upon_value]
 exact bB _ _ φ I _ _ bm (hs.put hs.st (bh.refl w φ I) hd ⟨_,rfl,hv⟩)
theorem xI {ds:List (Nat×Nat)} {i:Nat} {d:Option Nat} {ty t:TypeId} {pos:String} {af:Array Edge} {os:List Oper} {x:Operand} {y:AV}
  (h:vq C K os (aQ d i ds) (i+1) (aS d (.wr (.iface t) y.st) E) H)
  (ah:a6 C.n ({dst:=d,op:= .makeInterface t x,type:=ty,pos:=pos,after:=af,guard:=none}::os)=true:=by kernel_rfl)
  (hx:ev E x=some y:=by exact rfl) (hg:y.g=true:=by exact rfl) (ht:yQ (tk C.P t)=true:=by exact rfl):
  AQ C ds i ({dst:=d,op:= .makeInterface t x,type:=ty,pos:=pos,after:=af,guard:=none}::os) K E H:=AQ.iface ah hx hg ht h
theorem AQ.LF {ds:List (Nat×Nat)} {i:Nat} {d:Option Nat} {ty t xt:TypeId} {pos:String} {af:Array Edge} {os:List Oper} {x:Operand} {y:AV}
  (ah:a6 C.n ({dst:=d,op:= .typeAssert x xt t true,type:=ty,pos:=pos,after:=af,guard:=none}::os)=true)
  (hx:ev E x=some (.wr (.iface t) y)) (ht:yQ (tk C.P t)=true)
  (h:vq C K os (aQ d i ds) (i+1) (aS d (.aK [y,.im (.v (.bool true))]) E) H):
  AQ C ds i ({dst:=d,op:= .typeAssert x xt t true,type:=ty,pos:=pos,after:=af,guard:=none}::os) K E H:=
 AQ.val (.aK [y,.im (.v (.bool true))]) ah rfl (fun φ I a w hs=>by
  have hv:=aL hs.env hx
  simp only[AV.den,WK.rel]at hv
  obtain⟨v,hu,hv⟩:=hv
  obtain⟨u,Pd,A0⟩:=Ks ht
  refine⟨.tuple #[v,.bool true],?_,?_⟩
  ·have e:execOp a.eval {dst:=d,op:= .typeAssert x xt t true,type:=ty,pos:=pos,after:=af,guard:=none}=(do pure (.value (<-Instr.typeAssert (a.eval x) xt t true)):Sem Next):=rfl
   rw[e,hu]
   unfold Instr.typeAssert
   cases u<;>first|exact absurd rfl (A0 _)|simp[run_underlying Pd]
  ·exact⟨_,⟨v,[.bool true],rfl,hv,.bool true,[],rfl,(by simp only[AV.den,IV.den];exact⟨trivial,rfl⟩),rfl⟩,rfl⟩) h
end
section
variable {P:Program} {Q:Exit->Act->World->Prop} {a:Act} {w:World}
theorem Q7 {o:Oper} {K:Act->World->Prop} (h:l5 P o a w K Q):o.wpIn (Fw none) 3 P a w K Q:=by
 refine⟨fun _ _=>trivial,?_⟩
 have hs:o.semAt (Fw none).round a.eval=execOp a.eval o:=Oper.semAt_none _ _
 rw[hs]
 rcases h with h|⟨l,f,tmps,as,bd,hr,h⟩
 ·unfold Oper.wp at h
  generalize(execOp a.eval o).run P w=q at*
  cases q with
  |ok x w'=>
   cases x<;>simp only[Oper.upon,Oper.uponIn]at h⊢<;>first
    |exact h
    |exact⟨fun h=>(by cases h),zl h⟩
    |exact⟨fun h=>(by cases h),Ji h⟩
    |exact h.elim
  |halt x w'=>cases x<;>simp only[Oper.upon,Oper.uponIn]at h⊢<;>first|exact h|exact h.elim
 ·rw[hr,Oper.uponIn_round]
  exact⟨fun h=>(by cases h),Jc h⟩
theorem KP {ops:Array Oper}:∀(l:List Oper) (k:Nat),(∀j,l[j]?=ops[k+j]?)->∀(a:Act) (w:World),fw P ops Q l a w->wpOpsIn (Fw none) 3 P ops Q (List.range' k l.length) a w
 |[],_,_,_,_,h=>h
 |o::l,k,hl,a,w,h=>by
  have h0:ops[k]?=some o:=by simpa using(hl 0).symm
  have ih:=KP l (k+1) (fun j=>by have:=hl (j+1);simpa[Nat.add_assoc,Nat.add_comm 1 j]using this)
  rw[List.length_cons,List.range'_succ]
  simp only[wpOpsIn,h0]
  simp only[fw]at h
  split
  ·rename_i hw
   rw[if_pos hw]at h
   exact Oper.wpIn_mono (fun a' w' h'=>ih a' w' h') (Q7 h)
  ·rename_i hw
   rw[if_neg hw]at h
   exact⟨fun _ _=>trivial,ih _ _ h⟩
theorem Tq {id:Nat} {ops:Array Oper} (h:fw P ops Q ops.toList a w):kO none P (.region id ops false) Q a w:=by
 refine wpIn_region ?_
 have:=KP (ops:=ops) ops.toList 0 (by simp) a w h
 rwa [Array.length_toList,<-List.range_eq_range']at this
end
section
variable {C:Cx} {K:List PK} {E:Env} {H:aa}
theorem AP.RG {p:List Nat} {id:Nat} {ops:List Oper} (e_:C.rd=none) (hc:bS C.fn p= .region id ops.toArray false) (h:AQ C [] 0 ops K E H):AP C p K E H:=by
 unfold AP
 rw[hc]
 intro φ I a w hs
 unfold AQ at h
 rw[e_]
 refine Tq (h ops.toArray (fun j d hj=>by simp[lk]at hj) (fun j o hj=>?_) φ I a w hs)
 rw[Nat.zero_add]
 simp[hj]
theorem AQ.Nr {ds:List (Nat×Nat)} {i:Nat} {o:Oper} {os:List Oper} {sc:Prop} {v:AV} (ah:a6 C.n [o]=true) (hg:o.guard=none) (hv:gf C.P E H o.op=some (sc,v)) (au:sc)
  (h:AQ C (aQ o.dst i ds) (i+1) os K (aS o.dst v E) H):AQ C ds i (o::os) K E H:=by
 obtain⟨hd,_⟩:=dE ah
 have eZ:=h
 unfold AQ at eZ⊢
 refine AO.step fun ops φ I a w aM _ hs Kn bB=>?_
 rw[if_pos (by simp[Region.wanted,hg])]
 obtain⟨u,hu,aW⟩:=vY hs.env hs.st.real hv au
 unfold Oper.wp
 rw[hu,Oper.upon_value]
 exact bB _ _ φ I _ _ eZ (hs.put hs.st (bh.refl _ _ _) hd aW)
end
section
variable {C:Cx} {K:List PK} {E:Env} {H:aa}
end
section
variable {C:Cx} {K:List PK} {E:Env} {H:aa}
end
section
variable {C:Cx} {K:List PK} {E:Env} {H:aa}
theorem AE.Hi {C0:Cx} {e:Exit} (he:e= .ret\/e= .normal) (aM:C.ds=[none]) (h:LV C E H) (hC:kT C0=kT C:=by rfl):AE C e [.bot (kT C0)] E H:=by
 unfold AE
 intro φ I a w hs
 obtain⟨ms,g1,g2,g3,g4⟩:=hs.bo
 have pQ:=g4 (by rw[aM];simp)
 have pH:a.defers=[]:=by rw[g1,pQ,aM];rfl
 rw[hC]
 have:=h φ I a w hs.st hs.env
 rw[<-pH]at this
 rcases he with rfl|rfl<;>exact this
end
theorem an {a b:Prop} (x:a) (y:b):a/\b:=⟨x,y⟩
theorem gO {p q:Prop} (hq:q) (h:q->p:=by
 intro hq
 repeat(first|refine xA ?_|refine xB ?_|refine xC ?_|refine xE ?_|refine xD ?_|refine xK ?_|refine xS ?_|refine xM ?_|refine xT ?_|refine xF ?_|((first|refine xR ?_|refine xW ?_|refine mb ?_);simp only[go_sem,Nat.reduceAdd,Nat.reduceLeDiff,Nat.reduceSub,Int.reduceToNat,reduceCtorEq])|(refine⟨by clear hq;first|omega|(intros;simp_all;done)|(intros;simp_all;omega),?_⟩;try simp only[go_sem,Nat.reduceAdd,Nat.reduceLeDiff,Nat.reduceSub,Int.reduceToNat,reduceCtorEq]))
 exact hq):p:=h hq
theorem gE {e p q:Prop} (he:e) (hq:q) (h:e->q->p:=by
 intro he hq
 repeat(first|refine xA ?_|refine xB ?_|refine xC ?_|refine xE ?_|refine xD ?_|refine xK ?_|refine xS ?_|refine xM ?_|refine xT ?_|refine xF ?_|((first|refine xR ?_|refine xW ?_|refine mb ?_);simp only[go_sem,Nat.reduceAdd,Nat.reduceLeDiff,Nat.reduceSub,Int.reduceToNat,reduceCtorEq,he])|(refine⟨by clear hq;first|omega|(intros;simp_all;done)|(intros;simp_all;omega),?_⟩;try simp only[go_sem,Nat.reduceAdd,Nat.reduceLeDiff,Nat.reduceSub,Int.reduceToNat,reduceCtorEq,he]))
 exact hq):p:=h he hq
theorem sI {p q:Prop} (hq:q) (h:q->p:=by
 intro hq
 simp only[go_sem,Nat.reduceAdd,Nat.reduceLeDiff,Nat.reduceSub,Int.reduceToNat,reduceCtorEq]
 exact hq):p:=h hq
theorem sE {e p q:Prop} (he:e) (hq:q) (h:e->q->p:=by
 intro he hq
 simp only[go_sem,Nat.reduceAdd,Nat.reduceLeDiff,Nat.reduceSub,Int.reduceToNat,reduceCtorEq,he]
 exact hq):p:=h he hq
theorem sH {p q:Prop} (hq:q) (h:q->p:=by
 intro hq
 simp only[go_sem,Nat.reduceAdd,Nat.reduceLeDiff,Nat.reduceSub,Int.reduceToNat,reduceCtorEq,cK,dU,bZ,eN]
 exact hq):p:=h hq
section
variable {C:Cx} {K:List PK} {E:Env} {H:aa} {p:List Nat}
theorem cT {t:Tmp} {x y:Code} (ht:AP C (0::p) K E H) (hc:bS C.fn p= .cond (.tmp t) x y:=by exact rfl) (hb:lk E t=some (.im (.v (.bool true))):=by
 simp only[go_sem,Nat.reduceAdd,Nat.reduceLeDiff,Nat.reduceSub,Int.reduceToNat,reduceCtorEq]
 refine congrArg (fun b=>some (AV.im (IV.v (Value.bool b)))) ?_
 (first|(simp only[Bool.or_eq_true,Bool.and_eq_true,Bool.not_eq_true',Bool.not_eq_false',Bool.and_eq_false_iff,Bool.or_eq_false_iff,decide_eq_true_eq,decide_eq_false_iff_not,beq_iff_eq,bne_iff_ne,beq_eq_false_iff_ne,bne_eq_false_iff_eq,ne_eq];omega)|(simp;done)|(simp;omega)|(simp_all;done)|(simp_all;omega))):AP C p K E H:=AP.cond_true hc hb ht
theorem cF {t:Tmp} {x y:Code} (hf:AP C (1::p) K E H) (hc:bS C.fn p= .cond (.tmp t) x y:=by exact rfl) (hb:lk E t=some (.im (.v (.bool false))):=by
 simp only[go_sem,Nat.reduceAdd,Nat.reduceLeDiff,Nat.reduceSub,Int.reduceToNat,reduceCtorEq]
 refine congrArg (fun b=>some (AV.im (IV.v (Value.bool b)))) ?_
 (first|(simp only[Bool.or_eq_true,Bool.and_eq_true,Bool.not_eq_true',Bool.not_eq_false',Bool.and_eq_false_iff,Bool.or_eq_false_iff,decide_eq_true_eq,decide_eq_false_iff_not,beq_iff_eq,bne_iff_ne,beq_eq_false_iff_ne,bne_eq_false_iff_eq,ne_eq];omega)|(simp;done)|(simp;omega)|(simp_all;done)|(simp_all;omega))):AP C p K E H:=AP.cond_false hc hb hf
end
theorem sU {E E':Env} (h:Sub E E':=by repeat(first|exact Sub.nil _|refine Sub.cons rfl ?_)):Sub E E':=h
theorem kP.plain {P:Program} {f:FuncId} {fn:Func} {c:Code} {n nb:Nat} {args:List AV} {H:aa} {RD:aa->Prop} (kp ob:List Nat) (hf:P.funcs[f]?=some fn) (hb:fn.body=some c) (hn:fn.ntmps=n)
  (iG:enters P f=true) (cE:Nat.ble args.length n=true) (hnb:cH H=nb)
  (h:∀(w:World) (own I0:Nat->Prop) (aw:ak) (lay:Lay P ⟨w,own,I0,aw,nb⟩),AP ⟨P,fn,n,⟨w,own,I0,aw,nb⟩,kp,ob,fun _ H'=>RD H',none,fun _ _=>False,[none],lay⟩ [] [.bot (sP ⟨P,fn,n,⟨w,own,I0,aw,nb⟩,kp,ob,fun _ H'=>RD H',none,fun _ _=>False,[none],lay⟩)] (enum 0 args) H):kP P f args H none RD:=by
 refine⟨iG,fun w φ I vs v aW hR hV _=>?_⟩
 subst hnb
 have hl:=gv args vs aW
 have n5:=Nat.le_of_ble_eq_true cE
 have h0:=h w (cB φ) I φ (hR.lay hV _)
 unfold AP at h0
 simp only[bS,hb,Option.getD_some]at h0
 have rD:=h0 φ I {tmps:=vs.toArray++Array.replicate (fn.ntmps-vs.toArray.size) undef,defers:=[]} w ⟨Marks.nil,by
  simp only[Array.size_append,List.size_toArray,Array.size_replicate,hn];omega,fun i x hx=>by
  obtain⟨j,rfl,hj⟩:=pw args 0 i x hx
  obtain⟨u,hu,cP⟩:=gr args vs j x aW hj
  refine⟨u,?_,cP⟩
  have ag:j<vs.length:=by
   rcases Nat.lt_or_ge j vs.length with h|h
   ·exact h
   ·rw[List.getElem?_eq_none h]at hu;cases hu
  rw[Nat.zero_add,Array.getElem?_append_left (by simpa using ag)]
  simpa using hu,oN hR _⟩
 refine(callsDIn_of_wp (R:=fun e w'=>∃H' φ' I' x,RD H'/\e= .returned x/\St ⟨w,cB φ,I,φ,cH H⟩ φ' I' H' w') hf hb trivial (Go.wpIn_mono (KN rD) fun e a' w' he=>?_)).mono fun e u' w' ⟨hu,H',φ',I',x,U,h2,h3⟩=>⟨H',φ',I',x,U,h2,by rw[hu];rfl,h3⟩
 cases e with
 |normal=>
  obtain⟨lK,v',mR,rr,H',φ',I',vv,pG,_,_,hS⟩:=he
  exact⟨lK,v',mR,H',φ',I',v',pG,rfl,hS⟩
 |ret=>
  obtain⟨lK,v',mR,rr,H',φ',I',vv,pG,_,_,hS⟩:=he
  exact⟨lK,v',mR,H',φ',I',v',pG,rfl,hS⟩
 |_=>exact he.elim
def gb (a b:IV):Prop:=∀(w:World) (I:Nat->Prop) (u:Value),IV.den w I a u->IV.den w I b u
def kG (a b:List IV):Prop:=∀(w:World) (I:Nat->Prop) (us:List Value),IV.ab w I a us->IV.ab w I b us
def dW (a b:AV):Prop:=∀(w:World) (φ:ak) (I:Nat->Prop) (u:Value),AV.den w φ I a u->AV.den w φ I b u
theorem gb.refl (a:IV):gb a a:=fun _ _ _ h=>h
theorem dW.refl (a:AV):dW a a:=fun _ _ _ _ h=>h
theorem kG.refl (a:List IV):kG a a:=fun _ _ _ h=>h
theorem kH.refl (a:List (List IV)):kH a a:=fun _ _ _ h=>h
theorem gb.nil (es:Nat):gb (.v (.slice none 0 0)) (.sl es []):=fun w I u h=>Cp h
theorem kG.cons {x y:IV} {l m:List IV} (h:gb x y) (h':kG l m):kG (x::l) (y::m):=fun w I us hd=>by
 simp only[IV.ab]at hd⊢
 obtain⟨u,aj,e,U,h2⟩:=hd
 exact⟨u,aj,e,h w I u U,h' w I aj h2⟩
theorem kH.cons {x y:List IV} {l m:List (List IV)} (h:kG x y) (h':kH l m):kH (x::l) (y::m):=fun w I us hd=>by
 simp only[IV.aC]at hd⊢
 obtain⟨u,aj,e,U,h2⟩:=hd
 exact⟨u,aj,e,h w I u U,h' w I aj h2⟩
theorem zD {w:World} {I:Nat->Prop}:∀(l:List (List IV)) (us:List (List Value)),IV.aC w I l us->us.length=l.length
 |[],us,h=>by simp only[IV.aC]at h;subst h;rfl
 |x::l,us,h=>by
  simp only[IV.aC]at h
  obtain⟨u,aj,rfl,_,h2⟩:=h
  simp[zD l aj h2]
theorem gb.sl {es:Nat} {l m:List (List IV)} (h:kH l m):gb (.sl es l) (.sl es m):=fun w I u hd=>by
 simp only[IV.den]at hd⊢
 obtain⟨p,c,ae,e,hc,U,h2,h3⟩:=hd
 have hm:=h w I ae U
 have hl:l.length=m.length:=by rw[<-zD l ae U,<-zD m ae hm]
 refine⟨p,c,ae,by rw[<-hl];exact e,by omega,hm,h2,fun aG=>h3 fun iF=>aG ?_⟩
 subst iF
 exact List.eq_nil_of_length_eq_zero hl.symm
theorem dW.im {a b:IV} (h:gb a b):dW (.im a) (.im b):=fun w φ I u hd=>by
 simp only[AV.den]at hd⊢;exact h w I u hd
theorem ct.wh {x y:AV} {l m:List AV} (h:dW x y) (h':ct l m):ct (x::l) (y::m):=fun w φ I us hd=>by
 simp only[AV.ab]at hd⊢
 obtain⟨u,aj,e,U,h2⟩:=hd
 exact⟨u,aj,e,h w φ I u U,h' w φ I aj h2⟩
theorem dW.agg {l m:List AV} (h:ct l m):dW (.agg l) (.agg m):=fun w φ I u hd=>by
 simp only[AV.den]at hd⊢
 obtain⟨us,U,h2⟩:=hd
 exact⟨us,h w φ I us U,h2⟩
theorem dW.aK {l m:List AV} (h:ct l m):dW (.aK l) (.aK m):=fun w φ I u hd=>by
 simp only[AV.den]at hd⊢
 obtain⟨us,U,h2⟩:=hd
 exact⟨us,h w φ I us U,h2⟩
theorem al.vW {P:Program} {f:FuncId} {xs ys:List AV} {H:aa} {R:AV->aa->Prop} (h:al P f ys H R) (hl:ct xs ys):al P f xs H R:=
 ⟨h.fC,fun w φ I vs hd hR hV=>h.run w φ I vs (hl w φ I vs hd) hR hV⟩
theorem cO.vW {P:Program} {f:FuncId} {xs ys:List AV} {H:aa} {R X:AV->aa->Prop} (h:cO P f ys H R X) (hl:ct xs ys):cO P f xs H R X:=
 ⟨h.fC,fun w φ I vs hd hR hV=>h.run w φ I vs (hl w φ I vs hd) hR hV⟩
theorem aR.vW {P:Program} {f:FuncId} {xs ys:List AV} {r:AV} (h:aR P f ys r) (hl:ct xs ys):aR P f xs r:=al.vW h hl
theorem PA {w:World} {I:Nat->Prop}:∀{x:IV} {u:Value},IV.den w I x u->u.oneCell'=true
 | .v x,u,h=>by simp only[IV.den]at h;rw[h.1];exact h.2
 | .sl es rows,u,h=>by
  simp only[IV.den]at h
  obtain⟨p,c,ae,rfl,_⟩:=h
  rfl
 | .pt cs,u,h=>by
  simp only[IV.den]at h
  obtain⟨g,off,us,rfl,_⟩:=h
  rfl
 | .fn f fs aD,u,h=>by
  simp only[IV.den]at h
  obtain⟨us,vs,_,_,rfl⟩:=h
  rfl
theorem GR {w:World} {I:Nat->Prop}:∀(cs:List IV) (us:List Value),IV.ab w I cs us->∀x∈us,x.oneCell'=true
 |[],us,h,x,hx=>by simp only[IV.ab]at h;subst h;cases hx
 |c::cs,us,h,x,hx=>by
  simp only[IV.ab]at h
  obtain⟨u,aj,rfl,U,h2⟩:=h
  rcases List.mem_cons.1 hx with rfl|hx
  ·exact PA U
  ·exact GR cs aj h2 x hx
theorem GQ {w:World} {φ:ak} {I:Nat->Prop}:∀(cs:List IV) (us:List Value),IV.ab w I cs us->AV.ab w φ I (cs.map .im) us
 |[],us,h=>by simp only[IV.ab]at h;subst h;rfl
 |c::cs,us,h=>by
  simp only[IV.ab]at h
  obtain⟨u,aj,rfl,U,h2⟩:=h
  exact⟨u,aj,rfl,by simp only[AV.den];exact U,GQ cs aj h2⟩
theorem dW.ar (cs:List IV):dW (.ar cs) (.agg (cs.map .im)):=fun w φ I u hd=>by
 simp only[AV.den]at hd⊢
 obtain⟨us,U,h2⟩:=hd
 exact⟨us,GQ cs us U,h2,GR cs us U⟩
end Go.AL
end
section
namespace Go.AL
open Go Go.Sort Go.Proofs
abbrev oS (l:List (List UInt8)):List (List IV):=l.map fun s=>[IV.v (.string (BA s))]
theorem J0 {w:World} {I:Nat->Prop}:∀(l:List (List UInt8)) (ae:List (List Value)),IV.aC w I (oS l) ae->ae.flatten=l.map encStr
 |[],ae,h=>by simp only[oS,List.map_nil,IV.aC]at h;subst h;rfl
 |x::l,ae,h=>by
  simp only[oS,List.map_cons,IV.aC,IV.ab,IV.den]at h
  obtain⟨u,aj,rfl,⟨v,vs,rfl,⟨rfl,_⟩,rfl⟩,h2⟩:=h
  have:=J0 l aj h2
  simp only[List.flatten_cons,List.map_cons,this]
  rfl
theorem JZ {w:World} {I:Nat->Prop}:∀(l:List (List UInt8)),IV.aC w I (oS l) (l.map fun s=>[encStr s])
 |[]=>by simp only[oS,List.map_nil,IV.aC]
 |x::l=>by
  simp only[oS,List.map_cons,IV.aC,IV.ab,IV.den]
  exact⟨_,_,rfl,⟨_,_,rfl,⟨rfl,rfl⟩,rfl⟩,JZ l⟩
theorem Fj:∀m:List (List UInt8),(m.map fun s=>[encStr s]).flatten=m.map encStr
 |[]=>rfl
 |x::r=>by rw[List.map_cons,List.flatten_cons,Fj r];rfl
theorem Ry (l m:List (List UInt8)) (rest:List Value) (h:m.length=l.length):putCells encStr 0 m.toArray (l.map encStr++rest).toArray=(m.map encStr++rest).toArray:=by
 apply Array.ext_getElem?
 intro k
 unfold putCells
 rw[Array.getElem?_mapIdx,List.getElem?_toArray,List.getElem?_toArray]
 rcases Nat.lt_or_ge k m.length with hk|hk
 ·rw[List.getElem?_append_left (by simp;omega),List.getElem?_append_left (by simpa using hk),List.getElem?_map,List.getElem?_map,List.getElem?_eq_getElem (by omega),List.getElem?_eq_getElem hk]
  simp[hk]
 ·rw[List.getElem?_append_right (by simp;omega),List.getElem?_append_right (by simpa using hk)]
  simp only[List.length_map,h]
  cases rest[k-l.length]? with
  |none=>rfl
  |some x=>simp;omega
theorem F6 (w:World) (g:Nat) (n:Nat) (d:Array (List UInt8)) (os:Array Obj) (k:Nat) (hk:k<w.heap.size):(grow (putRow encStr (Sort.ahead w n) g 0 d) os).heap[k]?=if g=k then(w.heap[k]?).map (onCells (putCells encStr 0 d))else w.heap[k]?:=by
 rw[heap_grow_old _ _ (by show k<(w.heap.modify g _).size;simpa using hk)]
 show(w.heap.modify g (onCells (putCells encStr 0 d)))[k]?=_
 rw[Array.getElem?_modify]
theorem St.putRow {w:World} {φ:ak} {I:Nat->Prop} {el:TypeId} {l m:List (List UInt8)} (hR:Real w φ I [(0,.vec el 1 (oS l))]) {g:Nat} (hg:φ 0=some (some g)) (h:m.length=l.length) (n:Nat) (os:Array Obj):
  St ⟨w,cB φ,I,φ,1⟩ φ I [(0,.vec el 1 (oS m))] (grow (putRow encStr (Sort.ahead w n) g 0 m.toArray) os):=by
 have aH:=hR.own 0 _ (some g) rfl hg
 simp only[Ob.at]at aH
 rcases aH with⟨U,_⟩|⟨g',ae,rest,e,hh,hd,_⟩
 ·cases U
 cases e
 have c_:=J0 l ae hd
 rw[c_]at hh
 have bm:=hR.off 0 g hg
 have aO:w.heap.size<=(grow (Sort.putRow encStr (Sort.ahead w n) g 0 m.toArray) os).heap.size:=by
  rw[size_grow]
  show w.heap.size<=(w.heap.modify g _).size+_
  simp
 have kr:∀k,k<w.heap.size->k≠g->(grow (Sort.putRow encStr (Sort.ahead w n) g 0 m.toArray) os).heap[k]?=w.heap[k]?:=fun k hk aG=>by
  rw[F6 w g n _ os k hk,if_neg (fun e=>aG e.symm)]
 have jQ:(grow (Sort.putRow encStr (Sort.ahead w n) g 0 m.toArray) os).heap[g]?=some (.cells (m.map encStr++rest).toArray el (0,0)):=by
  rw[F6 w g n _ os g bm.2,if_pos rfl,hh]
  show some (onCells (putCells encStr 0 m.toArray) (.cells (l.map encStr++rest).toArray el (0,0)))=_
  rw[onCells,Ry l m rest h]
 refine⟨⟨fun b=>?_,fun b o p hl hp=>?_,fun b g2 hb=>⟨(hR.off b g2 hb).1,Nat.lt_of_lt_of_le (hR.off b g2 hb).2 aO⟩,hR.inj,fun g2 hi=>Nat.lt_of_lt_of_le (hR.bI g2 hi) aO⟩,
  ⟨aO,fun k hk bG=>kr k hk fun e=>bG ⟨0,e▸hg⟩,fun k c e fz hc=>?_,rfl,rfl,rfl⟩,fun b g2 hb=> .inl ⟨b,hb⟩,fun g2 hi=> .inl hi,fun g2 hi=>hi,fun b p o _ h0 _=>h0⟩
 ·have:=hR.bf b
  simp only[lk]at this⊢
  cases hb:Nat.beq 0 b with
  |true=>rw[hb]at this;simpa using this
  |false=>rw[hb]at this;simpa using this
 ·simp only[lk]at hl
  cases hb:Nat.beq 0 b with
  |true=>
   rw[hb]at hl
   have:=Nat.eq_of_beq_eq_true hb
   subst this
   rw[hg]at hp
   cases hp
   simp only[cond_true,Option.some.injEq]at hl
   subst hl
   simp only[Ob.at]
   refine .inr ⟨g,m.map fun s=>[encStr s],rest,rfl,?_,JZ m,fun vs hv=>?_⟩
   ·rw[jQ]
    rw[Fj]
   ·obtain⟨s,_,rfl⟩:=List.mem_map.1 hv;rfl
  |false=>rw[hb]at hl;cases hl
 ·rcases Nat.lt_or_ge k w.heap.size with hk|hk
  ·by_cases tE:k=g
   ·subst tE
    rw[hh]at hc
    cases hc
    exact⟨_,_,jQ,by simp[h]⟩
   ·exact⟨c,fz,(kr k hk tE).trans hc,rfl⟩
  ·rw[Array.getElem?_eq_none hk]at hc;cases hc
end Go.AL
end
section
namespace Go.AL
open Go
section
variable {C:Cx} {K:List PK} {E:Env} {H:aa}
theorem AQ.Du {ds:List (Nat×Nat)} {i:Nat} {os:List Oper} {E':Env} (h:AQ C ds i os K E' H) (hE:Sub E E'):AQ C ds i os K E H:=by
 unfold AQ at h⊢
 intro ops U h2 φ I a w hs
 exact h ops U h2 φ I a w (hs.sub hE)
end
section
variable {C:Cx} {K:List PK} {E:Env} {H:aa}
theorem AQ.opt (t:Nat) {ds:List (Nat×Nat)} {i:Nat} {os:List Oper} {x:AV} (hl:lk E t=some (.opt true x)) (h:AQ C ds i os K ((t,x)::E) H):AQ C ds i os K E H:=
 AQ.imp (E':=(t,x)::E) (fun w φ I a he j y hj=>by
  by_cases k6:j=t
  ·subst k6
   rw[lk,Nat.beq_refl,cond_true]at hj
   obtain⟨u,hu,hd⟩:=he j _ hl
   simp only[AV.den]at hd
   cases hj
   exact⟨u,hu,hd.1 trivial⟩
  ·have:Nat.beq t j=false:=by
    cases hb:Nat.beq t j with
    |false=>rfl
    |true=>exact absurd (Nat.eq_of_beq_eq_true hb).symm k6
   have lM:lk E j=some y:=by
    rw[lk]at hj
    first|(rw[this]at hj;exact hj)|(have t2:Nat.beq j t=false:=by(cases hb:Nat.beq j t with|false=>rfl|true=>exact absurd (Nat.eq_of_beq_eq_true hb) k6);rw[t2]at hj;exact hj)
   exact he j y lM) h
end
end Go.AL
end
section
namespace Go.AL
open Go Go.MapKept
def ff:List Value->List Nat->List Value->List MapEntry
 |k::ks,b::bs,u::us=>{key:=k,val:=u,born:=b}::ff ks bs us
 |_,_,_=>[]
theorem KU:∀l:List MapEntry,ff (l.map (·.key)) (l.map (·.born)) (l.map (·.val))=l
 |[]=>rfl
 |e::l=>by simp only[List.map_cons,ff,KU l]
theorem vm:∀(ks:List Value) (bs:List Nat) (us:List Value),ks.length=bs.length->us.length=bs.length->(ff ks bs us).map (·.born)=bs
 |[],[],[],_,_=>rfl
 |k::ks,b::bs,u::us,U,h2=>by
  simp only[List.length_cons]at U h2
  simp only[ff,List.map_cons,vm ks bs us (by omega) (by omega)]
theorem Dz:∀(ks:List Value) (bs:List Nat) (us:List Value),ks.length=bs.length->us.length=bs.length->(ff ks bs us).map (·.key)=ks
 |[],[],[],_,_=>rfl
 |k::ks,b::bs,u::us,U,h2=>by
  simp only[List.length_cons]at U h2
  simp only[ff,List.map_cons,Dz ks bs us (by omega) (by omega)]
theorem DA:∀(ks:List Value) (bs:List Nat) (us:List Value),ks.length=bs.length->us.length=bs.length->(ff ks bs us).map (·.val)=us
 |[],[],[],_,_=>rfl
 |k::ks,b::bs,u::us,U,h2=>by
  simp only[List.length_cons]at U h2
  simp only[ff,List.map_cons,DA ks bs us (by omega) (by omega)]
theorem KV {ks:List Value} {bs:List Nat} {us:List Value} (U:ks.length=bs.length) (h2:us.length=bs.length) {j:Nat} {e:MapEntry} (h:(ff ks bs us)[j]?=some e):ks[j]?=some e.key/\bs[j]?=some e.born/\us[j]?=some e.val:=by
 refine⟨?_,?_,?_⟩
 ·rw[<-Dz ks bs us U h2,List.getElem?_map,h];rfl
 ·rw[<-vm ks bs us U h2,List.getElem?_map,h];rfl
 ·conv=>lhs;rw[<-DA ks bs us U h2]
  rw[List.getElem?_map,h];rfl
def jv (ks:List Value) (bs:List Nat) (clock:Nat) (us:List Value):Obj:= .map (ff ks bs us).toArray clock
def iN (since:Nat) (seen:List Nat) (c:Nat) (us:List Value):Obj:= .mapIter (match us with|[.map m]=>m|_=>none) since seen.toArray c
theorem Qw (ks:List Value) (bs:List Nat) (clock:Nat) (us:List Value):vr (jv ks bs clock us):= .inl ⟨_,_,rfl⟩
theorem BL (since:Nat) (seen:List Nat) (c:Nat) (us:List Value):vr (iN since seen c us):= .inr ⟨_,_,_,_,rfl⟩
structure mj (ks:List Value) (bs:List Nat) (clock:Nat):Prop where
 len:ks.length=bs.length
 nd:bs.Nodup
 lt:∀n∈bs,n<clock
section
variable {C:Cx} {K:List PK} {E:Env} {H:aa}
theorem AQ.nu (R:AV->aa->Prop) {ds:List (Nat×Nat)} {i:Nat} {o:Oper} {os:List Oper} (ah:a6 C.n (o::os)=true) (hg:o.guard=none)
  (hex:∀φ I a w,a_ C φ I E H a w->∃x H' u w' φ' I',R x H'/\(execOp a.eval o).run C.P w= .ok (.value u) w'/\AV.den w' φ' I' x u/\St C.B φ' I' H' w'/\bh w φ I w' φ' I')
  (h:∀x H',R x H'->vq C K os (aQ o.dst i ds) (i+1) (aS o.dst x E) H'):AQ C ds i (o::os) K E H:=by
 obtain⟨hd,b9⟩:=dE ah
 have bm:=fun x H' hx=>AQ.go b9 (h x H' hx)
 unfold AQ at bm⊢
 refine AO.step (o:=o) fun ops φ I a w aM _ hs Kn bB=>?_
 have hw:Region.wanted o (yielded ops a.tmps)=true:=by simp[Region.wanted,hg]
 rw[if_pos hw]
 obtain⟨x,H',u,w',φ',I',hx,ax,aW,hS,hK⟩:=hex φ I a w hs
 unfold Oper.wp
 rw[ax,Oper.upon_value]
 exact bB _ _ φ' I' _ _ (bm x H' hx) (hs.put hS hK hd aW)
theorem St.drew {B:Bs} {φ:ak} {I:Nat->Prop} {w:World} (h:St B φ I H w):St B φ I H w.drew/\bh w φ I w.drew φ I:=by
 have hx:Ext (fun _=>False) w w.drew:=⟨Nat.le_refl _,fun _ _ _=>rfl,fun _ c _ fz h=>⟨c,fz,h,rfl⟩,rfl,rfl,rfl⟩
 have k:bh w φ I w.drew φ I:=⟨fun _ _=>rfl,fun _ h=>h,fun _ _ h=>h,fun _ g n _ hs=>hx.shaped (fun h=>h) hs⟩
 refine⟨⟨⟨h.real.bf,fun b' o' p hl hp=>?_,fun b' g hp=>h.real.off b' g hp,h.real.inj,h.real.bI⟩,h.ext.trans hx (fun g hf=>hf.elim),h.bU,h.cN,h.cd,h.cu⟩,k⟩
 exact Ob.ja k.im k.I k.phi k.sh (fun g hg=>rfl) (h.real.own b' o' p hl hp)
theorem St.RC {B:Bs} {φ:ak} {I:Nat->Prop} {w:World} {l:Nat} {o0 o':Obj} (h:St B φ I H w) {b:Nat} (hb:φ b=some (some l)) (hl:w.heap[l]?=some o0) (hm:vr o0) {l6 ob:Ob} (e8:lk H b=some l6)
  (aH:(∀x u,AV.den w φ I x u->AV.den (w.putObj l o') φ I x u)->(w.putObj l o').heap[l]?=some o'->ob.at (w.putObj l o') φ I (some l)):
  St B φ I (bt H b ob) (w.putObj l o')/\bh w φ I (w.putObj l o') φ I:=by
 have hI:¬I l:=(h.real.off b l hb).1
 have ag:l<w.heap.size:=(h.real.off b l hb).2
 have pU:∀c e fz,o0≠ .cells c e fz:=fun c e fz=>by rcases hm with⟨_,_,rfl⟩|⟨_,_,_,_,rfl⟩<;>exact fun h=>by cases h
 have hx:Ext (fun g=>g=l) w (w.putObj l o'):=
  ⟨by simp,fun g _ hn=>World.putObj_heap_other hn,fun g c e fz hc=>⟨c,fz,(World.putObj_heap_other (fun e2=>by subst e2;rw[hl]at hc;cases hc;exact pU _ _ _ rfl)).trans hc,rfl⟩,rfl,rfl,rfl⟩
 have k:bh w φ I (w.putObj l o') φ I:=by
  refine⟨fun g hg=>World.putObj_heap_other (fun e=>hI (e▸hg)),fun _ h=>h,fun _ _ h=>h,fun _ g n _ hs=>?_⟩
  obtain⟨c,e,hc,hn⟩:=hs
  have hg:g≠l:=fun e2=>by subst e2;rw[hl]at hc;cases hc;exact pU _ _ _ rfl
  exact⟨c,e,(World.putObj_heap_other hg).trans hc,hn⟩
 refine⟨⟨⟨fun b'=>?_,fun b' o p aA hp=>?_,fun b' g hp=>?_,h.real.inj,fun g hg=>?_⟩,h.ext.trans hx (fun g hg=>by subst hg;exact h.bU b _ hb),h.bU,h.cN,h.cd,fun b' p o jk h0 aA=>?_⟩,k⟩
 ·by_cases ai:b'=b
  ·subst ai;rw[gQ H b' _ e8,hb];rfl
  ·rw[eH H b b' _ ai];exact h.real.bf b'
 ·by_cases ai:b'=b
  ·subst ai
   rw[gQ H b' _ e8]at aA;cases aA
   rw[hb]at hp;cases hp
   exact aH (fun x u hx=>k.den hx) (World.putObj_heap_same ag)
  ·rw[eH H b b' _ ai]at aA
   exact Ob.ja k.im k.I k.phi k.sh (fun g hg=>World.putObj_heap_other (fun e=>by subst e;subst hg;exact ai (h.real.inj b' b g hp hb))) (h.real.own b' o p aA hp)
 ·have:=h.real.off b' g hp
  exact⟨this.1,by simpa using this.2⟩
 ·have:=h.real.bI g hg
  simpa using this
 ·by_cases ai:b'=b
  ·subst ai;exact h.cu b' p l6 jk h0 e8
  ·rw[eH H b b' _ ai]at aA;exact h.cu b' p o jk h0 aA
theorem St.told {B:Bs} {φ:ak} {I:Nat->Prop} {w:World} (h:St B φ I H w) {b:Nat} {l6 ob:Ob} (e8:lk H b=some l6) (aH:∀p,φ b=some p->l6.at w φ I p->ob.at w φ I p):St B φ I (bt H b ob) w:=by
 refine⟨⟨fun b'=>?_,fun b' o p aA hp=>?_,h.real.off,h.real.inj,h.real.bI⟩,h.ext,h.bU,h.cN,h.cd,fun b' p o jk h0 aA=>?_⟩
 ·by_cases ai:b'=b
  ·subst ai
   rw[gQ H b' _ e8]
   have:=h.real.bf b'
   rw[e8]at this
   exact this
  ·rw[eH H b b' _ ai];exact h.real.bf b'
 ·by_cases ai:b'=b
  ·subst ai
   rw[gQ H b' _ e8]at aA;cases aA
   exact aH p hp (h.real.own b' _ p e8 hp)
  ·rw[eH H b b' _ ai]at aA;exact h.real.own b' o p aA hp
 ·by_cases ai:b'=b
  ·subst ai;exact h.cu b' p l6 jk h0 e8
  ·rw[eH H b b' _ ai]at aA;exact h.cu b' p o jk h0 aA
theorem AQ.HU {ds:List (Nat×Nat)} {i:Nat} {d:Option Nat} {ty t kt et:TypeId} {pos:String} {af:Array Edge} {os:List Oper} {x:Operand} {b:Nat} {ks:List Value} {cs:List AV}
  (ah:a6 C.n ({dst:=d,op:= .range t x,type:=ty,pos:=pos,after:=af,guard:=none}::os)=true)
  (hx:ev E x=some (.mp b)) (hH:lk H b=some (.var (.map ks) cs)) (ht:C.P.underlying t=some (.map kt et))
  (h:∀bs clock,mj ks bs clock->vq C K os (aQ d i ds) (i+1) (aS d (.ob (aE C.B.nb H) 0) E) ((aE C.B.nb H,.var (.raw (iN clock [] clock)) [.mp b])::bt H b (.var (.raw (jv ks bs clock)) cs))):
  AQ C ds i ({dst:=d,op:= .range t x,type:=ty,pos:=pos,after:=af,guard:=none}::os) K E H:=by
 refine AQ.nu (fun x H'=>∃bs clock,mj ks bs clock/\x= .ob (aE C.B.nb H) 0/\H'=(aE C.B.nb H,.var (.raw (iN clock [] clock)) [.mp b])::bt H b (.var (.raw (jv ks bs clock)) cs)) ah rfl (fun φ I a w hs=>?_) ?_
 ·obtain⟨g,es,clock,gI,hg,hh,aN,hY,kg⟩:=oE hs.st.real hH (aL hs.env hx)
  have bz:mj ks (es.toList.map (·.born)) clock:=⟨by rw[<-aN];simp,kg.1,fun n hn=>by
   obtain⟨e,he,rfl⟩:=List.mem_map.1 hn
   exact kg.2 e he⟩
  have U:=hs.st.told (ob:= .var (.raw (jv ks (es.toList.map (·.born)) clock)) cs) hH (fun p hp aH=>by
   rw[hg]at hp;cases hp
   simp only[Ob.at,Sh.has,Sh.one]
   exact⟨g,es.toList.map (·.val),rfl,⟨by rw[hh,jv,<-aN,KU],Qw _ _ _ _⟩,hY,trivial⟩)
  have pX:=fZ C.B.nb H
  have eA:lk (bt H b (.var (.raw (jv ks (es.toList.map (·.born)) clock)) cs)) (aE C.B.nb H)=none:=by
   have hn:=jZ C.B.nb H
   have aG:aE C.B.nb H≠b:=fun e=>by rw[e,hH]at hn;cases hn
   rw[eH H b _ _ aG];exact hn
  have ax:=run_range_map (P:=C.P) w t kt et g es clock ht hh
  obtain⟨h2,h3⟩:=U.vU (ob:= .mapIter (some g) clock #[] clock) (o:= .var (.raw (iN clock [] clock)) [.mp b]) eA pX.1 (by
   have FT:b≠aE C.B.nb H:=fun e=>by have:=jZ C.B.nb H;rw[<-e,hH]at this;cases this
   simp only[Ob.at,Sh.has,Sh.one,AV.ab,AV.den]
   refine⟨_,[.map (some g)],rfl,⟨by simpa[iN]using fQ w _,BL _ _ _ _⟩,⟨_,_,rfl,⟨g,?_,rfl⟩,rfl⟩,trivial⟩
   first
    |exact hg
    |(simp[aT,FT];exact hg)
    |(simp only[aT];rw[if_neg FT];exact hg))
  refine⟨.ob (aE C.B.nb H) 0,_,.pointer (some ⟨w.heap.size,0,none⟩),w.alloc (.mapIter (some g) clock #[] clock),_,_,⟨_,_,bz,rfl,rfl⟩,?_,?_,h2,h3⟩
  ·rw[<-gI]at ax
   simp only[execOp,Sem.run_bind,Sem.run_map,ax,Result.andThen_ok,Sem.run_pure]
  ·simp only[AV.den,aT];exact⟨_,by simp,rfl⟩
 ·rintro x H' ⟨bs,clock,U,rfl,rfl⟩
  exact h bs clock U
theorem P7 {es:Array MapEntry} {seen:List Nat} {e:MapEntry} (h:e∈(leftOf es seen.toArray).toList):e∈es.toList/\e.born∉seen:=by
 unfold leftOf at h
 simp at h
 exact⟨by simpa using h.1,h.2⟩
theorem P8 {es:Array MapEntry} {seen:List Nat} (h:(leftOf es seen.toArray).size=0):∀e∈es.toList,e.born∈seen:=fun e he=>by
 unfold leftOf at h
 have U:Array.filter (fun e=>!seen.toArray.contains e.born) es=#[]:=Array.eq_empty_of_size_eq_zero h
 rw[Array.filter_eq_empty_iff]at U
 have:=U e (by simpa using he)
 simpa using this
theorem AQ.HS {ds:List (Nat×Nat)} {i:Nat} {d:Option Nat} {ty:TypeId} {pos:String} {af:Array Edge} {os:List Oper} {x:Operand} {b it:Nat} {ks:List Value} {cs:List AV} {bs seen:List Nat} {clock since c0:Nat}
  (ah:a6 C.n ({dst:=d,op:= .next x false,type:=ty,pos:=pos,after:=af,guard:=none}::os)=true)
  (hx:ev E x=some (.ob it 0)) (hI:lk H it=some (.var (.raw (iN since seen c0)) [.mp b])) (hH:lk H b=some (.var (.raw (jv ks bs clock)) cs)) (bz:mj ks bs clock) (O7:since=clock) (tl:c0=clock)
  (ku:∀k∈ks,k.oneCell'=true) (ca:cs.length=bs.length)
  (h0:(∀n∈bs,n∈seen)->vq C K os (aQ d i ds) (i+1) (aS d (.aK [.im (.v (.bool false))]) E) H)
  (U:∀(j n:Nat) (k:Value) (y:AV),bs[j]?=some n->n∉seen->ks[j]?=some k->cs[j]?=some y->vq C K os (aQ d i ds) (i+1) (aS d (.aK [.im (.v (.bool true)),.im (.v k),y]) E) (bt H it (.var (.raw (iN since (seen++[n]) clock)) [.mp b]))):
  AQ C ds i ({dst:=d,op:= .next x false,type:=ty,pos:=pos,after:=af,guard:=none}::os) K E H:=by
 subst O7 tl
 refine AQ.nu (fun x H'=>((∀n∈bs,n∈seen)/\x= .aK [.im (.v (.bool false))]/\H'=H)\/∃(j n:Nat) (k:Value) (y:AV),bs[j]?=some n/\n∉seen/\ks[j]?=some k/\cs[j]?=some y/\x= .aK [.im (.v (.bool true)),.im (.v k),y]/\H'=bt H it (.var (.raw (iN c0 (seen++[n]) c0)) [.mp b])) ah rfl (fun φ I a w hs=>?_) ?_
 ·have jq:=aL hs.env hx
  simp only[AV.den]at jq
  obtain⟨r,hr,p9⟩:=jq
  have ho:=hs.st.real.own it _ _ hI hr
  simp only[Ob.at,Sh.has,Sh.one,AV.ab,AV.den]at ho
  obtain⟨r',us,tT,⟨lQ,_⟩,⟨u,oY,rfl,⟨g,hg,rfl⟩,rfl⟩,_⟩:=ho
  cases tT
  have hm:=hs.st.real.own b _ _ hH hg
  simp only[Ob.at,Sh.has,Sh.one]at hm
  obtain⟨g',us,cY,⟨n_,_⟩,jm,_⟩:=hm
  cases cY
  have cG:=zd jm
  have k8:us.length=bs.length:=by omega
  have e5:=vm ks bs us bz.len k8
  have hold:∀x∈((ff ks bs us).toArray).toList,x.born<c0:=fun x hx=>bz.lt _ (by rw[<-e5];exact List.mem_map.2 ⟨x,by simpa using hx,rfl⟩)
  rcases run_next_at (P:=C.P) w ty r g c0 c0 seen.toArray (ff ks bs us).toArray c0 (by rw[lQ];rfl) (by rw[n_];rfl) hold (Nat.le_refl _)with⟨hz,ax⟩|⟨e,he,w1,cQ,ax⟩
  ·refine⟨_,H,.tuple #[.bool false],w,φ,I,.inl ⟨fun n hn=>?_,rfl,rfl⟩,?_,?_,hs.st,bh.refl w φ I⟩
   ·rw[<-e5]at hn
    obtain⟨e,he,rfl⟩:=List.mem_map.1 hn
    exact P8 hz e (by simpa using he)
   ·rw[<-p9]at ax
    simp only[execOp,Sem.run_bind,Sem.run_map,ax,Result.andThen_ok,Sem.run_pure]
   ·simp only[AV.den,AV.ab,IV.den];exact⟨_,⟨_,_,rfl,⟨rfl,rfl⟩,rfl⟩,rfl⟩
  ·obtain⟨Az,ru⟩:=P7 he
   have Az:e∈ff ks bs us:=by simpa using Az
   obtain⟨j,hj⟩:=List.mem_iff_getElem?.1 Az
   obtain⟨hk,e6,hv⟩:=KV bz.len k8 hj
   have Gc:j<cs.length:=by
    have:=(List.getElem?_eq_some_iff.1 e6).1
    omega
   obtain⟨v,iI,bN⟩:=gr cs us j cs[j] jm (List.getElem?_eq_getElem Gc)
   rw[hv]at iI
   cases iI
   have kz:Go.ChangeMaps.setBlock w1 r (.mapIter (some g) c0 (seen.toArray.push e.born) c0)=w1.putObj r (.mapIter (some g) c0 (seen.toArray.push e.born) c0):=rfl
   have GH:St C.B φ I H w1/\bh w φ I w1 φ I:=by
    rcases cQ with rfl|rfl
    ·exact⟨hs.st,bh.refl _ φ I⟩
    ·exact hs.st.drew
   have tQ:w1.heap[r]?=some (iN c0 seen c0 [.map (some g)]):=by rcases cQ with rfl|rfl<;>exact lQ
   obtain⟨h2,h3⟩:=GH.1.RC (o':= .mapIter (some g) c0 (seen.toArray.push e.born) c0) (ob:= .var (.raw (iN c0 (seen++[e.born]) c0)) [.mp b]) hr tQ (BL _ _ _ _) hI (fun hd hh=>by
    simp only[Ob.at,Sh.has,Sh.one,AV.ab]
    refine⟨r,[.map (some g)],rfl,⟨by rw[hh,iN];simp,BL _ _ _ _⟩,⟨_,_,rfl,hd (.mp b) _ ?_,rfl⟩,trivial⟩
    simp only[AV.den];exact⟨g,hg,rfl⟩)
   have fl:bh w φ I (w1.putObj r (.mapIter (some g) c0 (seen.toArray.push e.born) c0)) φ I:=by
    have a1:=GH.2
    exact⟨fun g hg=>(h3.im g hg).trans (a1.im g hg),fun _ h=>h,fun _ _ h=>h,fun b g n hb da=>h3.sh b g n hb (a1.sh b g n hb da)⟩
   refine⟨_,_,.tuple #[.bool true,e.key,e.val],_,φ,I,.inr ⟨j,e.born,e.key,cs[j],e6,ru,hk,List.getElem?_eq_getElem Gc,rfl,rfl⟩,?_,?_,h2,fl⟩
   ·rw[<-p9,kz]at ax
    simp only[execOp,Sem.run_bind,Sem.run_map,ax,Result.andThen_ok,Sem.run_pure]
   ·simp only[AV.den,AV.ab,IV.den]
    exact⟨_,⟨_,_,rfl,⟨rfl,rfl⟩,_,_,rfl,⟨rfl,ku _ (List.mem_of_getElem? hk)⟩,_,_,rfl,fl.den bN,rfl⟩,rfl⟩
 ·rintro x H' (⟨h2,rfl,rfl⟩|⟨j,n,k,y,h2,h3,h4,h5,rfl,rfl⟩)
  ·exact h0 h2
  ·exact U j n k y h2 h3 h4 h5
theorem AQ.HR {ds:List (Nat×Nat)} {i:Nat} {d:Option Nat} {ty:TypeId} {pos:String} {af:Array Edge} {os:List Oper} {x:Operand} {b it j n:Nat} {ks:List Value} {cs:List AV} {bs seen:List Nat} {clock since:Nat} {k:Value} {y:AV}
  (ah:a6 C.n ({dst:=d,op:= .entry x,type:=ty,pos:=pos,after:=af,guard:=none}::os)=true)
  (hx:ev E x=some (.ob it 0)) (hI:lk H it=some (.var (.raw (iN since (seen++[n]) clock)) [.mp b])) (hH:lk H b=some (.var (.raw (jv ks bs clock)) cs)) (bz:mj ks bs clock)
  (ku:∀k∈ks,k.oneCell'=true) (ca:cs.length=bs.length) (e6:bs[j]?=some n) (hk:ks[j]?=some k) (hy:cs[j]?=some y)
  (h:vq C K os (aQ d i ds) (i+1) (aS d (.aK [.im (.v k),y]) E) H):
  AQ C ds i ({dst:=d,op:= .entry x,type:=ty,pos:=pos,after:=af,guard:=none}::os) K E H:=by
 refine AQ.val (.aK [.im (.v k),y]) ah rfl (fun φ I a w hs=>?_) h
 have jq:=aL hs.env hx
 simp only[AV.den]at jq
 obtain⟨r,hr,p9⟩:=jq
 have ho:=hs.st.real.own it _ _ hI hr
 simp only[Ob.at,Sh.has,Sh.one,AV.ab,AV.den]at ho
 obtain⟨r',us,tT,⟨lQ,_⟩,⟨u,oY,rfl,⟨g,hg,rfl⟩,rfl⟩,_⟩:=ho
 cases tT
 have hm:=hs.st.real.own b _ _ hH hg
 simp only[Ob.at,Sh.has,Sh.one]at hm
 obtain⟨g',us,cY,⟨n_,_⟩,jm,_⟩:=hm
 cases cY
 have cG:=zd jm
 have k8:us.length=bs.length:=by omega
 have e5:=vm ks bs us bz.len k8
 obtain⟨v,iI,bN⟩:=gr cs us j y jm hy
 have Oy:j<(ff ks bs us).length:=by
  have:=congrArg List.length e5
  rw[List.length_map]at this
  have h2:=(List.getElem?_eq_some_iff.1 e6).1
  omega
 obtain⟨e,he⟩:∃e,(ff ks bs us)[j]?=some e:=⟨_,List.getElem?_eq_getElem Oy⟩
 obtain⟨e1,e2,e3⟩:=KV bz.len k8 he
 rw[hk]at e1;cases e1
 rw[e6]at e2;cases e2
 rw[iI]at e3;cases e3
 have ax:=run_entry_at (P:=C.P) w r g since seen.toArray (ff ks bs us).toArray clock e (by rw[lQ,iN];simp) (by rw[n_];rfl) (by simpa using List.mem_of_getElem? he) (by rw[show(ff ks bs us).toArray.toList=ff ks bs us by simp,e5];exact bz.nd)
 refine⟨.tuple #[e.key,e.val],?_,?_⟩
 ·rw[<-p9]at ax
  simp only[execOp,Sem.run_bind,Sem.run_map,ax,Result.andThen_ok,Sem.run_pure]
 ·simp only[AV.den,AV.ab,IV.den]
  exact⟨_,⟨_,_,rfl,⟨rfl,ku _ (List.mem_of_getElem? hk)⟩,_,_,rfl,bN,rfl⟩,rfl⟩
theorem St.lY {B:Bs} {φ:ak} {I:Nat->Prop} {w:World} (h:St B φ I H w) {b:Nat} {ks:List Value} {bs:List Nat} {clock:Nat} {cs:List AV} (hH:lk H b=some (.var (.raw (jv ks bs clock)) cs)) (bz:mj ks bs clock) (ca:cs.length=bs.length):St B φ I (bt H b (.var (.map ks) cs)) w:=by
 refine h.told hH fun p hp aH=>?_
 simp only[Ob.at,Sh.has,Sh.one]at aH⊢
 obtain⟨g,us,hg,⟨U,_⟩,h2,_⟩:=aH
 have cG:=zd h2
 have k8:us.length=bs.length:=by omega
 have e5:=vm ks bs us bz.len k8
 refine⟨g,us,hg,⟨(ff ks bs us).toArray,clock,U,by simpa using Dz ks bs us bz.len k8,by simpa using DA ks bs us bz.len k8,by rw[show(ff ks bs us).toArray.toList=ff ks bs us by simp,e5];exact bz.nd,fun e he=>bz.lt _ (by rw[<-e5];exact List.mem_map.2 ⟨e,by simpa using he,rfl⟩)⟩,h2,trivial⟩
theorem AQ.lY {ds:List (Nat×Nat)} {i:Nat} {rest:List Oper} (b:Nat) {ks:List Value} {bs:List Nat} {clock:Nat} {cs:List AV} (hH:lk H b=some (.var (.raw (jv ks bs clock)) cs)) (bz:mj ks bs clock) (ca:cs.length=bs.length) (h:AQ C ds i rest K E (bt H b (.var (.map ks) cs))):AQ C ds i rest K E H:=by
 unfold AQ at h⊢
 exact fun ops U h2 φ I a w hs=>h ops U h2 _ _ _ _ ⟨hs.bo,hs.bp,hs.env,hs.st.lY hH bz ca⟩
theorem AE.lY {e:Exit} (b:Nat) {ks:List Value} {bs:List Nat} {clock:Nat} {cs:List AV} (hH:lk H b=some (.var (.raw (jv ks bs clock)) cs)) (bz:mj ks bs clock) (ca:cs.length=bs.length) (h:AE C e K E (bt H b (.var (.map ks) cs))):AE C e K E H:=by
 unfold AE at h⊢
 exact fun φ I a w hs=>h _ _ _ _ ⟨hs.bo,hs.bp,hs.env,hs.st.lY hH bz ca⟩
theorem AP.lY {p:List Nat} (b:Nat) {ks:List Value} {bs:List Nat} {clock:Nat} {cs:List AV} (hH:lk H b=some (.var (.raw (jv ks bs clock)) cs)) (bz:mj ks bs clock) (ca:cs.length=bs.length) (h:AP C p K E (bt H b (.var (.map ks) cs))):AP C p K E H:=by
 unfold AP at h⊢
 exact fun φ I a w hs=>h _ _ _ _ ⟨hs.bo,hs.bp,hs.env,hs.st.lY hH bz ca⟩
end
theorem B_ {α β:Type} (f:α->β):∀(l:List α) (j:Nat),(l.eraseIdx j).map f=(l.map f).eraseIdx j
 |[],_=>rfl
 |_::_,0=>rfl
 |x::l,j+1=>by rw[List.eraseIdx_cons_succ,List.map_cons,List.map_cons,List.eraseIdx_cons_succ,B_ f l j]
theorem EG {w:World} {φ:ak} {I:Nat->Prop}:∀(j:Nat) (cs:List AV) (us:List Value),AV.ab w φ I cs us->AV.ab w φ I (cs.eraseIdx j) (us.eraseIdx j)
 |_,[],us,h=>by
  simp only[AV.ab]at h
  subst h
  simp[AV.ab]
 |0,c::cs,us,h=>by
  simp only[AV.ab]at h
  obtain⟨u,aj,rfl,_,h2⟩:=h
  simpa using h2
 |j+1,c::cs,us,h=>by
  simp only[AV.ab]at h
  obtain⟨u,aj,rfl,U,h2⟩:=h
  simp only[List.eraseIdx_cons_succ,AV.ab]
  exact⟨u,_,rfl,U,EG j cs aj h2⟩
theorem LY {es cX:Array MapEntry} {clock j:Nat} (he:cX.toList=es.toList.eraseIdx j) (h:nD es clock):nD cX clock:=by
 refine⟨?_,fun e hm=>h.2 e ?_⟩
 ·rw[he]
  exact h.1.sublist ((List.eraseIdx_sublist _ _).map _)
 ·rw[he]at hm
  exact(List.eraseIdx_sublist _ _).subset hm
section
variable {C:Cx} {K:List PK} {E:Env} {H:aa}
theorem AQ.HP (j:Nat) {ds:List (Nat×Nat)} {i:Nat} {d:Option Nat} {ty t kt BU et:TypeId} {pos:String} {af:Array Edge} {os:List Oper} {m k:Operand} {b:Nat} {ks:List Value} {cs:List AV} {kv:Value} {dk:TypeDesc}
  (ah:a6 C.n ({dst:=d,op:= .call {callee:= .builtin .delete,args:=#[m,k],argTypes:=#[t,BU]},type:=ty,pos:=pos,after:=af,guard:=none}::os)=true)
  (hm:ev E m=some (.mp b)) (hk:ev E k=some (.im (.v kv))) (hH:lk H b=some (.var (.map ks) cs)) (ht:C.P.underlying t=some (.map kt et)) (hd:C.P.underlying kt=some dk)
  (jN:nE dk ks) (fl:IsKey dk kv) (bH:kv∈ks) (hj:∀i,ks[i]?=some kv->i=j)
  (h:vq C K os (aQ d i ds) (i+1) (aS d .top E) (bt H b (.var (.map (ks.eraseIdx j)) (cs.eraseIdx j)))):
  AQ C ds i ({dst:=d,op:= .call {callee:= .builtin .delete,args:=#[m,k],argTypes:=#[t,BU]},type:=ty,pos:=pos,after:=af,guard:=none}::os) K E H:=by
 refine AQ.step1 _ _ ah rfl (fun φ I a w hs=>?_) h
 obtain⟨g,es,clock,gI,hg,hh,aN,hY,kg⟩:=oE hs.st.real hH (aL hs.env hm)
 have gF:=aL hs.env hk
 simp only[AV.den,IV.den]at gF
 rcases rQ aN jN fl with⟨_,h2⟩|⟨j',e,U,h2,h3,h4⟩
 ·exact absurd bH h2
 ·have:=hj j' h4
  subst this
  have ag:g<w.heap.size:=(hs.st.real.off b g hg).2
  have wV:(es.eraseIdxIfInBounds j').toList=es.toList.eraseIdx j':=by
   have kn:j'<es.size:=by
    have:=(List.getElem?_eq_some_iff.1 h2).1
    simpa using this
   rw[Array.eraseIdxIfInBounds,dif_pos kn,Array.toList_eraseIdx]
  have ax:(Builtin.delete_ #[t,BU] ty #[a.eval m,a.eval k]).run C.P w= .ok (.tuple #[]) (w.putObj g (.map (es.eraseIdxIfInBounds j') clock)):=by
   rw[gI,gF.1]
   simp[Builtin.delete_,run_underlying ht,MapKept.run_getObj_map hh,run_checkKey hd fl,run_findKey hd U,MapKept.run_setObj_map _ hh,Result.andThen,World.putObj]
  obtain⟨hS,tF⟩:=hs.st.CN (o':= .map (es.eraseIdxIfInBounds j') clock) (ob:= .var (.map (ks.eraseIdx j')) (cs.eraseIdx j')) hg hh hH (by
   simp only[Ob.at,Sh.has,Sh.one]
   refine⟨g,(es.toList.map (·.val)).eraseIdx j',rfl,⟨_,_,World.putObj_heap_same ag,?_,?_,LY wV kg⟩,?_,trivial⟩
   ·rw[wV,<-aN,B_]
   ·rw[wV,B_]
   ·have hK:=xV (φ:=φ) (o':= .map (es.eraseIdxIfInBounds j') clock) hh (hs.st.real.off b g hg).1
    exact AV.gh hK.im hK.I hK.phi hK.sh _ _ (EG j' cs _ hY))
  refine⟨.tuple #[],_,φ,I,?_,?_,hS,tF⟩
  ·simp only[execOp,resolve,invoke,builtin,Sem.run_bind,Sem.run_pure,Result.andThen_ok,List.map_toArray,List.map_cons,List.map_nil,ax]
  ·simp only[AV.den]
end
end Go.AL
end
section
namespace Go.AL
open Go Go.Sort Go.Proofs
section
variable {α:Type} {enc:α->Value} {iv:α->IV}
structure vp (enc:α->Value) (iv:α->IV):Prop where
 to:∀{w:World} {I:Nat->Prop} {a:α} {v:Value},IV.den w I (iv a) v->v=enc a
 of:∀{w:World} {I:Nat->Prop} {a:α},IV.den w I (iv a) (enc a)
abbrev gR (iv:α->IV) (l:List α):List (List IV):=l.map fun s=>[iv s]
theorem zX (hE:vp enc iv) {w:World} {I:Nat->Prop}:∀(l:List α) (ae:List (List Value)),IV.aC w I (gR iv l) ae->ae.flatten=l.map enc
 |[],ae,h=>by simp only[gR,List.map_nil,IV.aC]at h;subst h;rfl
 |x::l,ae,h=>by
  simp only[gR,List.map_cons,IV.aC,IV.ab]at h
  obtain⟨u,aj,rfl,⟨v,vs,rfl,U,rfl⟩,h2⟩:=h
  cases hE.to U
  have:=zX hE l aj h2
  simp only[List.flatten_cons,List.map_cons,this]
  rfl
theorem FC (hE:vp enc iv) {w:World} {I:Nat->Prop}:∀(l:List α),IV.aC w I (gR iv l) (l.map fun s=>[enc s])
 |[]=>by simp only[gR,List.map_nil,IV.aC]
 |x::l=>by
  simp only[gR,List.map_cons,IV.aC,IV.ab]
  exact⟨_,_,rfl,⟨_,_,rfl,hE.of,rfl⟩,FC hE l⟩
theorem Fh:∀m:List α,(m.map fun s=>[enc s]).flatten=m.map enc
 |[]=>rfl
 |x::r=>by rw[List.map_cons,List.flatten_cons,Fh r];rfl
theorem Rx [Inhabited α] (l m:List α) (rest:List Value) (h:m.length=l.length):putCells enc 0 m.toArray (l.map enc++rest).toArray=(m.map enc++rest).toArray:=by
 apply Array.ext_getElem?
 intro k
 unfold putCells
 rw[Array.getElem?_mapIdx,List.getElem?_toArray,List.getElem?_toArray]
 rcases Nat.lt_or_ge k m.length with hk|hk
 ·rw[List.getElem?_append_left (by simp;omega),List.getElem?_append_left (by simpa using hk),List.getElem?_map,List.getElem?_map,List.getElem?_eq_getElem (by omega),List.getElem?_eq_getElem hk]
  simp[hk]
 ·rw[List.getElem?_append_right (by simp;omega),List.getElem?_append_right (by simpa using hk)]
  simp only[List.length_map,h]
  cases rest[k-l.length]? with
  |none=>rfl
  |some x=>simp;omega
theorem F5 [Inhabited α] (w:World) (g:Nat) (n:Nat) (d:Array α) (os:Array Obj) (k:Nat) (hk:k<w.heap.size):(grow (Sort.putRow enc (Sort.ahead w n) g 0 d) os).heap[k]?=if g=k then(w.heap[k]?).map (onCells (putCells enc 0 d))else w.heap[k]?:=by
 rw[heap_grow_old _ _ (by show k<(w.heap.modify g _).size;simpa using hk)]
 show(w.heap.modify g (onCells (putCells enc 0 d)))[k]?=_
 rw[Array.getElem?_modify]
theorem St.Rz [Inhabited α] (hE:vp enc iv) {w:World} {φ:ak} {I:Nat->Prop} {el:TypeId} {l m:List α} (hR:Real w φ I [(0,.vec el 1 (gR iv l))]) {g:Nat} (hg:φ 0=some (some g)) (h:m.length=l.length) (n:Nat) (os:Array Obj):
  St ⟨w,cB φ,I,φ,1⟩ φ I [(0,.vec el 1 (gR iv m))] (grow (Sort.putRow enc (Sort.ahead w n) g 0 m.toArray) os):=by
 have aH:=hR.own 0 _ (some g) rfl hg
 simp only[Ob.at]at aH
 rcases aH with⟨U,_⟩|⟨g',ae,rest,e,hh,hd,_⟩
 ·cases U
 cases e
 have c_:=zX hE l ae hd
 rw[c_]at hh
 have bm:=hR.off 0 g hg
 have aO:w.heap.size<=(grow (Sort.putRow enc (Sort.ahead w n) g 0 m.toArray) os).heap.size:=by
  rw[size_grow]
  show w.heap.size<=(w.heap.modify g _).size+_
  simp
 have kr:∀k,k<w.heap.size->k≠g->(grow (Sort.putRow enc (Sort.ahead w n) g 0 m.toArray) os).heap[k]?=w.heap[k]?:=fun k hk aG=>by
  rw[F5 w g n _ os k hk,if_neg (fun e=>aG e.symm)]
 have jQ:(grow (Sort.putRow enc (Sort.ahead w n) g 0 m.toArray) os).heap[g]?=some (.cells (m.map enc++rest).toArray el (0,0)):=by
  rw[F5 w g n _ os g bm.2,if_pos rfl,hh]
  show some (onCells (putCells enc 0 m.toArray) (.cells (l.map enc++rest).toArray el (0,0)))=_
  rw[onCells,Rx l m rest h]
 refine⟨⟨fun b=>?_,fun b o p hl hp=>?_,fun b g2 hb=>⟨(hR.off b g2 hb).1,Nat.lt_of_lt_of_le (hR.off b g2 hb).2 aO⟩,hR.inj,fun g2 hi=>Nat.lt_of_lt_of_le (hR.bI g2 hi) aO⟩,
  ⟨aO,fun k hk bG=>kr k hk fun e=>bG ⟨0,e▸hg⟩,fun k c e fz hc=>?_,rfl,rfl,rfl⟩,fun b g2 hb=> .inl ⟨b,hb⟩,fun g2 hi=> .inl hi,fun g2 hi=>hi,fun b p o _ h0 _=>h0⟩
 ·have:=hR.bf b
  simp only[lk]at this⊢
  cases hb:Nat.beq 0 b with
  |true=>rw[hb]at this;simpa using this
  |false=>rw[hb]at this;simpa using this
 ·simp only[lk]at hl
  cases hb:Nat.beq 0 b with
  |true=>
   rw[hb]at hl
   have:=Nat.eq_of_beq_eq_true hb
   subst this
   rw[hg]at hp
   cases hp
   simp only[cond_true,Option.some.injEq]at hl
   subst hl
   simp only[Ob.at]
   refine .inr ⟨g,m.map fun s=>[enc s],rest,rfl,?_,FC hE m,fun vs hv=>?_⟩
   ·rw[jQ]
    rw[Fh]
   ·obtain⟨s,_,rfl⟩:=List.mem_map.1 hv;rfl
  |false=>rw[hb]at hl;cases hl
 ·rcases Nat.lt_or_ge k w.heap.size with hk|hk
  ·by_cases tE:k=g
   ·subst tE
    rw[hh]at hc
    cases hc
    exact⟨_,_,jQ,by simp[h]⟩
   ·exact⟨c,fz,(kr k hk tE).trans hc,rfl⟩
  ·rw[Array.getElem?_eq_none hk]at hc;cases hc
end
end Go.AL
end
