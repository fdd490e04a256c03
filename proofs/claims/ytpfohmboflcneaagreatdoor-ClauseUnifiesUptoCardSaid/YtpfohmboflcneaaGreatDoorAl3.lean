import Derived.Test.YtpfohmboflcneaaGreatDoorAl2
import Derived.MapKept
import Derived.Laws.CopyRow
import Derived.Laws.MakeOwn
import Derived.Lib.BufferWrite
import Derived.RecoverIn
import Derived.Sort.Grow
import Derived.Sort.EncStr
import Derived.Maps.RangeRun
import Derived.LaidEql
set_option linter.unusedSimpArgs false
set_option linter.unusedVariables false
set_option linter.unnecessarySimpa false
section
namespace Go.AL
open Go
mutual
theorem AV.BP {nb b:Nat} (h:nb<=b):∀(x:AV),x.ge nb=false->x.men b=false
 | .ob b' _,hx=>by simp only[AV.ge,AV.men]at hx⊢;exact iA (by have:=rA hx;omega)
 | .oe b' _ _ _,hx=>by simp only[AV.ge,AV.men]at hx⊢;exact iA (by have:=rA hx;omega)
 | .os b' _ _ _,hx=>by simp only[AV.ge,AV.men]at hx⊢;exact iA (by have:=rA hx;omega)
 | .fn f fs aF,hx=>by simp only[AV.ge,AV.men,Bool.or_eq_false_iff]at hx⊢;exact⟨AV.yF h fs hx.1,AV.yF h aF hx.2⟩
 | .agg cs,hx=>by simp only[AV.ge,AV.men]at hx⊢;exact AV.yF h cs hx
 | .aG cs,hx=>by simp only[AV.ge,AV.men]at hx⊢;exact AV.yF h cs hx
 | .opt g x,hx=>by simp only[AV.ge,AV.men]at hx⊢;exact AV.BP h x hx
 | .im x,_=>rfl
 | .ar x,_=>rfl
 | .top,_=>rfl
 | .mp b',hx=>by simp only[AV.ge,AV.men]at hx⊢;exact iA (by have:=rA hx;omega)
 | .wr k x,hx=>by simp only[AV.ge,AV.men]at hx⊢;exact AV.BP h x hx
theorem AV.yF {nb b:Nat} (h:nb<=b):∀(xs:List AV),AV.iX nb xs=false->AV.mens b xs=false
 |[],_=>rfl
 |x::xs,hx=>by simp only[AV.iX,AV.mens,Bool.or_eq_false_iff]at hx⊢;exact⟨AV.BP h x hx.1,AV.yF h xs hx.2⟩
end
theorem Ht {nb b:Nat} (h:nb<=b):∀(E:Env) (i:Nat) (x:AV),lk (k8 nb E) i=some x->x.men b=false
 |[],i,x,hx=>by simp[k8,lk]at hx
 |(j,y)::r,i,x,hx=>by
  simp only[k8]at hx
  cases hm:y.ge nb with
  |true=>
   rw[hm]at hx
   simp only[cond_true,lk]at hx
   cases hb:Nat.beq j i with
   |true=>rw[hb]at hx;simp only[cond_true,Option.some.injEq]at hx;subst hx;rfl
   |false=>rw[hb]at hx;exact Ht h r i x hx
  |false=>
   rw[hm]at hx
   simp only[cond_false,lk]at hx
   cases hb:Nat.beq j i with
   |true=>rw[hb]at hx;simp only[cond_true,Option.some.injEq]at hx;subst hx;exact AV.BP h y hm
   |false=>rw[hb]at hx;exact Ht h r i x hx
theorem St.Zy {B:Bs} {φ:ai} {I:Nat->Prop} {H:aa} {w:World} {l:Nat} {r:Loop} {o':Obj} (h:St B φ I H w) (hl:w.heap[l]?=some (.loop r)) (hI:¬I l) (ax:∀b,φ b≠some (some l)) (ho:B.own l\/B.w0.heap.size<=l):
  St B φ I H (w.putObj l o')/\bC w φ I (w.putObj l o') φ I:=by
 have k:bC w φ I (w.putObj l o') φ I:=C4 hl hI
 refine⟨⟨⟨h.real.bj,fun b' o p aD hp=>?_,fun b' g hp=>?_,h.real.inj,fun g hg=>?_⟩,h.ext.trans (Lg (own:=fun g=>g=l) hl rfl) (fun g hg=>by subst hg;exact ho),h.b9,h.cZ,h.cj,h.cE⟩,k⟩
 ·exact Ob.kF k.im k.I k.phi k.sh (fun g hg=>World.putObj_heap_other (fun e=>by subst e;subst hg;exact ax b' hp)) (h.real.own b' o p aD hp)
 ·have:=h.real.off b' g hp
  exact⟨this.1,by simpa using this.2⟩
 ·have:=h.real.bM g hg
  simpa using this
def xc (C:Cx) (K:List PK) (E:Env) (H:aa):iq->Prop
 | .ready=>AE C .normal K E H
 | .done .ret=>AE C .ret K E H
 | .done (.exit id)=>AE C (.exit id) K E H
 |_=>False
def Iz (C:Cx) (H:aa) (b0:Nat):Prop:=match C.rd with
 |none=>C.ds=[]
 |some l0=>match lk H b0 with
  |some (.lp l1 _ _ _ _ _ _)=>l1=l0
  |_=>False
section
variable {C:Cx} {K:List PK} {E:Env} {H:aa}
theorem AP.range (nb b0:Nat) {p:List Nat} {t:Tmp} {ps:List Tmp} {as bd:Code} {f:FuncId} {fs aF:List AV} (EL:Env) {R:Nat->AV->aa->Prop}
  (hc:b7 C.fn p= .rangeFunc (.tmp t) ps.toArray as bd) (fc:lk E t=some (.fn f fs aF)) (hnb:Nat.ble C.B.nb nb=true) (FA:Sub E EL) (f_:Iz C H b0)
  (yS:∀l,dv C.P nb f (fs++[Yl l]++aF) ((au nb H,.lp l C.n .ready C.fn p ps EL)::H) (R l))
  (ja:∀l r H',R l r H'->cu nb ((au nb H,.lp l C.n .ready C.fn p ps EL)::H) H')
  (wb:∀l r H',R l r H'->∃st E',lk H' (au nb H)=some (.lp l C.n st C.fn p ps E')/\noMen (au nb H) (eN (au nb H) H')=true/\xc C K (k8 nb E) (eN (au nb H) H') st):AP C p K E H:=by
 unfold AP
 rw[hc]
 intro φ I a w hs
 have Cy:=Nat.le_of_ble_eq_true hnb
 obtain⟨b,hb⟩:∃b,au nb H=b:=⟨_,rfl⟩
 rw[hb]at yS ja wb
 have yR:lk H b=none:=hb▸k_ nb H
 have eK:nb<=b:=hb▸(dh nb H).1
 refine wpIn_rangeFunc (F:=Fw C.rd) fun cf _=>?_
 obtain⟨wD,ID,wV,D,e1,rS,kD,hM⟩:∃(wD:World) (ID:Nat->Prop) (wV:List Deferred) (D:Nat),
   (Instr.enterLoop cf a.tmps ps.toArray as bd C.rd).run C.P w= .ok (wD.heap.size,wV) (wD.alloc (.loop {state:= .ready,pending:=none,fn:=cf,tmps:=a.tmps,params:=ps.toArray,assign:=as,body:=bd,defers:=D}))/\
   St C.B φ ID H wD/\bC w φ I wD φ ID/\Marks C.ds C.B.w0.heap.size wD ID (wV++a.defers):=by
  unfold Iz at f_
  cases hr:C.rd with
  |none=>
   obtain⟨hS,k⟩:=hs.st.OS (w':=w.alloc (.deferred (some []))) (by simp) (fun g hg=>heap_alloc_old w _ hg) rfl rfl rfl
   refine⟨w.alloc (.deferred (some [])),_,[wU w.heap.size],w.heap.size,?_,hS,k,?_⟩
   ·rw[run_enterLoop_outer];simp[wU]
   ·obtain⟨ms,U,h2,h3,_⟩:=hs.bD
    rw[hr]at f_
    refine⟨w.heap.size::ms,by rw[U];rfl,List.nodup_cons.2 ⟨fun hm=>?_,h2⟩,(fun D' mV=>?_),fun aC=>absurd f_ aC⟩
    ·have:=hs.st.real.bM _ (h3 _ hm).1
     omega
    ·rcases List.mem_cons.1 mV with rfl|mV
     ·exact⟨.inr rfl,hs.st.ext.size,World.alloc_heap_new w _⟩
     ·obtain⟨h4,h5,h6⟩:=h3 D' mV
      exact⟨.inl h4,h5,(k.im D' h4).trans h6⟩
  |some l0=>
   rw[hr]at f_
   simp only at f_
   split at f_
   ·rename_i l1 n1 st1 fn1 p1 ps1 E1 fD
    subst f_
    have hd:=hs.st.real.bj b0
    rw[fD]at hd
    cases hp:φ b0 with
    |none=>rw[hp]at hd;cases hd
    |some p0=>
     have aP:=hs.st.real.own b0 _ p0 fD hp
     simp only[Ob.at]at aP
     obtain⟨rfl,T,D,E8,U,h2,h3⟩:=aP
     refine⟨w,I,[],D,?_,hs.st,bC.refl _ _ _,by simpa using hs.bD⟩
     unfold Instr.enterLoop
     simp only[Sem.run_bind,run_newObj_alloc,Result.andThen,Sem.run_pure,run_getLoop h2]
   ·exact f_.elim
 have fe:=aH hs.env (x:= .tmp t) fc
 simp only[AV.den]at fe
 obtain⟨eA,us,mY,dI,n6⟩:=fe
 obtain⟨rec,CG⟩:∃rec:Loop,rec={state:= .ready,pending:=none,fn:=cf,tmps:=a.tmps,params:=ps.toArray,assign:=as,body:=bd,defers:=D}:=⟨_,rfl⟩
 have Vk:=rS.Bh (b:=b) yR (by omega) (ob:= .loop rec) (o:= .lp wD.heap.size C.n .ready C.fn p ps EL) (by
  simp only[Ob.at]
  refine⟨trivial,a.tmps,D,cf,hs.bA,?_,fun i x hx=>?_⟩
  ·rw[World.alloc_heap_new,CG,hc];rfl
  ·obtain⟨u,hu,hd⟩:=hs.env i x (FA i x hx)
   refine⟨u,hu,?_⟩
   have F0:=kD.den hd
   refine AV.jO (fun g hg=>heap_alloc_old wD _ (rS.real.bM g hg)) (fun _ h=>h) (fun b' p' bH=>?_) (fun _ g n _ cK=>(tI (fun _=>False) wD _).shaped (fun h=>h) cK) x u F0
   unfold aT
   rw[if_neg (fun e=>by subst e;rw[rS.HJ yR]at bH;cases bH)]
   exact bH)
 obtain⟨mW,k2⟩:=Vk
 have gD:bt C (aT φ b (some wD.heap.size)) ID E ((b,.lp wD.heap.size C.n .ready C.fn p ps EL)::H) {a with defers:=wV++a.defers} (wD.alloc (.loop rec)):=
  ⟨hM.mono k2.im k2.I,hs.bA,fun i x hx=>let⟨u,hu,hd⟩:=hs.env i x hx;⟨u,hu,k2.den (kD.den hd)⟩,mW⟩
 have tZ:=(yS wD.heap.size).gv
 rw[<-CG]at e1
 refine⟨wD.heap.size,wV,wD.alloc (.loop rec),{target:= .fn (.func f) us.toArray,args:=eA.toArray++#[Value.func (.yield wD.heap.size) #[] #[]]},wD.alloc (.loop rec),f,(eA++[Value.func (.yield wD.heap.size) #[] #[]]++us).toArray,wD.alloc (.loop rec),e1,?_,fun _ _=>trivial,?_,fun h=>(by cases h),?_⟩
 ·have:(resolve a.eval (rangeCall (.tmp t) wD.heap.size) 0)=Deferred.ofValue (a.eval (.tmp t)) #[Value.func (.yield wD.heap.size) #[] #[]]:=by
   simp[resolve,Act.eval]
  rw[this,n6]
  simp only[Deferred.ofValue,Sem.run_pure]
 ·simp only[invoke]
  rw[xi tZ]
  simp
 ·have aS:AV.ab (wD.alloc (.loop rec)) (aT φ b (some wD.heap.size)) ID (fs++[Yl wD.heap.size]++aF) (eA++[Value.func (.yield wD.heap.size) #[] #[]]++us):=by
   refine AQ.nQ.mN _ _ _ _ (AQ.nQ.mN _ _ _ _ (AV.fb k2.im k2.I k2.phi k2.sh _ _ (AV.fb kD.im kD.I kD.phi kD.sh _ _ mY)) ?_) (AV.fb k2.im k2.I k2.phi k2.sh _ _ (AV.fb kD.im kD.I kD.phi kD.sh _ _ dI))
   simp only[AV.ab,AV.den,IV.den]
   exact⟨_,_,rfl,⟨rfl,rfl⟩,rfl⟩
  refine(ED ((yS wD.heap.size).run _ _ ID _ aS mW.real mW.vk)).mono fun e w3 ⟨r,H3,RP,I3,v,hr,he,a8,yN⟩=>?_
  subst he
  obtain⟨st,E',fE,a6,i_⟩:=wb _ r H3 hr
  have wq:=gD.x3 Cy yN (ja _ r H3 hr)
  have hd:=yN.real.bj b
  rw[fE]at hd
  cases hp:RP b with
  |none=>rw[hp]at hd;cases hd
  |some p0=>
   have aP:=yN.real.own b _ p0 fE hp
   simp only[Ob.at]at aP
   obtain⟨rfl,T,D',E8,U,h2,h3⟩:=aP
   have Wp:st.state≠ .busy:=by
    cases st with
    |busy=>exact i_.elim
    |ready=>simp[iq.state]
    |done c=>simp[iq.state]
   refine⟨_,_,run_endLoop h2 Wp,?_⟩
   have ml:=yN.real.off b _ hp
   have Vl:=wq.st.forget b a6
   obtain⟨BZ,ko⟩:=Vl.Zy (o':= .loop {state:= .exhausted,pending:=st.uP,fn:=E8,tmps:=T,params:=ps.toArray,assign:=child 0 (b7 C.fn p),body:=child 1 (b7 C.fn p),defers:=D'}) h2 ml.1 (fun b' bF=>by
    simp only[gJ]at bF
    by_cases e:b'=b
    ·simp[e]at bF
    ·rw[if_neg e]at bF
     exact e (yN.real.inj b' b _ bF hp)) (.inr rS.ext.size)
   have GL:bt C (gJ RP b) I3 (k8 nb E) (eN b H3) {a with defers:=wV++a.defers} (w3.putObj wD.heap.size (.loop {state:= .exhausted,pending:=st.uP,fn:=E8,tmps:=T,params:=ps.toArray,assign:=child 0 (b7 C.fn p),body:=child 1 (b7 C.fn p),defers:=D'})):=
    ⟨wq.bD.mono ko.im ko.I,wq.bA,fun i x hx=>by
     obtain⟨u,hu,dz⟩:=wq.env i x hx
     exact⟨u,hu,ko.den (AV.qT (fun b' bF=>by simp[gJ,bF]) x u (Ht eK E i x hx) dz)⟩,BZ⟩
   cases st with
   |busy=>exact i_.elim
   |ready=>
    simp only[xc]at i_
    unfold AE at i_
    exact i_ _ _ _ _ GL
   |done c=>
    simp only[iq.uP]
    cases c with
    |ret=>
     simp only[xc]at i_
     unfold AE at i_
     exact wpIn_ret (i_ _ _ _ _ GL)
    |exit id=>
     simp only[xc]at i_
     unfold AE at i_
     exact wpIn_exit (i_ _ _ _ _ GL)
    |_=>exact i_.elim
theorem AP.DE (nb b0 b:Nat) {p:List Nat} {t:Tmp} {ps:List Tmp} {as bd:Code} {f:FuncId} {fs aF:List AV} (EL:Env) {R:Nat->AV->aa->Prop}
  (hc:b7 C.fn p= .rangeFunc (.tmp t) ps.toArray as bd) (fc:lk E t=some (.fn f fs aF)) (hnb:Nat.ble C.B.nb nb=true) (FA:Sub E EL) (f_:Iz C H b0) (hb:au nb H=b)
  (yS:∀l,dv C.P nb f (fs++[Yl l]++aF) ((b,.lp l C.n .ready C.fn p ps EL)::H) (R l))
  (wb:∀l r H',R l r H'->cu nb ((b,.lp l C.n .ready C.fn p ps EL)::H) H'/\∃st E',lk H' b=some (.lp l C.n st C.fn p ps E')/\noMen b (eN b H')=true/\xc C K (k8 nb E) (eN b H') st):AP C p K E H:=by
 subst hb
 exact AP.range nb b0 EL hc fc hnb FA f_ yS (fun l r H' h=>(wb l r H' h).1) (fun l r H' h=>(wb l r H' h).2)
def Yp (nb:Nat) (H H':aa):Bool:=(List.range nb).all fun b=>(lk H' b).isSome==(lk H b).isSome
theorem cu.of (nb:Nat) (H H':aa) (h:Yp nb H H'=true):cu nb H H':=fun b hb=>by
 have:=List.all_eq_true.1 h b (List.mem_range.2 hb)
 simpa using this
end
attribute [go_sem] xc
section
variable {C:Cx} {K:List PK} {E:Env} {H:aa}
theorem AQ.skip {ds:List (Nat×Nat)} {i:Nat} {o:Oper} {os:List Oper} (ah:a7 C.n (o::os)=true) (hG:gd ds E o.guard=some false) (h:vq C K os (aW o.dst i ds) (i+1) (aY o.dst (.opt false .top) E) H):AQ C ds i (o::os) K E H:=
 AQ.vM (dM ah).1 hG (AQ.go (dM ah).2 h)
end
attribute [go_sem] Bool.bne_false Bool.bne_true
def xn:Exit->List PK->Option (Sum (List Nat) Exit×List PK)
 | .normal,.seq q::K=>some (.inl q,K)
 | .normal,.dZ _::K=>some (.inr .normal,K)
 | .normal,.sc::K=>some (.inr .normal,K)
 | .exit id,.seq _::K=>some (.inr (.exit id),K)
 | .exit id,.dZ mu::K=>bif id==mu then some (.inr .normal,K)else some (.inr (.exit id),K)
 | .exit id,.sc::K=>some (.inr (.exit id),K)
 | .exit id,.lp _::K=>some (.inr (.exit id),K)
 | .ret,.seq _::K=>some (.inr .ret,K)
 | .ret,.dZ _::K=>some (.inr .ret,K)
 | .ret,.sc::K=>some (.inr .ret,K)
 | .ret,.lp _::K=>some (.inr .ret,K)
 |_,_=>none
def q8 (fn:Func) (p:List Nat) (K:List PK):Option (Sum (List Nat) Exit×List PK):=
 match b7 fn p with
 | .seq _ _=>some (.inl (0::p),.seq (1::p)::K)
 | .block id _=>some (.inl (0::p),.dZ id::K)
 | .scope _=>some (.inl (0::p),.sc::K)
 | .skip=>some (.inr .normal,K)
 | .ret=>some (.inr .ret,K)
 | .exit id=>some (.inr (.exit id),K)
 | .label _=>some (.inr .normal,K)
 |_=>none
def uN (fn:Func):Nat->Sum (List Nat) Exit->List PK->Sum (List Nat) Exit×List PK
 |0,s,K=>(s,K)
 |n+1,.inl p,K=>match q8 fn p K with
  |some (s,K')=>uN fn n s K'
  |none=>(.inl p,K)
 |n+1,.inr e,K=>match xn e K with
  |some (s,K')=>uN fn n s K'
  |none=>(.inr e,K)
def w6 (fn:Func) (p:List Nat) (K:List PK):Option (Sum (List Nat) Exit×List PK):=
 match q8 fn p K with
 |some (s,K')=>some (uN fn 99 s K')
 |none=>none
def w4 (fn:Func) (e:Exit) (K:List PK):Option (Sum (List Nat) Exit×List PK):=
 match xn e K with
 |some (s,K')=>some (uN fn 99 s K')
 |none=>none
def AS (C:Cx) (s:Sum (List Nat) Exit) (K:List PK) (E:Env) (H:aa):Prop:=match s with
 | .inl p=>AP C p K E H
 | .inr e=>AE C e K E H
section
variable {C:Cx} {K K':List PK} {E:Env} {H:aa}
theorem QH {e:Exit} {s:Sum (List Nat) Exit} (hs:xn e K=some (s,K')) (h:AS C s K' E H):AE C e K E H:=by
 unfold xn at hs
 split at hs
 all_goals first
  |(cases hs;done)
  |(cases hs;first|exact AE.seq h|exact AE.dZ h|exact AE.sc h|exact AE.Qk h|exact AE.Qh h|exact AE.OC h|exact AE.Ql h|exact AE.J8 h|exact AE.Qi h|exact AE.OD h)
  |skip
 rename_i id mu K0
 cases hb:(id==mu)with
 |true=>
  rw[hb]at hs
  cases hs
  have:id=mu:=by simpa using hb
  subst this
  exact AE.Ez h
 |false=>
  rw[hb]at hs
  cases hs
  exact AE.EA hb h
theorem QI {p:List Nat} {s:Sum (List Nat) Exit} (hs:q8 C.fn p K=some (s,K')) (h:AS C s K' E H):AP C p K E H:=by
 unfold q8 at hs
 split at hs
 all_goals first
  |(cases hs;done)
  |(cases hs;rename_i hc;first|exact AP.seq hc h|exact AP.block hc h|exact AP.scope hc h|exact AP.skip hc h|exact AP.ret hc h|exact AP.exit hc h|exact AP.label hc h)
theorem Ds:∀(n:Nat) (s s':Sum (List Nat) Exit) (K K':List PK),uN C.fn n s K=(s',K')->AS C s' K' E H->AS C s K E H
 |0,s,s',K,K',hs,h=>by cases hs;exact h
 |n+1,.inl p,s',K,K',hs,h=>by
  simp only[uN]at hs
  cases U:q8 C.fn p K with
  |none=>rw[U]at hs;cases hs;exact h
  |some q=>
   obtain⟨s1,K1⟩:=q
   rw[U]at hs
   exact QI U (Ds n s1 s' K1 K' hs h)
 |n+1,.inr e,s',K,K',hs,h=>by
  simp only[uN]at hs
  cases U:xn e K with
  |none=>rw[U]at hs;cases hs;exact h
  |some q=>
   obtain⟨s1,K1⟩:=q
   rw[U]at hs
   exact QH U (Ds n s1 s' K1 K' hs h)
theorem O5 {p:List Nat} {s:Sum (List Nat) Exit} (hs:w6 C.fn p K=some (s,K')) (h:AS C s K' E H):AP C p K E H:=by
 unfold w6 at hs
 cases U:q8 C.fn p K with
 |none=>rw[U]at hs;cases hs
 |some q=>
  obtain⟨s1,K1⟩:=q
  rw[U]at hs
  exact QI U (Ds 99 s1 s K1 K' (Option.some.inj hs) h)
theorem O4 {e:Exit} {s:Sum (List Nat) Exit} (hs:w4 C.fn e K=some (s,K')) (h:AS C s K' E H):AE C e K E H:=by
 unfold w4 at hs
 cases U:xn e K with
 |none=>rw[U]at hs;cases hs
 |some q=>
  obtain⟨s1,K1⟩:=q
  rw[U]at hs
  exact QH U (Ds 99 s1 s K1 K' (Option.some.inj hs) h)
theorem xPP {p p':List Nat} (hs:w6 C.fn p K=some (.inl p',K')) (h:AP C p' K' E H):AP C p K E H:=O5 hs h
theorem xPE {p:List Nat} {e:Exit} (hs:w6 C.fn p K=some (.inr e,K')) (h:AE C e K' E H):AP C p K E H:=O5 hs h
theorem xEP {p':List Nat} {e:Exit} (hs:w4 C.fn e K=some (.inl p',K')) (h:AP C p' K' E H):AE C e K E H:=O4 hs h
theorem xEE {e e':Exit} (hs:w4 C.fn e K=some (.inr e',K')) (h:AE C e' K' E H):AE C e K E H:=O4 hs h
end
attribute [go_sem] List.all_cons List.all_nil Value.oneCell'
def PM (o:Oper):Bool:=match o.op with
 | .move _| .assign _| .pick _ _ _| .build _ _| .load _ _| .nilCheck _| .binOp _ _ _ _ _| .unOp _ _ _| .convert _ _ _| .slice _ _ _ _ _| .fieldAddr _ _ _| .field _ _ _| .indexAddr _ _ _| .index _ _ _| .extract _ _=>true
 | .call {callee:= .builtin b,.. }=>match b with
  | .len| .min| .max=>true
  |_=>false
 |_=>false
section
variable {C:Cx} {K:List PK} {E:Env} {H:aa} {p:List Nat}
end
def jW:List Nat->aa->aa
 |[],H=>H
 |b::l,H=>jW l (eN b H)
def bN:List Nat->AV->aa->Bool
 |[],_,_=>true
 |b::l,r,H=>noMen b (eN b H)&&!(AV.men b r)&&bN l r (eN b H)
theorem vB {B:Bs} {I:Nat->Prop} {w:World} {r:AV} {v:Value}:∀(l:List Nat) (φ:ai) (H:aa),bN l r H=true->AV.den w φ I r v->St B φ I H w->∃φ',AV.den w φ' I r v/\St B φ' I (jW l H) w
 |[],φ,H,_,hd,hS=>⟨φ,hd,hS⟩
 |b::l,φ,H,hk,hd,hS=>by
  simp only[bN,Bool.and_eq_true,Bool.not_eq_true']at hk
  exact vB l (gJ φ b) (eN b H) hk.2 (AV.qT (fun b' hb=>by simp[gJ,hb]) r v hk.1.2 hd) (hS.forget b hk.1.1)
section
variable {C:Cx} {E:Env} {H:aa}
theorem AE.bm (l:List Nat) {sc:Prop} {xs:List AV} (h:eG C.P E H C.fn.results.toList=some (sc,xs)) (ay:sc) (hk:bN l (eH xs) H=true) (hR:C.R (eH xs) (jW l H)):AE C .ret [] E H:=by
 unfold AE
 intro φ I a w hs
 refine hs.leave fun w' hS hE=>?_
 obtain⟨v,hv,hd⟩:=uT hE hS.real h ay
 obtain⟨φ',eM,qt⟩:=vB l φ H hk hd hS
 exact⟨v,hv,eH xs,jW l H,φ',I,v,hR,rfl,eM,qt⟩
theorem AE.T2 (l:List Nat) {sc:Prop} {xs:List AV} (h:eG C.P E H C.fn.results.toList=some (sc,xs)) (ay:sc) (hk:bN l (eH xs) H=true) (hR:C.R (eH xs) (jW l H)):AE C .normal [] E H:=by
 unfold AE
 intro φ I a w hs
 refine hs.leave fun w' hS hE=>?_
 obtain⟨v,hv,hd⟩:=uT hE hS.real h ay
 obtain⟨φ',eM,qt⟩:=vB l φ H hk hd hS
 exact⟨v,hv,eH xs,jW l H,φ',I,v,hR,rfl,eM,qt⟩
theorem AE.eJ {e:Exit} {K:List PK}:∀(l:List Nat) {E:Env} {H:aa},bN l .top H=true->AE C e K (l.foldl (fun E b=>killE b E) E) (jW l H)->AE C e K E H
 |[],_,_,_,h=>h
 |b::l,E,H,hk,h=>by
  simp only[bN,Bool.and_eq_true,Bool.not_eq_true']at hk
  exact AE.forget b hk.1.1 (AE.eJ l hk.2 h)
end
attribute [go_sem] jW bN List.foldl_cons List.foldl_nil
theorem AQ.nx {C Cn:Cx} {K:List PK} {ops:List Oper} {n:Nat} {R P es:List Nat} {ts:List Tree} {ds jn:List (Nat×Nat)} {i:Nat} {E:Env} {H:aa} (hC:Cn=C.nr)
  (
   h:vR C ops H R jn E/\vP C ops H (fun ds E=>match es with
   |[]=>vq C K (ops.drop n) [] n E H
   |_::_=>nJ C K ops n es ts ds E H) P jn E):
  AQ Cn ds i [] [.lp (xU C (vd C K ops n (.node R P es ts) jn)),.bot (qZ C K ops)] E H:=by
 subst hC
 exact AQ.next (c_ h)
def kj (rows DL:List (List IV)):Prop:=∀(w:World) (I:Nat->Prop) (ae:List (List Value)),IV.aE w I rows ae->IV.aE w I DL ae
section
variable {C:Cx} {K:List PK} {E:Env} {H:aa}
end
theorem Ia {w:World} {I:Nat->Prop} {es:Nat} {u:Value} (h:IV.den w I (.v (.slice none 0 0)) u):IV.den w I (.sl es []) u:=by
 simp only[IV.den]at h⊢
 obtain⟨rfl,_⟩:=h
 exact⟨none,0,[],rfl,Nat.le_refl _,by simp[IV.aE],(fun vs h=>absurd h (List.not_mem_nil)),fun h=>absurd rfl h⟩
def vg (C:Cx) (H:aa) (k:List (Nat×Nat)->Env->Prop):List Oper->List (Nat×Nat)->Nat->Env->Prop
 |[],ds,_,E=>k ds E
 |o::os,ds,i,E=>match gd ds E o.guard with
  |none=>False
  |some G=>match tu C.P E H o.op G with
   |none=>False
   |some (sc,v)=>(G=true->sc)/\vg C H k os (aW o.dst i ds) (i+1) (aY o.dst (wrap o.guard G v) E)
theorem Rk {C:Cx} {ops:List Oper} {H:aa} {k:List (Nat×Nat)->Env->Prop}:∀(rest:List Oper) (ds:List (Nat×Nat)) (i:Nat) (E:Env),(∀j,rest[j]?=ops[i+j]?)->vg C H k rest ds i E->vP C ops H k (List.range' i rest.length) ds E
 |[],ds,i,E,_,h=>by simpa[vP,vg]using h
 |o::os,ds,i,E,hr,h=>by
  have h0:ops[i]?=some o:=by have:=hr 0;simpa using this.symm
  simp only[List.length_cons,List.range'_succ,vP,h0]
  simp only[vg]at h
  revert h
  cases gd ds E o.guard with
  |none=>exact fun h=>h
  |some G=>
   simp only
   cases tu C.P E H o.op G with
   |none=>exact fun h=>h
   |some q=>
    obtain⟨sc,v⟩:=q
    simp only
    exact fun h=>⟨h.1,Rk os _ _ _ (fun j=>by have:=hr (j+1);rw[show i+1+j=i+(j+1) by omega];simpa using this) h.2⟩
def EX (n:Nat):Tree:= .node [] (List.range' 0 n) [] []
section
variable {C:Cx} {K:List PK} {E:Env} {H:aa} {p:List Nat}
theorem AP.TT {id:Nat} {ops:List Oper} (hc:b7 C.fn p= .region id ops.toArray true) (Nf:ops.all PM=true) (hq:(a7 C.n ops&&BE ops ops.length (EX ops.length)&&C.P.follows .mixedOrders)=true)
  (h:vg C H (fun _ En=>AQ C [] ops.length [] K En H) ops [] 0 E):AP C p K E H:=by
 simp only[Bool.and_eq_true]at hq
 refine AP.db ops.length (EX ops.length) hq.2 hc hq.1.1 hq.1.2 ?_
 refine c_ ⟨trivial,?_⟩
 refine Rk ops [] 0 E (fun j=>by rw[Nat.zero_add]) ?_
 simp only[List.drop_length,vq]
 exact h
end
attribute [go_sem] vg
section
variable {C:Cx} {E:Env} {H:aa}
section
variable {K:List PK}
end
end
def reorder:List Nat->aa->aa
 |[],_=>[]
 |b::l,H=>match lk H b with
  |some o=>(b,o)::reorder l H
  |none=>reorder l H
def tB (ids:List Nat):aa->Bool
 |[]=>true
 |(b,_)::r=>bT ids b&&tB ids r
theorem zS:∀(l:List Nat) (b:Nat),bT l b=true->∀H:aa,lk (reorder l H) b=lk H b
 |[],b,h,H=>by simp[bT]at h
 |c::l,b,h,H=>by
  simp only[bT]at h
  simp only[reorder]
  cases hb:Nat.beq c b with
  |true=>
   have:=Nat.eq_of_beq_eq_true hb
   subst this
   cases hl:lk H c with
   |some o=>simp[lk]
   |none=>
    simp only
    cases hi:bT l c with
    |true=>rw[zS l c hi H,hl]
    |false=>exact Db l c hi H
  |false=>
   rw[hb]at h
   simp only[cond_false]at h
   cases hl:lk H c with
   |some o=>simp only[lk,hb,cond_false];exact zS l b h H
   |none=>simp only;exact zS l b h H
where
 Db:∀(l:List Nat) (b:Nat),bT l b=false->∀H:aa,lk (reorder l H) b=none
  |[],b,_,H=>rfl
  |c::l,b,h,H=>by
   simp only[bT]at h
   cases hb:Nat.beq c b with
   |true=>rw[hb]at h;simp at h
   |false=>
    rw[hb]at h
    simp only[cond_false]at h
    simp only[reorder]
    cases hl:lk H c with
    |some o=>simp only[lk,hb,cond_false];exact Db l b h H
    |none=>simp only;exact Db l b h H
theorem Kz (ids:List Nat):∀(H:aa) (b:Nat),tB ids H=true->bT ids b=false->lk H b=none
 |[],b,_,_=>rfl
 |(c,o)::r,b,h,hb=>by
  simp only[tB,Bool.and_eq_true]at h
  simp only[lk]
  cases hc:Nat.beq c b with
  |true=>
   have:=Nat.eq_of_beq_eq_true hc
   subst this
   rw[h.1]at hb;cases hb
  |false=>simp only[cond_false];exact Kz ids r b h.2 hb
theorem IB {ids:List Nat} {H:aa} (h:tB ids H=true) (b:Nat):lk H b=lk (reorder ids H) b:=by
 cases hb:bT ids b with
 |true=>exact(zS ids b hb H).symm
 |false=>rw[Kz ids H b h hb,zS.Db ids b hb H]
section
variable {C:Cx} {K:List PK} {E:Env} {H:aa}
theorem AE.order {e:Exit} (ids:List Nat) (hc:tB ids H=true) (h:AE C e K E (reorder ids H)):AE C e K E H:=AE.perm _ (IB hc) h
theorem AP.order {p:List Nat} (ids:List Nat) (hc:tB ids H=true) (h:AP C p K E (reorder ids H)):AP C p K E H:=AP.perm _ (IB hc) h
theorem AQ.order {ds:List (Nat×Nat)} {i:Nat} {rest:List Oper} (ids:List Nat) (hc:tB ids H=true) (h:AQ C ds i rest K E (reorder ids H)):AQ C ds i rest K E H:=AQ.perm _ (IB hc) h
end
attribute [go_sem] reorder Sh.lit
end Go.AL
end
section
namespace Go.AL
open Go Go.MapKept
def te (d:TypeDesc) (ks:List Value):Prop:=∀k∈ks,IsKey d k
theorem p_ {w:World} {φ:ai} {I:Nat->Prop} {cs:List AV} {us:List Value} (h:AV.ab w φ I cs us):us.length=cs.length:=jm cs us h
section
variable {P:Program} {w:World} {φ:ai} {I:Nat->Prop} {H:aa} {b:Nat} {ks:List Value} {cs:List AV}
theorem uI (hR:Real w φ I H) (hH:lk H b=some (.var (.map ks) cs)) {u:Value} (hu:AV.den w φ I (.mp b) u):
  ∃g es clock,u= .map (some g)/\φ b=some (some g)/\w.heap[g]?=some (.map es clock)/\es.toList.map (·.key)=ks/\AV.ab w φ I cs (es.toList.map (·.val))/\ru es clock:=by
 simp only[AV.den]at hu
 obtain⟨g,hg,rfl⟩:=hu
 have:=hR.own b _ _ hH hg
 simp only[Ob.at,Sh.has]at this
 obtain⟨g',us,cC,⟨es,clock,U,h2,h3,h5⟩,h4,_⟩:=this
 cases cC
 subst h3
 exact⟨g,es,clock,rfl,hg,U,h2,h4,h5⟩
end
section
variable {C:Cx} {K:List PK} {E:Env} {H:aa}
theorem z_ {d:TypeDesc} {es:Array MapEntry} {ks:List Value} {kv:Value} (bW:es.toList.map (·.key)=ks) (fi:te d ks) (hk:IsKey d kv):
  (Instr.findNow d kv es.toList 0=some none/\kv∉ks)\/∃j e,Instr.findNow d kv es.toList 0=some (some (j,e.val))/\es.toList[j]?=some e/\e.key=kv/\ks[j]?=some kv:=by
 subst bW
 rcases findNow_spec hk es.toList 0 (fun x hx=>fi _ (List.mem_map.2 ⟨x,hx,rfl⟩))with⟨U,h2⟩|⟨j,e,U,h2,h3⟩
 ·exact .inl ⟨U,fun h=>by obtain⟨x,hx,e⟩:=List.mem_map.1 h;exact h2 x hx e⟩
 ·exact .inr ⟨j,e,by rw[Nat.zero_add]at U;exact U,h2,h3,by rw[List.getElem?_map,h2,<-h3];rfl⟩
theorem AQ.sF (j:Nat) {ds:List (Nat×Nat)} {i:Nat} {d:Option Nat} {ty t kt et:TypeId} {pos:String} {af:Array Edge} {os:List Oper} {m k:Operand} {ok:Bool} {b:Nat} {ks:List Value} {cs:List AV} {kv:Value} {x:AV} {dk:TypeDesc}
  (ah:a7 C.n ({dst:=d,op:= .lookup t m k ok,type:=ty,pos:=pos,after:=af,guard:=none}::os)=true)
  (hm:ev E m=some (.mp b)) (hk:ev E k=some (.im (.v kv))) (hH:lk H b=some (.var (.map ks) cs)) (ht:C.P.underlying t=some (.map kt et)) (hd:C.P.underlying kt=some dk)
  (fi:te dk ks) (gZ:IsKey dk kv) (dC:kv∈ks) (hj:∀i,ks[i]?=some kv->i=j) (hx:cs[j]?=some x)
  (h:vq C K os (aW d i ds) (i+1) (aY d (bif ok then .aG [x,.im (.v (.bool true))]else x) E) H):
  AQ C ds i ({dst:=d,op:= .lookup t m k ok,type:=ty,pos:=pos,after:=af,guard:=none}::os) K E H:=by
 refine AQ.val (bif ok then .aG [x,.im (.v (.bool true))]else x) ah rfl (fun φ I a w hs=>?_) h
 obtain⟨g,es,clock,fj,hg,hh,aM,lI,jV⟩:=uI hs.st.real hH (aH hs.env hm)
 have gB:=aH hs.env hk
 simp only[AV.den,IV.den]at gB
 rcases z_ aM fi gZ with⟨_,h2⟩|⟨j',e,U,h2,h3,h4⟩
 ·exact absurd dC h2
 ·have:=hj j' h4
  subst this
  obtain⟨v,hv,a8⟩:=gP cs _ j' x lI hx
  have sf:v=e.val:=by rw[List.getElem?_map,h2]at hv;cases hv;rfl
  subst sf
  have aB:(Instr.lookup t (a.eval m) (a.eval k) ok).run C.P w= .ok (if ok then .tuple #[e.val,.bool true]else e.val) w:=by
   rw[fj,gB.1]
   cases ok<;>simp[Instr.lookup,run_underlying ht,MapKept.run_getObj_map hh,run_checkKey hd gZ,run_findKey hd U,Result.andThen]
  refine⟨if ok then .tuple #[e.val,.bool true]else e.val,by simp only[execOp,Sem.run_bind,Sem.run_map,aB,Result.andThen_ok,Sem.run_pure],?_⟩
  cases ok with
  |true=>simp only[cond_true,if_true,AV.den,AV.ab];exact⟨_,⟨_,_,rfl,a8,_,_,rfl,by simp only[IV.den];exact⟨trivial,rfl⟩,rfl⟩,rfl⟩
  |false=>simpa using a8
theorem AQ.Df {ds:List (Nat×Nat)} {i:Nat} {d:Option Nat} {ty t kt et:TypeId} {pos:String} {af:Array Edge} {os:List Oper} {m k:Operand} {ok:Bool} {b:Nat} {ks:List Value} {cs:List AV} {kv z:Value} {dk:TypeDesc}
  (ah:a7 C.n ({dst:=d,op:= .lookup t m k ok,type:=ty,pos:=pos,after:=af,guard:=none}::os)=true)
  (hm:ev E m=some (.mp b)) (hk:ev E k=some (.im (.v kv))) (hH:lk H b=some (.var (.map ks) cs)) (ht:C.P.underlying t=some (.map kt et)) (hd:C.P.underlying kt=some dk)
  (fi:te dk ks) (gZ:IsKey dk kv) (dC:kv∉ks) (hz:(C.P.info? et).bind (·.zero)=some z) (fk:z.oneCell'=true)
  (h:vq C K os (aW d i ds) (i+1) (aY d (bif ok then .aG [.im (.v z),.im (.v (.bool false))]else .im (.v z)) E) H):
  AQ C ds i ({dst:=d,op:= .lookup t m k ok,type:=ty,pos:=pos,after:=af,guard:=none}::os) K E H:=by
 refine AQ.val (bif ok then .aG [.im (.v z),.im (.v (.bool false))]else .im (.v z)) ah rfl (fun φ I a w hs=>?_) h
 obtain⟨g,es,clock,fj,hg,hh,aM,lI,jV⟩:=uI hs.st.real hH (aH hs.env hm)
 have gB:=aH hs.env hk
 simp only[AV.den,IV.den]at gB
 rcases z_ aM fi gZ with⟨U,_⟩|⟨j',e,U,h2,h3,h4⟩
 ·have zO:(zeroValue et).run C.P w= .ok z w:=by
   cases hi:C.P.info? et with
   |none=>rw[hi]at hz;cases hz
   |some inf=>
    rw[hi]at hz
    simp only[Option.bind_some]at hz
    simp[zeroValue,typeInfo,hi,hz]
  have aB:(Instr.lookup t (a.eval m) (a.eval k) ok).run C.P w= .ok (if ok then .tuple #[z,.bool false]else z) w:=by
   rw[fj,gB.1]
   cases ok<;>simp[Instr.lookup,run_underlying ht,MapKept.run_getObj_map hh,run_checkKey hd gZ,run_findKey hd U,zO,Result.andThen]
  refine⟨if ok then .tuple #[z,.bool false]else z,by simp only[execOp,Sem.run_bind,Sem.run_map,aB,Result.andThen_ok,Sem.run_pure],?_⟩
  cases ok with
  |true=>simp only[cond_true,if_true,AV.den,AV.ab,IV.den];exact⟨_,⟨_,_,rfl,⟨rfl,fk⟩,_,_,rfl,⟨rfl,rfl⟩,rfl⟩,rfl⟩
  |false=>simp only[cond_false,Bool.false_eq_true,if_false,AV.den,IV.den];exact⟨trivial,fk⟩
 ·exact absurd (List.mem_of_getElem? h4) dC
theorem AQ.YB {ds:List (Nat×Nat)} {i:Nat} {d:Option Nat} {ty t kt et:TypeId} {pos:String} {af:Array Edge} {os:List Oper} {m:Operand} {b:Nat} {ks:List Value} {cs:List AV}
  (ah:a7 C.n ({dst:=d,op:= .call {callee:= .builtin .len,args:=#[m],argTypes:=#[t]},type:=ty,pos:=pos,after:=af,guard:=none}::os)=true)
  (hm:ev E m=some (.mp b)) (hH:lk H b=some (.var (.map ks) cs)) (ht:C.P.underlying t=some (.map kt et))
  (h:vq C K os (aW d i ds) (i+1) (aY d (.im (.v (.int .i64 ks.length))) E) H):
  AQ C ds i ({dst:=d,op:= .call {callee:= .builtin .len,args:=#[m],argTypes:=#[t]},type:=ty,pos:=pos,after:=af,guard:=none}::os) K E H:=by
 refine AQ.val (.im (.v (.int .i64 ks.length))) ah rfl (fun φ I a w hs=>?_) h
 obtain⟨g,es,clock,fj,hg,hh,aM,lI,jV⟩:=uI hs.st.real hH (aH hs.env hm)
 have aO:es.size=ks.length:=by rw[<-aM];simp
 have aB:(Builtin.len_ #[t] ty #[a.eval m]).run C.P w= .ok (.int .i64 es.size) w:=by
  rw[fj]
  simp[Builtin.len_,run_underlying ht,MapKept.run_getObj_map hh,Result.andThen,goInt]
 refine⟨.int .i64 es.size,by simp only[execOp,resolve,invoke,builtin,Sem.run_bind,Sem.run_pure,Result.andThen_ok,List.map_toArray,List.map_cons,List.map_nil,aB],?_⟩
 simp only[AV.den,IV.den,aO]
 exact⟨trivial,rfl⟩
end
theorem J6 {es:Array MapEntry} {clock:Nat} {k v:Value} (h:ru es clock):ru (es.push {key:=k,val:=v,born:=clock}) (clock+1):=by
 refine⟨?_,fun e he=>?_⟩
 ·rw[Array.toList_push,List.map_append,List.nodup_append]
  refine⟨h.1,by simp,fun a ha b hb=>?_⟩
  obtain⟨e,he,rfl⟩:=List.mem_map.1 ha
  have:=h.2 e he
  have hb:b=clock:=by simpa using hb
  omega
 ·rw[Array.toList_push,List.mem_append]at he
  rcases he with he|he
  ·have:=h.2 e he;omega
  ·have:e={key:=k,val:=v,born:=clock}:=by simpa using he
   rw[this];exact Nat.lt_succ_self _
theorem J7 {es ef:Array MapEntry} {clock j:Nat} {e:MapEntry} {k v:Value} (hj:es.toList[j]?=some e) (hs:ef.toList=es.toList.set j {e with key:=k,val:=v}) (h:ru es clock):ru ef clock:=by
 have hb:ef.toList.map (·.born)=es.toList.map (·.born):=by
  rw[hs,List.map_set]
  refine List.ext_getElem? fun i=>?_
  rw[List.getElem?_set]
  split
  ·rename_i fC
   subst fC
   split
   ·rw[List.getElem?_map,hj];rfl
   ·rename_i hl
    rw[List.length_map]at hl
    rw[List.getElem?_eq_none (by rw[List.length_map];omega)]
  ·rfl
 refine⟨by rw[hb];exact h.1,fun x hx=>?_⟩
 have:x.born∈ef.toList.map (·.born):=List.mem_map.2 ⟨x,hx,rfl⟩
 rw[hb]at this
 obtain⟨y,hy,e2⟩:=List.mem_map.1 this
 rw[<-e2];exact h.2 y hy
section
variable {w:World} {φ:ai} {I:Nat->Prop} {l:Nat} {es:Array MapEntry} {clock:Nat} {o':Obj}
theorem aac (hl:w.heap[l]?=some (.map es clock)) (g n:Nat) (h:shaped w g n):shaped (w.putObj l o') g n:=by
 obtain⟨c,e,hc,hn⟩:=h
 have hg:g≠l:=fun h=>by subst h;rw[hl]at hc;cases hc
 exact⟨c,e,(World.putObj_heap_other hg).trans hc,hn⟩
theorem zV (hl:w.heap[l]?=some (.map es clock)) (hI:¬I l):bC w φ I (w.putObj l o') φ I:=
 ⟨fun g hg=>World.putObj_heap_other (fun e=>hI (e▸hg)),fun _ h=>h,fun _ _ h=>h,fun _ g n _=>aac hl g n⟩
theorem T0 {own:Nat->Prop} (hl:w.heap[l]?=some (.map es clock)) (ho:own l):Ext own w (w.putObj l o'):=
 ⟨by simp,fun g _ hn=>World.putObj_heap_other (fun e=>hn (e▸ho)),fun g c e fz hc=>⟨c,fz,(World.putObj_heap_other (fun e=>by subst e;rw[hl]at hc;cases hc)).trans hc,rfl⟩,rfl,rfl,rfl⟩
theorem St.DC {B:Bs} {H:aa} (h:St B φ I H w) {b:Nat} (hb:φ b=some (some l)) (hl:w.heap[l]?=some (.map es clock)) {pN ob:Ob} (fE:lk H b=some pN) (aP:ob.at (w.putObj l o') φ I (some l)):
  St B φ I (aN H b ob) (w.putObj l o')/\bC w φ I (w.putObj l o') φ I:=by
 have hI:¬I l:=(h.real.off b l hb).1
 have k:bC w φ I (w.putObj l o') φ I:=zV hl hI
 refine⟨⟨⟨fun b'=>?_,fun b' o p aD hp=>?_,fun b' g hp=>?_,h.real.inj,fun g hg=>?_⟩,h.ext.trans (T0 (own:=fun g=>g=l) hl rfl) (fun g hg=>by subst hg;exact h.b9 b _ hb),h.b9,h.cZ,h.cj,fun b' p o ag h0 aD=>?_⟩,k⟩
 ·by_cases aj:b'=b
  ·subst aj;rw[cV H b' _ fE,hb];rfl
  ·rw[cm H b b' _ aj];exact h.real.bj b'
 ·by_cases aj:b'=b
  ·subst aj
   rw[cV H b' _ fE]at aD;cases aD
   rw[hb]at hp;cases hp
   exact aP
  ·rw[cm H b b' _ aj]at aD
   exact Ob.kF k.im k.I k.phi k.sh (fun g hg=>World.putObj_heap_other (fun e=>by subst e;subst hg;exact aj (h.real.inj b' b g hp hb))) (h.real.own b' o p aD hp)
 ·have:=h.real.off b' g hp
  exact⟨this.1,by simpa using this.2⟩
 ·have:=h.real.bM g hg
  simpa using this
 ·by_cases aj:b'=b
  ·subst aj;exact h.cE b' p pN ag h0 fE
  ·rw[cm H b b' _ aj]at aD;exact h.cE b' p o ag h0 aD
end
theorem vD {w:World} {φ:ai} {I:Nat->Prop} {x:AV} {u:Value} (hx:AV.den w φ I x u):∀(cs:List AV) (us:List Value),AV.ab w φ I cs us->AV.ab w φ I (cs++[x]) (us++[u])
 |[],us,h=>by simp only[AV.ab]at h;subst h;simp only[List.nil_append,AV.ab];exact⟨u,[],rfl,hx,rfl⟩
 |y::cs,us,h=>by
  simp only[AV.ab]at h
  obtain⟨v,vs,rfl,U,h2⟩:=h
  simp only[List.cons_append,AV.ab]
  exact⟨v,_,rfl,U,vD hx cs vs h2⟩
theorem EU {w:World} {φ:ai} {I:Nat->Prop} {x:AV} {u:Value} (hx:AV.den w φ I x u):∀(cs:List AV) (us:List Value) (j:Nat),AV.ab w φ I cs us->AV.ab w φ I (cs.set j x) (us.set j u)
 |[],us,j,h=>by simp only[AV.ab]at h;subst h;simp[AV.ab]
 |y::cs,us,0,h=>by
  simp only[AV.ab]at h
  obtain⟨v,vs,rfl,U,h2⟩:=h
  simp only[List.set_cons_zero,AV.ab]
  exact⟨u,vs,rfl,hx,h2⟩
 |y::cs,us,j+1,h=>by
  simp only[AV.ab]at h
  obtain⟨v,vs,rfl,U,h2⟩:=h
  simp only[List.set_cons_succ,AV.ab]
  exact⟨v,_,rfl,U,EU hx cs vs j h2⟩
section
variable {C:Cx} {K:List PK} {E:Env} {H:aa}
theorem AQ.wW {ds:List (Nat×Nat)} {i:Nat} {d:Option Nat} {ty t:TypeId} {pos:String} {af:Array Edge} {os:List Oper}
  (ah:a7 C.n ({dst:=d,op:= .makeMap t none,type:=ty,pos:=pos,after:=af,guard:=none}::os)=true)
  (h:vq C K os (aW d i ds) (i+1) (aY d (.mp (au C.B.nb H)) E) ((au C.B.nb H,.var (.map []) [])::H)):
  AQ C ds i ({dst:=d,op:= .makeMap t none,type:=ty,pos:=pos,after:=af,guard:=none}::os) K E H:=by
 obtain⟨hd,bX⟩:=dM ah
 have bl:=AQ.go bX h
 unfold AQ at bl⊢
 refine AO.step fun ops φ I a w aQ _ hs Kn bE=>?_
 have oq:=dh C.B.nb H
 obtain⟨U,h2⟩:=hs.st.Bh (ob:= .map #[] 0) (o:= .var (.map []) []) (k_ C.B.nb H) oq.1 (by
  simp only[Ob.at,Sh.has,Sh.one,AV.ab]
  exact⟨_,[],rfl,⟨#[],0,by simpa using ir w _,rfl,rfl,List.nodup_nil,fun _ h=>by cases h⟩,rfl,trivial⟩)
 rw[if_pos (by simp[Region.wanted])]
 unfold Oper.wp
 have aB:(execOp a.eval {dst:=d,op:= .makeMap t none,type:=ty,pos:=pos,after:=af,guard:=none}).run C.P w= .ok (.value (.map (some w.heap.size))) (w.alloc (.map #[] 0)):=by
  have qA:(Instr.makeMap t none).run C.P w= .ok (.map (some w.heap.size)) (w.alloc (.map #[] 0)):=rfl
  simp only[execOp,Option.map_none,Sem.run_bind,Sem.run_map,qA,Result.andThen_ok,Sem.run_pure]
 rw[aB,Oper.upon_value]
 exact bE _ _ _ I _ _ bl (hs.put U h2 hd (by simp only[AV.den,aT];exact⟨_,by simp,rfl⟩))
theorem AQ.Ab {ds:List (Nat×Nat)} {i:Nat} {ty t kt et:TypeId} {pos:String} {af:Array Edge} {os:List Oper} {m k x:Operand} {b:Nat} {ks:List Value} {cs:List AV} {kv:Value} {xv:AV} {dk:TypeDesc}
  (ah:a7 C.n ({dst:=none,op:= .mapUpdate t m k x,type:=ty,pos:=pos,after:=af,guard:=none}::os)=true)
  (hm:ev E m=some (.mp b)) (hk:ev E k=some (.im (.v kv))) (hx:ev E x=some xv) (hH:lk H b=some (.var (.map ks) cs)) (ht:C.P.underlying t=some (.map kt et)) (hd:C.P.underlying kt=some dk)
  (fi:te dk ks) (gZ:IsKey dk kv) (dC:kv∉ks)
  (h:vq C K os ds (i+1) E (aN H b (.var (.map (ks++[kv])) (cs++[xv])))):
  AQ C ds i ({dst:=none,op:= .mapUpdate t m k x,type:=ty,pos:=pos,after:=af,guard:=none}::os) K E H:=by
 obtain⟨fB,bX⟩:=dM ah
 have bl:=AQ.go bX h
 unfold AQ at bl⊢
 refine AO.step fun ops φ I a w aQ _ hs Kn bE=>?_
 obtain⟨g,es,clock,fj,hg,hh,aM,lI,jV⟩:=uI hs.st.real hH (aH hs.env hm)
 have gB:=aH hs.env hk
 simp only[AV.den,IV.den]at gB
 have eX:=aH hs.env hx
 rcases z_ aM fi gZ with⟨U,_⟩|⟨j',e,U,h2,h3,h4⟩
 ·rw[if_pos (by simp[Region.wanted])]
  unfold Oper.wp
  have ag:g<w.heap.size:=(hs.st.real.off b g hg).2
  have aB:(Instr.mapUpdate t (a.eval m) (a.eval k) (a.eval x)).run C.P w= .ok () (w.putObj g (.map (es.push {key:=kv,val:=a.eval x,born:=clock}) (clock+1))):=by
   rw[fj,gB.1]
   simp[Instr.mapUpdate,run_underlying ht,MapKept.run_getObj_map hh,run_checkKey hd gZ,run_findKey hd U,MapKept.run_setObj_map _ hh,Result.andThen,World.putObj]
  have ux:(execOp a.eval {dst:=none,op:= .mapUpdate t m k x,type:=ty,pos:=pos,after:=af,guard:=none}).run C.P w= .ok .skip (w.putObj g (.map (es.push {key:=kv,val:=a.eval x,born:=clock}) (clock+1))):=by
   simp only[execOp,Sem.run_bind,Sem.run_map,aB,Result.andThen_ok,Sem.run_pure]
  rw[ux,Oper.upon_skip]
  obtain⟨hS,uf⟩:=hs.st.DC (o':= .map (es.push {key:=kv,val:=a.eval x,born:=clock}) (clock+1)) (ob:= .var (.map (ks++[kv])) (cs++[xv])) hg hh hH (by
   simp only[Ob.at,Sh.has,Sh.one]
   refine⟨g,es.toList.map (·.val)++[a.eval x],rfl,⟨_,_,World.putObj_heap_same ag,by simp[aM],by simp,J6 jV⟩,?_,trivial⟩
   have hK:=zV (φ:=φ) (o':= .map (es.push {key:=kv,val:=a.eval x,born:=clock}) (clock+1)) hh (hs.st.real.off b g hg).1
   exact AV.fb hK.im hK.I hK.phi hK.sh _ _ (vD eX cs _ lI))
  exact bE _ _ φ I _ _ bl (hs.put hS uf fB (v:= .top) (by simp only[AV.den]))
 ·exact absurd (List.mem_of_getElem? h4) dC
theorem AQ.HV (j:Nat) {ds:List (Nat×Nat)} {i:Nat} {ty t kt et:TypeId} {pos:String} {af:Array Edge} {os:List Oper} {m k x:Operand} {b:Nat} {ks:List Value} {cs:List AV} {kv:Value} {xv:AV} {dk:TypeDesc}
  (ah:a7 C.n ({dst:=none,op:= .mapUpdate t m k x,type:=ty,pos:=pos,after:=af,guard:=none}::os)=true)
  (hm:ev E m=some (.mp b)) (hk:ev E k=some (.im (.v kv))) (hx:ev E x=some xv) (hH:lk H b=some (.var (.map ks) cs)) (ht:C.P.underlying t=some (.map kt et)) (hd:C.P.underlying kt=some dk)
  (fi:te dk ks) (gZ:IsKey dk kv) (dC:kv∈ks) (hj:∀i,ks[i]?=some kv->i=j)
  (h:vq C K os ds (i+1) E (aN H b (.var (.map ks) (cs.set j xv)))):
  AQ C ds i ({dst:=none,op:= .mapUpdate t m k x,type:=ty,pos:=pos,after:=af,guard:=none}::os) K E H:=by
 obtain⟨fB,bX⟩:=dM ah
 have bl:=AQ.go bX h
 unfold AQ at bl⊢
 refine AO.step fun ops φ I a w aQ _ hs Kn bE=>?_
 obtain⟨g,es,clock,fj,hg,hh,aM,lI,jV⟩:=uI hs.st.real hH (aH hs.env hm)
 have gB:=aH hs.env hk
 simp only[AV.den,IV.den]at gB
 have eX:=aH hs.env hx
 rcases z_ aM fi gZ with⟨_,h2⟩|⟨j',e,U,h2,h3,h4⟩
 ·exact absurd dC h2
 ·have:=hj j' h4
  subst this
  rw[if_pos (by simp[Region.wanted])]
  unfold Oper.wp
  have ag:g<w.heap.size:=(hs.st.real.off b g hg).2
  have iG:es[j']?=some e:=by simpa using h2
  have aB:(Instr.mapUpdate t (a.eval m) (a.eval k) (a.eval x)).run C.P w= .ok () (w.putObj g (.map (es.modify j' fun e=>{e with key:=kv,val:=a.eval x}) clock)):=by
   rw[fj,gB.1]
   simp[Instr.mapUpdate,run_underlying ht,MapKept.run_getObj_map hh,run_checkKey hd gZ,run_findKey hd U,iG,h3,run_keyThatStays gZ,MapKept.run_setObj_map _ hh,Result.andThen,World.putObj]
  have ux:(execOp a.eval {dst:=none,op:= .mapUpdate t m k x,type:=ty,pos:=pos,after:=af,guard:=none}).run C.P w= .ok .skip (w.putObj g (.map (es.modify j' fun e=>{e with key:=kv,val:=a.eval x}) clock)):=by
   simp only[execOp,Sem.run_bind,Sem.run_map,aB,Result.andThen_ok,Sem.run_pure]
  rw[ux,Oper.upon_skip]
  have ui:(es.modify j' fun e=>{e with key:=kv,val:=a.eval x}).toList=es.toList.set j' {e with key:=kv,val:=a.eval x}:=by
   rw[Array.toList_modify]
   exact HT h2
  obtain⟨hS,uf⟩:=hs.st.DC (o':= .map (es.modify j' fun e=>{e with key:=kv,val:=a.eval x}) clock) (ob:= .var (.map ks) (cs.set j' xv)) hg hh hH (by
   simp only[Ob.at,Sh.has,Sh.one]
   refine⟨g,(es.toList.map (·.val)).set j' (a.eval x),rfl,⟨_,_,World.putObj_heap_same ag,?_,?_,J7 h2 ui jV⟩,?_,trivial⟩
   ·rw[ui,List.map_set,aM]
    exact IN h4
   ·rw[ui,List.map_set]
   ·have hK:=zV (φ:=φ) (o':= .map (es.modify j' fun e=>{e with key:=kv,val:=a.eval x}) clock) hh (hs.st.real.off b g hg).1
    exact AV.fb hK.im hK.I hK.phi hK.sh _ _ (EU eX cs _ j' lI))
  exact bE _ _ φ I _ _ bl (hs.put hS uf fB (v:= .top) (by simp only[AV.den]))
where
 HT {α:Type} {f:α->α} {x:α}:∀{l:List α} {j:Nat},l[j]?=some x->l.modify j f=l.set j (f x)
  |[],_,h=>by simp at h
  |y::l,0,h=>by simp at h;subst h;rfl
  |y::l,j+1,h=>by simp only[List.getElem?_cons_succ]at h;simp only[List.modify_succ_cons,List.set_cons_succ];rw[HT h]
 IN {α:Type} {x:α}:∀{l:List α} {j:Nat},l[j]?=some x->l.set j x=l
  |[],_,h=>by simp at h
  |y::l,0,h=>by simp at h;subst h;rfl
  |y::l,j+1,h=>by simp only[List.getElem?_cons_succ]at h;simp only[List.set_cons_succ];rw[IN h]
end
section
variable {C:Cx} {K:List PK} {E:Env} {H:aa}
end
end Go.AL
end
section
namespace Go.AL
open Go
theorem St.IA {B:Bs} {φ:ai} {I:Nat->Prop} {H:aa} {w:World} (h:St B φ I H w) {b:Nat} {o o':Ob} (hl:lk H b=some o) (hd:∀p,φ b=some p->o.at w φ I p->o'.at w φ I p):
  St B φ I (aN H b o') w:=by
 refine⟨⟨fun b'=>?_,fun b' o2 p aD hp=>?_,h.real.off,h.real.inj,h.real.bM⟩,h.ext,h.b9,h.cZ,h.cj,fun b' p o2 ag h0 aD=>?_⟩
 ·by_cases aj:b'=b
  ·subst aj;rw[cV H b' _ hl,h.real.bj b',hl];rfl
  ·rw[cm H b b' _ aj];exact h.real.bj b'
 ·by_cases aj:b'=b
  ·subst aj
   rw[cV H b' _ hl]at aD
   cases aD
   exact hd p hp (h.real.own b' _ p hl hp)
  ·rw[cm H b b' _ aj]at aD;exact h.real.own b' o2 p aD hp
 ·by_cases aj:b'=b
  ·subst aj;exact h.cE b' p _ ag h0 hl
  ·rw[cm H b b' _ aj]at aD;exact h.cE b' p o2 ag h0 aD
theorem St.dF {B:Bs} {φ:ai} {I:Nat->Prop} {H H':aa} {w:World} (h:St B φ I H w) (he:∀b,lk H b=lk H' b):St B φ I H' w:=
 ⟨⟨fun b=>by rw[h.real.bj b,he b],fun b o p hl hp=>h.real.own b o p ((he b).trans hl) hp,h.real.off,h.real.inj,h.real.bM⟩,h.ext,h.b9,h.cZ,h.cj,fun b p o ag h0 hl=>h.cE b p o ag h0 ((he b).trans hl)⟩
def lits (us:List Value):List (List IV):=us.map fun c=>[.v c]
theorem uF (us:List Value):(lits us).length=us.length:=by simp[lits]
theorem St.DK {B:Bs} {φ:ai} {I:Nat->Prop} {H:aa} {w:World} (h:St B φ I H w) {b:Nat} {e:TypeId} {cs:List AV} (hl:lk H b=some (.var (.row e) cs)):
  ∃us,AV.ab w φ I cs us/\us.length=cs.length/\St B φ I (aN H b (.vec e 1 (lits us))) w:=by
 have hd:=h.real.bj b
 rw[hl]at hd
 obtain⟨p,hp⟩:=Option.isSome_iff_exists.1 hd
 have ho:=h.real.own b _ p hl hp
 simp only[Ob.at,Sh.has,Sh.one]at ho
 obtain⟨g,us,rfl,⟨rest,hg⟩,aS,U⟩:=ho
 refine⟨us,aS,p_ aS,h.IA hl fun p' bH _=>?_⟩
 rw[hp]at bH
 cases bH
 simp only[Ob.at]
 exact .inr ⟨g,us.map fun c=>[c],rest,rfl,by rw[yA];exact hg,IF us (List.all_eq_true.2 U),fun vs hv=>by obtain⟨c,_,rfl⟩:=List.mem_map.1 hv;rfl⟩
theorem St.Rj {B:Bs} {φ:ai} {I:Nat->Prop} {H:aa} {w:World} (h:St B φ I H w) {b:Nat} {e:TypeId} {rows:List (List IV)} {cs:List AV} (hl:lk H b=some (.vec e 1 rows)) (aC:rows≠[])
  (hd:∀ae,IV.aE w I rows ae->AV.ab w φ I cs ae.flatten):St B φ I (aN H b (.var (.row e) cs)) w:=by
 refine h.IA hl fun p _ ho=>?_
 simp only[Ob.at]at ho
 rcases ho with⟨_,h0⟩|⟨g,ae,rest,rfl,hg,aS,_⟩
 ·exact absurd h0 aC
 ·simp only[Ob.at,Sh.has,Sh.one]
  exact⟨g,ae.flatten,rfl,⟨rest,hg⟩,hd ae aS,ss _ _ (rG _ _ aS)⟩
theorem zw:∀(H:aa) (b:Nat) (o o':Ob),aN (aN H b o) b o'=aN H b o'
 |[],_,_,_=>rfl
 |(j,x)::r,b,o,o'=>by
  simp only[aN]
  cases hb:Nat.beq j b with
  |true=>simp only[cond_true,aN,hb]
  |false=>simp only[cond_false,aN,hb];rw[zw r b o o']
section
variable {C:Cx} {K:List PK} {E:Env} {H:aa}
theorem AE.dF {e:Exit} (H':aa) (he:∀b,lk H b=lk H' b) (h:AE C e K E H'):AE C e K E H:=by
 unfold AE at h⊢
 exact fun φ I a w hs=>h _ _ _ _ ⟨hs.bD,hs.bA,hs.env,hs.st.dF he⟩
theorem AP.dF {p:List Nat} (H':aa) (he:∀b,lk H b=lk H' b) (h:AP C p K E H'):AP C p K E H:=by
 unfold AP at h⊢
 exact fun φ I a w hs=>h _ _ _ _ ⟨hs.bD,hs.bA,hs.env,hs.st.dF he⟩
theorem AQ.dF {ds:List (Nat×Nat)} {i:Nat} {rest:List Oper} (H':aa) (he:∀b,lk H b=lk H' b) (h:AQ C ds i rest K E H'):AQ C ds i rest K E H:=by
 unfold AQ at h⊢
 exact fun ops U h2 φ I a w hs=>h ops U h2 _ _ _ _ ⟨hs.bD,hs.bA,hs.env,hs.st.dF he⟩
end
theorem O0 {b c:Nat} {e:TypeId} {es:Nat} {rows:List (List IV)}:∀H:aa,noMen b H=true->noMen b (aN H c (.vec e es rows))=true
 |[],_=>rfl
 |(j,o)::r,h=>by
  have hr:noMen b r=true:=by
   cases o with
   |var _ _=>simp only[noMen,Bool.and_eq_true]at h;exact h.2
   |vec _ _ _=>simpa only[noMen]using h
   |lp _ _ _ _ _ _ _=>simp only[noMen,Bool.and_eq_true]at h;exact h.2
  simp only[aN]
  cases Nat.beq j c with
  |true=>simp only[cond_true,noMen];exact hr
  |false=>
   simp only[cond_false]
   have ih:=O0 (c:=c) (e:=e) (es:=es) (rows:=rows) r hr
   cases o with
   |var _ _=>simp only[noMen,Bool.and_eq_true]at h⊢;exact⟨h.1,ih⟩
   |vec _ _ _=>simpa only[noMen]using ih
   |lp _ _ _ _ _ _ _=>simp only[noMen,Bool.and_eq_true]at h⊢;exact⟨h.1,ih⟩
theorem HA {w:World} {I:Nat->Prop} {z:IV}:∀(us:List Value) (ae:List (List Value)),IV.aE w I (lits us++[[z]]) ae->∃v,ae.flatten=us++[v]/\IV.den w I z v
 |[],ae,h=>by
  simp only[lits,List.map_nil,List.nil_append,IV.aE,IV.ab]at h
  obtain⟨vs,Ea,rfl,⟨v,u7,rfl,U,rfl⟩,rfl⟩:=h
  exact⟨v,rfl,U⟩
 |u::us,ae,h=>by
  simp only[lits,List.map_cons,List.cons_append,IV.aE,IV.ab,IV.den]at h
  obtain⟨vs,Ea,rfl,⟨v,u7,rfl,⟨rfl,_⟩,rfl⟩,h2⟩:=h
  obtain⟨x,hx,hd⟩:=HA us Ea h2
  exact⟨x,by simp[hx],hd⟩
theorem Yh {us:List Value} {j:Nat} {u:Value} (h:us[j]?=some u):(lits us).getD j []=[.v u]:=by
 simp[lits,List.getD,h]
section
variable {C:Cx} {K:List PK} {E:Env} {H:aa}
end
end Go.AL
end
section
namespace Go.AL
open Go
variable {es:Nat} {el:TypeId}
section
variable {C:Cx} {K:List PK} {E:Env}
end
end Go.AL
end
section
namespace Go.AL
open Go
section
variable {C:Cx} {K:List PK} {E:Env} {H:aa}
theorem KB {Hc:aa}:∀(m:List (Nat×Nat)),(∀b c,(b,c)∈m->(lk Hc b).isSome=true)->cR Hc m=[]
 |[],_=>rfl
 |(b,c)::r,h=>by
  have U:=h b c (by simp)
  obtain⟨o,ho⟩:=Option.isSome_iff_exists.1 U
  simp only[cR,ho]
  exact KB r fun b' c' hb=>h b' c' (by simp[hb])
theorem Of:∀(m:List (Nat×Nat)) (b c:Nat),(b,c)∈m->(lk m b).isSome=true
 |[],_,_,h=>by cases h
 |(b',c')::r,b,c,h=>by
  simp only[lk]
  cases hb:Nat.beq b' b with
  |true=>rfl
  |false=>
   rcases List.mem_cons.1 h with h|h
   ·cases h;simp at hb
   ·simpa using Of r b c h
theorem AQ.Bo (m:List (Nat×Nat)) {ds:List (Nat×Nat)} {i:Nat} {d:Option Nat} {ty:TypeId} {pos:String} {af:Array Edge} {os:List Oper} {bo:Operand} {f:FuncId} {fs aF:List AV} {xs:List Operand} {aZ:Array TypeId} {l gS:List AV} {Hc:aa} {r:AV}
  (ah:a7 C.n ({dst:=d,op:= .call {callee:= .value bo,args:=xs.toArray,argTypes:=aZ},type:=ty,pos:=pos,after:=af,guard:=none}::os)=true)
  (fc:ev E bo=some (.fn f fs aF)) (hl:dT E xs=some l) (dG:gs l=true)
  (lM:fa m=nu Hc) (jZ:gj (fa m)=true) (lO:gj (kA m)=true) (lP:∀k,lh (br m k) H Hc)
  (de:∀k,AV.cO (br m k) gS=fs++l.map AV.st++aF) (hr:∀k,AV.rn (br m k) r=r) (hc:ao C.P f gS Hc (fun r' H'=>H'=Hc/\r'=r))
  (h:vq C K os (aW d i ds) (i+1) (aY d r E) H):
  AQ C ds i ({dst:=d,op:= .call {callee:= .value bo,args:=xs.toArray,argTypes:=aZ},type:=ty,pos:=pos,after:=af,guard:=none}::os) K E H:=by
 have hH:Hand m (au C.B.nb H) H Hc:=⟨lM,jZ,lO,lP _,fun b o hb=>by have:=bU H b o hb;have:=(dh C.B.nb H).2;omega⟩
 refine AQ.nQ m ah fc hl dG lM jZ lO (lP _) (de _) hc fun r' H1 ⟨e1,e2⟩=>?_
 subst e1;subst e2
 have VH:cR H1 m=[]:=KB m fun b c hb=>by rw[<-hH.bj];exact Of m b c hb
 rw[VH,hr]
 refine⟨rfl,AQ.dF H (fun c=>?_) (AQ.go (dM ah).2 h)⟩
 rcases Nat.lt_or_ge c (au C.B.nb H)with ag|cq
 ·rw[hH.Da ag]
  cases hi:dJ m c with
  |none=>rfl
  |some b=>
   obtain⟨o,U,h2⟩:=hH.get (hH.wG hi)
   simp only[U,h2,Option.map_some]
 ·obtain⟨b,rfl⟩:=Nat.exists_eq_add_of_le cq
  rw[hH.HD b]
  have hn:lk H (au C.B.nb H+b)=none:=by
   cases hq:lk H (au C.B.nb H+b)with
   |none=>rfl
   |some o=>have:=hH.fresh _ _ hq;omega
  rw[hn]
  cases hm:lk m b with
  |some c=>rfl
  |none=>
   have:=hH.bj b
   rw[hm]at this
   cases hq:lk H1 b with
   |none=>rfl
   |some o=>rw[hq]at this;cases this
end
section
variable {C:Cx} {K:List PK} {E:Env} {H:aa}
theorem AP.cut {p:List Nat} {α:Type} (LE:α->Env) (LH:α->aa) (ok:α->Prop) (h:AP C p (.lp (vi C LE LH ok (fun _=>0) 1)::K) E H) (h':∀q,ok q->AE C .normal K (LE q) (LH q)):AP C p K E H:=by
 unfold AP at h⊢
 unfold AE at h'
 intro φ I a w hs
 refine wpIn_mono (h φ I a w hs) (fun e a w hq=>?_)
 cases e with
 |normal=>
  obtain⟨q,U,_,a_,I1,h2⟩:=hq
  exact h' q U a_ I1 a w h2
 |_=>exact hq
theorem AE.meet {α:Type} {LE:α->Env} {LH:α->aa} {ok:α->Prop} (q:α) (ah:ok q) (hE:Sub E (LE q)) (hH:H=LH q):
  AE C .normal (.lp (vi C LE LH ok (fun _=>0) 1)::K) E H:=AE.round q ah (Nat.lt_succ_self 0) hE hH
def bY (cs cs':List AV):Prop:=∀(w:World) (φ:ai) (I:Nat->Prop) (us:List Value),AV.ab w φ I cs us->AV.ab w φ I cs' us
theorem bY.refl (cs:List AV):bY cs cs:=fun _ _ _ _ h=>h
theorem bY.cons {x:AV} {cs cs':List AV} (h:bY cs cs'):bY (x::cs) (x::cs'):=fun w φ I us hd=>by
 simp only[AV.ab]at hd⊢
 obtain⟨u,ak,e,U,h2⟩:=hd
 exact⟨u,ak,e,U,h w φ I ak h2⟩
theorem bY.nil {es:Nat} {cs cs':List AV} (h:bY cs cs'):bY (.im (.v (.slice none 0 0))::cs) (.im (.sl es [])::cs'):=fun w φ I us hd=>by
 simp only[AV.ab]at hd⊢
 obtain⟨u,ak,e,U,h2⟩:=hd
 exact⟨u,ak,e,by simp only[AV.den]at U⊢;exact Ia U,h w φ I ak h2⟩
theorem St.fJ {B:Bs} {φ:ai} {I:Nat->Prop} {H:aa} {w:World} (h:St B φ I H w) {b:Nat} {e:Sh} {cs cs':List AV} (hl:lk H b=some (.var e cs)) (hc:bY cs cs'):St B φ I (aN H b (.var e cs')) w:=
 h.IA hl fun p _ ho=>by
  simp only[Ob.at]at ho⊢
  obtain⟨g,us,U,h2,h3,h4⟩:=ho
  exact⟨g,us,U,h2,hc w φ I us h3,h4⟩
theorem AE.fJ {e:Exit} (b:Nat) (cs':List AV) {s:Sh} {cs:List AV} (hl:lk H b=some (.var s cs)) (hc:bY cs cs') (h:AE C e K E (aN H b (.var s cs'))):AE C e K E H:=by
 unfold AE at h⊢
 exact fun φ I a w hs=>h _ _ _ _ ⟨hs.bD,hs.bA,hs.env,hs.st.fJ hl hc⟩
theorem AP.fJ {p:List Nat} (b:Nat) (cs':List AV) {s:Sh} {cs:List AV} (hl:lk H b=some (.var s cs)) (hc:bY cs cs') (h:AP C p K E (aN H b (.var s cs'))):AP C p K E H:=by
 unfold AP at h⊢
 exact fun φ I a w hs=>h _ _ _ _ ⟨hs.bD,hs.bA,hs.env,hs.st.fJ hl hc⟩
end
section
variable {C:Cx} {K:List PK} {E:Env} {H:aa}
theorem AQ.step1 (x:AV) (H':aa) {ds:List (Nat×Nat)} {i:Nat} {o:Oper} {os:List Oper} (ah:a7 C.n (o::os)=true) (hg:o.guard=none)
  (hex:∀φ I a w,bt C φ I E H a w->∃u w' φ' I',(execOp a.eval o).run C.P w= .ok (.value u) w'/\AV.den w' φ' I' x u/\St C.B φ' I' H' w'/\bC w φ I w' φ' I')
  (h:vq C K os (aW o.dst i ds) (i+1) (aY o.dst x E) H'):AQ C ds i (o::os) K E H:=by
 obtain⟨hd,bX⟩:=dM ah
 have bl:=AQ.go bX h
 unfold AQ at bl⊢
 refine AO.step (o:=o) fun ops φ I a w aQ _ hs Kn bE=>?_
 have hw:Region.wanted o (yielded ops a.tmps)=true:=by simp[Region.wanted,hg]
 rw[if_pos hw]
 obtain⟨u,w',φ',I',aB,aS,hS,hK⟩:=hex φ I a w hs
 unfold Oper.wp
 rw[aB,Oper.upon_value]
 exact bE _ _ φ' I' _ _ bl (hs.put hS hK hd aS)
def Jf (C:Cx) (K:List PK):Nat->List Oper->List (Nat×Nat)->Nat->Env->aa->Prop
 |0,os,ds,i,E,H=>AQ C ds i os K E H
 |_+1,[],ds,i,E,H=>AQ C ds i [] K E H
 |n+1,o::os,ds,i,E,H=>match gd ds E o.guard with
  |none=>AQ C ds i (o::os) K E H
  |some G=>match iu C.P E H o.op with
   |some (sc,v)=>(G=true->sc)/\Jf C K n os (aW o.dst i ds) (i+1) (aY o.dst (wrap o.guard G v) E) H
   |none=>match o.guard with
    |some _=>AQ C ds i (o::os) K E H
    |none=>match qa C.P C.B.nb C.ob E H o with
     |some (sc,v,H')=>sc/\Jf C K n os (aW o.dst i ds) (i+1) (aY o.dst v E) H'
     |none=>AQ C ds i (o::os) K E H
end
attribute [go_sem] Jf
def wM (φ:ai) (I:Nat->Prop) (g:Nat):Prop:=I g\/∃b,φ b=some (some g)
def mM (H:aa) (x:AV) (y:IV):Prop:=∀(w:World) (φ:ai) (I:Nat->Prop),Real w φ I H->∀u,AV.den w φ I x u->IV.den w (wM φ I) y u
def tf (H:aa) (xs:List AV) (ys:List IV):Prop:=∀(w:World) (φ:ai) (I:Nat->Prop),Real w φ I H->∀us,AV.ab w φ I xs us->IV.ab w (wM φ I) ys us
def oT (H:aa) (x y:AV):Prop:=∀(w:World) (φ:ai) (I:Nat->Prop),Real w φ I H->∀u,AV.den w φ I x u->AV.den w (fun _=>none) (wM φ I) y u
def rv (H:aa) (xs ys:List AV):Prop:=∀(w:World) (φ:ai) (I:Nat->Prop),Real w φ I H->∀us,AV.ab w φ I xs us->AV.ab w (fun _=>none) (wM φ I) ys us
theorem tf.nil {H:aa}:tf H [] []:=fun _ _ _ _ us h=>by simpa only[AV.ab,IV.ab]using h
theorem tf.cons {H:aa} {x:AV} {y:IV} {xs:List AV} {ys:List IV} (h:mM H x y) (h':tf H xs ys):tf H (x::xs) (y::ys):=fun w φ I hR us hd=>by
 simp only[AV.ab]at hd
 obtain⟨u,ak,rfl,U,h2⟩:=hd
 simp only[IV.ab]
 exact⟨u,ak,rfl,h w φ I hR u U,h' w φ I hR ak h2⟩
theorem rv.nil {H:aa}:rv H [] []:=fun _ _ _ _ us h=>by simpa only[AV.ab]using h
theorem rv.cons {H:aa} {x y:AV} {xs ys:List AV} (h:oT H x y) (h':rv H xs ys):rv H (x::xs) (y::ys):=fun w φ I hR us hd=>by
 simp only[AV.ab]at hd⊢
 obtain⟨u,ak,rfl,U,h2⟩:=hd
 exact⟨u,ak,rfl,h w φ I hR u U,h' w φ I hR ak h2⟩
theorem mM.im {H:aa} (x:IV):mM H (.im x) x:=fun w φ I hR u hd=>by
 simp only[AV.den]at hd
 exact IV.oY (fun _ _ _ _ h=>h) (fun g hg=> .inl hg) x u hd
theorem oT.of {H:aa} {x:AV} {y:IV} (h:mM H x y):oT H x (.im y):=fun w φ I hR u hd=>by
 simp only[AV.den];exact h w φ I hR u hd
theorem oT.im {H:aa} (x:IV):oT H (.im x) (.im x):=oT.of (mM.im x)
theorem oT.agg {H:aa} {xs ys:List AV} (h:rv H xs ys):oT H (.agg xs) (.agg ys):=fun w φ I hR u hd=>by
 simp only[AV.den]at hd⊢
 obtain⟨us,U,h2⟩:=hd
 exact⟨us,h w φ I hR us U,h2⟩
theorem oT.fn {H:aa} {f:FuncId} {xs ys as bs:List AV} (h:rv H xs ys) (h':rv H as bs):oT H (.fn f xs as) (.fn f ys bs):=fun w φ I hR u hd=>by
 simp only[AV.den]at hd⊢
 obtain⟨us,vs,U,h2,h3⟩:=hd
 exact⟨us,vs,h w φ I hR us U,h' w φ I hR vs h2,h3⟩
theorem mM.os {H:aa} {b es i n:Nat} {el:TypeId} {rows:List (List IV)} (hl:lk H b=some (.vec el es rows)) (hn:i+n<=rows.length):mM H (.os b es i n) (.sl es ((rows.drop i).take n)):=fun w φ I hR u hd=>by
 obtain⟨p,hp⟩:∃p,φ b=some p:=by
  have:=hR.bj b
  rw[hl]at this
  cases hq:φ b with
  |none=>rw[hq]at this;cases this
  |some p=>exact⟨p,rfl⟩
 have aP:=hR.own b _ p hl hp
 simp only[Ob.at]at aP
 have hb:(φ b=some none/\rows=[])\/∃g ae,φ b=some (some g)/\wM φ I g/\IV.aE w I rows ae/\(∀vs∈ae,vs.length=es)/\cQ w g 0 ae.flatten:=by
  rcases aP with⟨rfl,hr⟩|⟨g,ae,rest,rfl,cg,hd,zg⟩
  ·exact .inl ⟨hp,hr⟩
  ·refine .inr ⟨g,ae,hp,.inr ⟨b,hp⟩,hd,zg,fun j u hu=>?_⟩
   have ag:j<ae.flatten.length:=by
    rcases Nat.lt_or_ge j ae.flatten.length with h|h
    ·exact h
    ·rw[List.getElem?_eq_none h]at hu;cases hu
   simp only[World.cell?,cg,Option.isSome_none,Bool.false_eq_true,if_false,List.getElem?_toArray,Nat.zero_add]
   rw[List.getElem?_append_left ag];exact hu
 have:=vK (φ':=φ) (I':=wM φ I) (b:=b) (es:=es) (rows:=rows) (fun _ _=>rfl) (fun g hg=> .inl hg) hb (.os b es i n) u (by simpa[eh]using hn) hd
 simpa[dN,AV.den]using this
theorem mM.ob {H:aa} {b:Nat} {e:TypeId} {cs:List AV} {ys:List IV} (o:Nat) (hl:lk H b=some (.var (.cell e) cs)) (hc:tf H cs ys):mM H (.ob b o) (.pt (ys.drop o)):=fun w φ I hR u hd=>by
 simp only[AV.den]at hd
 obtain⟨g,hg,rfl⟩:=hd
 have aP:=hR.own b _ _ hl hg
 simp only[Ob.at,Sh.has]at aP
 obtain⟨g',us,cC,cg,aQ,_⟩:=aP
 cases cC
 simp only[IV.den]
 refine⟨g,o,us.drop o,rfl,.inr ⟨b,hg⟩,wF o _ _ (hc w φ I hR us aQ),fun j u hj=>?_⟩
 rw[List.getElem?_drop]at hj
 simp only[World.cell?,cg,Option.isSome_none,Bool.false_eq_true,if_false,List.getElem?_toArray]
 exact hj
theorem mM.pN {H:aa} {b:Nat} {e:TypeId} {cs:List AV} {ys:List IV} (hl:lk H b=some (.var (.cell e) cs)) (hc:tf H cs ys):mM H (.ob b 0) (.pt ys):=mM.ob 0 hl hc
def IV.plain:IV->Bool
 | .v _=>true
 | .sl _ []=>true
 |_=>false
def IV.Dw:List IV->Bool
 |[]=>true
 |x::xs=>x.plain&&IV.Dw xs
def ZV (rows:List (List IV)):Prop:=∀r∈rows,IV.Dw r=true
mutual
def AV.plain:AV->Bool
 | .im x=>x.plain
 | .ar xs=>IV.Dw xs
 | .agg xs=>AV.uQ xs
 | .aG xs=>AV.uQ xs
 | .fn _ xs ys=>AV.uQ xs&&AV.uQ ys
 | .opt _ x=>AV.plain x
 | .wr _ x=>AV.plain x
 |_=>true
def AV.uQ:List AV->Bool
 |[]=>true
 |x::xs=>AV.plain x&&AV.uQ xs
end
def Ob.plain:Ob->Prop
 | .var _ cs=>AV.uQ cs=true
 | .vec _ _ rows=>ZV rows
 | .lp .. =>False
def JH (k:Nat):aa->aa->aa
 |[],H=>H
 |(b,o)::r,H=>(k+b,dK (fun c=>k+c) o)::JH k r H
attribute [go_sem] JH AV.plain AV.uQ IV.plain IV.Dw
section
variable {C:Cx} {K:List PK} {E:Env} {H:aa}
end
section
variable {C:Cx} {K:List PK} {E:Env} {H:aa}
theorem AQ.jg {ds:List (Nat×Nat)} {i:Nat} {rest:List Oper} (b off:Nat) (el:TypeId) (es:Nat) {e:Sh} {cs:List AV} (hl:lk H b=some (.var e cs)) (hc:cs[off]?=some (.im (.v (.slice none 0 0))))
  (h:AQ C ds i rest K E ((au C.B.nb H,.vec el es [])::aN H b (.var e (cs.set off (.os (au C.B.nb H) es 0 0))))):AQ C ds i rest K E H:=by
 unfold AQ at h⊢
 exact fun ops U h2 φ I a w hs=>by
  obtain⟨φ',cS⟩:=hs.jg hl hc el es
  exact h ops U h2 _ _ _ _ cS
end
section
variable {C:Cx} {K K':List PK} {E:Env} {H:aa} {p p':List Nat} {e e':Exit} {ds:List (Nat×Nat)} {i:Nat} {os:List Oper}
theorem xA (h:AP C p' K' E H) (hs:w6 C.fn p K=some (.inl p',K'):=by exact rfl):AP C p K E H:=xPP hs h
theorem xB (h:AE C e K' E H) (hs:w6 C.fn p K=some (.inr e,K'):=by exact rfl):AP C p K E H:=xPE hs h
theorem xC (h:AP C p' K' E H) (hs:w4 C.fn e K=some (.inl p',K'):=by exact rfl):AE C e K E H:=xEP hs h
theorem xE (h:AE C e' K' E H) (hs:w4 C.fn e K=some (.inr e',K'):=by exact rfl):AE C e K E H:=xEE hs h
theorem xD (h:AE C .normal K (mB C.kp E) H):AQ C ds i [] K E H:=AQ.done h
theorem xK {o:Oper} (h:vq C K os (aW o.dst i ds) (i+1) (aY o.dst (.opt false .top) E) H) (ah:a7 C.n (o::os)=true:=by kernel_rfl) (hG:gd ds E o.guard=some false:=by exact rfl):AQ C ds i (o::os) K E H:=AQ.skip ah hG h
theorem xS {d:Option Nat} {ty s dt e:TypeId} {x:Operand} {pos:String} {af:Array Edge} {l:List UInt8}
  (h:vq C K os (aW d i ds) (i+1) (aY d (.im (.sl 1 (dB l))) E) H) (ah:a7 C.n ({dst:=d,op:= .convert s dt x,type:=ty,pos:=pos,after:=af,guard:=none}::os)=true:=by kernel_rfl)
  (
   hx:ev E x=some (Sv l):=by exact rfl) (hs:(C.P.underlying s).isSome=true:=by exact rfl) (hd:tk C.P dt= .slice e:=by exact rfl) (he:tk C.P e= .int .u8:=by exact rfl)
   :
  AQ C ds i ({dst:=d,op:= .convert s dt x,type:=ty,pos:=pos,after:=af,guard:=none}::os) K E H:=AQ.Z1 ah hx hs hd he h
theorem xM {d:Option Nat} {ty t e:TypeId} {x:Operand} {pos:String} {af:Array Edge} {b es n:Nat} {el:TypeId} {rows:List (List IV)}
  (h:vq C K os (aW d i ds) (i+1) (aY d (.im (.sl es rows)) (killE b E)) (eN b H)) (ah:a7 C.n ({dst:=d,op:= .convert t t x,type:=ty,pos:=pos,after:=af,guard:=none}::os)=true:=by kernel_rfl)
  (
   hx:ev E x=some (.os b es 0 n):=by exact rfl) (hl:lk H b=some (.vec el es rows):=by exact rfl) (hn:n=rows.length:=by exact rfl) (aC:Nat.beq n 0=false:=by exact rfl) (a6:noMen b (eN b H)=true:=by exact rfl) (hd:tk C.P t= .slice e:=by exact rfl) (he:tk C.P e= .int .u8:=by exact rfl)
   :
  AQ C ds i ({dst:=d,op:= .convert t t x,type:=ty,pos:=pos,after:=af,guard:=none}::os) K E H:=AQ.mark ah hx hl hn aC a6 hd he h
theorem xT {t:Tmp} {x y:Code} (ht:AP C (0::p) K E H) (hc:b7 C.fn p= .cond (.tmp t) x y:=by exact rfl) (hb:lk E t=some (.im (.v (.bool true))):=by exact rfl):AP C p K E H:=AP.cond_true hc hb ht
theorem xF {t:Tmp} {x y:Code} (hf:AP C (1::p) K E H) (hc:b7 C.fn p= .cond (.tmp t) x y:=by exact rfl) (hb:lk E t=some (.im (.v (.bool false))):=by exact rfl):AP C p K E H:=AP.cond_false hc hb hf
theorem xR {id:Nat} {ops:List Oper} (h:vq C K ops [] 0 E H) (hc:b7 C.fn p= .region id ops.toArray false:=by exact rfl) (ah:a7 C.n ops=true:=by kernel_rfl):AP C p K E H:=AP.region hc ah h
theorem xW {id:Nat} {ops:List Oper} (h:vg C H (fun _ En=>AQ C [] ops.length [] K En H) ops [] 0 E) (hc:b7 C.fn p= .region id ops.toArray true:=by exact rfl) (Nf:ops.all PM=true:=by exact rfl) (hq:(a7 C.n ops&&BE ops ops.length (EX ops.length)&&C.P.follows .mixedOrders)=true:=by kernel_rfl)
   :AP C p K E H:=AP.TT hc Nf hq h
end
end Go.AL
end
section
namespace Go.AL
open Go Go.RowKit Go.Lib
section
variable {P:Program} {w:World}
end
section
variable {C:Cx} {K:List KI} {E:Env} {H:aa}
end
section
variable {C:Cx} {K:List PK} {E:Env} {H:aa}
end
section
variable {C:Cx} {K:List PK} {E:Env} {H:aa}
end
end Go.AL
end
section
namespace Go.AL
open Go
section
variable {C:Cx} {K:List PK} {E:Env} {H:aa}
theorem K4 {w:World} {φ:ai} {I:Nat->Prop} {a:Act} (he:dS w φ I E a):dS w φ I (s4 E) a:=fun j x hx=>by
 obtain⟨y,hy,rfl⟩:=QB E j x hx
 obtain⟨u,hu,hd⟩:=he j y hy
 exact⟨u,hu,aaq hd⟩
def BH (C:Cx) (K:List PK) (E:Env) (H:aa) (ds:List (Nat×Nat)) (i:Nat) (o:Oper) (os:List Oper):Prop:=
 match qa C.P C.B.nb C.ob (s4 E) H o with
 |some (sc,v,H')=>sc/\vq C K os (aW o.dst i ds) (i+1) (aY o.dst v E) H'
 |none=>False
theorem AQ.BH {ds:List (Nat×Nat)} {i:Nat} {o:Oper} {os:List Oper} (ah:a7 C.n (o::os)=true) (hg:o.guard=none) (h:BH C K E H ds i o os):AQ C ds i (o::os) K E H:=by
 unfold AL.BH at h
 split at h
 ·rename_i sc v H' he
  obtain⟨ay,um⟩:=h
  obtain⟨hd,bX⟩:=dM ah
  have fW:=AQ.go bX um
  unfold AQ at fW⊢
  refine AO.step (o:=o) fun ops φ I a w aQ _ hs Kn bE=>?_
  have hw:Region.wanted o (yielded ops a.tmps)=true:=by simp[Region.wanted,hg]
  rw[if_pos hw]
  obtain⟨nx,w',φ',I',aB,oq,hS,hk⟩:=JJ (P:=C.P) (K4 hs.env) hs.st he ay
  unfold Oper.wp
  rw[aB]
  rcases oq with⟨u,rfl,aS⟩|⟨rfl,aS⟩
  ·rw[Oper.upon_value]
   exact bE _ _ φ' I' _ _ fW (hs.put hS hk hd aS)
  ·rw[Oper.upon_skip]
   exact bE _ _ φ' I' _ _ fW (hs.put hS hk hd aS)
 ·exact h.elim
end
attribute [go_sem] BH
section
variable {C:Cx} {K:List PK} {E:Env} {H:aa}
theorem PO (l:List Value):∀(n i:Nat),i<n*l.length->(List.replicate n l).flatten[i]?=l[i%l.length]?
 |0,i,h=>by simp at h
 |n+1,i,h=>by
  rw[List.replicate_succ,List.flatten_cons]
  rcases Nat.lt_or_ge i l.length with hi|hi
  ·rw[List.getElem?_append_left hi,Nat.mod_eq_of_lt hi]
  ·rw[List.getElem?_append_right hi,PO l n (i-l.length) (by rw[Nat.add_mul]at h;omega),<-Nat.mod_eq_sub_mod hi]
theorem abt (z:Array Value) (n:Nat):(Builtin.zeroCells z n).toList=(List.replicate n z.toList).flatten:=by
 refine List.ext_getElem? fun i=>?_
 rcases Nat.lt_or_ge i (n*z.size)with h|h
 ·have hz:0<z.size:=by
   rcases Nat.eq_zero_or_pos z.size with h0|h0
   ·rw[h0]at h;simp at h
   ·exact h0
  rw[PO _ _ _ (by simpa using h)]
  have hm:i%z.size<z.size:=Nat.mod_lt _ hz
  simp[Builtin.zeroCells,h,hm]
 ·rw[List.getElem?_eq_none (by simp[Builtin.zeroCells];exact h),List.getElem?_eq_none (by simp;exact h)]
theorem St.ZA {B:Bs} {φ:ai} {I:Nat->Prop} {w:World} (hS:St B φ I H w) {b g j es:Nat} {e:TypeId} {rows xs:List (List IV)} {ae ws:List (List Value)} {rest:List Value}
  (hH:lk H b=some (.vec e es rows)) (hb:φ b=some (some g)) (dp:w.heap[g]?=some (.cells (ae.flatten++rest).toArray e (0,0))) (hd:IV.aE w I rows ae) (hQ:∀v∈ae,v.length=es)
  (hx:IV.aE w I xs ws) (cL:∀v∈ws,v.length=es) (hj:j+xs.length<=rows.length):
  St B φ I (aN H b (.vec e es (rows.take j++xs++rows.drop (j+xs.length)))) (w.setRow g ((ae.flatten++rest).toArray.toList.take (j*es)++ws.flatten++(ae.flatten++rest).toArray.toList.drop (j*es+ws.flatten.length)).toArray)/\
   bC w φ I (w.setRow g ((ae.flatten++rest).toArray.toList.take (j*es)++ws.flatten++(ae.flatten++rest).toArray.toList.drop (j*es+ws.flatten.length)).toArray) φ I:=by
 have hlen:=lA rows ae hd
 have mr:=lA xs ws hx
 have dO:=ql ae es hQ
 have Cg:=ql ws es cL
 have hle:j*es+ws.length*es<=ae.length*es:=by rw[<-Nat.add_mul];exact Nat.mul_le_mul_right _ (by omega)
 have gY:(ae.flatten++rest).toArray.toList.take (j*es)++ws.flatten++(ae.flatten++rest).toArray.toList.drop (j*es+ws.flatten.length)=(ae.take j++ws++ae.drop (j+ws.length)).flatten++rest:=by
  have e1:(ae.take j).flatten=ae.flatten.take (j*es):=yB j ae es hQ (by omega)
  have e2:(ae.drop (j+ws.length)).flatten=ae.flatten.drop ((j+ws.length)*es):=vH (j+ws.length) ae es hQ (by omega)
  rw[List.flatten_append,List.flatten_append,e1,e2,Cg,Nat.add_mul]
  simp only[List.toList_toArray]
  rw[List.take_append_of_le_length (by omega),List.drop_append_of_le_length (by omega)]
  simp
 have aO:((ae.flatten++rest).toArray.toList.take (j*es)++ws.flatten++(ae.flatten++rest).toArray.toList.drop (j*es+ws.flatten.length)).toArray.size=(ae.flatten++rest).toArray.size:=by
  simp only[List.size_toArray,List.toList_toArray,List.length_append,List.length_take,List.length_drop]
  omega
 refine hS.write (o':= .vec e es (rows.take j++xs++rows.drop (j+xs.length))) hH hb dp aO (fun _ _ e=>by cases e) ?_
 rw[gY]
 simp only[Ob.at]
 refine .inr ⟨g,_,rest,rfl,setRow_heap w g _ _ e (0,0) dp,?_,fun vs dr=>?_⟩
 ·have hI:∀g',I g'->(w.setRow g ((ae.take j++ws++ae.drop (j+ws.length)).flatten++rest).toArray).heap[g']?=w.heap[g']?:=fun g' bO=>setRow_other w g g' _ (fun e=>by subst e;exact(hS.real.off b g' hb).1 bO)
  refine IV.iD hI (fun _ h=>h) _ _ ?_
  rw[mr]
  exact tC _ _ _ _ (tC _ _ _ _ (BC j _ _ hd) hx) (By _ _ _ hd)
 ·simp only[List.mem_append]at dr
  rcases dr with(dr|dr)|dr
  ·exact hQ vs (List.mem_of_mem_take dr)
  ·exact cL vs dr
  ·exact hQ vs (List.mem_of_mem_drop dr)
theorem KO {w:World} {I:Nat->Prop}:∀(zs:List Value),(∀z∈zs,z.oneCell'=true)->IV.ab w I (zs.map IV.v) zs
 |[],_=>by simp[IV.ab]
 |z::zs,h=>by
  simp only[List.map_cons,IV.ab,IV.den]
  exact⟨z,zs,rfl,⟨rfl,h z (by simp)⟩,KO zs fun y hy=>h y (by simp[hy])⟩
theorem KP {w:World} {I:Nat->Prop} {zs:List Value} (hz:∀z∈zs,z.oneCell'=true):∀n,IV.aE w I (List.replicate n (zs.map IV.v)) (List.replicate n zs)
 |0=>by simp[IV.aE]
 |n+1=>by
  simp only[List.replicate_succ,IV.aE]
  exact⟨_,_,rfl,KO zs hz,KP hz n⟩
theorem AQ.clear {ds:List (Nat×Nat)} {i:Nat} {d:Option Nat} {ty t e e':TypeId} {x:Operand} {pos:String} {af:Array Edge} {os:List Oper} {b j n es:Nat} {rows:List (List IV)} {zs:List Value}
  (ah:a7 C.n ({dst:=d,op:= .call {callee:= .builtin .clear,args:=#[x],argTypes:=#[t]},type:=ty,pos:=pos,after:=af,guard:=none}::os)=true)
  (hx:ev E x=some (.os b es j n)) (hH:lk H b=some (.vec e es rows)) (ht:tk C.P t= .slice e') (hz:aA C.P e'=some zs) (bW:zs.length=es) (fk:(zs.all Value.oneCell')=true)
  (h:(0<n/\j+n<=rows.length)/\vq C K os (aW d i ds) (i+1) (aY d .top E) (aN H b (.vec e es (rows.take j++List.replicate n (zs.map IV.v)++rows.drop (j+n))))):
  AQ C ds i ({dst:=d,op:= .call {callee:= .builtin .clear,args:=#[x],argTypes:=#[t]},type:=ty,pos:=pos,after:=af,guard:=none}::os) K E H:=by
 obtain⟨⟨U,h2⟩,h⟩:=h
 refine AQ.step1 _ _ ah rfl (fun φ I a w hs=>?_) h
 have eX:=aH hs.env hx
 simp only[AV.den]at eX
 rcases eX with⟨_,_,jb,_⟩|⟨g,c,hb,hu,h4,h5,h6⟩
 ·omega
 have ba:=hs.st.real.own b _ _ hH hb
 simp only[Ob.at]at ba
 rcases ba with⟨hn,_⟩|⟨g',ae,rest,hg,dp,hd,hQ⟩
 ·cases hn
 cases hg
 obtain⟨iz,zv,hi,V6,Xt⟩:=va hz
 have jx:=List.all_eq_true.1 fk
 have hlen:=lA rows ae hd
 have dO:=ql ae es hQ
 obtain⟨hS,hK⟩:=hs.st.ZA (j:=j) (xs:=List.replicate n (zs.map IV.v)) hH hb dp hd hQ (KP jx n) (fun v hv=>by rw[List.eq_of_mem_replicate hv,bW]) (by rw[List.length_replicate];exact h2)
 have CT:(Builtin.zeroCells zv.cells n).toList=(List.replicate n zs).flatten:=by rw[abt,Xt]
 have r_:(List.replicate n zs).flatten.length=n*es:=by rw[ql _ es (fun v hv=>by rw[List.eq_of_mem_replicate hv,bW]),List.length_replicate]
 have y0:j*es+n*es<=(ae.flatten++rest).toArray.size:=by
  have e:(ae.flatten++rest).toArray.size=ae.flatten.length+rest.length:=by simp only[List.size_toArray,List.length_append]
  have:j*es+n*es<=ae.length*es:=by rw[<-Nat.add_mul];exact Nat.mul_le_mul_right _ (by omega)
  omega
 have bG:=run_storeCells_at C.P g (j*es) e (List.replicate n zs).flatten 0 (ae.flatten++rest).toArray w dp (by rw[r_];omega) (fun v hv=>by
  obtain⟨l,hl,fF⟩:=List.mem_flatten.1 hv
  rw[List.eq_of_mem_replicate hl]at fF
  exact jx v fF)
 rw[Nat.add_zero]at bG
 rw[List.length_replicate]at hS
 refine⟨.tuple #[],_,φ,I,?_,?_,hS,hK⟩
 ·have jb:n≠0:=by omega
  obtain⟨n',rfl⟩:∃n',n=n'+1:=⟨n-1,by omega⟩
  simp[execOp,resolve,invoke,builtin,Builtin.clear_,hu,run_underlying (eU ht),zeroValue,typeInfo,hi,V6,CT,bG]
 ·simp only[AV.den]
end
section
variable {C:Cx} {K:List PK} {E:Env} {H:aa}
theorem AQ.fJ {ds:List (Nat×Nat)} {i:Nat} {rest:List Oper} (b:Nat) (cs':List AV) {s:Sh} {cs:List AV} (hl:lk H b=some (.var s cs)) (hc:bY cs cs') (h:AQ C ds i rest K E (aN H b (.var s cs'))):AQ C ds i rest K E H:=by
 unfold AQ at h⊢
 exact fun ops U h2 φ I a w hs=>h ops U h2 _ _ _ _ ⟨hs.bD,hs.bA,hs.env,hs.st.fJ hl hc⟩
end
section
variable {C:Cx} {K:List PK} {E:Env} {H:aa}
def di (C:Cx) (r:AV) (K:List PK) (E:Env) (H:aa):Prop:=
 ∀φ I a w v,bt C φ I E H a w->AV.den w φ I r v->dL C (K.map (PK.ki C.fn)) (.panic [{v:=v,recovered:=false}]) a w
def oG:List PK->Bool
 |[]=>true
 | .bot _::_=>false
 | .seq _::K=>oG K
 | .dZ _::K=>oG K
 | .lp _::K=>oG K
 | .sc::K=>oG K
theorem vA:∀(K:List PK),oG K=true->∀c a w,Bm C (.panic c) a w->dL C (K.map (PK.ki C.fn)) (.panic c) a w
 |[],_,_,_,_,h=>h
 | .seq _::K,hK,c,a,w,h=>vA K hK c a w h
 | .dZ _::K,hK,c,a,w,h=>vA K hK c a w h
 | .lp _::K,hK,c,a,w,h=>vA K hK c a w h
 | .sc::K,hK,c,a,w,h=>vA K hK c a w h
 | .bot _::_,hK,_,_,_,_=>by cases hK
theorem Pw (l:List Nat) {r:AV} {v:Value} {φ:ai} {I:Nat->Prop} {a:Act} {w:World} (pe:Marks C.ds C.B.w0.heap.size w I a.defers) (bG:St C.B φ I H w) (a8:AV.den w φ I r v) (hk:bN l r H=true) (hX:C.X r (jW l H)):Bm C (.panic [{v:=v,recovered:=false}]) a w:=by
 intro aQ
 obtain⟨ms,U,h2,h3,_⟩:=pe
 rw[U,aQ,List.filterMap_nil,List.append_nil]
 have key:∀(ms:List Nat) (w:World),ms.Nodup->(∀D∈ms,C.B.w0.heap.size<=D/\w.heap[D]?=some (.deferred (some [])))->St C.B φ I H w->AV.den w φ I r v->
   LeavesInM Fence.wide 3 C.P C.fn a.tmps (kB C) (ms.map wU) (.panicking [{v:=v,recovered:=false}]) w:=by
  intro ms
  induction ms with
  |nil=>
   intro w _ _ hS hd
   simp only[List.map_nil,LeavesInM,LeavesIn]
   obtain⟨φ',eM,qt⟩:=vB l φ H hk hd hS
   exact .inr ⟨r,jW l H,φ',I,v,hX,rfl,eM,qt⟩
  |cons D ms ih=>
   intro w hn hd hS a8
   simp only[List.map_cons,LeavesInM]
   obtain⟨U,h2⟩:=hd D (by simp)
   rw[List.nodup_cons]at hn
   refine⟨by simp,.inl ⟨D,_,rfl,run_takeDeferred h2,ih _ hn.2 (fun D' mV=>?_) (hS.Iw U h2) (Bw h2 r v a8)⟩⟩
   obtain⟨h3,h4⟩:=hd D' (by simp[mV])
   exact⟨h3,(World.putObj_heap_other (fun e=>hn.1 (by rw[<-e];exact mV))).trans h4⟩
 exact key ms w h2 (fun D hD=>(h3 D hD).2) bG a8
theorem di.out (l:List Nat) {r:AV} (hK:oG K=true) (hk:bN l r H=true) (hX:C.X r (jW l H)):di C r K E H:=fun φ I a w v hs hd=>
 vA K hK _ a w (Pw l hs.bD hs.st hd hk hX)
theorem di.Pp (l:List Nat) {r:AV} {Cn:Cx} {J:Act->World->Prop} {ops:List Oper} (hC:Cn=C.nr) (hK:oG K=true) (hk:bN l r H=true) (hX:C.X r (jW l H)):di Cn r [.lp J,.bot (qZ C K ops)] E H:=fun φ I a w v hs hd=>by
 subst hC
 show qZ C K ops (.panic _) a w
 intro a' FK _ _
 exact vA K hK _ a' w (Pw (C:=C) (a:=a') l (by rw[FK];exact hs.bD) hs.st hd hk hX)
theorem Hn:∀(l:List Nat) (E:Env) (i:Nat) (x:AV),lk (mB l E) i=some x->i∈l
 |[],E,i,x,h=>by simp[mB,lk]at h
 |j::r,E,i,x,h=>by
  rw[mB]at h
  cases hj:lk E j with
  |none=>rw[hj]at h;exact List.mem_cons_of_mem _ (Hn r E i x h)
  |some y=>
   rw[hj]at h
   simp only[lk]at h
   cases hb:Nat.beq j i with
   |true=>have:=Nat.eq_of_beq_eq_true hb;subst this;exact List.mem_cons_self ..
   |false=>rw[hb]at h;exact List.mem_cons_of_mem _ (Hn r E i x h)
theorem di.draw (ids:List Nat) {r:AV} {Cn:Cx} {J:Act->World->Prop} {ops:List Oper} (hC:Cn=C.nr) (hi:(ids.all fun i=>ops.all fun o=>o.dst !=some i)=true) (h:di C r K (mB ids E) H):di Cn r [.lp J,.bot (qZ C K ops)] E H:=fun φ I a w v hs hd=>by
 subst hC
 show qZ C K ops (.panic _) a w
 intro a' U h2 h3
 refine h φ I a' w v ⟨by rw[U];exact hs.bD,by rw[h2];exact hs.bA,fun i x hx=>?_,hs.st⟩ hd
 obtain⟨u,hu,dz⟩:=hs.env i x (C3 ids E i x hx)
 refine⟨u,(h3 i fun o ho e=>?_).trans hu,dz⟩
 have:=List.all_eq_true.1 (List.all_eq_true.1 hi i (Hn ids E i x hx)) o ho
 rw[e]at this
 simp at this
theorem dw.walk {P:Program} {f:FuncId} {fn:Func} {c:Code} {n nb:Nat} {args:List AV} {H:aa} {R X:AV->aa->Prop} (kp ob:List Nat) (hf:P.funcs[f]?=some fn) (hb:fn.body=some c) (hn:fn.ntmps=n)
  (kT:enters P f=true) (de:Nat.ble args.length n=true) (hnb:bB H=nb)
  (h:∀(w:World) (own I0:Nat->Prop) (aq:ai) (lay:Lay P ⟨w,own,I0,aq,nb⟩),AP ⟨P,fn,n,⟨w,own,I0,aq,nb⟩,kp,ob,R,none,X,[],lay⟩ [] [] (enum 0 args) H):dw P f args H R X:=
 dw.intro kp ob hf hb hn kT de hnb fun w own I0 aq lay=>by
  have:=h w own I0 aq lay
  unfold AP at this
  simp only[b7,hb,Option.getD_some]at this
  exact this
theorem dw.mono {P:Program} {f:FuncId} {args:List AV} {H:aa} {R R' X X':AV->aa->Prop} (h:dw P f args H R X) (hr:∀r H',R r H'->R' r H') (hx:∀r H',X r H'->X' r H'):dw P f args H R' X':=
 ⟨h.gv,fun w φ I vs hd hR hV=>(h.run w φ I vs hd hR hV).mono fun _ _ h=>by
  rcases h with⟨r,H',φ',I',v,U,h2⟩|⟨r,H',φ',I',v,U,h2⟩
  ·exact .inl ⟨r,H',φ',I',v,hr _ _ U,h2⟩
  ·exact .inr ⟨r,H',φ',I',v,hx _ _ U,h2⟩⟩
theorem AQ.nR (m:List (Nat×Nat)) {ds:List (Nat×Nat)} {i:Nat} {d:Option Nat} {ty:TypeId} {pos:String} {af:Array Edge} {os:List Oper} {bo:Operand} {f:FuncId} {fs aF:List AV} {xs:List Operand} {aZ:Array TypeId} {l gS:List AV} {Hc:aa} {R X:AV->aa->Prop}
  (ah:a7 C.n ({dst:=d,op:= .call {callee:= .value bo,args:=xs.toArray,argTypes:=aZ},type:=ty,pos:=pos,after:=af,guard:=none}::os)=true)
  (fc:ev E bo=some (.fn f fs aF)) (hl:dT E xs=some l) (dG:gs l=true)
  (lM:fa m=nu Hc) (jZ:gj (fa m)=true) (lO:gj (kA m)=true) (lP:lh (br m (au C.B.nb H)) H Hc)
  (de:AV.cO (br m (au C.B.nb H)) gS=fs++l.map AV.st++aF) (hc:dw C.P f gS Hc R X)
  (hx:∀r H1,X r H1->lg (cR H1 m) (en m H)=true/\di C (AV.rn (br m (au C.B.nb H)) r) K (jD (cR H1 m) E) (h_ m (au C.B.nb H) H H1))
  (h:∀r H1,R r H1->lg (cR H1 m) (en m H)=true/\AQ C (aW d i ds) (i+1) os K (aY d (AV.rn (br m (au C.B.nb H)) r) (jD (cR H1 m) E)) (h_ m (au C.B.nb H) H H1)):
  AQ C ds i ({dst:=d,op:= .call {callee:= .value bo,args:=xs.toArray,argTypes:=aZ},type:=ty,pos:=pos,after:=af,guard:=none}::os) K E H:=by
 obtain⟨hd,bX⟩:=dM ah
 generalize hk:au C.B.nb H=k at*
 have hH:Hand m k H Hc:=⟨lM,jZ,lO,lP,fun b o hb=>by have:=bU H b o hb;have:=(dh C.B.nb H).2;omega⟩
 have bl:=h
 unfold AQ at bl⊢
 refine AO.step (o:={dst:=d,op:= .call {callee:= .value bo,args:=xs.toArray,argTypes:=aZ},type:=ty,pos:=pos,after:=af,guard:=none}) fun ops φ I a w aQ _ hs Kn bE=>?_
 have hw:Region.wanted {dst:=d,op:= .call {callee:= .value bo,args:=xs.toArray,argTypes:=aZ},type:=ty,pos:=pos,after:=af,guard:=none} (yielded ops a.tmps)=true:=by simp[Region.wanted]
 rw[if_pos hw]
 have fe:=aH hs.env fc
 simp only[AV.den]at fe
 obtain⟨eA,us,mY,dI,n6⟩:=fe
 have aS:AV.ab w φ I (fs++l.map AV.st++aF) (eA++xs.map a.eval++us):=AQ.nQ.mN _ _ _ _ (AQ.nQ.mN _ _ _ _ mY (mU hs.env _ _ hl dG)) dI
 rw[<-de]at aS
 have yX:=AV.q6 (ρ:=br m k) (φ:=fun b=>φ (br m k b)) (fun _=>rfl) _ _ aS
 have aB:(execOp a.eval {dst:=d,op:= .call {callee:= .value bo,args:=xs.toArray,argTypes:=aZ},type:=ty,pos:=pos,after:=af,guard:=none}).run C.P w= .ok (.enter f (eA++xs.map a.eval++us).toArray) w:=by
  have:execOp a.eval {dst:=d,op:= .call {callee:= .value bo,args:=xs.toArray,argTypes:=aZ},type:=ty,pos:=pos,after:=af,guard:=none}=(do let d<-Deferred.ofValue (a.eval bo) (xs.toArray.map a.eval);invoke d.target d.args):=rfl
  rw[this,n6,Du (t:=ty) hc.gv]
  simp
 unfold Oper.wp
 rw[aB,Oper.upon_enter]
 have kY:∀r H1 a_ I1 v w',lg (cR H1 m) (en m H)=true->AV.den w' a_ I1 r v->St ⟨w,cN fun b=>φ (br m k b),I,fun b=>φ (br m k b),bB Hc⟩ a_ I1 H1 w'->
   bt C (ik m k φ a_) I1 (jD (cR H1 m) E) (h_ m k H H1) a w'/\AV.den w' (ik m k φ a_) I1 (AV.rn (br m k) r) v:=fun r H1 a_ I1 v w' e_ a8 hS=>by
  obtain⟨lG,hf,ju,hI,cK⟩:=hH.after (by have:=(dh C.B.nb H).1;omega) hs.st hS e_
  refine⟨⟨hs.bD.mono ju hI,hs.bA,fun j x hx=>?_,lG⟩,AV.uV (φ':=ik m k φ a_) (fun b p hb=>hH.fwd (φ:=φ) hb) r v a8⟩
  obtain⟨y,hy,iL⟩:=C7 (w:=w) (I:=I) _ φ E j x hx
  obtain⟨u,hu,hd⟩:=hs.env j y hy
  exact⟨u,hu,AV.jO ju hI hf cK x u (iL u hd)⟩
 refine(hc.run w (fun b=>φ (br m k b)) I _ yX (hH.real hs.st) hs.st.vk).mono fun e w' he=>?_
 rcases he with⟨r,H1,a_,I1,v,hr,he,a8,hS⟩|⟨r,H1,a_,I1,v,hr,he,a8,hS⟩
 ·subst he
  obtain⟨e_,i_⟩:=bl r H1 hr
  obtain⟨gD,f_⟩:=kY r H1 a_ I1 v w' e_ a8 hS
  exact bE _ _ (ik m k φ a_) I1 _ _ i_ (gD.put gD.st (bC.refl w' (ik m k φ a_) I1) hd f_)
 ·subst he
  obtain⟨e_,i_⟩:=hx r H1 hr
  obtain⟨gD,f_⟩:=kY r H1 a_ I1 v w' e_ a8 hS
  exact i_ _ _ _ _ _ gD f_
theorem AQ.panic {ds:List (Nat×Nat)} {i:Nat} {d:Option Nat} {ty:TypeId} {pos:String} {af:Array Edge} {os:List Oper} {x:Operand} {t:TypeId} {y:AV}
  (hx:ev E x=some (.wr (.iface t) y)) (h:di C (.wr (.iface t) y) K E H):
  AQ C ds i ({dst:=d,op:= .panic x,type:=ty,pos:=pos,after:=af,guard:=none}::os) K E H:=by
 unfold AQ
 refine AO.step (o:={dst:=d,op:= .panic x,type:=ty,pos:=pos,after:=af,guard:=none}) fun ops φ I a w aQ _ hs Kn bE=>?_
 rw[if_pos (by simp[Region.wanted])]
 have hv:=aH hs.env hx
 have se:=hv
 simp only[AV.den,WK.rel]at hv
 obtain⟨v,hu,_⟩:=hv
 have aB:(execOp a.eval {dst:=d,op:= .panic x,type:=ty,pos:=pos,after:=af,guard:=none}).run C.P w= .halt (.panic (a.eval x)) w:=by
  have e:execOp a.eval {dst:=d,op:= .panic x,type:=ty,pos:=pos,after:=af,guard:=none}=(do pure (.value (<-Instr.panic (a.eval x))):Sem Next):=rfl
  rw[e,hu]
  rfl
 unfold Oper.wp
 rw[aB]
 exact h φ I a w _ hs se
end
def qh:Value->Deferred
 | .func fn eA us=>{target:= .fn fn us,args:=eA}
 |_=>{target:= .nil,args:=#[]}
def nP (C:Cx):Exit->Act->World->Prop
 | .normal,a,w| .ret,a,w=>LeavesInM Fence.wide 3 C.P C.fn a.tmps (kB C) a.defers .returning w
 | .panic c,a,w=>LeavesInM Fence.wide 3 C.P C.fn a.tmps (kB C) a.defers (.panicking c) w
 |_,_,_=>False
def wX:Option AV->Value->FrameMode
 |none,_=> .returning
 |some _,v=> .panicking [{v:=v,recovered:=false}]
structure nL (P:Program) (f:FuncId) (args:List AV) (H:aa) (r:Option AV) (R:aa->Prop):Prop where
 gv:enters P f=true
 run:∀(w:World) (φ:ai) (I:Nat->Prop) (vs:List Value) (v:Value),AV.ab w φ I args vs->Real w φ I H->VK P w I->(∀r0,r=some r0->AV.den w φ I r0 v)->
  CallsDIn Fence.wide 2 P f vs.toArray (wX r v) w (fun e u' w'=>∃H' φ' I' x,R H'/\e= .returned x/\settle u'= .returning/\St ⟨w,cN φ,I,φ,bB H⟩ φ' I' H' w')
section
variable {C:Cx} {K:List PK} {E:Env} {H:aa}
theorem yo (D:List (Option Deferred)):∀(K:List PK),oG K=false->dL {C with ds:=D} (K.map (PK.ki C.fn))=dL C (K.map (PK.ki C.fn))
 |[],h=>by cases h
 | .bot _::_,_=>rfl
 | .seq q::K,h=>by
  have ih:=yo D K h
  funext e a w
  simp only[List.map_cons,PK.ki,dL,ih]
 | .dZ _::K,h=>by
  have ih:=yo D K h
  funext e a w
  simp only[List.map_cons,PK.ki,dL,ih]
 | .lp _::K,h=>by
  have ih:=yo D K h
  funext e a w
  simp only[List.map_cons,PK.ki,dL,ih]
 | .sc::K,h=>by
  have ih:=yo D K h
  funext e a w
  simp only[List.map_cons,PK.ki,dL,ih]
theorem AQ.defer {ds:List (Nat×Nat)} {i:Nat} {ty:TypeId} {pos:String} {af:Array Edge} {os:List Oper} {t:Tmp} {aZ:Array TypeId} {f:FuncId} {fs aF:List AV}
  (hK:oG K=false) (aQ:C.ds=[none]) (hl:lk E t=some (.fn f fs aF))
  (h:∀u,AQ {C with ds:=[some (qh u)]} (aW none i ds) (i+1) os K ((t,.wr (.exact u) (.fn f fs aF))::E) H):
  AQ C ds i ({dst:=none,op:= .defer {callee:= .value (.tmp t),args:=#[],argTypes:=aZ},type:=ty,pos:=pos,after:=af,guard:=none}::os) K E H:=by
 unfold AQ AO at h⊢
 intro ops U h2 φ I a w hs
 have hv:=aH hs.env (x:= .tmp t) hl
 obtain⟨v,GZ⟩:∃v,a.eval (.tmp t)=v:=⟨_,rfl⟩
 rw[GZ]at hv
 have se:=hv
 simp only[AV.den]at se
 obtain⟨eA,us,mY,dI,pf⟩:=se
 unfold gK
 rw[if_pos (by simp[Region.wanted])]
 refine .inl ?_
 have aB:(execOp a.eval {dst:=none,op:= .defer {callee:= .value (.tmp t),args:=#[],argTypes:=aZ},type:=ty,pos:=pos,after:=af,guard:=none}).run C.P w= .ok (.defer (qh v)) w:=by
  have e:execOp a.eval {dst:=none,op:= .defer {callee:= .value (.tmp t),args:=#[],argTypes:=aZ},type:=ty,pos:=pos,after:=af,guard:=none}=(do let d<-Deferred.ofValue (a.eval (.tmp t)) ((#[]:Array Operand).map a.eval);pure (.defer d):Sem Next):=rfl
  rw[e,GZ,pf]
  simp[Deferred.ofValue,Sem.run_bind,qh]
 unfold Oper.wp
 rw[aB,Oper.upon_defer]
 have hh:=h v ops (fun j d hj=>U j d (by simpa[aW]using hj)) (fun j o hj=>by
  have:=h2 (j+1) o (by simpa using hj)
  rwa [show i+1+j=i+(j+1) by omega]) φ I ({a with defers:=qh v::a.defers}) w
 rw[yo _ K hK]at hh
 obtain⟨ms,g1,g2,g3,g4⟩:=hs.bD
 have uj:=g4 (by rw[aQ];simp)
 have tS:a.defers=[]:=by rw[g1,uj,aQ];rfl
 refine hh ⟨?_,hs.bA,fun j x hx=>?_,hs.st⟩
 ·refine⟨[],?_,List.nodup_nil,(fun D hD=>by cases hD),fun _=>rfl⟩
  show qh v::a.defers=_
  rw[tS];rfl
 ·simp only[lk]at hx
  cases hb:Nat.beq t j with
  |true=>
   rw[hb]at hx
   have:=Nat.eq_of_beq_eq_true hb
   subst this
   simp only[cond_true,Option.some.injEq]at hx
   subst hx
   obtain⟨u,hu,_⟩:=hs.env t _ hl
   refine⟨u,hu,?_⟩
   have zC:a.eval (.tmp t)=u:=by simp[Act.eval,hu]
   rw[GZ]at zC
   subst zC
   rw[AV.den]
   exact⟨v,⟨rfl,rfl⟩,hv⟩
  |false=>
   rw[hb]at hx
   exact hs.env j x hx
def LV (C:Cx) (E:Env) (H:aa):Prop:=∀φ I a w,St C.B φ I H w->dS w φ I E a->LeavesInM Fence.wide 3 C.P C.fn a.tmps (kB C) [] .returning w
theorem LV.bm (l:List Nat) {sc:Prop} {xs:List AV} (h:eG C.P E H C.fn.results.toList=some (sc,xs)) (ay:sc) (hk:bN l (eH xs) H=true) (hR:C.R (eH xs) (jW l H)):LV C E H:=fun φ I a w hS hE=>by
 simp only[LeavesInM,LeavesIn]
 obtain⟨v,hv,hd⟩:=uT hE hS.real h ay
 obtain⟨φ',eM,qt⟩:=vB l φ H hk hd hS
 exact⟨v,hv,.inl ⟨eH xs,jW l H,φ',I,v,hR,rfl,eM,qt⟩⟩
theorem Z0 {P:Program} {f:FuncId} {eA us:Array Value} {w:World} (tZ:enters P f=true):(invoke (.fn (.func f) us) eA).run P w= .ok (.enter f (eA++us)) w:=by
 simp only[invoke]
 exact xi tZ _ w
theorem Oa (m:List (Nat×Nat)) {t:Tmp} {u:Value} {f:FuncId} {fs aF gS:List AV} {Hc:aa} {r:Option AV} {RD:aa->Prop}
  (aQ:C.ds=[some (qh u)]) (hl:lk E t=some (.wr (.exact u) (.fn f fs aF)))
  (lM:fa m=nu Hc) (jZ:gj (fa m)=true) (lO:gj (kA m)=true) (lP:lh (br m (au C.B.nb H)) H Hc)
  (de:AV.cO (br m (au C.B.nb H)) gS=fs++aF) (hc:nL C.P f gS Hc r RD)
  (h:∀H1,RD H1->lg (cR H1 m) (en m H)=true/\LV C (jD (cR H1 m) E) (h_ m (au C.B.nb H) H H1))
  {φ:ai} {I:Nat->Prop} {a:Act} {w:World} (hs:bt C φ I E H a w) (v:Value) (hr:∀r0,r=some r0->AV.den w φ I (AV.rn (br m (au C.B.nb H)) r0) v):
  LeavesInM Fence.wide 3 C.P C.fn a.tmps (kB C) a.defers (wX r v) w:=by
 obtain⟨ms,g1,g2,g3,g4⟩:=hs.bD
 have uj:=g4 (by rw[aQ];simp)
 have tS:a.defers=[qh u]:=by rw[g1,uj,aQ];rfl
 rw[tS]
 generalize hk:au C.B.nb H=k at*
 have hH:Hand m k H Hc:=⟨lM,jZ,lO,lP,fun b o hb=>by have:=bU H b o hb;have:=(dh C.B.nb H).2;omega⟩
 obtain⟨u',hu',eM⟩:=hs.env t _ hl
 simp only[AV.den,WK.rel]at eM
 obtain⟨v',⟨rfl,rfl⟩,eA,us,mY,dI,pf⟩:=eM
 have aS:AV.ab w φ I (fs++aF) (eA++us):=AQ.nQ.mN _ _ _ _ mY dI
 rw[<-de]at aS
 have yX:=AV.q6 (ρ:=br m k) (φ:=fun b=>φ (br m k b)) (fun _=>rfl) _ _ aS
 subst pf
 simp only[LeavesInM]
 refine⟨by cases r<;>simp[wX],.inr ⟨fun h=>(by cases h),.func f,us.toArray,f,(eA++us).toArray,rfl,?_,fun _ _=>trivial,?_⟩⟩
 ·show(invoke (.fn (.func f) us.toArray) eA.toArray).run C.P w=_
  rw[Z0 hc.gv,List.append_toArray]
 ·refine(hc.run w (fun b=>φ (br m k b)) I (eA++us) v yX (hH.real hs.st) hs.st.vk (fun r0 qI=>AV.Al (ρ:=br m k) (φ:=fun b=>φ (br m k b)) (fun _=>rfl) _ _ (hr r0 qI))).mono fun e u' w' he=>?_
  obtain⟨H1,a_,I1,x,Vi,rfl,aN,hS⟩:=he
  show LeavesInM Fence.wide 3 C.P C.fn a.tmps (kB C) [] (settle u') w'
  rw[aN]
  obtain⟨e_,zg⟩:=h H1 Vi
  obtain⟨lG,hf,ju,hI,cK⟩:=hH.after (by have:=(dh C.B.nb H).1;omega) hs.st hS e_
  refine zg _ _ a w' lG fun j y hy=>?_
  obtain⟨z,hz,G8⟩:=C7 (w:=w) (I:=I) _ φ E j y hy
  obtain⟨q,hq,WN⟩:=hs.env j z hz
  exact⟨q,hq,AV.jO ju hI hf cK y q (G8 q WN)⟩
theorem AE.wL (m:List (Nat×Nat)) {C0:Cx} {e:Exit} {t:Tmp} {u:Value} {f:FuncId} {fs aF gS:List AV} {Hc:aa} {RD:aa->Prop}
  (he:e= .ret\/e= .normal) (aQ:C.ds=[some (qh u)]) (hl:lk E t=some (.wr (.exact u) (.fn f fs aF)))
  (lM:fa m=nu Hc) (jZ:gj (fa m)=true) (lO:gj (kA m)=true) (lP:lh (br m (au C.B.nb H)) H Hc)
  (de:AV.cO (br m (au C.B.nb H)) gS=fs++aF) (hc:nL C.P f gS Hc none RD)
  (h:∀H1,RD H1->lg (cR H1 m) (en m H)=true/\LV C (jD (cR H1 m) E) (h_ m (au C.B.nb H) H H1)) (hC:nP C0=nP C:=by rfl):AE C e [.bot (nP C0)] E H:=by
 unfold AE
 intro φ I a w hs
 have:=Oa m aQ hl lM jZ lO lP de hc h hs undef (fun _ h=>by cases h)
 rw[hC]
 rcases he with rfl|rfl<;>exact this
theorem di.wL (m:List (Nat×Nat)) {C0:Cx} {K':List PK} {r:AV} {t:Tmp} {u:Value} {f:FuncId} {fs aF gS:List AV} {Hc:aa} {RD:aa->Prop}
  (aQ:C.ds=[some (qh u)]) (hl:lk E t=some (.wr (.exact u) (.fn f fs aF)))
  (lM:fa m=nu Hc) (jZ:gj (fa m)=true) (lO:gj (kA m)=true) (lP:lh (br m (au C.B.nb H)) H Hc)
  (de:AV.cO (br m (au C.B.nb H)) gS=fs++aF) (hc:nL C.P f gS Hc (some r) RD) (uw:AV.rn (br m (au C.B.nb H)) r=r)
  (h:∀H1,RD H1->lg (cR H1 m) (en m H)=true/\LV C (jD (cR H1 m) E) (h_ m (au C.B.nb H) H H1)) (hK:oG K'=true) (hC:nP C0=nP C:=by rfl):di C r (K'++[.bot (nP C0)]) E H:=by
 intro φ I a w v hs hd
 have h0:=Oa m aQ hl lM jZ lO lP de hc h hs v (fun r0 h=>by cases h;rw[uw];exact hd)
 have key:∀(K':List PK),oG K'=true->dL C ((K'++[PK.bot (nP C0)]).map (PK.ki C.fn)) (.panic [{v:=v,recovered:=false}]) a w:=fun K'=>by
  induction K' with
  |nil=>intro _;rw[hC];exact h0
  |cons x K' ih=>
   intro hK
   cases x with
   |bot Q=>cases hK
   |_=>exact ih hK
 exact key K' hK
theorem dw.abg {P:Program} {f:FuncId} {fn:Func} {c:Code} {n nb:Nat} {args:List AV} {H:aa} {R X:AV->aa->Prop} (kp ob:List Nat) (hf:P.funcs[f]?=some fn) (hb:fn.body=some c) (hn:fn.ntmps=n)
  (kT:enters P f=true) (de:Nat.ble args.length n=true) (hnb:bB H=nb)
  (h:∀(w:World) (own I0:Nat->Prop) (aq:ai) (lay:Lay P ⟨w,own,I0,aq,nb⟩),AP ⟨P,fn,n,⟨w,own,I0,aq,nb⟩,kp,ob,R,none,X,[none],lay⟩ [] [.bot (nP ⟨P,fn,n,⟨w,own,I0,aq,nb⟩,kp,ob,R,none,X,[none],lay⟩)] (enum 0 args) H):dw P f args H R X:=by
 refine⟨kT,fun w φ I vs hd hR hV=>?_⟩
 subst hnb
 have hl:=jm args vs hd
 have yQ:=Nat.le_of_ble_eq_true de
 have h0:=h w (cN φ) I φ (hR.lay hV _)
 unfold AP at h0
 simp only[b7,hb,Option.getD_some]at h0
 have U:=h0 φ I {tmps:=vs.toArray++Array.replicate (fn.ntmps-vs.toArray.size) undef,defers:=[]} w ⟨Marks.nil,?_,fun i x hx=>?_,sV hR _⟩
 ·refine callsIn_wide.1 (callsIn_of_wp_marks (F:=Fence.wide) (n:=3) hf hb trivial (Go.wpIn_mono (F:=Fence.wide) U fun e a w he=>?_))
  cases e with
  |normal=>exact he
  |ret=>exact he
  |panic c=>exact he
  |_=>exact he.elim
 ·simp only[Array.size_append,List.size_toArray,Array.size_replicate,hn];omega
 ·obtain⟨j,rfl,hj⟩:=tE args 0 i x hx
  obtain⟨u,hu,dz⟩:=gP args vs j x hd hj
  refine⟨u,?_,dz⟩
  have ag:j<vs.length:=by
   rcases Nat.lt_or_ge j vs.length with h|h
   ·exact h
   ·rw[List.getElem?_eq_none h]at hu;cases hu
  rw[Nat.zero_add,Array.getElem?_append_left (by simpa using ag)]
  simpa using hu
end
def yd (C:Cx):Exit->Act->World->Prop
 | .normal,a,w| .ret,a,w=>a.defers=[]/\∃v,(results C.fn a.tmps).run C.P w= .ok v w/\mL C.B C.R (.returned v) w
 |_,_,_=>False
def sW:Option AV->AV
 |none=> .im (.v .nilIface)
 |some r=>r
section
variable {C:Cx} {K:List PK} {E:Env} {H:aa}
theorem AE.PQ (l:List Nat) {e:Exit} {C0:Cx} {sc:Prop} {xs:List AV} (he:e= .ret\/e= .normal) (aQ:C.ds=[none]) (h:eG C.P E H C.fn.results.toList=some (sc,xs)) (ay:sc) (hk:bN l (eH xs) H=true) (hR:C.R (eH xs) (jW l H)) (hC:yd C0=yd C:=by rfl):AE C e [.bot (yd C0)] E H:=by
 unfold AE
 intro φ I a w hs
 obtain⟨ms,g1,g2,g3,g4⟩:=hs.bD
 have uj:=g4 (by rw[aQ];simp)
 have tS:a.defers=[]:=by rw[g1,uj,aQ];rfl
 obtain⟨v,hv,hd⟩:=uT hs.env hs.st.real h ay
 obtain⟨φ',eM,qt⟩:=vB l φ H hk hd hs.st
 rw[hC]
 have:a.defers=[]/\∃v,(results C.fn a.tmps).run C.P w= .ok v w/\mL C.B C.R (.returned v) w:=⟨tS,v,hv,eH xs,jW l H,φ',I,v,hR,rfl,eM,qt⟩
 rcases he with rfl|rfl<;>exact this
theorem Rz {P:Program} {c:Code} {Q:Exit->Act->World->Prop} {a:Act} {w:World} (h:c.wpIn Fence.wide 3 P Q a w):c.wpIn Fence.wide 2 P Q a w:=wpIn_wide.2 (wpIn_wide.1 h)
theorem nL.walk {P:Program} {f:FuncId} {fn:Func} {c2:Code} {n nb id d0 d1:Nat} {o0 o1:Oper} {args:List AV} {H:aa} {r:Option AV} {RD:aa->Prop} (kp ob:List Nat) (hf:P.funcs[f]?=some fn)
  (hb:fn.body=some (.seq (.region id #[o0,o1] false) c2)) (hn:fn.ntmps=n)
  (pv:(match o0.op with| .call c=>(match c.callee with| .builtin .recover=>c.args.size==0|_=>false)|_=>false)=true/\o0.dst=some d0/\o0.guard=none)
  (mj:o1.op= .assign (.tmp d0)/\o1.dst=some d1/\o1.guard=none) (hd:(Nat.blt d0 n&&Nat.blt d1 n)=true)
  (kT:enters P f=true) (de:Nat.ble args.length n=true) (hnb:bB H=nb)
  (h:∀(w:World) (own I0:Nat->Prop) (aq:ai) (lay:Lay P ⟨w,own,I0,aq,nb⟩),AP ⟨P,fn,n,⟨w,own,I0,aq,nb⟩,kp,ob,fun _ H'=>RD H',none,fun _ _=>False,[none],lay⟩ [1] [.bot (yd ⟨P,fn,n,⟨w,own,I0,aq,nb⟩,kp,ob,fun _ H'=>RD H',none,fun _ _=>False,[none],lay⟩)] ((d1,sW r)::(d0,sW r)::enum 0 args) H):nL P f args H r RD:=by
 refine⟨kT,fun w φ I vs v aS hR hV hr=>?_⟩
 subst hnb
 have hl:=jm args vs aS
 have yQ:=Nat.le_of_ble_eq_true de
 simp only[Bool.and_eq_true,Nat.blt_eq]at hd
 obtain⟨⟨zm,VM,Ci⟩,M4,VN,oa⟩:=And.intro pv mj
 have h0:=h w (cN φ) I φ (hR.lay hV _)
 unfold AP at h0
 obtain⟨x,hx⟩:∃x,x=(match r with|none=>Value.nilIface|some _=>v):=⟨_,rfl⟩
 obtain⟨T,hT⟩:∃T:Array Value,T=vs.toArray++Array.replicate (fn.ntmps-vs.toArray.size) undef:=⟨_,rfl⟩
 have B0:T.size=n:=by rw[hT];simp only[Array.size_append,List.size_toArray,Array.size_replicate,hn];omega
 have CQ:AV.den w φ I (sW r) x:=by
  cases r with
  |none=>rw[hx];simp[sW,AV.den,IV.den,Value.oneCell']
  |some r0=>rw[hx];exact hr r0 rfl
 have kY:bt ⟨P,fn,n,⟨w,cN φ,I,φ,bB H⟩,kp,ob,fun _ H'=>RD H',none,fun _ _=>False,[none],hR.lay hV _⟩ φ I ((d1,sW r)::(d0,sW r)::enum 0 args) H {tmps:=(T.setIfInBounds d0 x).setIfInBounds d1 x,defers:=[]} w:=by
  refine⟨Marks.nil,by simpa using B0,fun i y hy=>?_,sV hR _⟩
  simp only[lk]at hy
  cases cp:Nat.beq d1 i with
  |true=>
   rw[cp]at hy
   have:=Nat.eq_of_beq_eq_true cp
   subst this
   simp only[cond_true,Option.some.injEq]at hy
   subst hy
   exact⟨x,by simp[B0,hd.2],CQ⟩
  |false=>
   rw[cp]at hy
   have MX:d1≠i:=fun e=>by subst e;simp at cp
   simp only[cond_false]at hy
   cases fX:Nat.beq d0 i with
   |true=>
    rw[fX]at hy
    have:=Nat.eq_of_beq_eq_true fX
    subst this
    simp only[cond_true,Option.some.injEq]at hy
    subst hy
    exact⟨x,by rw[Array.getElem?_setIfInBounds_ne MX];simp[B0,hd.1],CQ⟩
   |false=>
    rw[fX]at hy
    have Wr:d0≠i:=fun e=>by subst e;simp at fX
    simp only[cond_false]at hy
    obtain⟨j,rfl,hj⟩:=tE args 0 i y hy
    obtain⟨u,hu,dz⟩:=gP args vs j y aS hj
    refine⟨u,?_,dz⟩
    have ag:j<vs.length:=by
     rcases Nat.lt_or_ge j vs.length with h|h
     ·exact h
     ·rw[List.getElem?_eq_none h]at hu;cases hu
    rw[Array.getElem?_setIfInBounds_ne MX,Array.getElem?_setIfInBounds_ne Wr,hT,Nat.zero_add,Array.getElem?_append_left (by simpa using ag)]
    simpa using hu
 have v7:b7 fn [1]=c2:=by simp[b7,hb,child]
 have wC:=h0 φ I _ w kY
 rw[v7]at wC
 refine callsDIn_of_wpSIn hf hb trivial fun mR cs wj=>?_
 rw[<-hT]
 refine wpSIn_seq (wpSIn_region ?_)
 obtain⟨rE,pa⟩:∃rE:List Frame,rE=(match r with|none=>mR::cs|some _=>{mR with mode:= .panicking [{v:=v,recovered:=true}]}::cs):=⟨_,rfl⟩
 have aN:∃u',rE={mR with mode:=u'}::cs/\settle u'= .returning:=by
  cases r with
  |none=>exact⟨.returning,by rw[pa];simp only[wX]at wj;rw[<-wj],rfl⟩
  |some r0=>exact⟨_,pa,rfl⟩
 have Ce:c2.wpSIn Fence.wide 2 P (bodyPostS P fn mR cs fun e u' w'=>∃H' φ' I' x,RD H'/\e= .returned x/\settle u'= .returning/\St ⟨w,cN φ,I,φ,bB H⟩ φ' I' H' w') {tmps:=(T.setIfInBounds d0 x).setIfInBounds d1 x,defers:=[]} rE w:=by
  refine wpSIn_of_wpIn rfl (Go.wpIn_mono (Rz wC) fun e a' w' he=>?_)
  obtain⟨u',CN,zB⟩:=aN
  cases e with
  |normal=>
   obtain⟨n_,v',jC,rr,H',φ',I',vv,tP,_,_,hS⟩:=he
   exact⟨n_,u',CN,v',jC,H',φ',I',v',tP,rfl,zB,hS⟩
  |ret=>
   obtain⟨n_,v',jC,rr,H',φ',I',vv,tP,_,_,hS⟩:=he
   exact⟨n_,u',CN,v',jC,H',φ',I',v',tP,rfl,zB,hS⟩
  |_=>exact he.elim
 have CG:(execOp ({tmps:=T,defers:=[]}:Act).eval o0).run P w= .ok .recover w:=by
  obtain⟨dst,op,ty,pos,af,g⟩:=o0
  cases op with
  |call cc=>
   obtain⟨callee,as,aZ⟩:=cc
   simp only at zm
   cases callee with
   |builtin bb=>
    cases bb<;>first|(simp only at zm;exact absurd zm (by decide))|rfl
   |_=>simp at zm
  |_=>simp at zm
 have Vw:∀a:Act,(execOp a.eval o1).run P w= .ok (.value (a.eval (.tmp d0))) w:=fun a=>by
  obtain⟨dst,op,ty,pos,af,g⟩:=o1
  simp only at M4
  subst M4
  rfl
 have e0:({tmps:=T,defers:=[]}:Act).put o0.dst x={tmps:=T.setIfInBounds d0 x,defers:=[]}:=by rw[VM];rfl
 have e1:({tmps:=T.setIfInBounds d0 x,defers:=[]}:Act).put o1.dst x={tmps:=(T.setIfInBounds d0 x).setIfInBounds d1 x,defers:=[]}:=by rw[VN];rfl
 have TW:({tmps:=T.setIfInBounds d0 x,defers:=[]}:Act).eval (.tmp d0)=x:=by simp[Act.eval,B0,hd.1]
 have No:wpOpsSIn Fence.wide 2 P #[o0,o1] (Exit.thenS (c2.wpSIn Fence.wide 2 P (bodyPostS P fn mR cs fun e u' w'=>∃H' φ' I' x,RD H'/\e= .returned x/\settle u'= .returning/\St ⟨w,cN φ,I,φ,bB H⟩ φ' I' H' w')) (bodyPostS P fn mR cs fun e u' w'=>∃H' φ' I' x,RD H'/\e= .returned x/\settle u'= .returning/\St ⟨w,cN φ,I,φ,bB H⟩ φ' I' H' w')) [1] (({tmps:=T,defers:=[]}:Act).put o0.dst x) rE w:=by
  simp only[wpOpsSIn,List.getElem?_toArray,List.getElem?_cons_zero,List.getElem?_cons_succ]
  refine⟨fun _ _=>trivial,?_⟩
  rw[if_pos (by simp[Region.wanted,oa]),Vw,e0,TW]
  show Exit.thenS _ _ Exit.normal (({tmps:=T.setIfInBounds d0 x,defers:=[]}:Act).put o1.dst x) rE w
  rw[e1]
  exact Ce
 show wpOpsSIn Fence.wide 2 P #[o0,o1] _ [0,1] _ (mR::cs) w
 rw[wpOpsSIn]
 have Cm:(#[o0,o1]:Array Oper)[0]?=some o0:=rfl
 rw[Cm]
 refine⟨fun _ _=>trivial,?_⟩
 rw[if_pos (by simp[Region.wanted,Ci]),CG]
 cases r with
 |none=>
  simp only[wX]at wj
  have f_:recoverD (mR::cs)=none:=by simp[recoverD,wj]
  simp only at hx pa
  subst hx
  subst pa
  show(match recoverD (mR::cs)with|some (v,cs')=>_|none=>_)
  rw[f_]
  exact No
 |some r0=>
  simp only[wX]at wj
  have f_:recoverD (mR::cs)=some (v,{mR with mode:= .panicking [{v:=v,recovered:=true}]}::cs):=by simp[recoverD,wj]
  simp only at hx pa
  subst hx
  subst pa
  show(match recoverD (mR::cs)with|some (v,cs')=>_|none=>_)
  rw[f_]
  exact No
end
def D2:TK->Bool
 | .iface=>false
 | .other=>false
 |_=>true
theorem Rb {P:Program} {t:TypeId} (h:D2 (tk P t)=true):∃u,P.underlying t=some u/\∀m,u≠ .interface m:=by
 unfold tk at h
 cases hu:P.underlying t with
 |none=>rw[hu]at h;cases h
 |some u=>
  refine⟨u,rfl,fun m e=>?_⟩
  subst e
  rw[hu]at h
  cases h
section
variable {C:Cx} {K:List PK} {E:Env} {H:aa}
theorem AQ.iface {ds:List (Nat×Nat)} {i:Nat} {d:Option Nat} {ty t:TypeId} {pos:String} {af:Array Edge} {os:List Oper} {x:Operand} {y:AV}
  (ah:a7 C.n ({dst:=d,op:= .makeInterface t x,type:=ty,pos:=pos,after:=af,guard:=none}::os)=true)
  (hx:ev E x=some y) (hg:y.g=true) (ht:D2 (tk C.P t)=true)
  (h:vq C K os (aW d i ds) (i+1) (aY d (.wr (.iface t) y.st) E) H):
  AQ C ds i ({dst:=d,op:= .makeInterface t x,type:=ty,pos:=pos,after:=af,guard:=none}::os) K E H:=by
 obtain⟨hd,bX⟩:=dM ah
 have bl:=AQ.go bX h
 unfold AQ at bl⊢
 refine AO.step (o:={dst:=d,op:= .makeInterface t x,type:=ty,pos:=pos,after:=af,guard:=none}) fun ops φ I a w aQ _ hs Kn bE=>?_
 rw[if_pos (by simp[Region.wanted])]
 have hv:=mU hs.env [x] [y] (by simp[dT,hx]) (by simp[gs,hg])
 simp only[List.map_cons,List.map_nil,AV.ab]at hv
 obtain⟨v0,Ja,h0,hv,_⟩:=hv
 cases h0
 obtain⟨u,hu,Gt⟩:=Rb ht
 have aB:(execOp a.eval {dst:=d,op:= .makeInterface t x,type:=ty,pos:=pos,after:=af,guard:=none}).run C.P w= .ok (.value (.iface t (a.eval x))) w:=by
  have e:execOp a.eval {dst:=d,op:= .makeInterface t x,type:=ty,pos:=pos,after:=af,guard:=none}=(do pure (.value (<-Instr.makeInterface t (a.eval x))):Sem Next):=rfl
  rw[e]
  unfold Instr.makeInterface
  cases u<;>first|exact absurd rfl (Gt _)|simp[run_underlying hu]
 unfold Oper.wp
 rw[aB,Oper.upon_value]
 exact bE _ _ φ I _ _ bl (hs.put hs.st (bC.refl w φ I) hd ⟨_,rfl,hv⟩)
theorem xI {ds:List (Nat×Nat)} {i:Nat} {d:Option Nat} {ty t:TypeId} {pos:String} {af:Array Edge} {os:List Oper} {x:Operand} {y:AV}
  (h:vq C K os (aW d i ds) (i+1) (aY d (.wr (.iface t) y.st) E) H)
  (ah:a7 C.n ({dst:=d,op:= .makeInterface t x,type:=ty,pos:=pos,after:=af,guard:=none}::os)=true:=by kernel_rfl)
  (hx:ev E x=some y:=by exact rfl) (hg:y.g=true:=by exact rfl) (ht:D2 (tk C.P t)=true:=by exact rfl):
  AQ C ds i ({dst:=d,op:= .makeInterface t x,type:=ty,pos:=pos,after:=af,guard:=none}::os) K E H:=AQ.iface ah hx hg ht h
theorem AQ.SH {ds:List (Nat×Nat)} {i:Nat} {d:Option Nat} {ty t xt:TypeId} {pos:String} {af:Array Edge} {os:List Oper} {x:Operand} {y:AV}
  (ah:a7 C.n ({dst:=d,op:= .typeAssert x xt t true,type:=ty,pos:=pos,after:=af,guard:=none}::os)=true)
  (hx:ev E x=some (.wr (.iface t) y)) (ht:D2 (tk C.P t)=true)
  (h:vq C K os (aW d i ds) (i+1) (aY d (.aG [y,.im (.v (.bool true))]) E) H):
  AQ C ds i ({dst:=d,op:= .typeAssert x xt t true,type:=ty,pos:=pos,after:=af,guard:=none}::os) K E H:=
 AQ.val (.aG [y,.im (.v (.bool true))]) ah rfl (fun φ I a w hs=>by
  have hv:=aH hs.env hx
  simp only[AV.den,WK.rel]at hv
  obtain⟨v,hu,hv⟩:=hv
  obtain⟨u,Xb,Gt⟩:=Rb ht
  refine⟨.tuple #[v,.bool true],?_,?_⟩
  ·have e:execOp a.eval {dst:=d,op:= .typeAssert x xt t true,type:=ty,pos:=pos,after:=af,guard:=none}=(do pure (.value (<-Instr.typeAssert (a.eval x) xt t true)):Sem Next):=rfl
   rw[e,hu]
   unfold Instr.typeAssert
   cases u<;>first|exact absurd rfl (Gt _)|simp[run_underlying Xb]
  ·exact⟨_,⟨v,[.bool true],rfl,hv,.bool true,[],rfl,(by simp only[AV.den,IV.den];exact⟨trivial,rfl⟩),rfl⟩,rfl⟩) h
end
section
variable {P:Program} {Q:Exit->Act->World->Prop} {a:Act} {w:World}
theorem YZ {o:Oper} {K:Act->World->Prop} (h:pM P o a w K Q):o.wpIn (Fw none) 3 P a w K Q:=by
 refine⟨fun _ _=>trivial,?_⟩
 have hs:o.semAt (Fw none).round a.eval=execOp a.eval o:=Oper.semAt_none _ _
 rw[hs]
 rcases h with h|⟨l,f,tmps,as,bd,hr,h⟩
 ·unfold Oper.wp at h
  generalize(execOp a.eval o).run P w=q at*
  cases q with
  |ok x w'=>
   cases x<;>simp only[Oper.upon,Oper.uponIn]at h⊢<;>first
    |exact h
    |exact⟨fun h=>(by cases h),ED h⟩
    |exact⟨fun h=>(by cases h),P5 h⟩
    |exact h.elim
  |halt x w'=>cases x<;>simp only[Oper.upon,Oper.uponIn]at h⊢<;>first|exact h|exact h.elim
 ·rw[hr,Oper.uponIn_round]
  exact⟨fun h=>(by cases h),P0 h⟩
theorem RC {ops:Array Oper}:∀(l:List Oper) (k:Nat),(∀j,l[j]?=ops[k+j]?)->∀(a:Act) (w:World),gK P ops Q l a w->wpOpsIn (Fw none) 3 P ops Q (List.range' k l.length) a w
 |[],_,_,_,_,h=>h
 |o::l,k,hl,a,w,h=>by
  have h0:ops[k]?=some o:=by simpa using(hl 0).symm
  have ih:=RC l (k+1) (fun j=>by have:=hl (j+1);simpa[Nat.add_assoc,Nat.add_comm 1 j]using this)
  rw[List.length_cons,List.range'_succ]
  simp only[wpOpsIn,h0]
  simp only[gK]at h
  split
  ·rename_i hw
   rw[if_pos hw]at h
   exact Oper.wpIn_mono (fun a' w' h'=>ih a' w' h') (YZ h)
  ·rename_i hw
   rw[if_neg hw]at h
   exact⟨fun _ _=>trivial,ih _ _ h⟩
theorem abl {id:Nat} {ops:Array Oper} (h:gK P ops Q ops.toList a w):nK none P (.region id ops false) Q a w:=by
 refine wpIn_region ?_
 have:=RC (ops:=ops) ops.toList 0 (by simp) a w h
 rwa [Array.length_toList,<-List.range_eq_range']at this
end
section
variable {C:Cx} {K:List PK} {E:Env} {H:aa}
theorem AP.ZG {p:List Nat} {id:Nat} {ops:List Oper} (f_:C.rd=none) (hc:b7 C.fn p= .region id ops.toArray false) (h:AQ C [] 0 ops K E H):AP C p K E H:=by
 unfold AP
 rw[hc]
 intro φ I a w hs
 unfold AQ at h
 rw[f_]
 refine abl (h ops.toArray (fun j d hj=>by simp[lk]at hj) (fun j o hj=>?_) φ I a w hs)
 rw[Nat.zero_add]
 simp[hj]
theorem AQ.Uw {ds:List (Nat×Nat)} {i:Nat} {o:Oper} {os:List Oper} {sc:Prop} {v:AV} (ah:a7 C.n [o]=true) (hg:o.guard=none) (hv:iu C.P E H o.op=some (sc,v)) (ay:sc)
  (h:AQ C (aW o.dst i ds) (i+1) os K (aY o.dst v E) H):AQ C ds i (o::os) K E H:=by
 obtain⟨hd,_⟩:=dM ah
 have fW:=h
 unfold AQ at fW⊢
 refine AO.step fun ops φ I a w aQ _ hs Kn bE=>?_
 rw[if_pos (by simp[Region.wanted,hg])]
 obtain⟨u,hu,aS⟩:=x6 hs.env hs.st.real hv ay
 unfold Oper.wp
 rw[hu,Oper.upon_value]
 exact bE _ _ φ I _ _ fW (hs.put hs.st (bC.refl _ _ _) hd aS)
end
section
variable {C:Cx} {K:List PK} {E:Env} {H:aa}
end
section
variable {C:Cx} {K:List PK} {E:Env} {H:aa}
end
section
variable {C:Cx} {K:List PK} {E:Env} {H:aa}
theorem AE.N_ {C0:Cx} {e:Exit} (he:e= .ret\/e= .normal) (aQ:C.ds=[none]) (h:LV C E H) (hC:nP C0=nP C:=by rfl):AE C e [.bot (nP C0)] E H:=by
 unfold AE
 intro φ I a w hs
 obtain⟨ms,g1,g2,g3,g4⟩:=hs.bD
 have uj:=g4 (by rw[aQ];simp)
 have tS:a.defers=[]:=by rw[g1,uj,aQ];rfl
 rw[hC]
 have:=h φ I a w hs.st hs.env
 rw[<-tS]at this
 rcases he with rfl|rfl<;>exact this
end
theorem an {a b:Prop} (x:a) (y:b):a/\b:=⟨x,y⟩
theorem gO {p q:Prop} (hq:q) (h:q->p:=by
 intro hq
 repeat(first|refine xA ?_|refine xB ?_|refine xC ?_|refine xE ?_|refine xD ?_|refine xK ?_|refine xS ?_|refine xM ?_|refine xT ?_|refine xF ?_|((first|refine xR ?_|refine xW ?_|refine fR ?_);simp only[go_sem,Nat.reduceAdd,Nat.reduceLeDiff,Nat.reduceSub,Int.reduceToNat,reduceCtorEq])|(refine⟨by clear hq;first|omega|(intros;simp_all;done)|(intros;simp_all;omega),?_⟩;try simp only[go_sem,Nat.reduceAdd,Nat.reduceLeDiff,Nat.reduceSub,Int.reduceToNat,reduceCtorEq]))
 exact hq):p:=h hq
theorem gE {e p q:Prop} (he:e) (hq:q) (h:e->q->p:=by
 intro he hq
 repeat(first|refine xA ?_|refine xB ?_|refine xC ?_|refine xE ?_|refine xD ?_|refine xK ?_|refine xS ?_|refine xM ?_|refine xT ?_|refine xF ?_|((first|refine xR ?_|refine xW ?_|refine fR ?_);simp only[go_sem,Nat.reduceAdd,Nat.reduceLeDiff,Nat.reduceSub,Int.reduceToNat,reduceCtorEq,he])|(refine⟨by clear hq;first|omega|(intros;simp_all;done)|(intros;simp_all;omega),?_⟩;try simp only[go_sem,Nat.reduceAdd,Nat.reduceLeDiff,Nat.reduceSub,Int.reduceToNat,reduceCtorEq,he]))
 exact hq):p:=h he hq
theorem sI {p q:Prop} (hq:q) (h:q->p:=by
 intro hq
 simp only[go_sem,Nat.reduceAdd,Nat.reduceLeDiff,Nat.reduceSub,Int.reduceToNat,reduceCtorEq]
 exact hq):p:=h hq
theorem sE {e p q:Prop} (he:e) (hq:q) (h:e->q->p:=by
 intro he hq
 simp only[go_sem,Nat.reduceAdd,Nat.reduceLeDiff,Nat.reduceSub,Int.reduceToNat,reduceCtorEq,he]
 exact hq):p:=h he hq
theorem sH {p q:Prop} (hq:q) (h:q->p:=by
 intro hq
 simp only[go_sem,Nat.reduceAdd,Nat.reduceLeDiff,Nat.reduceSub,Int.reduceToNat,reduceCtorEq,en,h_,cR,jD]
 exact hq):p:=h hq
section
variable {C:Cx} {K:List PK} {E:Env} {H:aa} {p:List Nat}
theorem cT {t:Tmp} {x y:Code} (ht:AP C (0::p) K E H) (hc:b7 C.fn p= .cond (.tmp t) x y:=by exact rfl) (hb:lk E t=some (.im (.v (.bool true))):=by
 simp only[go_sem,Nat.reduceAdd,Nat.reduceLeDiff,Nat.reduceSub,Int.reduceToNat,reduceCtorEq]
 refine congrArg (fun b=>some (AV.im (IV.v (Value.bool b)))) ?_
 (first|(simp only[Bool.or_eq_true,Bool.and_eq_true,Bool.not_eq_true',Bool.not_eq_false',Bool.and_eq_false_iff,Bool.or_eq_false_iff,decide_eq_true_eq,decide_eq_false_iff_not,beq_iff_eq,bne_iff_ne,beq_eq_false_iff_ne,bne_eq_false_iff_eq,ne_eq];omega)|(simp;done)|(simp;omega)|(simp_all;done)|(simp_all;omega))):AP C p K E H:=AP.cond_true hc hb ht
theorem cF {t:Tmp} {x y:Code} (hf:AP C (1::p) K E H) (hc:b7 C.fn p= .cond (.tmp t) x y:=by exact rfl) (hb:lk E t=some (.im (.v (.bool false))):=by
 simp only[go_sem,Nat.reduceAdd,Nat.reduceLeDiff,Nat.reduceSub,Int.reduceToNat,reduceCtorEq]
 refine congrArg (fun b=>some (AV.im (IV.v (Value.bool b)))) ?_
 (first|(simp only[Bool.or_eq_true,Bool.and_eq_true,Bool.not_eq_true',Bool.not_eq_false',Bool.and_eq_false_iff,Bool.or_eq_false_iff,decide_eq_true_eq,decide_eq_false_iff_not,beq_iff_eq,bne_iff_ne,beq_eq_false_iff_ne,bne_eq_false_iff_eq,ne_eq];omega)|(simp;done)|(simp;omega)|(simp_all;done)|(simp_all;omega))):AP C p K E H:=AP.cond_false hc hb hf
end
theorem sU {E E':Env} (h:Sub E E':=by repeat(first|exact Sub.nil _|refine Sub.cons rfl ?_)):Sub E E':=h
theorem nL.plain {P:Program} {f:FuncId} {fn:Func} {c:Code} {n nb:Nat} {args:List AV} {H:aa} {RD:aa->Prop} (kp ob:List Nat) (hf:P.funcs[f]?=some fn) (hb:fn.body=some c) (hn:fn.ntmps=n)
  (kT:enters P f=true) (de:Nat.ble args.length n=true) (hnb:bB H=nb)
  (h:∀(w:World) (own I0:Nat->Prop) (aq:ai) (lay:Lay P ⟨w,own,I0,aq,nb⟩),AP ⟨P,fn,n,⟨w,own,I0,aq,nb⟩,kp,ob,fun _ H'=>RD H',none,fun _ _=>False,[none],lay⟩ [] [.bot (yd ⟨P,fn,n,⟨w,own,I0,aq,nb⟩,kp,ob,fun _ H'=>RD H',none,fun _ _=>False,[none],lay⟩)] (enum 0 args) H):nL P f args H none RD:=by
 refine⟨kT,fun w φ I vs v aS hR hV _=>?_⟩
 subst hnb
 have hl:=jm args vs aS
 have yQ:=Nat.le_of_ble_eq_true de
 have h0:=h w (cN φ) I φ (hR.lay hV _)
 unfold AP at h0
 simp only[b7,hb,Option.getD_some]at h0
 have wC:=h0 φ I {tmps:=vs.toArray++Array.replicate (fn.ntmps-vs.toArray.size) undef,defers:=[]} w ⟨Marks.nil,by
  simp only[Array.size_append,List.size_toArray,Array.size_replicate,hn];omega,fun i x hx=>by
  obtain⟨j,rfl,hj⟩:=tE args 0 i x hx
  obtain⟨u,hu,dz⟩:=gP args vs j x aS hj
  refine⟨u,?_,dz⟩
  have ag:j<vs.length:=by
   rcases Nat.lt_or_ge j vs.length with h|h
   ·exact h
   ·rw[List.getElem?_eq_none h]at hu;cases hu
  rw[Nat.zero_add,Array.getElem?_append_left (by simpa using ag)]
  simpa using hu,sV hR _⟩
 refine(callsDIn_of_wp (R:=fun e w'=>∃H' φ' I' x,RD H'/\e= .returned x/\St ⟨w,cN φ,I,φ,bB H⟩ φ' I' H' w') hf hb trivial (Go.wpIn_mono (Rz wC) fun e a' w' he=>?_)).mono fun e u' w' ⟨hu,H',φ',I',x,U,h2,h3⟩=>⟨H',φ',I',x,U,h2,by rw[hu];rfl,h3⟩
 cases e with
 |normal=>
  obtain⟨n_,v',jC,rr,H',φ',I',vv,tP,_,_,hS⟩:=he
  exact⟨n_,v',jC,H',φ',I',v',tP,rfl,hS⟩
 |ret=>
  obtain⟨n_,v',jC,rr,H',φ',I',vv,tP,_,_,hS⟩:=he
  exact⟨n_,v',jC,H',φ',I',v',tP,rfl,hS⟩
 |_=>exact he.elim
def fp (a b:IV):Prop:=∀(w:World) (I:Nat->Prop) (u:Value),IV.den w I a u->IV.den w I b u
def kg (a b:List IV):Prop:=∀(w:World) (I:Nat->Prop) (us:List Value),IV.ab w I a us->IV.ab w I b us
def da (a b:AV):Prop:=∀(w:World) (φ:ai) (I:Nat->Prop) (u:Value),AV.den w φ I a u->AV.den w φ I b u
theorem fp.refl (a:IV):fp a a:=fun _ _ _ h=>h
theorem da.refl (a:AV):da a a:=fun _ _ _ _ h=>h
theorem kg.refl (a:List IV):kg a a:=fun _ _ _ h=>h
theorem kj.refl (a:List (List IV)):kj a a:=fun _ _ _ h=>h
theorem fp.nil (es:Nat):fp (.v (.slice none 0 0)) (.sl es []):=fun w I u h=>Ia h
theorem kg.cons {x y:IV} {l m:List IV} (h:fp x y) (h':kg l m):kg (x::l) (y::m):=fun w I us hd=>by
 simp only[IV.ab]at hd⊢
 obtain⟨u,ak,e,U,h2⟩:=hd
 exact⟨u,ak,e,h w I u U,h' w I ak h2⟩
theorem kj.cons {x y:List IV} {l m:List (List IV)} (h:kg x y) (h':kj l m):kj (x::l) (y::m):=fun w I us hd=>by
 simp only[IV.aE]at hd⊢
 obtain⟨u,ak,e,U,h2⟩:=hd
 exact⟨u,ak,e,h w I u U,h' w I ak h2⟩
theorem EV {w:World} {I:Nat->Prop}:∀(l:List (List IV)) (us:List (List Value)),IV.aE w I l us->us.length=l.length
 |[],us,h=>by simp only[IV.aE]at h;subst h;rfl
 |x::l,us,h=>by
  simp only[IV.aE]at h
  obtain⟨u,ak,rfl,_,h2⟩:=h
  simp[EV l ak h2]
theorem fp.sl {es:Nat} {l m:List (List IV)} (h:kj l m):fp (.sl es l) (.sl es m):=fun w I u hd=>by
 simp only[IV.den]at hd⊢
 obtain⟨p,c,ae,e,hc,U,h2,h3⟩:=hd
 have hm:=h w I ae U
 have hl:l.length=m.length:=by rw[<-EV l ae U,<-EV m ae hm]
 refine⟨p,c,ae,by rw[<-hl];exact e,by omega,hm,h2,fun aC=>h3 fun om=>aC ?_⟩
 subst om
 exact List.eq_nil_of_length_eq_zero hl.symm
theorem da.im {a b:IV} (h:fp a b):da (.im a) (.im b):=fun w φ I u hd=>by
 simp only[AV.den]at hd⊢;exact h w I u hd
theorem bY.nT {x y:AV} {l m:List AV} (h:da x y) (h':bY l m):bY (x::l) (y::m):=fun w φ I us hd=>by
 simp only[AV.ab]at hd⊢
 obtain⟨u,ak,e,U,h2⟩:=hd
 exact⟨u,ak,e,h w φ I u U,h' w φ I ak h2⟩
theorem da.agg {l m:List AV} (h:bY l m):da (.agg l) (.agg m):=fun w φ I u hd=>by
 simp only[AV.den]at hd⊢
 obtain⟨us,U,h2⟩:=hd
 exact⟨us,h w φ I us U,h2⟩
theorem da.aG {l m:List AV} (h:bY l m):da (.aG l) (.aG m):=fun w φ I u hd=>by
 simp only[AV.den]at hd⊢
 obtain⟨us,U,h2⟩:=hd
 exact⟨us,h w φ I us U,h2⟩
theorem ao.vp {P:Program} {f:FuncId} {xs ys:List AV} {H:aa} {R:AV->aa->Prop} (h:ao P f ys H R) (hl:bY xs ys):ao P f xs H R:=
 ⟨h.gv,fun w φ I vs hd hR hV=>h.run w φ I vs (hl w φ I vs hd) hR hV⟩
theorem dw.vp {P:Program} {f:FuncId} {xs ys:List AV} {H:aa} {R X:AV->aa->Prop} (h:dw P f ys H R X) (hl:bY xs ys):dw P f xs H R X:=
 ⟨h.gv,fun w φ I vs hd hR hV=>h.run w φ I vs (hl w φ I vs hd) hR hV⟩
theorem bh.vp {P:Program} {f:FuncId} {xs ys:List AV} {r:AV} (h:bh P f ys r) (hl:bY xs ys):bh P f xs r:=ao.vp h hl
theorem Xw {w:World} {I:Nat->Prop}:∀{x:IV} {u:Value},IV.den w I x u->u.oneCell'=true
 | .v x,u,h=>by simp only[IV.den]at h;rw[h.1];exact h.2
 | .sl es rows,u,h=>by
  simp only[IV.den]at h
  obtain⟨p,c,ae,rfl,_⟩:=h
  rfl
 | .pt cs,u,h=>by
  simp only[IV.den]at h
  obtain⟨g,off,us,rfl,_⟩:=h
  rfl
 | .fn f fs aF,u,h=>by
  simp only[IV.den]at h
  obtain⟨us,vs,_,_,rfl⟩:=h
  rfl
theorem NM {w:World} {I:Nat->Prop}:∀(cs:List IV) (us:List Value),IV.ab w I cs us->∀x∈us,x.oneCell'=true
 |[],us,h,x,hx=>by simp only[IV.ab]at h;subst h;cases hx
 |c::cs,us,h,x,hx=>by
  simp only[IV.ab]at h
  obtain⟨u,ak,rfl,U,h2⟩:=h
  rcases List.mem_cons.1 hx with rfl|hx
  ·exact Xw U
  ·exact NM cs ak h2 x hx
theorem NK {w:World} {φ:ai} {I:Nat->Prop}:∀(cs:List IV) (us:List Value),IV.ab w I cs us->AV.ab w φ I (cs.map .im) us
 |[],us,h=>by simp only[IV.ab]at h;subst h;rfl
 |c::cs,us,h=>by
  simp only[IV.ab]at h
  obtain⟨u,ak,rfl,U,h2⟩:=h
  exact⟨u,ak,rfl,by simp only[AV.den];exact U,NK cs ak h2⟩
theorem da.ar (cs:List IV):da (.ar cs) (.agg (cs.map .im)):=fun w φ I u hd=>by
 simp only[AV.den]at hd⊢
 obtain⟨us,U,h2⟩:=hd
 exact⟨us,NK cs us U,h2,NM cs us U⟩
end Go.AL
end
section
namespace Go.AL
open Go Go.Sort Go.Proofs
abbrev s5 (l:List (List UInt8)):List (List IV):=l.map fun s=>[IV.v (.string (BA s))]
theorem QK {w:World} {I:Nat->Prop}:∀(l:List (List UInt8)) (ae:List (List Value)),IV.aE w I (s5 l) ae->ae.flatten=l.map encStr
 |[],ae,h=>by simp only[s5,List.map_nil,IV.aE]at h;subst h;rfl
 |x::l,ae,h=>by
  simp only[s5,List.map_cons,IV.aE,IV.ab,IV.den]at h
  obtain⟨u,ak,rfl,⟨v,vs,rfl,⟨rfl,_⟩,rfl⟩,h2⟩:=h
  have:=QK l ak h2
  simp only[List.flatten_cons,List.map_cons,this]
  rfl
theorem QJ {w:World} {I:Nat->Prop}:∀(l:List (List UInt8)),IV.aE w I (s5 l) (l.map fun s=>[encStr s])
 |[]=>by simp only[s5,List.map_nil,IV.aE]
 |x::l=>by
  simp only[s5,List.map_cons,IV.aE,IV.ab,IV.den]
  exact⟨_,_,rfl,⟨_,_,rfl,⟨rfl,rfl⟩,rfl⟩,QJ l⟩
theorem Lk:∀m:List (List UInt8),(m.map fun s=>[encStr s]).flatten=m.map encStr
 |[]=>rfl
 |x::r=>by rw[List.map_cons,List.flatten_cons,Lk r];rfl
theorem Zv (l m:List (List UInt8)) (rest:List Value) (h:m.length=l.length):putCells encStr 0 m.toArray (l.map encStr++rest).toArray=(m.map encStr++rest).toArray:=by
 apply Array.ext_getElem?
 intro k
 unfold putCells
 rw[Array.getElem?_mapIdx,List.getElem?_toArray,List.getElem?_toArray]
 rcases Nat.lt_or_ge k m.length with hk|hk
 ·rw[List.getElem?_append_left (by simp;omega),List.getElem?_append_left (by simpa using hk),List.getElem?_map,List.getElem?_map,List.getElem?_eq_getElem (by omega),List.getElem?_eq_getElem hk]
  simp[hk]
 ·rw[List.getElem?_append_right (by simp;omega),List.getElem?_append_right (by simpa using hk)]
  simp only[List.length_map,h]
  cases rest[k-l.length]? with
  |none=>rfl
  |some x=>simp;omega
theorem Mz (w:World) (g:Nat) (n:Nat) (d:Array (List UInt8)) (os:Array Obj) (k:Nat) (hk:k<w.heap.size):(grow (putRow encStr (Sort.ahead w n) g 0 d) os).heap[k]?=if g=k then(w.heap[k]?).map (onCells (putCells encStr 0 d))else w.heap[k]?:=by
 rw[heap_grow_old _ _ (by show k<(w.heap.modify g _).size;simpa using hk)]
 show(w.heap.modify g (onCells (putCells encStr 0 d)))[k]?=_
 rw[Array.getElem?_modify]
theorem St.putRow {w:World} {φ:ai} {I:Nat->Prop} {el:TypeId} {l m:List (List UInt8)} (hR:Real w φ I [(0,.vec el 1 (s5 l))]) {g:Nat} (hg:φ 0=some (some g)) (h:m.length=l.length) (n:Nat) (os:Array Obj):
  St ⟨w,cN φ,I,φ,1⟩ φ I [(0,.vec el 1 (s5 m))] (grow (putRow encStr (Sort.ahead w n) g 0 m.toArray) os):=by
 have aP:=hR.own 0 _ (some g) rfl hg
 simp only[Ob.at]at aP
 rcases aP with⟨U,_⟩|⟨g',ae,rest,e,hh,hd,_⟩
 ·cases U
 cases e
 have dO:=QK l ae hd
 rw[dO]at hh
 have bl:=hR.off 0 g hg
 have aO:w.heap.size<=(grow (Sort.putRow encStr (Sort.ahead w n) g 0 m.toArray) os).heap.size:=by
  rw[size_grow]
  show w.heap.size<=(w.heap.modify g _).size+_
  simp
 have nc:∀k,k<w.heap.size->k≠g->(grow (Sort.putRow encStr (Sort.ahead w n) g 0 m.toArray) os).heap[k]?=w.heap[k]?:=fun k hk aC=>by
  rw[Mz w g n _ os k hk,if_neg (fun e=>aC e.symm)]
 have mi:(grow (Sort.putRow encStr (Sort.ahead w n) g 0 m.toArray) os).heap[g]?=some (.cells (m.map encStr++rest).toArray el (0,0)):=by
  rw[Mz w g n _ os g bl.2,if_pos rfl,hh]
  show some (onCells (putCells encStr 0 m.toArray) (.cells (l.map encStr++rest).toArray el (0,0)))=_
  rw[onCells,Zv l m rest h]
 refine⟨⟨fun b=>?_,fun b o p hl hp=>?_,fun b g2 hb=>⟨(hR.off b g2 hb).1,Nat.lt_of_lt_of_le (hR.off b g2 hb).2 aO⟩,hR.inj,fun g2 hi=>Nat.lt_of_lt_of_le (hR.bM g2 hi) aO⟩,
  ⟨aO,fun k hk a6=>nc k hk fun e=>a6 ⟨0,e▸hg⟩,fun k c e fz hc=>?_,rfl,rfl,rfl⟩,fun b g2 hb=> .inl ⟨b,hb⟩,fun g2 hi=> .inl hi,fun g2 hi=>hi,fun b p o _ h0 _=>h0⟩
 ·have:=hR.bj b
  simp only[lk]at this⊢
  cases hb:Nat.beq 0 b with
  |true=>rw[hb]at this;simpa using this
  |false=>rw[hb]at this;simpa using this
 ·simp only[lk]at hl
  cases hb:Nat.beq 0 b with
  |true=>
   rw[hb]at hl
   have:=Nat.eq_of_beq_eq_true hb
   subst this
   rw[hg]at hp
   cases hp
   simp only[cond_true,Option.some.injEq]at hl
   subst hl
   simp only[Ob.at]
   refine .inr ⟨g,m.map fun s=>[encStr s],rest,rfl,?_,QJ m,fun vs hv=>?_⟩
   ·rw[mi]
    rw[Lk]
   ·obtain⟨s,_,rfl⟩:=List.mem_map.1 hv;rfl
  |false=>rw[hb]at hl;cases hl
 ·rcases Nat.lt_or_ge k w.heap.size with hk|hk
  ·by_cases zc:k=g
   ·subst zc
    rw[hh]at hc
    cases hc
    exact⟨_,_,mi,by simp[h]⟩
   ·exact⟨c,fz,(nc k hk zc).trans hc,rfl⟩
  ·rw[Array.getElem?_eq_none hk]at hc;cases hc
end Go.AL
end
section
namespace Go.AL
open Go
section
variable {C:Cx} {K:List PK} {E:Env} {H:aa}
theorem AQ.Pm {ds:List (Nat×Nat)} {i:Nat} {os:List Oper} {t:Nat} {x:AV} (h:AQ C ds i os K ((t,x)::E) H):AQ C ds i os K ((t,.opt true x)::E) H:=
 AQ.imp (E':=aY (some t) x E) (fun _ _ _ _ he=>Aj (d:=some t) (x:= .opt true x) (fun _ hu=>by simp only[AV.den]at hu;exact hu.1 trivial) he) h
theorem AQ.Jl {ds:List (Nat×Nat)} {i:Nat} {os:List Oper} {E':Env} (h:AQ C ds i os K E' H) (hE:Sub E E'):AQ C ds i os K E H:=by
 unfold AQ at h⊢
 intro ops U h2 φ I a w hs
 exact h ops U h2 φ I a w (hs.sub hE)
end
section
variable {C:Cx} {K:List PK} {E:Env} {H:aa}
theorem AQ.opt (t:Nat) {ds:List (Nat×Nat)} {i:Nat} {os:List Oper} {x:AV} (hl:lk E t=some (.opt true x)) (h:AQ C ds i os K ((t,x)::E) H):AQ C ds i os K E H:=
 AQ.imp (E':=(t,x)::E) (fun w φ I a he j y hj=>by
  by_cases og:j=t
  ·subst og
   rw[lk,Nat.beq_refl,cond_true]at hj
   obtain⟨u,hu,hd⟩:=he j _ hl
   simp only[AV.den]at hd
   cases hj
   exact⟨u,hu,hd.1 trivial⟩
  ·have:Nat.beq t j=false:=by
    cases hb:Nat.beq t j with
    |false=>rfl
    |true=>exact absurd (Nat.eq_of_beq_eq_true hb).symm og
   have jY:lk E j=some y:=by
    rw[lk]at hj
    first|(rw[this]at hj;exact hj)|(have t2:Nat.beq j t=false:=by(cases hb:Nat.beq j t with|false=>rfl|true=>exact absurd (Nat.eq_of_beq_eq_true hb) og);rw[t2]at hj;exact hj)
   exact he j y jY) h
end
end Go.AL
end
section
namespace Go.AL
open Go Go.MapKept
def fS:List Value->List Nat->List Value->List MapEntry
 |k::ks,b::bs,u::us=>{key:=k,val:=u,born:=b}::fS ks bs us
 |_,_,_=>[]
theorem Jq:∀l:List MapEntry,fS (l.map (·.key)) (l.map (·.born)) (l.map (·.val))=l
 |[]=>rfl
 |e::l=>by simp only[List.map_cons,fS,Jq l]
theorem xN:∀(ks:List Value) (bs:List Nat) (us:List Value),ks.length=bs.length->us.length=bs.length->(fS ks bs us).map (·.born)=bs
 |[],[],[],_,_=>rfl
 |k::ks,b::bs,u::us,U,h2=>by
  simp only[List.length_cons]at U h2
  simp only[fS,List.map_cons,xN ks bs us (by omega) (by omega)]
theorem Ef:∀(ks:List Value) (bs:List Nat) (us:List Value),ks.length=bs.length->us.length=bs.length->(fS ks bs us).map (·.key)=ks
 |[],[],[],_,_=>rfl
 |k::ks,b::bs,u::us,U,h2=>by
  simp only[List.length_cons]at U h2
  simp only[fS,List.map_cons,Ef ks bs us (by omega) (by omega)]
theorem Eg:∀(ks:List Value) (bs:List Nat) (us:List Value),ks.length=bs.length->us.length=bs.length->(fS ks bs us).map (·.val)=us
 |[],[],[],_,_=>rfl
 |k::ks,b::bs,u::us,U,h2=>by
  simp only[List.length_cons]at U h2
  simp only[fS,List.map_cons,Eg ks bs us (by omega) (by omega)]
theorem RM {ks:List Value} {bs:List Nat} {us:List Value} (U:ks.length=bs.length) (h2:us.length=bs.length) {j:Nat} {e:MapEntry} (h:(fS ks bs us)[j]?=some e):ks[j]?=some e.key/\bs[j]?=some e.born/\us[j]?=some e.val:=by
 refine⟨?_,?_,?_⟩
 ·rw[<-Ef ks bs us U h2,List.getElem?_map,h];rfl
 ·rw[<-xN ks bs us U h2,List.getElem?_map,h];rfl
 ·conv=>lhs;rw[<-Eg ks bs us U h2]
  rw[List.getElem?_map,h];rfl
def k9 (ks:List Value) (bs:List Nat) (clock:Nat) (us:List Value):Obj:= .map (fS ks bs us).toArray clock
def j0 (since:Nat) (seen:List Nat) (c:Nat) (us:List Value):Obj:= .mapIter (match us with|[.map m]=>m|_=>none) since seen.toArray c
theorem Yw (ks:List Value) (bs:List Nat) (clock:Nat) (us:List Value):xQ (k9 ks bs clock us):= .inl ⟨_,_,rfl⟩
theorem Hg (since:Nat) (seen:List Nat) (c:Nat) (us:List Value):xQ (j0 since seen c us):= .inr ⟨_,_,_,_,rfl⟩
structure p7 (ks:List Value) (bs:List Nat) (clock:Nat):Prop where
 len:ks.length=bs.length
 nd:bs.Nodup
 lt:∀n∈bs,n<clock
section
variable {C:Cx} {K:List PK} {E:Env} {H:aa}
theorem AQ.q8 (R:AV->aa->Prop) {ds:List (Nat×Nat)} {i:Nat} {o:Oper} {os:List Oper} (ah:a7 C.n (o::os)=true) (hg:o.guard=none)
  (hex:∀φ I a w,bt C φ I E H a w->∃x H' u w' φ' I',R x H'/\(execOp a.eval o).run C.P w= .ok (.value u) w'/\AV.den w' φ' I' x u/\St C.B φ' I' H' w'/\bC w φ I w' φ' I')
  (h:∀x H',R x H'->vq C K os (aW o.dst i ds) (i+1) (aY o.dst x E) H'):AQ C ds i (o::os) K E H:=by
 obtain⟨hd,bX⟩:=dM ah
 have bl:=fun x H' hx=>AQ.go bX (h x H' hx)
 unfold AQ at bl⊢
 refine AO.step (o:=o) fun ops φ I a w aQ _ hs Kn bE=>?_
 have hw:Region.wanted o (yielded ops a.tmps)=true:=by simp[Region.wanted,hg]
 rw[if_pos hw]
 obtain⟨x,H',u,w',φ',I',hx,aB,aS,hS,hK⟩:=hex φ I a w hs
 unfold Oper.wp
 rw[aB,Oper.upon_value]
 exact bE _ _ φ' I' _ _ (bl x H' hx) (hs.put hS hK hd aS)
theorem St.drew {B:Bs} {φ:ai} {I:Nat->Prop} {w:World} (h:St B φ I H w):St B φ I H w.drew/\bC w φ I w.drew φ I:=by
 have hx:Ext (fun _=>False) w w.drew:=⟨Nat.le_refl _,fun _ _ _=>rfl,fun _ c _ fz h=>⟨c,fz,h,rfl⟩,rfl,rfl,rfl⟩
 have k:bC w φ I w.drew φ I:=⟨fun _ _=>rfl,fun _ h=>h,fun _ _ h=>h,fun _ g n _ hs=>hx.shaped (fun h=>h) hs⟩
 refine⟨⟨⟨h.real.bj,fun b' o' p hl hp=>?_,fun b' g hp=>h.real.off b' g hp,h.real.inj,h.real.bM⟩,h.ext.trans hx (fun g hf=>hf.elim),h.b9,h.cZ,h.cj,h.cE⟩,k⟩
 exact Ob.kF k.im k.I k.phi k.sh (fun g hg=>rfl) (h.real.own b' o' p hl hp)
theorem St.Zz {B:Bs} {φ:ai} {I:Nat->Prop} {w:World} {l:Nat} {o0 o':Obj} (h:St B φ I H w) {b:Nat} (hb:φ b=some (some l)) (hl:w.heap[l]?=some o0) (hm:xQ o0) {pN ob:Ob} (fE:lk H b=some pN)
  (aP:(∀x u,AV.den w φ I x u->AV.den (w.putObj l o') φ I x u)->(w.putObj l o').heap[l]?=some o'->ob.at (w.putObj l o') φ I (some l)):
  St B φ I (aN H b ob) (w.putObj l o')/\bC w φ I (w.putObj l o') φ I:=by
 have hI:¬I l:=(h.real.off b l hb).1
 have ag:l<w.heap.size:=(h.real.off b l hb).2
 have uk:∀c e fz,o0≠ .cells c e fz:=fun c e fz=>by rcases hm with⟨_,_,rfl⟩|⟨_,_,_,_,rfl⟩<;>exact fun h=>by cases h
 have hx:Ext (fun g=>g=l) w (w.putObj l o'):=
  ⟨by simp,fun g _ hn=>World.putObj_heap_other hn,fun g c e fz hc=>⟨c,fz,(World.putObj_heap_other (fun e2=>by subst e2;rw[hl]at hc;cases hc;exact uk _ _ _ rfl)).trans hc,rfl⟩,rfl,rfl,rfl⟩
 have k:bC w φ I (w.putObj l o') φ I:=by
  refine⟨fun g hg=>World.putObj_heap_other (fun e=>hI (e▸hg)),fun _ h=>h,fun _ _ h=>h,fun _ g n _ hs=>?_⟩
  obtain⟨c,e,hc,hn⟩:=hs
  have hg:g≠l:=fun e2=>by subst e2;rw[hl]at hc;cases hc;exact uk _ _ _ rfl
  exact⟨c,e,(World.putObj_heap_other hg).trans hc,hn⟩
 refine⟨⟨⟨fun b'=>?_,fun b' o p aD hp=>?_,fun b' g hp=>?_,h.real.inj,fun g hg=>?_⟩,h.ext.trans hx (fun g hg=>by subst hg;exact h.b9 b _ hb),h.b9,h.cZ,h.cj,fun b' p o lN h0 aD=>?_⟩,k⟩
 ·by_cases aj:b'=b
  ·subst aj;rw[cV H b' _ fE,hb];rfl
  ·rw[cm H b b' _ aj];exact h.real.bj b'
 ·by_cases aj:b'=b
  ·subst aj
   rw[cV H b' _ fE]at aD;cases aD
   rw[hb]at hp;cases hp
   exact aP (fun x u hx=>k.den hx) (World.putObj_heap_same ag)
  ·rw[cm H b b' _ aj]at aD
   exact Ob.kF k.im k.I k.phi k.sh (fun g hg=>World.putObj_heap_other (fun e=>by subst e;subst hg;exact aj (h.real.inj b' b g hp hb))) (h.real.own b' o p aD hp)
 ·have:=h.real.off b' g hp
  exact⟨this.1,by simpa using this.2⟩
 ·have:=h.real.bM g hg
  simpa using this
 ·by_cases aj:b'=b
  ·subst aj;exact h.cE b' p pN lN h0 fE
  ·rw[cm H b b' _ aj]at aD;exact h.cE b' p o lN h0 aD
theorem St.told {B:Bs} {φ:ai} {I:Nat->Prop} {w:World} (h:St B φ I H w) {b:Nat} {pN ob:Ob} (fE:lk H b=some pN) (aP:∀p,φ b=some p->pN.at w φ I p->ob.at w φ I p):St B φ I (aN H b ob) w:=by
 refine⟨⟨fun b'=>?_,fun b' o p aD hp=>?_,h.real.off,h.real.inj,h.real.bM⟩,h.ext,h.b9,h.cZ,h.cj,fun b' p o lN h0 aD=>?_⟩
 ·by_cases aj:b'=b
  ·subst aj
   rw[cV H b' _ fE]
   have:=h.real.bj b'
   rw[fE]at this
   exact this
  ·rw[cm H b b' _ aj];exact h.real.bj b'
 ·by_cases aj:b'=b
  ·subst aj
   rw[cV H b' _ fE]at aD;cases aD
   exact aP p hp (h.real.own b' _ p fE hp)
  ·rw[cm H b b' _ aj]at aD;exact h.real.own b' o p aD hp
 ·by_cases aj:b'=b
  ·subst aj;exact h.cE b' p pN lN h0 fE
  ·rw[cm H b b' _ aj]at aD;exact h.cE b' p o lN h0 aD
theorem AQ.HU {ds:List (Nat×Nat)} {i:Nat} {d:Option Nat} {ty t kt et:TypeId} {pos:String} {af:Array Edge} {os:List Oper} {x:Operand} {b:Nat} {ks:List Value} {cs:List AV}
  (ah:a7 C.n ({dst:=d,op:= .range t x,type:=ty,pos:=pos,after:=af,guard:=none}::os)=true)
  (hx:ev E x=some (.mp b)) (hH:lk H b=some (.var (.map ks) cs)) (ht:C.P.underlying t=some (.map kt et))
  (h:∀bs clock,p7 ks bs clock->vq C K os (aW d i ds) (i+1) (aY d (.ob (au C.B.nb H) 0) E) ((au C.B.nb H,.var (.raw (j0 clock [] clock)) [.mp b])::aN H b (.var (.raw (k9 ks bs clock)) cs))):
  AQ C ds i ({dst:=d,op:= .range t x,type:=ty,pos:=pos,after:=af,guard:=none}::os) K E H:=by
 refine AQ.q8 (fun x H'=>∃bs clock,p7 ks bs clock/\x= .ob (au C.B.nb H) 0/\H'=(au C.B.nb H,.var (.raw (j0 clock [] clock)) [.mp b])::aN H b (.var (.raw (k9 ks bs clock)) cs)) ah rfl (fun φ I a w hs=>?_) ?_
 ·obtain⟨g,es,clock,fj,hg,hh,aM,lI,jV⟩:=uI hs.st.real hH (aH hs.env hx)
  have bG:p7 ks (es.toList.map (·.born)) clock:=⟨by rw[<-aM];simp,jV.1,fun n hn=>by
   obtain⟨e,he,rfl⟩:=List.mem_map.1 hn
   exact jV.2 e he⟩
  have U:=hs.st.told (ob:= .var (.raw (k9 ks (es.toList.map (·.born)) clock)) cs) hH (fun p hp aP=>by
   rw[hg]at hp;cases hp
   simp only[Ob.at,Sh.has,Sh.one]
   exact⟨g,es.toList.map (·.val),rfl,⟨by rw[hh,k9,<-aM,Jq],Yw _ _ _ _⟩,lI,trivial⟩)
  have oq:=dh C.B.nb H
  have fg:lk (aN H b (.var (.raw (k9 ks (es.toList.map (·.born)) clock)) cs)) (au C.B.nb H)=none:=by
   have hn:=k_ C.B.nb H
   have aC:au C.B.nb H≠b:=fun e=>by rw[e,hH]at hn;cases hn
   rw[cm H b _ _ aC];exact hn
  have aB:=run_range_map (P:=C.P) w t kt et g es clock ht hh
  obtain⟨h2,h3⟩:=U.Bh (ob:= .mapIter (some g) clock #[] clock) (o:= .var (.raw (j0 clock [] clock)) [.mp b]) fg oq.1 (by
   have Mn:b≠au C.B.nb H:=fun e=>by have:=k_ C.B.nb H;rw[<-e,hH]at this;cases this
   simp only[Ob.at,Sh.has,Sh.one,AV.ab,AV.den]
   refine⟨_,[.map (some g)],rfl,⟨by simpa[j0]using ir w _,Hg _ _ _ _⟩,⟨_,_,rfl,⟨g,?_,rfl⟩,rfl⟩,trivial⟩
   first
    |exact hg
    |(simp[aT,Mn];exact hg)
    |(simp only[aT];rw[if_neg Mn];exact hg))
  refine⟨.ob (au C.B.nb H) 0,_,.pointer (some ⟨w.heap.size,0,none⟩),w.alloc (.mapIter (some g) clock #[] clock),_,_,⟨_,_,bG,rfl,rfl⟩,?_,?_,h2,h3⟩
  ·rw[<-fj]at aB
   simp only[execOp,Sem.run_bind,Sem.run_map,aB,Result.andThen_ok,Sem.run_pure]
  ·simp only[AV.den,aT];exact⟨_,by simp,rfl⟩
 ·rintro x H' ⟨bs,clock,U,rfl,rfl⟩
  exact h bs clock U
theorem Ya {es:Array MapEntry} {seen:List Nat} {e:MapEntry} (h:e∈(leftOf es seen.toArray).toList):e∈es.toList/\e.born∉seen:=by
 unfold leftOf at h
 simp at h
 exact⟨by simpa using h.1,h.2⟩
theorem Yb {es:Array MapEntry} {seen:List Nat} (h:(leftOf es seen.toArray).size=0):∀e∈es.toList,e.born∈seen:=fun e he=>by
 unfold leftOf at h
 have U:Array.filter (fun e=>!seen.toArray.contains e.born) es=#[]:=Array.eq_empty_of_size_eq_zero h
 rw[Array.filter_eq_empty_iff]at U
 have:=U e (by simpa using he)
 simpa using this
theorem AQ.HS {ds:List (Nat×Nat)} {i:Nat} {d:Option Nat} {ty:TypeId} {pos:String} {af:Array Edge} {os:List Oper} {x:Operand} {b it:Nat} {ks:List Value} {cs:List AV} {bs seen:List Nat} {clock since c0:Nat}
  (ah:a7 C.n ({dst:=d,op:= .next x false,type:=ty,pos:=pos,after:=af,guard:=none}::os)=true)
  (hx:ev E x=some (.ob it 0)) (hI:lk H it=some (.var (.raw (j0 since seen c0)) [.mp b])) (hH:lk H b=some (.var (.raw (k9 ks bs clock)) cs)) (bG:p7 ks bs clock) (W2:since=clock) (vX:c0=clock)
  (jx:∀k∈ks,k.oneCell'=true) (cz:cs.length=bs.length)
  (h0:(∀n∈bs,n∈seen)->vq C K os (aW d i ds) (i+1) (aY d (.aG [.im (.v (.bool false))]) E) H)
  (U:∀(j n:Nat) (k:Value) (y:AV),bs[j]?=some n->n∉seen->ks[j]?=some k->cs[j]?=some y->vq C K os (aW d i ds) (i+1) (aY d (.aG [.im (.v (.bool true)),.im (.v k),y]) E) (aN H it (.var (.raw (j0 since (seen++[n]) clock)) [.mp b]))):
  AQ C ds i ({dst:=d,op:= .next x false,type:=ty,pos:=pos,after:=af,guard:=none}::os) K E H:=by
 subst W2 vX
 refine AQ.q8 (fun x H'=>((∀n∈bs,n∈seen)/\x= .aG [.im (.v (.bool false))]/\H'=H)\/∃(j n:Nat) (k:Value) (y:AV),bs[j]?=some n/\n∉seen/\ks[j]?=some k/\cs[j]?=some y/\x= .aG [.im (.v (.bool true)),.im (.v k),y]/\H'=aN H it (.var (.raw (j0 c0 (seen++[n]) c0)) [.mp b])) ah rfl (fun φ I a w hs=>?_) ?_
 ·have eX:=aH hs.env hx
  simp only[AV.den]at eX
  obtain⟨r,hr,uB⟩:=eX
  have ho:=hs.st.real.own it _ _ hI hr
  simp only[Ob.at,Sh.has,Sh.one,AV.ab,AV.den]at ho
  obtain⟨r',us,uw,⟨mj,_⟩,⟨u,rp,rfl,⟨g,hg,rfl⟩,rfl⟩,_⟩:=ho
  cases uw
  have hm:=hs.st.real.own b _ _ hH hg
  simp only[Ob.at,Sh.has,Sh.one]at hm
  obtain⟨g',us,cC,⟨pn,_⟩,gC,_⟩:=hm
  cases cC
  have cY:=p_ gC
  have kR:us.length=bs.length:=by omega
  have fX:=xN ks bs us bG.len kR
  have hold:∀x∈((fS ks bs us).toArray).toList,x.born<c0:=fun x hx=>bG.lt _ (by rw[<-fX];exact List.mem_map.2 ⟨x,by simpa using hx,rfl⟩)
  rcases run_next_at (P:=C.P) w ty r g c0 c0 seen.toArray (fS ks bs us).toArray c0 (by rw[mj];rfl) (by rw[pn];rfl) hold (Nat.le_refl _)with⟨hz,aB⟩|⟨e,he,w1,cL,aB⟩
  ·refine⟨_,H,.tuple #[.bool false],w,φ,I,.inl ⟨fun n hn=>?_,rfl,rfl⟩,?_,?_,hs.st,bC.refl w φ I⟩
   ·rw[<-fX]at hn
    obtain⟨e,he,rfl⟩:=List.mem_map.1 hn
    exact Yb hz e (by simpa using he)
   ·rw[<-uB]at aB
    simp only[execOp,Sem.run_bind,Sem.run_map,aB,Result.andThen_ok,Sem.run_pure]
   ·simp only[AV.den,AV.ab,IV.den];exact⟨_,⟨_,_,rfl,⟨rfl,rfl⟩,rfl⟩,rfl⟩
  ·obtain⟨F4,qE⟩:=Ya he
   have F4:e∈fS ks bs us:=by simpa using F4
   obtain⟨j,hj⟩:=List.mem_iff_getElem?.1 F4
   obtain⟨hk,eK,hv⟩:=RM bG.len kR hj
   have MH:j<cs.length:=by
    have:=(List.getElem?_eq_some_iff.1 eK).1
    omega
   obtain⟨v,k4,a8⟩:=gP cs us j cs[j] gC (List.getElem?_eq_getElem MH)
   rw[hv]at k4
   cases k4
   have ni:Go.ChangeMaps.setBlock w1 r (.mapIter (some g) c0 (seen.toArray.push e.born) c0)=w1.putObj r (.mapIter (some g) c0 (seen.toArray.push e.born) c0):=rfl
   have Ny:St C.B φ I H w1/\bC w φ I w1 φ I:=by
    rcases cL with rfl|rfl
    ·exact⟨hs.st,bC.refl _ φ I⟩
    ·exact hs.st.drew
   have zp:w1.heap[r]?=some (j0 c0 seen c0 [.map (some g)]):=by rcases cL with rfl|rfl<;>exact mj
   obtain⟨h2,h3⟩:=Ny.1.Zz (o':= .mapIter (some g) c0 (seen.toArray.push e.born) c0) (ob:= .var (.raw (j0 c0 (seen++[e.born]) c0)) [.mp b]) hr zp (Hg _ _ _ _) hI (fun hd hh=>by
    simp only[Ob.at,Sh.has,Sh.one,AV.ab]
    refine⟨r,[.map (some g)],rfl,⟨by rw[hh,j0];simp,Hg _ _ _ _⟩,⟨_,_,rfl,hd (.mp b) _ ?_,rfl⟩,trivial⟩
    simp only[AV.den];exact⟨g,hg,rfl⟩)
   have gZ:bC w φ I (w1.putObj r (.mapIter (some g) c0 (seen.toArray.push e.born) c0)) φ I:=by
    have a1:=Ny.2
    exact⟨fun g hg=>(h3.im g hg).trans (a1.im g hg),fun _ h=>h,fun _ _ h=>h,fun b g n hb cK=>h3.sh b g n hb (a1.sh b g n hb cK)⟩
   refine⟨_,_,.tuple #[.bool true,e.key,e.val],_,φ,I,.inr ⟨j,e.born,e.key,cs[j],eK,qE,hk,List.getElem?_eq_getElem MH,rfl,rfl⟩,?_,?_,h2,gZ⟩
   ·rw[<-uB,ni]at aB
    simp only[execOp,Sem.run_bind,Sem.run_map,aB,Result.andThen_ok,Sem.run_pure]
   ·simp only[AV.den,AV.ab,IV.den]
    exact⟨_,⟨_,_,rfl,⟨rfl,rfl⟩,_,_,rfl,⟨rfl,jx _ (List.mem_of_getElem? hk)⟩,_,_,rfl,gZ.den a8,rfl⟩,rfl⟩
 ·rintro x H' (⟨h2,rfl,rfl⟩|⟨j,n,k,y,h2,h3,h4,h5,rfl,rfl⟩)
  ·exact h0 h2
  ·exact U j n k y h2 h3 h4 h5
theorem AQ.HP {ds:List (Nat×Nat)} {i:Nat} {d:Option Nat} {ty:TypeId} {pos:String} {af:Array Edge} {os:List Oper} {x:Operand} {b it j n:Nat} {ks:List Value} {cs:List AV} {bs seen:List Nat} {clock since:Nat} {k:Value} {y:AV}
  (ah:a7 C.n ({dst:=d,op:= .entry x,type:=ty,pos:=pos,after:=af,guard:=none}::os)=true)
  (hx:ev E x=some (.ob it 0)) (hI:lk H it=some (.var (.raw (j0 since (seen++[n]) clock)) [.mp b])) (hH:lk H b=some (.var (.raw (k9 ks bs clock)) cs)) (bG:p7 ks bs clock)
  (jx:∀k∈ks,k.oneCell'=true) (cz:cs.length=bs.length) (eK:bs[j]?=some n) (hk:ks[j]?=some k) (hy:cs[j]?=some y)
  (h:vq C K os (aW d i ds) (i+1) (aY d (.aG [.im (.v k),y]) E) H):
  AQ C ds i ({dst:=d,op:= .entry x,type:=ty,pos:=pos,after:=af,guard:=none}::os) K E H:=by
 refine AQ.val (.aG [.im (.v k),y]) ah rfl (fun φ I a w hs=>?_) h
 have eX:=aH hs.env hx
 simp only[AV.den]at eX
 obtain⟨r,hr,uB⟩:=eX
 have ho:=hs.st.real.own it _ _ hI hr
 simp only[Ob.at,Sh.has,Sh.one,AV.ab,AV.den]at ho
 obtain⟨r',us,uw,⟨mj,_⟩,⟨u,rp,rfl,⟨g,hg,rfl⟩,rfl⟩,_⟩:=ho
 cases uw
 have hm:=hs.st.real.own b _ _ hH hg
 simp only[Ob.at,Sh.has,Sh.one]at hm
 obtain⟨g',us,cC,⟨pn,_⟩,gC,_⟩:=hm
 cases cC
 have cY:=p_ gC
 have kR:us.length=bs.length:=by omega
 have fX:=xN ks bs us bG.len kR
 obtain⟨v,k4,a8⟩:=gP cs us j y gC hy
 have Wb:j<(fS ks bs us).length:=by
  have:=congrArg List.length fX
  rw[List.length_map]at this
  have h2:=(List.getElem?_eq_some_iff.1 eK).1
  omega
 obtain⟨e,he⟩:∃e,(fS ks bs us)[j]?=some e:=⟨_,List.getElem?_eq_getElem Wb⟩
 obtain⟨e1,e2,e3⟩:=RM bG.len kR he
 rw[hk]at e1;cases e1
 rw[eK]at e2;cases e2
 rw[k4]at e3;cases e3
 have aB:=run_entry_at (P:=C.P) w r g since seen.toArray (fS ks bs us).toArray clock e (by rw[mj,j0];simp) (by rw[pn];rfl) (by simpa using List.mem_of_getElem? he) (by rw[show(fS ks bs us).toArray.toList=fS ks bs us by simp,fX];exact bG.nd)
 refine⟨.tuple #[e.key,e.val],?_,?_⟩
 ·rw[<-uB]at aB
  simp only[execOp,Sem.run_bind,Sem.run_map,aB,Result.andThen_ok,Sem.run_pure]
 ·simp only[AV.den,AV.ab,IV.den]
  exact⟨_,⟨_,_,rfl,⟨rfl,jx _ (List.mem_of_getElem? hk)⟩,_,_,rfl,a8,rfl⟩,rfl⟩
theorem St.oD {B:Bs} {φ:ai} {I:Nat->Prop} {w:World} (h:St B φ I H w) {b:Nat} {ks:List Value} {bs:List Nat} {clock:Nat} {cs:List AV} (hH:lk H b=some (.var (.raw (k9 ks bs clock)) cs)) (bG:p7 ks bs clock) (cz:cs.length=bs.length):St B φ I (aN H b (.var (.map ks) cs)) w:=by
 refine h.told hH fun p hp aP=>?_
 simp only[Ob.at,Sh.has,Sh.one]at aP⊢
 obtain⟨g,us,hg,⟨U,_⟩,h2,_⟩:=aP
 have cY:=p_ h2
 have kR:us.length=bs.length:=by omega
 have fX:=xN ks bs us bG.len kR
 refine⟨g,us,hg,⟨(fS ks bs us).toArray,clock,U,by simpa using Ef ks bs us bG.len kR,by simpa using Eg ks bs us bG.len kR,by rw[show(fS ks bs us).toArray.toList=fS ks bs us by simp,fX];exact bG.nd,fun e he=>bG.lt _ (by rw[<-fX];exact List.mem_map.2 ⟨e,by simpa using he,rfl⟩)⟩,h2,trivial⟩
theorem AQ.oD {ds:List (Nat×Nat)} {i:Nat} {rest:List Oper} (b:Nat) {ks:List Value} {bs:List Nat} {clock:Nat} {cs:List AV} (hH:lk H b=some (.var (.raw (k9 ks bs clock)) cs)) (bG:p7 ks bs clock) (cz:cs.length=bs.length) (h:AQ C ds i rest K E (aN H b (.var (.map ks) cs))):AQ C ds i rest K E H:=by
 unfold AQ at h⊢
 exact fun ops U h2 φ I a w hs=>h ops U h2 _ _ _ _ ⟨hs.bD,hs.bA,hs.env,hs.st.oD hH bG cz⟩
theorem AE.oD {e:Exit} (b:Nat) {ks:List Value} {bs:List Nat} {clock:Nat} {cs:List AV} (hH:lk H b=some (.var (.raw (k9 ks bs clock)) cs)) (bG:p7 ks bs clock) (cz:cs.length=bs.length) (h:AE C e K E (aN H b (.var (.map ks) cs))):AE C e K E H:=by
 unfold AE at h⊢
 exact fun φ I a w hs=>h _ _ _ _ ⟨hs.bD,hs.bA,hs.env,hs.st.oD hH bG cz⟩
theorem AP.oD {p:List Nat} (b:Nat) {ks:List Value} {bs:List Nat} {clock:Nat} {cs:List AV} (hH:lk H b=some (.var (.raw (k9 ks bs clock)) cs)) (bG:p7 ks bs clock) (cz:cs.length=bs.length) (h:AP C p K E (aN H b (.var (.map ks) cs))):AP C p K E H:=by
 unfold AP at h⊢
 exact fun φ I a w hs=>h _ _ _ _ ⟨hs.bD,hs.bA,hs.env,hs.st.oD hH bG cz⟩
end
end Go.AL
end
section
namespace Go.AL
open Go
section
variable {C:Cx} {K:List PK} {E:Env} {H:aa}
def D9 (C:Cx) (K:List PK) (E:Env) (H:aa) (ds:List (Nat×Nat)) (i:Nat) (o:Oper) (os:List Oper):Prop:=
 match iu C.P (s4 E) H o.op with
 |some (sc,v)=>sc/\vq C K os (aW o.dst i ds) (i+1) (aY o.dst v E) H
 |none=>False
theorem AQ.D9 {ds:List (Nat×Nat)} {i:Nat} {o:Oper} {os:List Oper} (ah:a7 C.n (o::os)=true) (hg:o.guard=none) (h:D9 C K E H ds i o os):AQ C ds i (o::os) K E H:=by
 unfold AL.D9 at h
 split at h
 ·rename_i sc v ha
  exact AQ.val v ah hg (fun φ I a w hs=>x6 (K4 hs.env) hs.st.real ha h.1) h.2
 ·exact h.elim
end
attribute [go_sem] D9
end Go.AL
end
section
namespace Go.AL
open Go Go.MapKept
section
variable {C:Cx} {K:List PK} {E:Env} {H:aa}
end
end Go.AL
end
section
namespace Go.AL
open Go Go.Sort Go.Proofs
section
variable {α:Type} {enc:α->Value} {iv:α->IV}
structure AK (enc:α->Value) (iv:α->IV):Prop where
 to:∀{w:World} {I:Nat->Prop} {a:α} {v:Value},IV.den w I (iv a) v->v=enc a
 of:∀{w:World} {I:Nat->Prop} {a:α},IV.den w I (iv a) (enc a)
abbrev gR (iv:α->IV) (l:List α):List (List IV):=l.map fun s=>[iv s]
theorem Fj (hE:AK enc iv) {w:World} {I:Nat->Prop}:∀(l:List α) (ae:List (List Value)),IV.aE w I (gR iv l) ae->ae.flatten=l.map enc
 |[],ae,h=>by simp only[gR,List.map_nil,IV.aE]at h;subst h;rfl
 |x::l,ae,h=>by
  simp only[gR,List.map_cons,IV.aE,IV.ab]at h
  obtain⟨u,ak,rfl,⟨v,vs,rfl,U,rfl⟩,h2⟩:=h
  cases hE.to U
  have:=Fj hE l ak h2
  simp only[List.flatten_cons,List.map_cons,this]
  rfl
theorem LJ (hE:AK enc iv) {w:World} {I:Nat->Prop}:∀(l:List α),IV.aE w I (gR iv l) (l.map fun s=>[enc s])
 |[]=>by simp only[gR,List.map_nil,IV.aE]
 |x::l=>by
  simp only[gR,List.map_cons,IV.aE,IV.ab]
  exact⟨_,_,rfl,⟨_,_,rfl,hE.of,rfl⟩,LJ hE l⟩
theorem Li:∀m:List α,(m.map fun s=>[enc s]).flatten=m.map enc
 |[]=>rfl
 |x::r=>by rw[List.map_cons,List.flatten_cons,Li r];rfl
theorem Zu [Inhabited α] (l m:List α) (rest:List Value) (h:m.length=l.length):putCells enc 0 m.toArray (l.map enc++rest).toArray=(m.map enc++rest).toArray:=by
 apply Array.ext_getElem?
 intro k
 unfold putCells
 rw[Array.getElem?_mapIdx,List.getElem?_toArray,List.getElem?_toArray]
 rcases Nat.lt_or_ge k m.length with hk|hk
 ·rw[List.getElem?_append_left (by simp;omega),List.getElem?_append_left (by simpa using hk),List.getElem?_map,List.getElem?_map,List.getElem?_eq_getElem (by omega),List.getElem?_eq_getElem hk]
  simp[hk]
 ·rw[List.getElem?_append_right (by simp;omega),List.getElem?_append_right (by simpa using hk)]
  simp only[List.length_map,h]
  cases rest[k-l.length]? with
  |none=>rfl
  |some x=>simp;omega
theorem My [Inhabited α] (w:World) (g:Nat) (n:Nat) (d:Array α) (os:Array Obj) (k:Nat) (hk:k<w.heap.size):(grow (Sort.putRow enc (Sort.ahead w n) g 0 d) os).heap[k]?=if g=k then(w.heap[k]?).map (onCells (putCells enc 0 d))else w.heap[k]?:=by
 rw[heap_grow_old _ _ (by show k<(w.heap.modify g _).size;simpa using hk)]
 show(w.heap.modify g (onCells (putCells enc 0 d)))[k]?=_
 rw[Array.getElem?_modify]
theorem St.Zx [Inhabited α] (hE:AK enc iv) {w:World} {φ:ai} {I:Nat->Prop} {el:TypeId} {l m:List α} (hR:Real w φ I [(0,.vec el 1 (gR iv l))]) {g:Nat} (hg:φ 0=some (some g)) (h:m.length=l.length) (n:Nat) (os:Array Obj):
  St ⟨w,cN φ,I,φ,1⟩ φ I [(0,.vec el 1 (gR iv m))] (grow (Sort.putRow enc (Sort.ahead w n) g 0 m.toArray) os):=by
 have aP:=hR.own 0 _ (some g) rfl hg
 simp only[Ob.at]at aP
 rcases aP with⟨U,_⟩|⟨g',ae,rest,e,hh,hd,_⟩
 ·cases U
 cases e
 have dO:=Fj hE l ae hd
 rw[dO]at hh
 have bl:=hR.off 0 g hg
 have aO:w.heap.size<=(grow (Sort.putRow enc (Sort.ahead w n) g 0 m.toArray) os).heap.size:=by
  rw[size_grow]
  show w.heap.size<=(w.heap.modify g _).size+_
  simp
 have nc:∀k,k<w.heap.size->k≠g->(grow (Sort.putRow enc (Sort.ahead w n) g 0 m.toArray) os).heap[k]?=w.heap[k]?:=fun k hk aC=>by
  rw[My w g n _ os k hk,if_neg (fun e=>aC e.symm)]
 have mi:(grow (Sort.putRow enc (Sort.ahead w n) g 0 m.toArray) os).heap[g]?=some (.cells (m.map enc++rest).toArray el (0,0)):=by
  rw[My w g n _ os g bl.2,if_pos rfl,hh]
  show some (onCells (putCells enc 0 m.toArray) (.cells (l.map enc++rest).toArray el (0,0)))=_
  rw[onCells,Zu l m rest h]
 refine⟨⟨fun b=>?_,fun b o p hl hp=>?_,fun b g2 hb=>⟨(hR.off b g2 hb).1,Nat.lt_of_lt_of_le (hR.off b g2 hb).2 aO⟩,hR.inj,fun g2 hi=>Nat.lt_of_lt_of_le (hR.bM g2 hi) aO⟩,
  ⟨aO,fun k hk a6=>nc k hk fun e=>a6 ⟨0,e▸hg⟩,fun k c e fz hc=>?_,rfl,rfl,rfl⟩,fun b g2 hb=> .inl ⟨b,hb⟩,fun g2 hi=> .inl hi,fun g2 hi=>hi,fun b p o _ h0 _=>h0⟩
 ·have:=hR.bj b
  simp only[lk]at this⊢
  cases hb:Nat.beq 0 b with
  |true=>rw[hb]at this;simpa using this
  |false=>rw[hb]at this;simpa using this
 ·simp only[lk]at hl
  cases hb:Nat.beq 0 b with
  |true=>
   rw[hb]at hl
   have:=Nat.eq_of_beq_eq_true hb
   subst this
   rw[hg]at hp
   cases hp
   simp only[cond_true,Option.some.injEq]at hl
   subst hl
   simp only[Ob.at]
   refine .inr ⟨g,m.map fun s=>[enc s],rest,rfl,?_,LJ hE m,fun vs hv=>?_⟩
   ·rw[mi]
    rw[Li]
   ·obtain⟨s,_,rfl⟩:=List.mem_map.1 hv;rfl
  |false=>rw[hb]at hl;cases hl
 ·rcases Nat.lt_or_ge k w.heap.size with hk|hk
  ·by_cases zc:k=g
   ·subst zc
    rw[hh]at hc
    cases hc
    exact⟨_,_,mi,by simp[h]⟩
   ·exact⟨c,fz,(nc k hk zc).trans hc,rfl⟩
  ·rw[Array.getElem?_eq_none hk]at hc;cases hc
end
end Go.AL
end
section
namespace Go.AL
open Go
section
variable {C:Cx} {K:List PK} {E:Env} {H:aa}
theorem AQ.ZD {ds:List (Nat×Nat)} {i:Nat} {d:Nat} {ty:TypeId} {pos:String} {af:Array Edge} {os:List Oper} {x y:Operand} {t e:TypeId} {b n bytes:Nat} {cs:List AV} {zv:AV} {b2:Nat} {e2:TypeId} (hnb:Nat.ble C.B.nb b=true)
  (ah:a7 C.n ({dst:=some d,op:= .call {callee:= .builtin .append,args:=#[x,y],argTypes:=#[t,t]},type:=ty,pos:=pos,after:=af,guard:=none}::os)=true)
  (hx:ev E x=some (.os b 1 0 n)) (hy:ev E y=some (.os b2 1 0 1)) (qq:lk H b2=some (.var (.row e2) [zv])) (hH:lk H b=some (.var (.row e) cs)) (a6:noMen b H=true)
  (ht:tk C.P t= .slice e) (bW:sz C.P e=some 1) (hz:(aA C.P e).map List.length=some 1) (fA:aI C.P e=some bytes)
  (hn:n=cs.length) (cp:(cs.length+1)*bytes<=140737488355328) (fY:cs.length+1<=70368744177664)
  (h:vq C K os ((i,d)::ds) (i+1) ((d,.os b 1 0 (cs.length+1))::killE b E) (aN H b (.var (.row e) (cs++[zv])))):
  AQ C ds i ({dst:=some d,op:= .call {callee:= .builtin .append,args:=#[x,y],argTypes:=#[t,t]},type:=ty,pos:=pos,after:=af,guard:=none}::os) K E H:=by
 obtain⟨hd,bX⟩:=dM ah
 have bl:=AQ.go bX h
 unfold AQ at bl⊢
 refine AO.step fun ops φ I a w aQ _ hs Kn bE=>?_
 rw[if_pos (by simp[Region.wanted])]
 obtain⟨us,gY,hlen,tQ⟩:=hs.st.DK hH
 have Cv:lk (aN H b (.vec e 1 (lits us))) b=some (.vec e 1 (lits us)):=cV H b _ hH
 have Ws:noMen b (aN H b (.vec e 1 (lits us)))=true:=O0 H a6
 obtain⟨oR,pa,kR,FG⟩:=hs.st.DK qq
 obtain⟨v2,rfl⟩:∃v2,oR=[v2]:=by
  cases oR with
  |nil=>simp at kR
  |cons v2 r=>cases r with
   |nil=>exact⟨v2,rfl⟩
   |cons _ _=>simp at kR
 have nn:Src w I 1 [[.v v2]] (a.eval y):=by
  have:=Src.own FG.real (aH hs.env hy) (cV H b2 _ qq) (by rw[uF];simp)
  simpa[lits]using this
 obtain⟨u,w',p',aB,dF,pw,dq,ej,aS⟩:=Eu (P:=C.P) (ty:=ty) (es:=0) tQ (aH hs.env hx) nn Cv (by rw[uF,hlen];exact hn) ht bW hz fA (by rw[uF,hlen];simpa using cp) (by rw[uF,hlen];unfold maxLen;simp;omega)
 have hS:=tQ.move (Nat.le_of_ble_eq_true hnb) Cv Ws (fun g hg aC=>dF.b_ g hg aC) dF pw dq ej
 rw[zw]at hS
 have hI:∀g,I g->w'.heap[g]?=w.heap[g]?:=fun g hg=>dF.b_ g (hs.st.real.bM g hg) (fun e=>(hs.st.real.off b g e).1 hg)
 have nf:∀{c:Nat} {p:Option Nat},(if c=b then none else φ c)=some p->aT φ b p' c=some p:=fun{c p} hc=>by
  by_cases e1:c=b
  ·simp[e1]at hc
  ·simpa[aT,e1]using hc
 have cK:∀(c g1 m:Nat),(if c=b then none else φ c)=some (some g1)->shaped w g1 m->shaped w' g1 m:=fun c g1 m hc cS=>by
  by_cases e1:c=b
  ·simp[e1]at hc
  ·exact dF.shaped (fun ho=>e1 (hs.st.real.inj c b g1 (by simpa[e1]using hc) ho)) cS
 have VG:AV.ab w' (aT φ b p') I cs us:=
  AV.fb hI (fun _ h=>h) (fun c p hc=>nf hc) (fun c g1 m hc cS=>cK c g1 m hc cS) _ _ (AV.oE (φ':=fun c=>if c=b then none else φ c) (fun b1 cp=>by simp[cp]) cs us (uM H a6 b _ cs hH) gY)
 have sq:AV.ab w' (aT φ b p') I [zv] [v2]:=
  AV.fb hI (fun _ h=>h) (fun c p hc=>nf hc) (fun c g1 m hc cS=>cK c g1 m hc cS) _ _ (AV.oE (φ':=fun c=>if c=b then none else φ c) (fun b1 cp=>by simp[cp]) [zv] [v2] (uM H a6 b2 _ [zv] qq) pa)
 have mW:=hS.Rj (cs:=cs++[zv]) (cV H b _ hH) (by simp) (fun ae a8=>by
  obtain⟨v,e1,hv⟩:=HA us ae a8
  rw[e1]
  simp only[IV.den]at hv
  rw[hv.1]
  simp only[AV.ab]at sq
  obtain⟨w1,w2,e2,fk,rfl⟩:=sq
  cases e2
  exact vD fk cs us VG)
 rw[zw]at mW
 have tW:d<C.n:=hd d rfl
 have hex:(execOp a.eval {dst:=some d,op:= .call {callee:= .builtin .append,args:=#[x,y],argTypes:=#[t,t]},type:=ty,pos:=pos,after:=af,guard:=none}).run C.P w= .ok (.value u) w':=by
  simp only[execOp,resolve,invoke,builtin,Sem.run_bind,Sem.run_pure,Result.andThen_ok,List.map_toArray,List.map_cons,List.map_nil,aB]
 unfold Oper.wp
 rw[hex,Oper.upon_value]
 refine bE _ _ _ I _ _ bl ⟨hs.bD.mono hI (fun _ h=>h),by simpa[Act.put]using hs.bA,fun j y hj=>?_,mW⟩
 simp only[lk]at hj
 cases hb:Nat.beq d j with
 |true=>
  rw[hb]at hj
  have:=Nat.eq_of_beq_eq_true hb
  subst this
  simp only[cond_true,Option.some.injEq]at hj
  subst hj
  refine⟨u,by simp only[Act.put];rw[Array.getElem?_setIfInBounds_self_of_lt (by rw[hs.bA];exact tW)],?_⟩
  rw[uF,hlen]at aS
  exact aS
 |false=>
  rw[hb]at hj
  simp only[cond_false]at hj
  obtain⟨y',uC,iL⟩:=pF (w:=w) (φ:=φ) (φ':=fun c=>if c=b then none else φ c) (I:=I) (b:=b) (fun b' bF=>by simp[bF]) E j y hj
  obtain⟨v,hv,a8⟩:=hs.env j y' uC
  refine⟨v,?_,AV.jO hI (fun _ h=>h) (fun c p hc=>nf hc) (fun c g1 m hc cS=>cK c g1 m hc cS) _ _ (iL v a8)⟩
  simp only[Act.put]
  rw[Array.getElem?_setIfInBounds_ne (by intro e;subst e;simp at hb)]
  exact hv
theorem AQ.ZE {ds:List (Nat×Nat)} {i:Nat} {d:Nat} {ty:TypeId} {pos:String} {af:Array Edge} {os:List Oper} {x y:Operand} {t e:TypeId} {b bytes:Nat} {zv:AV} {b2:Nat} {e2:TypeId} (hnb:Nat.ble C.B.nb b=true)
  (ah:a7 C.n ({dst:=some d,op:= .call {callee:= .builtin .append,args:=#[x,y],argTypes:=#[t,t]},type:=ty,pos:=pos,after:=af,guard:=none}::os)=true)
  (hx:ev E x=some (.os b 1 0 0)) (hy:ev E y=some (.os b2 1 0 1)) (qq:lk H b2=some (.var (.row e2) [zv])) (hH:lk H b=some (.vec e 1 [])) (a6:noMen b H=true)
  (ht:tk C.P t= .slice e) (bW:sz C.P e=some 1) (hz:(aA C.P e).map List.length=some 1) (fA:aI C.P e=some bytes)
  (cp:bytes<=140737488355328)
  (h:vq C K os ((i,d)::ds) (i+1) ((d,.os b 1 0 1)::killE b E) (aN H b (.var (.row e) [zv]))):
  AQ C ds i ({dst:=some d,op:= .call {callee:= .builtin .append,args:=#[x,y],argTypes:=#[t,t]},type:=ty,pos:=pos,after:=af,guard:=none}::os) K E H:=by
 obtain⟨hd,bX⟩:=dM ah
 have bl:=AQ.go bX h
 unfold AQ at bl⊢
 refine AO.step fun ops φ I a w aQ _ hs Kn bE=>?_
 rw[if_pos (by simp[Region.wanted])]
 have tQ:=hs.st
 obtain⟨oR,pa,kR,FG⟩:=hs.st.DK qq
 obtain⟨v2,rfl⟩:∃v2,oR=[v2]:=by
  cases oR with
  |nil=>simp at kR
  |cons v2 r=>cases r with
   |nil=>exact⟨v2,rfl⟩
   |cons _ _=>simp at kR
 have nn:Src w I 1 [[.v v2]] (a.eval y):=by
  have:=Src.own FG.real (aH hs.env hy) (cV H b2 _ qq) (by rw[uF];simp)
  simpa[lits]using this
 obtain⟨u,w',p',aB,dF,pw,dq,ej,aS⟩:=Eu (P:=C.P) (ty:=ty) (es:=0) tQ (aH hs.env hx) nn hH rfl ht bW hz fA (by simpa using cp) (by unfold maxLen;simp)
 have hS:=tQ.move (Nat.le_of_ble_eq_true hnb) hH a6 (fun g hg aC=>dF.b_ g hg aC) dF pw dq ej
 have hI:∀g,I g->w'.heap[g]?=w.heap[g]?:=fun g hg=>dF.b_ g (hs.st.real.bM g hg) (fun e=>(hs.st.real.off b g e).1 hg)
 have nf:∀{c:Nat} {p:Option Nat},(if c=b then none else φ c)=some p->aT φ b p' c=some p:=fun{c p} hc=>by
  by_cases e1:c=b
  ·simp[e1]at hc
  ·simpa[aT,e1]using hc
 have cK:∀(c g1 m:Nat),(if c=b then none else φ c)=some (some g1)->shaped w g1 m->shaped w' g1 m:=fun c g1 m hc cS=>by
  by_cases e1:c=b
  ·simp[e1]at hc
  ·exact dF.shaped (fun ho=>e1 (hs.st.real.inj c b g1 (by simpa[e1]using hc) ho)) cS
 have sq:AV.ab w' (aT φ b p') I [zv] [v2]:=
  AV.fb hI (fun _ h=>h) (fun c p hc=>nf hc) (fun c g1 m hc cS=>cK c g1 m hc cS) _ _ (AV.oE (φ':=fun c=>if c=b then none else φ c) (fun b1 cp=>by simp[cp]) [zv] [v2] (uM H a6 b2 _ [zv] qq) pa)
 have mW:=hS.Rj (cs:=[zv]) (cV H b _ hH) (by simp) (fun ae a8=>by
  obtain⟨v,e1,hv⟩:=HA [] ae a8
  rw[e1]
  simp only[IV.den]at hv
  rw[hv.1]
  simp only[AV.ab]at sq
  obtain⟨w1,w2,e2,fk,rfl⟩:=sq
  cases e2
  exact vD fk [] [] (by simp[AV.ab]))
 rw[zw]at mW
 have tW:d<C.n:=hd d rfl
 have hex:(execOp a.eval {dst:=some d,op:= .call {callee:= .builtin .append,args:=#[x,y],argTypes:=#[t,t]},type:=ty,pos:=pos,after:=af,guard:=none}).run C.P w= .ok (.value u) w':=by
  simp only[execOp,resolve,invoke,builtin,Sem.run_bind,Sem.run_pure,Result.andThen_ok,List.map_toArray,List.map_cons,List.map_nil,aB]
 unfold Oper.wp
 rw[hex,Oper.upon_value]
 refine bE _ _ _ I _ _ bl ⟨hs.bD.mono hI (fun _ h=>h),by simpa[Act.put]using hs.bA,fun j y hj=>?_,mW⟩
 simp only[lk]at hj
 cases hb:Nat.beq d j with
 |true=>
  rw[hb]at hj
  have:=Nat.eq_of_beq_eq_true hb
  subst this
  simp only[cond_true,Option.some.injEq]at hj
  subst hj
  refine⟨u,by simp only[Act.put];rw[Array.getElem?_setIfInBounds_self_of_lt (by rw[hs.bA];exact tW)],?_⟩
  exact aS
 |false=>
  rw[hb]at hj
  simp only[cond_false]at hj
  obtain⟨y',uC,iL⟩:=pF (w:=w) (φ:=φ) (φ':=fun c=>if c=b then none else φ c) (I:=I) (b:=b) (fun b' bF=>by simp[bF]) E j y hj
  obtain⟨v,hv,a8⟩:=hs.env j y' uC
  refine⟨v,?_,AV.jO hI (fun _ h=>h) (fun c p hc=>nf hc) (fun c g1 m hc cS=>cK c g1 m hc cS) _ _ (iL v a8)⟩
  simp only[Act.put]
  rw[Array.getElem?_setIfInBounds_ne (by intro e;subst e;simp at hb)]
  exact hv
theorem AQ.S7 {ds:List (Nat×Nat)} {i:Nat} {d:Option Nat} {ty t e:TypeId} {pos:String} {af:Array Edge} {os:List Oper} {x:Operand} {k:Nat} {z:Value}
  (ah:a7 C.n ({dst:=d,op:= .buildSlice t 1 #[(0,x)],type:=ty,pos:=pos,after:=af,guard:=none}::os)=true)
  (hx:ev E x=some (.ob k 0)) (ht:tk C.P t= .slice e) (bW:sz C.P e=some 1) (hz:aA C.P e=some [z])
  (h:vq C K os (aW d i ds) (i+1) (aY d (.os (au C.B.nb H) 1 0 1) E) ((au C.B.nb H,.var (.row e) [.ob k 0])::H)):
  AQ C ds i ({dst:=d,op:= .buildSlice t 1 #[(0,x)],type:=ty,pos:=pos,after:=af,guard:=none}::os) K E H:=by
 refine AQ.step1 _ _ ah rfl (fun φ I a w hs=>?_) h
 have eX:=aH hs.env hx
 simp only[AV.den]at eX
 obtain⟨g,hg,hv⟩:=eX
 obtain⟨ie,zv,fM,ov,_⟩:=va hz
 obtain⟨i2,rW,aO⟩:=D0 bW
 rw[fM]at rW;cases rW
 have aB:(execOp a.eval ⟨d,.buildSlice t 1 #[(0,x)],ty,pos,af,none⟩).run C.P w= .ok (.value (.slice (some ⟨w.heap.size,0,none⟩) 1 1)) (w.alloc (.cells #[a.eval x] e)):=by
  have:=run_buildSlice (P:=C.P) w t e 1 #[(0,a.eval x)] #[a.eval x] ie zv (eU ht) fM ov (by rw[aO];decide) (by rw[aO];decide) (by
   rw[aO,hv];simp only[Instr.fill,Nat.mul_one]
   simp[Value.cells]
   refine Array.ext (by simp) fun i U h2=>?_
   have h0:i=0:=by simp at h2;omega
   subst h0
   simp)
  simp only[execOp,Sem.run_bind,Sem.run_pure]
  first|rw[this]|simp[this]
 have oq:=dh C.B.nb H
 have dp:(w.alloc (.cells #[a.eval x] e)).heap[w.heap.size]?=some (.cells #[a.eval x] e (0,0)):=heap_alloc_new w _
 obtain⟨hS,hK⟩:=hs.st.tn (k_ C.B.nb H) oq.1 (cs:=#[a.eval x]) (e:=e) (o:= .var (.row e) [.ob k 0]) (by
  simp only[Ob.at,Sh.has,Sh.one]
  refine⟨w.heap.size,[a.eval x],rfl,⟨[],dp⟩,?_,fun y hy=>?_⟩
  ·simp only[AV.ab,AV.den]
   refine⟨_,_,rfl,⟨g,?_,hv⟩,rfl⟩
   have U:=hs.st.real.bj k
   rw[hg]at U
   have aC:k≠au C.B.nb H:=fun e=>by
    cases ho:lk H k with
    |none=>rw[ho]at U;simp at U
    |some o=>have:=bU H k o ho;omega
   simp[aT,aC,hg]
  ·rw[List.mem_singleton.1 hy,hv];rfl)
 refine⟨.slice (some ⟨w.heap.size,0,none⟩) 1 1,_,_,I,aB,?_,hS,hK⟩
 simp only[AV.den]
 exact .inr ⟨w.heap.size,1,by simp[aT],by rw[Nat.zero_mul],Nat.le_refl _,by unfold maxLen;omega,⟨_,e,dp,by simp⟩⟩
theorem AQ.Zq {ds:List (Nat×Nat)} {i:Nat} {d:Option Nat} {ty t t' e:TypeId} {pos:String} {af:Array Edge} {os:List Oper} {x y:Operand} {b b' o o' n:Nat} {e1 e2:TypeId} {TN rE:List AV} (aC:Nat.beq b b'=false) (cp:lk H b=some (.var (.cell e1) TN)) (fY:lk H b'=some (.var (.cell e2) rE))
  (ah:a7 C.n ({dst:=d,op:= .binOp .eql t x y t',type:=ty,pos:=pos,after:=af,guard:=none}::os)=true)
  (hx:ev E x=some (.ob b o)) (hy:ev E y=some (.ob b' o')) (ht:tk C.P t= .ptr e) (aO:sz C.P e=some (n+1))
  (h:vq C K os (aW d i ds) (i+1) (aY d (.im (.v (.bool false))) E) H):
  AQ C ds i ({dst:=d,op:= .binOp .eql t x y t',type:=ty,pos:=pos,after:=af,guard:=none}::os) K E H:=by
 refine AQ.val (.im (.v (.bool false))) ah rfl (fun φ I a w hs=>?_) h
 have eX:=aH hs.env hx
 have nn:=aH hs.env hy
 simp only[AV.den]at eX nn
 obtain⟨g,hg,hv⟩:=eX
 obtain⟨g',bO,jC⟩:=nn
 have cC:g≠g':=fun e=>by
  subst e
  have:=hs.st.real.inj b b' g hg bO
  subst this
  simp at aC
 have mj:=hs.st.real.own b _ _ cp hg
 have qF:=hs.st.real.own b' _ _ fY bO
 simp only[Ob.at,Sh.has]at mj qF
 obtain⟨q1,rp,WM,Co,_⟩:=mj
 obtain⟨q2,oR,iI,Cp,_⟩:=qF
 cases WM
 cases iI
 have WY:=run_sameAddr_other (P:=C.P) (w:=w) (a:=⟨g,o,none⟩) (b:=⟨g',o',none⟩) (fun e=>cC (by cases e;rfl)) Co Cp
 have hz:∀W,(sizeOf e).run C.P W= .ok _ W:=fun W=>run_sizeOf aO W
 have he:(Op.equal t (.pointer (some ⟨g,o,none⟩)) (.pointer (some ⟨g',o',none⟩))).run C.P w= .ok false w:=by
  have U:∀k,(Op.equalIn (k+1) t (.pointer (some ⟨g,o,none⟩)) (.pointer (some ⟨g',o',none⟩))).run C.P w= .ok false w:=fun k=>by
   simp[Op.equalIn,run_underlying (u5 ht),hz,WY]
  exact U 9999
 refine⟨.bool false,?_,by simp[AV.den,IV.den,Value.oneCell']⟩
 have hb:binOp .eql t (.pointer (some ⟨g,o,none⟩)) (.pointer (some ⟨g',o',none⟩))=(do pure (.bool (<-Op.equal t (.pointer (some ⟨g,o,none⟩)) (.pointer (some ⟨g',o',none⟩)))):Sem Value):=rfl
 simp only[execOp,hv,jC,Sem.run_bind,tG _ _ _ _ (.pointer (some ⟨g,o,none⟩)) _ (by simp) (by simp),Result.andThen_ok,hb,he,Sem.run_pure]
end
end Go.AL
end
section
namespace Go.AL
open Go Go.MapKept
def z8 (n:Nat) (bs:List Nat) (clock:Nat) (us:List Value):Obj:= .map (fS (us.take n) bs (us.drop n)).toArray clock
theorem Yx (n:Nat) (bs:List Nat) (clock:Nat) (us:List Value):xQ (z8 n bs clock us):= .inl ⟨_,_,rfl⟩
def k7 (ob:Ob) (ks vs:List AV):Prop:=∃bs clock,ob= .var (.raw (z8 ks.length bs clock)) (ks++vs)/\ks.length=bs.length/\vs.length=bs.length/\bs.Nodup/\∀n∈bs,n<clock
structure tg (P:Program) (kt:TypeId) (w:World) (us:List Value) (u:Value):Prop where
 nd:us.Nodup
 eq:∀v∈us,∃q,(Op.equal kt u v).run P w= .ok q w/\(q=true↔u=v)
 ck:∀e,(Instr.checkKey e 10000 kt u).run P w= .ok () w
 sb:Instr.sameBits 10000 u u=true
 nk:∃d,P.underlying kt=some d/\∀v∈us,Instr.sameNow d u v=none
theorem Qb {P:Program} {kt:TypeId} {w:World} {u:Value}:∀(es:List MapEntry) (i:Nat),(∀e∈es,∃q,(Op.equal kt u e.key).run P w= .ok q w/\(q=true↔u=e.key))->
  (u∉es.map (·.key)/\(Instr.findAsking kt u es i).run P w= .ok none w)\/∃j e,es[j]?=some e/\e.key=u/\(∀j'<j,∀e',es[j']?=some e'->e'.key≠u)/\(Instr.findAsking kt u es i).run P w= .ok (some (i+j,e.val)) w
 |[],i,_=> .inl ⟨by simp,by simp[Instr.findAsking]⟩
 |e::es,i,h=>by
  obtain⟨q,U,hq⟩:=h e (by simp)
  cases q with
  |true=>
   have hk:=hq.1 rfl
   exact .inr ⟨0,e,rfl,hk.symm,fun j' hj=>by omega,by simp only[Instr.findAsking,Sem.run_bind,U,Result.andThen_ok,if_true,Sem.run_pure,Nat.add_zero]⟩
  |false=>
   have hk:¬u=e.key:=fun e=>by cases hq.2 e
   rcases Qb es (i+1) (fun x hx=>h x (by simp[hx]))with⟨h2,h3⟩|⟨j,x,h2,h3,h4,h5⟩
   ·refine .inl ⟨?_,by simp only[Instr.findAsking,Sem.run_bind,U,Result.andThen_ok,Bool.false_eq_true,if_false,h3]⟩
    simp only[List.map_cons,List.mem_cons,not_or]
    exact⟨hk,h2⟩
   ·refine .inr ⟨j+1,x,by simpa using h2,h3,fun j' hj e' he=>?_,by
     simp only[Instr.findAsking,Sem.run_bind,U,Result.andThen_ok,Bool.false_eq_true,if_false,h5]
     rw[Nat.add_assoc,Nat.add_comm 1 j]⟩
    cases j' with
    |zero=>simp at he;subst he;exact fun e=>hk e.symm
    |succ j'=>exact h4 j' (by omega) e' (by simpa using he)
theorem DO {P:Program} {kt:TypeId} {w:World} {u:Value} {us:List Value} {es:List MapEntry} (hk:tg P kt w us u) (he:es.map (·.key)=us):
  (u∉us/\(Instr.findKey kt u es).run P w= .ok none w)\/∃j e,es[j]?=some e/\e.key=u/\us[j]?=some u/\(Instr.findKey kt u es).run P w= .ok (some (j,e.val)) w:=by
 subst he
 obtain⟨d,hd,hn⟩:=hk.nk
 cases es with
 |nil=>exact .inl ⟨by simp,by simp[Instr.findKey,run_underlying hd,Instr.findNow]⟩
 |cons e es=>
  have h0:Instr.findNow d u (e::es) 0=none:=by
   simp only[Instr.findNow,hn e.key (by simp)]
  rcases Qb (P:=P) (w:=w) (kt:=kt) (u:=u) (e::es) 0 (fun x hx=>hk.eq _ (List.mem_map.2 ⟨x,hx,rfl⟩))with⟨h2,h3⟩|⟨j,x,h2,h3,_,h5⟩
  ·exact .inl ⟨h2,by simp only[Instr.findKey,Sem.run_bind,run_underlying hd,Result.andThen_ok,h0,h3]⟩
  ·exact .inr ⟨j,x,h2,h3,by rw[List.getElem?_map,h2,<-h3];rfl,by simp only[Instr.findKey,Sem.run_bind,run_underlying hd,Result.andThen_ok,h0,h5,Nat.zero_add]⟩
theorem KE {w:World} {φ:ai} {I:Nat->Prop}:∀(xs ys:List AV) (us:List Value),AV.ab w φ I (xs++ys) us->∃a b,us=a++b/\AV.ab w φ I xs a/\AV.ab w φ I ys b
 |[],ys,us,h=>⟨[],us,rfl,by simp[AV.ab],h⟩
 |x::xs,ys,us,h=>by
  simp only[List.cons_append,AV.ab]at h
  obtain⟨u,ak,rfl,U,h2⟩:=h
  obtain⟨a,b,rfl,h3,h4⟩:=KE xs ys ak h2
  exact⟨u::a,b,rfl,by simp only[AV.ab];exact⟨u,a,rfl,U,h3⟩,h4⟩
theorem KG {w:World} {φ:ai} {I:Nat->Prop}:∀(xs ys:List AV) (a b:List Value),AV.ab w φ I xs a->AV.ab w φ I ys b->AV.ab w φ I (xs++ys) (a++b)
 |[],ys,a,b,h,g=>by simp only[AV.ab]at h;subst h;exact g
 |x::xs,ys,a,b,h,g=>by
  simp only[AV.ab]at h
  obtain⟨u,ak,rfl,U,h2⟩:=h
  simp only[List.cons_append,AV.ab]
  exact⟨u,_,rfl,U,KG xs ys ak b h2 g⟩
theorem Dy {w:World} {φ:ai} {I:Nat->Prop} {H:aa} {b:Nat} {ob:Ob} {ks vs:List AV} (hR:Real w φ I H) (hH:lk H b=some ob) (hp:k7 ob ks vs) {u:Value} (hu:AV.den w φ I (.mp b) u):
  ∃g es clock us ws,u= .map (some g)/\φ b=some (some g)/\w.heap[g]?=some (.map es clock)/\es.toList.map (·.key)=us/\es.toList.map (·.val)=ws/\AV.ab w φ I ks us/\AV.ab w φ I vs ws/\ru es clock:=by
 obtain⟨bs,clock,rfl,U,h2,h3,h4⟩:=hp
 simp only[AV.den]at hu
 obtain⟨g,hg,rfl⟩:=hu
 have:=hR.own b _ _ hH hg
 simp only[Ob.at,Sh.has,Sh.one]at this
 obtain⟨g',us,cC,⟨h5,_⟩,h6,_⟩:=this
 cases cC
 obtain⟨a,c,rfl,h7,h8⟩:=KE ks vs us h6
 have la:=p_ h7
 have lc:=p_ h8
 have ea:(a++c).take ks.length=a:=by rw[<-la];simp
 have ec:(a++c).drop ks.length=c:=by rw[<-la];simp
 rw[z8,ea,ec]at h5
 have k1:=Ef a bs c (by omega) (by omega)
 have k2:=Eg a bs c (by omega) (by omega)
 have k3:=xN a bs c (by omega) (by omega)
 refine⟨g,_,_,a,c,rfl,hg,h5,by simpa using k1,by simpa using k2,h7,h8,?_,fun e he=>h4 _ ?_⟩
 ·simpa[k3]using h3
 ·rw[<-k3];exact List.mem_map.2 ⟨e,by simpa using he,rfl⟩
theorem Iu {w:World} {φ:ai} {I:Nat->Prop} {g:Nat} {es:Array MapEntry} {clock:Nat} {ks vs:List AV} (hh:w.heap[g]?=some (.map es clock)) (hb:ru es clock) (hk:AV.ab w φ I ks (es.toList.map (·.key))) (hv:AV.ab w φ I vs (es.toList.map (·.val))):
  ∃ob,k7 ob ks vs/\ob.at w φ I (some g)/\ob= .var (.raw (z8 ks.length (es.toList.map (·.born)) clock)) (ks++vs):=by
 have la:=p_ hk
 have lc:=p_ hv
 rw[List.length_map]at la lc
 refine⟨_,⟨es.toList.map (·.born),clock,rfl,by rw[List.length_map];omega,by rw[List.length_map];omega,hb.1,fun n hn=>?_⟩,?_,rfl⟩
 ·obtain⟨e,he,rfl⟩:=List.mem_map.1 hn
  exact hb.2 e he
 ·simp only[Ob.at,Sh.has,Sh.one]
  refine⟨g,es.toList.map (·.key)++es.toList.map (·.val),rfl,⟨?_,Yx _ _ _ _⟩,KG _ _ _ _ hk hv,trivial⟩
  have e1:(es.toList.map (·.key)++es.toList.map (·.val)).take ks.length=es.toList.map (·.key):=by rw[<-la];simp
  have e2:(es.toList.map (·.key)++es.toList.map (·.val)).drop ks.length=es.toList.map (·.val):=by rw[<-la];simp
  rw[z8,e1,e2,Jq,hh]
section
variable {C:Cx} {K:List PK} {E:Env} {H:aa}
theorem AQ.Zp {ds:List (Nat×Nat)} {i:Nat} {rest:List Oper} (b:Nat) (hH:lk H b=some (.var (.map []) [])) (h:∀ob,k7 ob [] []->AQ C ds i rest K E (aN H b ob)):AQ C ds i rest K E H:=by
 unfold AQ at h⊢
 intro ops U h2 φ I a w hs
 have hd:=hs.st.real.bj b
 rw[hH]at hd
 obtain⟨p,hp⟩:=Option.isSome_iff_exists.1 hd
 have ho:=hs.st.real.own b _ p hH hp
 simp only[Ob.at,Sh.has,Sh.one,AV.ab]at ho
 obtain⟨g,us,rfl,⟨es,clock,h3,h4,h5,h6⟩,rfl,_⟩:=ho
 obtain⟨ob,h7,h8,_⟩:=Iu (φ:=φ) (I:=I) (ks:=[]) (vs:=[]) h3 h6 (by simp[AV.ab,h4]) (by simp[AV.ab,h5])
 exact h ob h7 ops U h2 _ _ _ _ ⟨hs.bD,hs.bA,hs.env,hs.st.told hH fun p' bH _=>by rw[hp]at bH;cases bH;exact h8⟩
theorem AQ.Dx (j:Nat) {ds:List (Nat×Nat)} {i:Nat} {d:Option Nat} {ty t kt et:TypeId} {pos:String} {af:Array Edge} {os:List Oper} {m k:Operand} {ok:Bool} {b:Nat} {ob:Ob} {ks vs:List AV} {kx x:AV}
  (ah:a7 C.n ({dst:=d,op:= .lookup t m k ok,type:=ty,pos:=pos,after:=af,guard:=none}::os)=true)
  (hm:ev E m=some (.mp b)) (hk:ev E k=some kx) (hH:lk H b=some ob) (hp:k7 ob ks vs) (ht:C.P.underlying t=some (.map kt et))
  (fi:∀φ I w us u,Real w φ I H->AV.ab w φ I ks us->AV.den w φ I kx u->tg C.P kt w us u/\us[j]?=some u) (hx:vs[j]?=some x)
  (h:vq C K os (aW d i ds) (i+1) (aY d (bif ok then .aG [x,.im (.v (.bool true))]else x) E) H):
  AQ C ds i ({dst:=d,op:= .lookup t m k ok,type:=ty,pos:=pos,after:=af,guard:=none}::os) K E H:=by
 refine AQ.val (bif ok then .aG [x,.im (.v (.bool true))]else x) ah rfl (fun φ I a w hs=>?_) h
 obtain⟨g,es,clock,us,ws,fj,hg,hh,aM,sf,qx,a8,jV⟩:=Dy hs.st.real hH hp (aH hs.env hm)
 obtain⟨kU,hj⟩:=fi φ I w us _ hs.st.real qx (aH hs.env hk)
 rcases DO kU aM with⟨U,_⟩|⟨j',e,U,h2,h3,h4⟩
 ·exact absurd (List.mem_of_getElem? hj) U
 ·have Gc:j'=j:=(List.getElem?_inj (List.getElem?_eq_some_iff.1 h3).1 kU.nd).1 (h3.trans hj.symm)
  subst Gc
  obtain⟨v,hv,a8⟩:=gP vs _ j' x a8 hx
  have Xg:v=e.val:=by rw[<-sf,List.getElem?_map,U]at hv;cases hv;rfl
  subst Xg
  have aB:(Instr.lookup t (a.eval m) (a.eval k) ok).run C.P w= .ok (if ok then .tuple #[e.val,.bool true]else e.val) w:=by
   rw[fj]
   cases ok<;>simp[Instr.lookup,run_underlying ht,MapKept.run_getObj_map hh,kU.ck,h4,Result.andThen]
  refine⟨if ok then .tuple #[e.val,.bool true]else e.val,by simp only[execOp,Sem.run_bind,Sem.run_map,aB,Result.andThen_ok,Sem.run_pure],?_⟩
  cases ok with
  |true=>simp only[cond_true,if_true,AV.den,AV.ab];exact⟨_,⟨_,_,rfl,a8,_,_,rfl,by simp only[IV.den];exact⟨trivial,rfl⟩,rfl⟩,rfl⟩
  |false=>simpa using a8
theorem AQ.Zo {ds:List (Nat×Nat)} {i:Nat} {d:Option Nat} {ty t kt et:TypeId} {pos:String} {af:Array Edge} {os:List Oper} {m k:Operand} {ok:Bool} {b:Nat} {ob:Ob} {ks vs:List AV} {kx zx:AV} {z:Value}
  (ah:a7 C.n ({dst:=d,op:= .lookup t m k ok,type:=ty,pos:=pos,after:=af,guard:=none}::os)=true)
  (hm:ev E m=some (.mp b)) (hk:ev E k=some kx) (hH:lk H b=some ob) (hp:k7 ob ks vs) (ht:C.P.underlying t=some (.map kt et))
  (fi:∀φ I w us u,Real w φ I H->AV.ab w φ I ks us->AV.den w φ I kx u->tg C.P kt w us u/\u∉us) (hz:(C.P.info? et).bind (·.zero)=some z) (NH:∀w φ I,AV.den w φ I zx z)
  (h:vq C K os (aW d i ds) (i+1) (aY d (bif ok then .aG [zx,.im (.v (.bool false))]else zx) E) H):
  AQ C ds i ({dst:=d,op:= .lookup t m k ok,type:=ty,pos:=pos,after:=af,guard:=none}::os) K E H:=by
 refine AQ.val (bif ok then .aG [zx,.im (.v (.bool false))]else zx) ah rfl (fun φ I a w hs=>?_) h
 obtain⟨g,es,clock,us,ws,fj,hg,hh,aM,sf,qx,a8,jV⟩:=Dy hs.st.real hH hp (aH hs.env hm)
 obtain⟨kU,hj⟩:=fi φ I w us _ hs.st.real qx (aH hs.env hk)
 rcases DO kU aM with⟨_,h4⟩|⟨j',e,U,h2,h3,h4⟩
 ·have zO:(zeroValue et).run C.P w= .ok z w:=by
   cases hi:C.P.info? et with
   |none=>rw[hi]at hz;cases hz
   |some inf=>
    rw[hi]at hz
    simp only[Option.bind_some]at hz
    simp[zeroValue,typeInfo,hi,hz]
  have aB:(Instr.lookup t (a.eval m) (a.eval k) ok).run C.P w= .ok (if ok then .tuple #[z,.bool false]else z) w:=by
   rw[fj]
   cases ok<;>simp[Instr.lookup,run_underlying ht,MapKept.run_getObj_map hh,kU.ck,h4,zO,Result.andThen]
  refine⟨if ok then .tuple #[z,.bool false]else z,by simp only[execOp,Sem.run_bind,Sem.run_map,aB,Result.andThen_ok,Sem.run_pure],?_⟩
  cases ok with
  |true=>simp only[cond_true,if_true,AV.den,AV.ab];exact⟨_,⟨_,_,rfl,NH w φ I,_,_,rfl,by simp only[IV.den];exact⟨trivial,rfl⟩,rfl⟩,rfl⟩
  |false=>simpa using NH w φ I
 ·exact absurd (List.mem_of_getElem? h3) hj
theorem AQ.Zs {ds:List (Nat×Nat)} {i:Nat} {ty t kt et:TypeId} {pos:String} {af:Array Edge} {os:List Oper} {m k x:Operand} {b:Nat} {ob:Ob} {ks vs:List AV} {kx xv:AV}
  (ah:a7 C.n ({dst:=none,op:= .mapUpdate t m k x,type:=ty,pos:=pos,after:=af,guard:=none}::os)=true)
  (hm:ev E m=some (.mp b)) (hk:ev E k=some kx) (hx:ev E x=some xv) (hH:lk H b=some ob) (hp:k7 ob ks vs) (ht:C.P.underlying t=some (.map kt et))
  (fi:∀φ I w us u,Real w φ I H->AV.ab w φ I ks us->AV.den w φ I kx u->tg C.P kt w us u/\u∉us)
  (h:∀mG,k7 mG (ks++[kx]) (vs++[xv])->vq C K os ds (i+1) E (aN H b mG)):
  AQ C ds i ({dst:=none,op:= .mapUpdate t m k x,type:=ty,pos:=pos,after:=af,guard:=none}::os) K E H:=by
 obtain⟨fB,bX⟩:=dM ah
 have bl:=fun mG bH=>AQ.go bX (h mG bH)
 unfold AQ at bl⊢
 refine AO.step fun ops φ I a w aQ _ hs Kn bE=>?_
 obtain⟨g,es,clock,us,ws,fj,hg,hh,aM,sf,qx,a8,jV⟩:=Dy hs.st.real hH hp (aH hs.env hm)
 have gB:=aH hs.env hk
 have eX:=aH hs.env hx
 obtain⟨kU,hj⟩:=fi φ I w us _ hs.st.real qx gB
 rcases DO kU aM with⟨_,h4⟩|⟨j',e,U,h2,h3,h4⟩
 ·rw[if_pos (by simp[Region.wanted])]
  unfold Oper.wp
  have ag:g<w.heap.size:=(hs.st.real.off b g hg).2
  have aB:(Instr.mapUpdate t (a.eval m) (a.eval k) (a.eval x)).run C.P w= .ok () (w.putObj g (.map (es.push {key:=a.eval k,val:=a.eval x,born:=clock}) (clock+1))):=by
   rw[fj]
   simp[Instr.mapUpdate,run_underlying ht,MapKept.run_getObj_map hh,kU.ck,h4,MapKept.run_setObj_map _ hh,Result.andThen,World.putObj]
  have ux:(execOp a.eval {dst:=none,op:= .mapUpdate t m k x,type:=ty,pos:=pos,after:=af,guard:=none}).run C.P w= .ok .skip (w.putObj g (.map (es.push {key:=a.eval k,val:=a.eval x,born:=clock}) (clock+1))):=by
   simp only[execOp,Sem.run_bind,Sem.run_map,aB,Result.andThen_ok,Sem.run_pure]
  rw[ux,Oper.upon_skip]
  have hK:=zV (φ:=φ) (I:=I) (o':= .map (es.push {key:=a.eval k,val:=a.eval x,born:=clock}) (clock+1)) hh (hs.st.real.off b g hg).1
  obtain⟨mG,bH,aP,_⟩:=Iu (φ:=φ) (I:=I) (ks:=ks++[kx]) (vs:=vs++[xv]) (World.putObj_heap_same (w:=w) (o:= .map (es.push {key:=a.eval k,val:=a.eval x,born:=clock}) (clock+1)) ag) (J6 jV)
   (by simpa[aM]using AV.fb hK.im hK.I hK.phi hK.sh _ _ (vD gB ks us qx))
   (by simpa[sf]using AV.fb hK.im hK.I hK.phi hK.sh _ _ (vD eX vs ws a8))
  obtain⟨hS,uf⟩:=hs.st.DC hg hh hH aP
  exact bE _ _ φ I _ _ (bl mG bH) (hs.put hS uf fB (v:= .top) (by simp only[AV.den]))
 ·exact absurd (List.mem_of_getElem? h3) hj
theorem AQ.Zr (j:Nat) {ds:List (Nat×Nat)} {i:Nat} {ty t kt et:TypeId} {pos:String} {af:Array Edge} {os:List Oper} {m k x:Operand} {b:Nat} {ob:Ob} {ks vs:List AV} {kx xv:AV}
  (ah:a7 C.n ({dst:=none,op:= .mapUpdate t m k x,type:=ty,pos:=pos,after:=af,guard:=none}::os)=true)
  (hm:ev E m=some (.mp b)) (hk:ev E k=some kx) (hx:ev E x=some xv) (hH:lk H b=some ob) (hp:k7 ob ks vs) (ht:C.P.underlying t=some (.map kt et))
  (fi:∀φ I w us u,Real w φ I H->AV.ab w φ I ks us->AV.den w φ I kx u->tg C.P kt w us u/\us[j]?=some u)
  (h:∀mG,k7 mG ks (vs.set j xv)->vq C K os ds (i+1) E (aN H b mG)):
  AQ C ds i ({dst:=none,op:= .mapUpdate t m k x,type:=ty,pos:=pos,after:=af,guard:=none}::os) K E H:=by
 obtain⟨fB,bX⟩:=dM ah
 have bl:=fun mG bH=>AQ.go bX (h mG bH)
 unfold AQ at bl⊢
 refine AO.step fun ops φ I a w aQ _ hs Kn bE=>?_
 obtain⟨g,es,clock,us,ws,fj,hg,hh,aM,sf,qx,a8,jV⟩:=Dy hs.st.real hH hp (aH hs.env hm)
 have gB:=aH hs.env hk
 have eX:=aH hs.env hx
 obtain⟨kU,hj⟩:=fi φ I w us _ hs.st.real qx gB
 rcases DO kU aM with⟨U,_⟩|⟨j',e,U,h2,h3,h4⟩
 ·exact absurd (List.mem_of_getElem? hj) U
 ·have Gc:j'=j:=(List.getElem?_inj (List.getElem?_eq_some_iff.1 h3).1 kU.nd).1 (h3.trans hj.symm)
  subst Gc
  rw[if_pos (by simp[Region.wanted])]
  unfold Oper.wp
  have ag:g<w.heap.size:=(hs.st.real.off b g hg).2
  have iG:es[j']?=some e:=by simpa using U
  have aB:(Instr.mapUpdate t (a.eval m) (a.eval k) (a.eval x)).run C.P w= .ok () (w.putObj g (.map (es.modify j' fun e=>{e with key:=a.eval k,val:=a.eval x}) clock)):=by
   rw[fj]
   simp[Instr.mapUpdate,Instr.keyThatStays,run_underlying ht,MapKept.run_getObj_map hh,kU.ck,h4,iG,h2,kU.sb,MapKept.run_setObj_map _ hh,Result.andThen,World.putObj]
  have ux:(execOp a.eval {dst:=none,op:= .mapUpdate t m k x,type:=ty,pos:=pos,after:=af,guard:=none}).run C.P w= .ok .skip (w.putObj g (.map (es.modify j' fun e=>{e with key:=a.eval k,val:=a.eval x}) clock)):=by
   simp only[execOp,Sem.run_bind,Sem.run_map,aB,Result.andThen_ok,Sem.run_pure]
  rw[ux,Oper.upon_skip]
  have ui:(es.modify j' fun e=>{e with key:=a.eval k,val:=a.eval x}).toList=es.toList.set j' {e with key:=a.eval k,val:=a.eval x}:=by
   rw[Array.toList_modify]
   exact AQ.HV.HT U
  have hK:=zV (φ:=φ) (I:=I) (o':= .map (es.modify j' fun e=>{e with key:=a.eval k,val:=a.eval x}) clock) hh (hs.st.real.off b g hg).1
  obtain⟨mG,bH,aP,_⟩:=Iu (φ:=φ) (I:=I) (ks:=ks) (vs:=vs.set j' xv) (World.putObj_heap_same (w:=w) (o:= .map (es.modify j' fun e=>{e with key:=a.eval k,val:=a.eval x}) clock) ag) (J7 U ui jV)
   (
    by
    have e1:(es.modify j' fun e=>{e with key:=a.eval k,val:=a.eval x}).toList.map (·.key)=us:=by
     rw[ui,List.map_set,aM];exact AQ.HV.IN h3
    rw[e1]
    exact AV.fb hK.im hK.I hK.phi hK.sh _ _ qx)
   (
    by
    have e1:(es.modify j' fun e=>{e with key:=a.eval k,val:=a.eval x}).toList.map (·.val)=ws.set j' (a.eval x):=by
     rw[ui,List.map_set,sf]
    rw[e1]
    exact AV.fb hK.im hK.I hK.phi hK.sh _ _ (EU eX vs ws j' a8))
  obtain⟨hS,uf⟩:=hs.st.DC hg hh hH aP
  exact bE _ _ φ I _ _ (bl mG bH) (hs.put hS uf fB (v:= .top) (by simp only[AV.den]))
end
theorem Zn {P:Program} {kt e:TypeId} {n:Nat} {w:World} {φ:ai} {I:Nat->Prop} {H:aa} (ht:P.underlying kt=some (.pointer e)) (aO:sz P e=some (n+1)) {is:List Nat} {i:Nat} {us:List Value} {u:Value}
  (hR:Real w φ I H) (bS:is.Nodup) (hc:∀j∈i::is,∃e cs,lk H j=some (.var (.cell e) cs)) (dI:AV.ab w φ I (is.map fun j=> .ob j 0) us) (hu:AV.den w φ I (.ob i 0) u):
  tg P kt w us u/\(i∉is->u∉us)/\∀j:Nat,is[j]?=some i->us[j]?=some u:=by
 simp only[AV.den]at hu
 obtain⟨g,hg,rfl⟩:=hu
 have yY:∀v∈us,∃j∈is,∃g',φ j=some (some g')/\v= .pointer (some ⟨g',0,none⟩):=by
  clear bS hc
  induction is generalizing us with
  |nil=>intro v hv;simp only[List.map_nil,AV.ab]at dI;subst dI;cases hv
  |cons j is ih=>
   intro v hv
   simp only[List.map_cons,AV.ab,AV.den]at dI
   obtain⟨u0,ak,rfl,⟨g',U,rfl⟩,h2⟩:=dI
   rcases List.mem_cons.1 hv with rfl|hv
   ·exact⟨j,by simp,g',U,rfl⟩
   ·obtain⟨j',h3,h4⟩:=ih h2 v hv
    exact⟨j',by simp[h3],h4⟩
 have Cm:∀(j i':Nat),is[j]?=some i'->∀g',φ i'=some (some g')->us[j]?=some (.pointer (some ⟨g',0,none⟩)):=fun j i' hj g' bO=>by
  obtain⟨v,hv,hd⟩:=gP _ us j (.ob i' 0) dI (by rw[List.getElem?_map,hj];rfl)
  simp only[AV.den]at hd
  obtain⟨g2,h2,rfl⟩:=hd
  rw[bO]at h2;cases h2
  exact hv
 have zj:us.Nodup:=by
  clear Cm yY hc
  induction is generalizing us with
  |nil=>simp only[List.map_nil,AV.ab]at dI;subst dI;exact List.nodup_nil
  |cons j is ih=>
   simp only[List.map_cons,AV.ab,AV.den]at dI
   obtain⟨u0,ak,rfl,⟨g',U,rfl⟩,h2⟩:=dI
   rw[List.nodup_cons]at bS⊢
   refine⟨fun hm=>bS.1 ?_,ih bS.2 h2⟩
   have:∀(l:List Nat) (us:List Value),AV.ab w φ I (l.map fun j=> .ob j 0) us-> .pointer (some ⟨g',0,none⟩)∈us->j∈l:=by
    intro l
    induction l with
    |nil=>intro us h hm;simp only[List.map_nil,AV.ab]at h;subst h;cases hm
    |cons x l ih=>
     intro us h hm
     simp only[List.map_cons,AV.ab,AV.den]at h
     obtain⟨u0,ak,rfl,⟨g2,h3,rfl⟩,h4⟩:=h
     rcases List.mem_cons.1 hm with h5|h5
     ·cases h5
      exact hR.inj x j _ h3 U▸by simp
     ·exact List.mem_cons_of_mem _ (ih ak h4 h5)
   exact this is ak h2 hm
 have dp:∀j∈i::is,∀g',φ j=some (some g')->∃c t,w.heap[g']?=some (.cells c t (0,0)):=fun j hj g' bO=>by
  obtain⟨e,cs,U⟩:=hc j hj
  have:=hR.own j _ _ U bO
  simp only[Ob.at,Sh.has]at this
  obtain⟨q,us,hq,hh,_⟩:=this
  cases hq
  exact⟨_,_,hh⟩
 have hz:∀W,(sizeOf e).run P W= .ok _ W:=fun W=>run_sizeOf aO W
 refine⟨⟨zj,fun v hv=>?_,fun e=>?_,?_,⟨_,ht,fun v hv=>?_⟩⟩,fun hi hu=>?_,fun j hj=>Cm j i hj g hg⟩
 ·obtain⟨j,hj,g',bO,rfl⟩:=yY v hv
  obtain⟨c1,t1,U⟩:=dp i (by simp) g hg
  obtain⟨c2,t2,h2⟩:=dp j (by simp[hj]) g' bO
  by_cases cC:g=g'
  ·subst cC
   have h3:∀k,(Op.equalIn (k+1) kt (.pointer (some ⟨g,0,none⟩)) (.pointer (some ⟨g,0,none⟩))).run P w= .ok true w:=fun k=>by
    simp[Op.equalIn,run_underlying ht,hz,run_sameAddr_same]
   exact⟨true,h3 9999,by simp⟩
  ·have h3:∀k,(Op.equalIn (k+1) kt (.pointer (some ⟨g,0,none⟩)) (.pointer (some ⟨g',0,none⟩))).run P w= .ok false w:=fun k=>by
    simp[Op.equalIn,run_underlying ht,hz,run_sameAddr_other (P:=P) (w:=w) (a:=⟨g,0,none⟩) (b:=⟨g',0,none⟩) (fun e=>cC (by cases e;rfl)) U h2]
   have:¬(Value.pointer (some ⟨g,0,none⟩)= .pointer (some ⟨g',0,none⟩)):=fun e=>cC (by cases e;rfl)
   exact⟨false,h3 9999,by simp[this]⟩
 ·have h3:∀k,(Instr.checkKey e (k+1) kt (.pointer (some ⟨g,0,none⟩))).run P w= .ok () w:=fun k=>by simp[Instr.checkKey,run_underlying ht]
  exact h3 9999
 ·have h3:∀k,Instr.sameBits k (.pointer (some ⟨g,0,none⟩)) (.pointer (some ⟨g,0,none⟩))=true:=fun k=>by simp[Instr.sameBits]
  exact h3 10000
 ·obtain⟨j,hj,g',bO,rfl⟩:=yY v hv
  rfl
 ·obtain⟨j,hj,g',bO,h2⟩:=yY _ hu
  cases h2
  exact hi (hR.inj i j g hg bO▸hj)
end Go.AL
end
section
namespace Go.AL
open Go
def Ob.men (b:Nat):Ob->Bool
 | .var _ cs=>AV.mens b cs
 | .vec _ _ _=>false
 | .lp _ _ _ _ _ _ E=>menE b E
def jN:aa->aa
 |[]=>[]
 |(j,o)::r=>(j,o)::(jN r).filter fun p=>!Nat.beq p.1 j
theorem HC (j:Nat):∀(H:aa) (b:Nat),b≠j->lk (H.filter fun p=>!Nat.beq p.1 j) b=lk H b
 |[],_,_=>rfl
 |(k,o)::r,b,hb=>by
  rw[List.filter_cons]
  cases hk:Nat.beq k j with
  |true=>
   have:=Nat.eq_of_beq_eq_true hk
   subst this
   have U:Nat.beq k b=false:=by
    cases hq:Nat.beq k b with
    |false=>rfl
    |true=>exact absurd (Nat.eq_of_beq_eq_true hq).symm hb
   simp only[hk,Bool.not_true,Bool.false_eq_true,if_false,lk,U,cond_false]
   exact HC k r b hb
  |false=>
   simp only[hk,Bool.not_false,if_true,lk]
   rw[HC j r b hb]
theorem uH:∀(H:aa) (b:Nat),lk (jN H) b=lk H b
 |[],_=>rfl
 |(j,o)::r,b=>by
  simp only[jN,lk]
  cases hb:Nat.beq j b with
  |true=>rfl
  |false=>
   simp only[cond_false]
   rw[HC j _ b (fun e=>by subst e;simp at hb),uH r b]
theorem EN:∀(H:aa) (p:Nat×Ob),p∈jN H->lk H p.1=some p.2
 |[],_,h=>by cases h
 |(j,o)::r,p,h=>by
  simp only[jN,List.mem_cons,List.mem_filter]at h
  simp only[lk]
  rcases h with rfl|⟨U,h2⟩
  ·simp
  ·have:Nat.beq j p.1=false:=by
    cases hq:Nat.beq j p.1 with
    |false=>rfl
    |true=>rw[<-Nat.eq_of_beq_eq_true hq]at h2;simp at h2
   rw[this]
   simpa using EN r p U
theorem OY {b:Nat}:∀H:aa,(∀p∈H,p.2.men b=false)->noMen b H=true
 |[],_=>rfl
 |(j,o)::r,h=>by
  have U:=h (j,o) (by simp)
  have h2:=OY r fun p hp=>h p (by simp[hp])
  cases o with
  |var _ _=>simp only[noMen,Bool.and_eq_true,Bool.not_eq_true'];exact⟨U,h2⟩
  |vec _ _ _=>simpa only[noMen]using h2
  |lp _ _ _ _ _ _ _=>simp only[noMen,Bool.and_eq_true,Bool.not_eq_true'];exact⟨U,h2⟩
theorem OZ {b:Nat} {H:aa} (h:∀j o,lk H j=some o->o.men b=false):noMen b (jN H)=true:=OY _ fun p hp=>h p.1 p.2 (EN H p hp)
def lW (e:TypeId):List AV->Ob
 |[]=> .vec e 1 []
 |c::r=> .var (.row e) (c::r)
theorem Ho (b:Nat):∀cs:List AV,AV.mens b (iO b cs)=false
 |[]=>rfl
 |x::cs=>by
  simp only[iO]
  cases hm:x.men b with
  |true=>simp only[cond_true,AV.mens,AV.men,Bool.false_or];exact Ho b cs
  |false=>simp only[cond_false,AV.mens,hm,Bool.false_or];exact Ho b cs
theorem Hp {b:Nat}:∀{cs:List AV},AV.mens b cs=false->iO b cs=cs
 |[],_=>rfl
 |x::cs,h=>by
  simp only[AV.mens,Bool.or_eq_false_iff]at h
  simp only[iO,h.1,cond_false,Hp h.2]
theorem Hq (b:Nat):∀E:Env,menE b (killE b E)=false
 |[]=>rfl
 |(i,x)::r=>by
  simp only[killE]
  cases hm:x.men b with
  |true=>simp only[cond_true,menE,AV.men,Bool.false_or];exact Hq b r
  |false=>simp only[cond_false,menE,hm,Bool.false_or];exact Hq b r
theorem N6 {b:Nat}:∀{E:Env},menE b E=false->killE b E=E
 |[],_=>rfl
 |(i,x)::r,h=>by
  simp only[menE,Bool.or_eq_false_iff]at h
  simp only[killE,h.1,cond_false,N6 h.2]
theorem Hu (b:Nat):∀o:Ob,(eZ b o).men b=false
 | .var e cs=>Ho b cs
 | .vec _ _ _=>rfl
 | .lp _ _ _ _ _ _ E=>Hq b E
theorem j9 {b:Nat}:∀{o:Ob},o.men b=false->eZ b o=o
 | .var e cs,h=>by simp only[eZ,Hp (show AV.mens b cs=false from h)]
 | .vec _ _ _,_=>rfl
 | .lp _ _ _ _ _ _ E,h=>by simp only[eZ,N6 (show menE b E=false from h)]
theorem ZP {b:Nat} {e:TypeId} {cs:List AV} (h:AV.mens b cs=false):(lW e cs).men b=false:=by
 cases cs with
 |nil=>rfl
 |cons _ _=>exact h
def kC (nb:Nat) (o:Ob):Prop:=∀x,nb<=x->o.men x=false
theorem kC.mono {nb sK:Nat} {o:Ob} (h:kC nb o) (hn:nb<=sK):kC sK o:=fun x hx=>h x (Nat.le_trans hn hx)
section
variable {C:Cx} {K:List PK} {E:Env} {H:aa}
theorem AQ.ZC {ds:List (Nat×Nat)} {i:Nat} {d:Nat} {ty:TypeId} {pos:String} {af:Array Edge} {os:List Oper} {x y:Operand} {t e:TypeId} {b n bytes:Nat} {cs:List AV} {zv:AV} {b2:Nat} {e2:TypeId} (hnb:C.B.nb<=b)
  (ah:a7 C.n ({dst:=some d,op:= .call {callee:= .builtin .append,args:=#[x,y],argTypes:=#[t,t]},type:=ty,pos:=pos,after:=af,guard:=none}::os)=true)
  (hx:ev E x=some (.os b 1 0 n)) (hy:ev E y=some (.os b2 1 0 1)) (qq:lk H b2=some (.var (.row e2) [zv])) (hH:lk H b=some (lW e cs)) (hm:AV.mens b cs=false) (NF:zv.men b=false)
  (ht:tk C.P t= .slice e) (bW:sz C.P e=some 1) (hz:(aA C.P e).map List.length=some 1) (fA:aI C.P e=some bytes)
  (hn:n=cs.length) (cp:(cs.length+1)*bytes<=140737488355328) (fY:cs.length+1<=70368744177664)
  (h:∀H',lk H' b=some (lW e (cs++[zv]))->(∀j,j≠b->lk H' j=(lk H j).map (eZ b))->vq C K os ((i,d)::ds) (i+1) ((d,.os b 1 0 (cs.length+1))::killE b E) H'):
  AQ C ds i ({dst:=some d,op:= .call {callee:= .builtin .append,args:=#[x,y],argTypes:=#[t,t]},type:=ty,pos:=pos,after:=af,guard:=none}::os) K E H:=by
 refine AQ.kill b ?_
 refine AQ.dF (jN (j8 b H)) (fun b=>(uH _ b).symm) ?_
 have cH:∀j,lk (jN (j8 b H)) j=(lk H j).map (eZ b):=fun j=>(uH _ j).trans (sD H j)
 have a6:noMen b (jN (j8 b H))=true:=OZ fun j o ho=>by
  rw[sD]at ho
  cases hj:lk H j with
  |none=>rw[hj]at ho;cases ho
  |some o1=>rw[hj]at ho;cases ho;exact Hu b o1
 have nY:=cH b
 rw[hH,Option.map_some,j9 (ZP hm)]at nY
 have FB:=cH b2
 rw[qq,Option.map_some,j9 (by simp only[Ob.men,AV.mens,NF,Bool.or_false])]at FB
 have hR:=fun o=>h (aN (jN (j8 b H)) b o)
 have py:∀o j,j≠b->lk (aN (jN (j8 b H)) b o) j=(lk H j).map (eZ b):=fun o j hj=>(cm _ b j o hj).trans (cH j)
 have Cy:=Nat.ble_eq_true_of_le hnb
 cases cs with
 |nil=>
  subst hn
  exact AQ.ZE Cy ah hx hy FB nY a6 ht bW hz fA (by simpa using cp) (hR _ (cV _ b _ nY) (py _))
 |cons c r=>
  refine AQ.ZD Cy ah hx hy FB nY a6 ht bW hz fA hn cp fY (hR _ ?_ (py _))
  rw[cV _ b _ nY]
  rfl
end
abbrev nU (u:Value):AV:= .wr (.exact u) .top
theorem TO {w:World} {φ:ai} {I:Nat->Prop} {u v:Value}:AV.den w φ I (nU u) v↔v=u:=by
 simp only[AV.den,WK.rel]
 exact⟨fun⟨_,h,_⟩=>h.1,fun h=>⟨u,⟨h,h▸rfl⟩,trivial⟩⟩
theorem ET {w:World} {φ:ai} {I:Nat->Prop}:∀(us vs:List Value),AV.ab w φ I (us.map nU) vs↔vs=us
 |[],vs=>by simp[AV.ab]
 |u::us,vs=>by
  simp only[List.map_cons,AV.ab,TO,ET us]
  exact⟨fun⟨_,_,U,h2,h3⟩=>by subst h2;subst h3;exact U,fun h=>⟨u,us,h,rfl,rfl⟩⟩
theorem OL (b:Nat):∀us:List Value,AV.mens b (us.map nU)=false
 |[]=>rfl
 |u::us=>by simp only[List.map_cons,AV.mens,AV.men,OL b us,Bool.or_false]
section
variable {C:Cx} {K:List PK} {E:Env} {H:aa}
theorem AQ.uU {ds:List (Nat×Nat)} {i:Nat} {d:Option Nat} {ty t e e':TypeId} {pos:String} {af:Array Edge} {os:List Oper} {p:Operand} {b j:Nat} {cs:List AV} {y:AV}
  (ah:a7 C.n ({dst:=d,op:= .load t p,type:=ty,pos:=pos,after:=af,guard:=none}::os)=true)
  (hp:ev E p=some (.oe b 1 j 0)) (hH:lk H b=some (lW e cs)) (hy:cs[j]?=some y) (ht:tk C.P t= .ptr e') (aO:sz C.P t=some 1)
  (h:vq C K os (aW d i ds) (i+1) (aY d y E) H):
  AQ C ds i ({dst:=d,op:= .load t p,type:=ty,pos:=pos,after:=af,guard:=none}::os) K E H:=by
 obtain⟨c,r,rfl⟩:∃c r,cs=c::r:=by
  cases cs with
  |nil=>simp at hy
  |cons c r=>exact⟨c,r,rfl⟩
 replace hH:lk H b=some (.var (.row e) (c::r)):=hH
 refine AQ.val y ah rfl (fun φ I a w hs=>?_) h
 obtain⟨us,gY,hlen,tQ⟩:=hs.st.DK hH
 obtain⟨v,hv,a8⟩:=gP _ us j y gY hy
 have Cv:lk (aN H b (.vec e 1 (lits us))) b=some (.vec e 1 (lits us)):=cV H b _ hH
 have pg:j<us.length:=by rw[hlen];exact(List.getElem?_eq_some_iff.1 hy).1
 have hl:tj C.P (aN H b (.vec e 1 (lits us))) t (.oe b 1 j 0)=some ((j<(lits us).length/\0+1<=1),.im (.v v)):=by
  unfold tj
  simp only[Cv,aO,Nat.beq_refl,cond_true,Yh hv,List.drop_zero,List.take_succ_cons,List.take_zero,sJ,ht,pJ,TK.agg,cond_false,List.map_cons,List.map_nil]
 obtain⟨u,aB,aS⟩:=Ep tQ.real hl ⟨by rw[uF];exact pg,Nat.le_refl _⟩ (aH hs.env hp)
 simp only[AV.den,IV.den]at aS
 obtain⟨rfl,_⟩:=aS
 exact⟨u,by simp only[execOp,Sem.run_bind,Sem.run_map,aB,Result.andThen_ok,Sem.run_pure],a8⟩
end
mutual
theorem BM {b es:Nat} {rows:List (List IV)}:∀x:AV,x.men b=false->dN b es rows x=x/\eh b rows x
 | .os b' _ _ _,h=>by simp only[AV.men]at h;simp only[dN,eh,h,cond_false];exact⟨trivial,trivial⟩
 | .oe b' _ _ _,h=>by simp only[AV.men]at h;simp only[dN,eh,h,cond_false];exact⟨trivial,trivial⟩
 | .ob b' _,h=>by simp only[AV.men]at h;simp only[dN,eh,h,cond_false];exact⟨trivial,trivial⟩
 | .fn f fs aF,h=>by
  simp only[AV.men,Bool.or_eq_false_iff]at h
  have U:=rN (es:=es) (rows:=rows) fs h.1
  have h2:=rN (es:=es) (rows:=rows) aF h.2
  simp only[dN,eh,U.1,h2.1]
  exact⟨trivial,U.2,h2.2⟩
 | .agg cs,h=>by
  simp only[AV.men]at h
  have U:=rN (es:=es) (rows:=rows) cs h
  simp only[dN,eh,U.1]
  exact⟨trivial,U.2⟩
 | .aG cs,h=>by
  simp only[AV.men]at h
  have U:=rN (es:=es) (rows:=rows) cs h
  simp only[dN,eh,U.1]
  exact⟨trivial,U.2⟩
 | .opt g x,h=>by
  simp only[AV.men]at h
  have U:=BM (es:=es) (rows:=rows) x h
  simp only[dN,eh,U.1]
  exact⟨trivial,U.2⟩
 | .wr k x,h=>by
  simp only[AV.men]at h
  have U:=BM (es:=es) (rows:=rows) x h
  simp only[dN,eh,U.1]
  exact⟨trivial,U.2⟩
 | .im _,_=>⟨rfl,trivial⟩
 | .ar _,_=>⟨rfl,trivial⟩
 | .top,_=>⟨rfl,trivial⟩
 | .mp b',h=>by simp only[AV.men]at h;simp only[dN,eh,h,cond_false];exact⟨trivial,trivial⟩
theorem rN {b es:Nat} {rows:List (List IV)}:∀xs:List AV,AV.mens b xs=false->gy b es rows xs=xs/\fx b rows xs
 |[],_=>⟨rfl,trivial⟩
 |x::xs,h=>by
  simp only[AV.mens,Bool.or_eq_false_iff]at h
  have U:=BM (es:=es) (rows:=rows) x h.1
  have h2:=rN (es:=es) (rows:=rows) xs h.2
  simp only[gy,fx,U.1,h2.1]
  exact⟨trivial,U.2,h2.2⟩
end
theorem LA {b es:Nat} {rows:List (List IV)}:∀E:Env,menE b E=false->kM b es rows E=E/\kN b rows E
 |[],_=>⟨rfl,trivial⟩
 |(i,x)::r,h=>by
  simp only[menE,Bool.or_eq_false_iff]at h
  have U:=BM (es:=es) (rows:=rows) x h.1
  have h2:=LA (es:=es) (rows:=rows) r h.2
  simp only[kM,kN,U.1,h2.1]
  exact⟨trivial,U.2,h2.2⟩
def tK (b:Nat) (rows:List (List IV)):Ob->Prop
 | .var _ cs=>fx b rows cs
 | .vec _ _ _=>True
 | .lp _ _ _ _ _ _ E=>kN b rows E
theorem Fi {b es:Nat} {rows:List (List IV)}:∀{o:Ob},o.men b=false->lC b es rows o=o/\tK b rows o
 | .var e cs,h=>by have:=rN (es:=es) (rows:=rows) cs h;simp only[lC,this.1];exact⟨trivial,this.2⟩
 | .vec _ _ _,_=>⟨rfl,trivial⟩
 | .lp _ _ _ _ _ _ E,h=>by have:=LA (es:=es) (rows:=rows) E h;simp only[lC,this.1];exact⟨trivial,this.2⟩
theorem LB {b:Nat} {rows:List (List IV)}:∀H:aa,(∀p∈H,tK b rows p.2)->jS b rows H
 |[],_=>trivial
 |(j,o)::r,h=>by
  have U:=h (j,o) (by simp)
  have h2:=LB r fun p hp=>h p (by simp[hp])
  cases o with
  |var _ _=>exact⟨U,h2⟩
  |vec _ _ _=>exact h2
  |lp _ _ _ _ _ _ _=>exact⟨U,h2⟩
def j_ (S:List Nat) (b:Nat):aa->aa
 |[]=>[]
 |(j,o)::r=>(j,if j∈S then o else eZ b o)::j_ S b r
theorem wO {S:List Nat} {b:Nat}:∀(H:aa) (j:Nat),lk (j_ S b H) j=(lk H j).map fun o=>if j∈S then o else eZ b o
 |[],_=>rfl
 |(k,o)::r,j=>by
  simp only[j_,lk]
  cases hq:Nat.beq k j with
  |true=>have:=Nat.eq_of_beq_eq_true hq;subst this;rfl
  |false=>simpa using wO r j
theorem XX {w:World} {φ:ai} {I:Nat->Prop} {b:Nat} {p:Option Nat}:∀{o:Ob},o.at w φ I p->(eZ b o).at w φ I p
 | .var e cs,h=>by
  simp only[Ob.at,eZ]at h⊢
  obtain⟨g,us,U,h2,h3,h4⟩:=h
  exact⟨g,us,U,h2,C6 cs us h3,h4⟩
 | .vec _ _ _,h=>h
 | .lp l n st fn q ps E,h=>by
  simp only[Ob.at,eZ]at h⊢
  obtain⟨h0,T,D,cf,U,h2,h3⟩:=h
  refine⟨h0,T,D,cf,U,h2,fun i x hx=>?_⟩
  obtain⟨y,hy,iL⟩:=pF (w:=w) (φ:=φ) (φ':=φ) (I:=I) (b:=b) (fun _ _=>rfl) E i x hx
  obtain⟨u,hu,hd⟩:=h3 i y hy
  exact⟨u,hu,iL u hd⟩
theorem St.j_ {B:Bs} {φ:ai} {I:Nat->Prop} {H:aa} {w:World} (h:St B φ I H w) (S:List Nat) (b:Nat):St B φ I (j_ S b H) w:=by
 refine⟨⟨fun j=>?_,fun j o p hl hp=>?_,h.real.off,h.real.inj,h.real.bM⟩,h.ext,h.b9,h.cZ,h.cj,fun j p o ag h0 hl=>?_⟩
 ·rw[wO,Option.isSome_map];exact h.real.bj j
 ·rw[wO]at hl
  cases hq:lk H j with
  |none=>rw[hq]at hl;cases hl
  |some o1=>
   rw[hq]at hl
   simp only[Option.map_some,Option.some.injEq]at hl
   have:=h.real.own j o1 p hq hp
   subst hl
   split
   ·exact this
   ·exact XX this
 ·rw[wO]at hl
  cases hq:lk H j with
  |none=>rw[hq]at hl;cases hl
  |some o1=>exact h.cE j p o1 ag h0 hq
section
variable {C:Cx} {K:List PK} {E:Env} {H:aa}
theorem AE.j_ {e:Exit} (S:List Nat) (b:Nat) (h:AE C e K E (j_ S b H)):AE C e K E H:=by
 unfold AE at h⊢
 exact fun φ I a w hs=>h _ _ _ _ ⟨hs.bD,hs.bA,hs.env,hs.st.j_ S b⟩
theorem AQ.j_ {ds:List (Nat×Nat)} {i:Nat} {rest:List Oper} (S:List Nat) (b:Nat) (h:AQ C ds i rest K E (j_ S b H)):AQ C ds i rest K E H:=by
 unfold AQ at h⊢
 exact fun ops U h2 φ I a w hs=>h ops U h2 _ _ _ _ ⟨hs.bD,hs.bA,hs.env,hs.st.j_ S b⟩
theorem LD {b es:Nat} {rows:List (List IV)} {el:TypeId} {S:List Nat} (hl:lk H b=some (.vec el es rows)) (hS:∀j∈S,∀o,lk H j=some o->tK b rows o):
  ∃H0:aa,(∀j,lk (j_ S b H) j=lk H0 j)/\lk H0 b=some (.vec el es rows)/\jS b rows H0/\(∀j∈S,j≠b->lk (fL b es rows H0) j=(lk H j).map (lC b es rows))/\
   (∀j o,j≠b->lk H j=some o->o.men b=false->lk (fL b es rows H0) j=some o)/\∀j,j≠b->(lk (fL b es rows H0) j).isSome=(lk H j).isSome:=by
 have cH:∀j,lk (jN (Go.AL.j_ S b H)) j=(lk H j).map fun o=>if j∈S then o else eZ b o:=fun j=>(uH _ j).trans (wO H j)
 refine⟨jN (Go.AL.j_ S b H),fun j=>(uH _ j).symm,?_,LB _ fun p hp=>?_,fun j hj aC=>?_,fun j o aC hj hm=>?_,fun j aC=>?_⟩
 ·rw[cH,hl,Option.map_some]
  split<;>rfl
 ·have U:=EN _ p hp
  rw[wO]at U
  cases hj:lk H p.1 with
  |none=>rw[hj]at U;cases U
  |some o=>
   rw[hj]at U
   simp only[Option.map_some,Option.some.injEq]at U
   rw[<-U]
   split
   ·rename_i hm;exact hS _ hm o hj
   ·exact(Fi (es:=es) (Hu b o)).2
 ·rw[nz _ _ aC,cH]
  cases lk H j with
  |none=>rfl
  |some o=>simp only[Option.map_some,if_pos hj]
 ·rw[nz _ _ aC,cH,hj]
  simp only[Option.map_some]
  split
  ·rw[(Fi hm).1]
  ·rw[j9 hm,(Fi hm).1]
 ·rw[nz _ _ aC,cH,Option.isSome_map,Option.isSome_map]
theorem AE.Ff {e:Exit} (b:Nat) (S:List Nat) {el:TypeId} {es:Nat} {rows:List (List IV)} (hl:lk H b=some (.vec el es rows)) (hS:∀j∈S,∀o,lk H j=some o->tK b rows o) (nX:kN b rows E)
  (h:∀H',(∀j∈S,j≠b->lk H' j=(lk H j).map (lC b es rows))->(∀j o,j≠b->lk H j=some o->o.men b=false->lk H' j=some o)->(∀j,j≠b->(lk H' j).isSome=(lk H j).isSome)->AE C e K (kM b es rows E) H'):AE C e K E H:=by
 obtain⟨H0,U,h2,h3,h4,h5,h6⟩:=LD (es:=es) hl hS
 exact AE.j_ S b (AE.dF H0 U (AE.freeze b h2 h3 nX (h _ h4 h5 h6)))
theorem AQ.Ff {ds:List (Nat×Nat)} {i:Nat} {rest:List Oper} (b:Nat) (S:List Nat) {el:TypeId} {es:Nat} {rows:List (List IV)} (hl:lk H b=some (.vec el es rows)) (hS:∀j∈S,∀o,lk H j=some o->tK b rows o) (nX:kN b rows E)
  (h:∀H',(∀j∈S,j≠b->lk H' j=(lk H j).map (lC b es rows))->(∀j o,j≠b->lk H j=some o->o.men b=false->lk H' j=some o)->(∀j,j≠b->(lk H' j).isSome=(lk H j).isSome)->AQ C ds i rest K (kM b es rows E) H'):AQ C ds i rest K E H:=by
 obtain⟨H0,U,h2,h3,h4,h5,h6⟩:=LD (es:=es) hl hS
 exact AQ.j_ S b (AQ.dF H0 U (AQ.freeze b h2 h3 nX (h _ h4 h5 h6)))
theorem AQ.Ri {ds:List (Nat×Nat)} {i:Nat} {d:Nat} {ty:TypeId} {pos:String} {af:Array Edge} {os:List Oper} {x y:Operand} {t e:TypeId} {b n es bytes:Nat} {rows xs:List (List IV)} (hnb:C.B.nb<=b)
  (ah:a7 C.n ({dst:=some d,op:= .call {callee:= .builtin .append,args:=#[x,y],argTypes:=#[t,t]},type:=ty,pos:=pos,after:=af,guard:=none}::os)=true)
  (hx:ev E x=some (.os b (es+1) 0 n)) (hy:ev E y=some (.im (.sl (es+1) xs))) (hH:lk H b=some (.vec e (es+1) rows))
  (ht:tk C.P t= .slice e) (bW:sz C.P e=some (es+1)) (hz:(aA C.P e).map List.length=some (es+1)) (fA:aI C.P e=some bytes)
  (hn:n=rows.length) (cp:(rows.length+xs.length)*bytes<=140737488355328) (fY:rows.length+xs.length<=70368744177664)
  (h:∀H',lk H' b=some (.vec e (es+1) (rows++xs))->(∀j,j≠b->lk H' j=(lk H j).map (eZ b))->vq C K os ((i,d)::ds) (i+1) ((d,.os b (es+1) 0 (rows.length+xs.length))::killE b E) H'):
  AQ C ds i ({dst:=some d,op:= .call {callee:= .builtin .append,args:=#[x,y],argTypes:=#[t,t]},type:=ty,pos:=pos,after:=af,guard:=none}::os) K E H:=by
 refine AQ.kill b ?_
 refine AQ.dF (jN (j8 b H)) (fun b=>(uH _ b).symm) ?_
 have cH:∀j,lk (jN (j8 b H)) j=(lk H j).map (eZ b):=fun j=>(uH _ j).trans (sD H j)
 have a6:noMen b (jN (j8 b H))=true:=OZ fun j o ho=>by
  rw[sD]at ho
  cases hj:lk H j with
  |none=>rw[hj]at ho;cases ho
  |some o1=>rw[hj]at ho;cases ho;exact Hu b o1
 have nY:=cH b
 rw[hH,Option.map_some,j9 rfl]at nY
 exact AQ.append (Nat.ble_eq_true_of_le hnb) ah hx hy nY a6 ht bW hz fA hn cp fY (h _ (cV _ b _ nY) fun j hj=>(cm _ b j _ hj).trans (cH j))
end
section
variable {C:Cx} {K:List PK} {E:Env} {H:aa}
theorem AQ.S8 {ds:List (Nat×Nat)} {i:Nat} {d:Option Nat} {ty t e:TypeId} {pos:String} {af:Array Edge} {os:List Oper} {x y:Operand} {k k':Nat} {z:Value}
  (ah:a7 C.n ({dst:=d,op:= .buildSlice t 2 #[(0,x),(1,y)],type:=ty,pos:=pos,after:=af,guard:=none}::os)=true)
  (hx:ev E x=some (.ob k 0)) (hy:ev E y=some (.ob k' 0)) (ht:tk C.P t= .slice e) (bW:sz C.P e=some 1) (hz:aA C.P e=some [z])
  (h:vq C K os (aW d i ds) (i+1) (aY d (.os (au C.B.nb H) 1 0 2) E) ((au C.B.nb H,.var (.row e) [.ob k 0,.ob k' 0])::H)):
  AQ C ds i ({dst:=d,op:= .buildSlice t 2 #[(0,x),(1,y)],type:=ty,pos:=pos,after:=af,guard:=none}::os) K E H:=by
 refine AQ.step1 _ _ ah rfl (fun φ I a w hs=>?_) h
 have eX:=aH hs.env hx
 simp only[AV.den]at eX
 obtain⟨g,hg,hv⟩:=eX
 have nn:=aH hs.env hy
 simp only[AV.den]at nn
 obtain⟨g',bO,jC⟩:=nn
 obtain⟨ie,zv,fM,ov,_⟩:=va hz
 obtain⟨i2,rW,aO⟩:=D0 bW
 rw[fM]at rW;cases rW
 have aB:(execOp a.eval ⟨d,.buildSlice t 2 #[(0,x),(1,y)],ty,pos,af,none⟩).run C.P w= .ok (.value (.slice (some ⟨w.heap.size,0,none⟩) 2 2)) (w.alloc (.cells #[a.eval x,a.eval y] e)):=by
  have:=run_buildSlice (P:=C.P) w t e 2 #[(0,a.eval x),(1,a.eval y)] #[a.eval x,a.eval y] ie zv (eU ht) fM ov (by rw[aO];decide) (by rw[aO];decide) (by
   rw[aO,hv,jC];simp only[Instr.fill,Nat.mul_one]
   simp[Value.cells]
   refine Array.ext (by simp) fun i U h2=>?_
   have h0:i=0\/i=1:=by simp at h2;omega
   rcases h0 with rfl|rfl<;>simp)
  simp only[execOp,Sem.run_bind,Sem.run_pure]
  first|rw[this]|simp[this]
 have oq:=dh C.B.nb H
 have dp:(w.alloc (.cells #[a.eval x,a.eval y] e)).heap[w.heap.size]?=some (.cells #[a.eval x,a.eval y] e (0,0)):=heap_alloc_new w _
 have aC:∀k g,φ k=some (some g)->k≠au C.B.nb H:=fun k g hg e=>by
  have U:=hs.st.real.bj k
  rw[hg]at U
  cases ho:lk H k with
  |none=>rw[ho]at U;simp at U
  |some o=>have:=bU H k o ho;omega
 obtain⟨hS,hK⟩:=hs.st.tn (k_ C.B.nb H) oq.1 (cs:=#[a.eval x,a.eval y]) (e:=e) (o:= .var (.row e) [.ob k 0,.ob k' 0]) (by
  simp only[Ob.at,Sh.has,Sh.one]
  refine⟨w.heap.size,[a.eval x,a.eval y],rfl,⟨[],dp⟩,?_,fun y hy=>?_⟩
  ·simp only[AV.ab,AV.den]
   exact⟨_,_,rfl,⟨g,by simp[aT,aC k g hg,hg],hv⟩,_,_,rfl,⟨g',by simp[aT,aC k' g' bO,bO],jC⟩,rfl⟩
  ·rcases List.mem_cons.1 hy with rfl|hy
   ·rw[hv];rfl
   ·rw[List.mem_singleton.1 hy,jC];rfl)
 refine⟨.slice (some ⟨w.heap.size,0,none⟩) 2 2,_,_,I,aB,?_,hS,hK⟩
 simp only[AV.den]
 exact .inr ⟨w.heap.size,2,by simp[aT],by rw[Nat.zero_mul],Nat.le_refl _,by unfold maxLen;omega,⟨_,e,dp,by simp⟩⟩
end
theorem PW (ρ:Nat->Nat):∀us:List Value,AV.cO ρ (us.map nU)=us.map nU
 |[]=>rfl
 |u::us=>by simp only[List.map_cons,AV.cO,AV.rn,PW ρ us]
def wS (t:TypeId) (ks us:List Value):aa:=[(1,.var (.cell t) [.mp 0]),(0,.var (.map ks) (us.map nU))]
theorem dv.frame {P:Program} {f gf:FuncId} {nb m bx:Nat} {H:aa} {ks:List Value} {cs:List AV} {t:TypeId} {r0:AV} (hm:lk H m=some (.var (.map ks) cs)) (hb:lk H bx=some (.var (.cell t) [.mp m])) (tZ:enters P f=true) (y3:r0.free=true)
  (hc:∀us:List Value,us.length=cs.length->ao P f [.fn gf [] [.ob 1 0]] (wS t ks us) (fun r H'=>r=r0/\H'=wS t ks us)):
  dv P nb f [.fn gf [] [.ob bx 0]] H (fun r H'=>r=r0/\H'=H):=by
 have aC:m≠bx:=fun e=>by rw[e,hb]at hm;cases hm
 refine⟨tZ,fun w φ I vs hd hR hV=>?_⟩
 have v_:=hR.bj m
 rw[hm]at v_
 obtain⟨pm,jz⟩:=Option.isSome_iff_exists.1 v_
 have M3:=hR.own m _ _ hm jz
 simp only[Ob.at]at M3
 obtain⟨gm,us,rfl,MC,tU,_⟩:=M3
 have yV:=hR.bj bx
 rw[hb]at yV
 obtain⟨pb,jy⟩:=Option.isSome_iff_exists.1 yV
 have pw:=hR.own bx _ _ hb jy
 simp only[Ob.at]at pw
 obtain⟨gb,ub,rfl,F_,Mr,jx⟩:=pw
 have cC:gm≠gb:=fun e=>aC (hR.inj m bx gm jz (e▸jy))
 have Ms:ub=[.map (some gm)]:=by
  simp only[AV.ab,AV.den]at Mr
  obtain⟨u,ak,rfl,⟨g,hg,rfl⟩,rfl⟩:=Mr
  rw[jz]at hg;cases hg;rfl
 let aq:ai:=fun i=>if i=0 then φ m else if i=1 then φ bx else none
 have h0:aq 0=some (some gm):=by simp[aq,jz]
 have U:aq 1=some (some gb):=by simp[aq,jy]
 have CC:∀g,cN aq g->g=gm\/g=gb:=fun g ⟨b,hb⟩=>by
  by_cases e0:b=0
  ·subst e0;rw[h0]at hb;cases hb;exact .inl rfl
  ·by_cases e1:b=1
   ·subst e1;rw[U]at hb;cases hb;exact .inr rfl
   ·simp[aq,e0,e1]at hb
 have Gw:∀g,cN aq g->cN φ g:=fun g hg=>by
  rcases CC g hg with rfl|rfl
  ·exact⟨m,jz⟩
  ·exact⟨bx,jy⟩
 have Vh:Real w aq I (wS t ks us):=by
  refine⟨fun b=>?_,fun b o p hl hp=>?_,fun b g hb=>?_,fun b b' g h h'=>?_,hR.bM⟩
  ·by_cases e0:b=0
   ·subst e0;rw[h0];rfl
   ·by_cases e1:b=1
    ·subst e1;rw[U];rfl
    ·have q0:Nat.beq 0 b=false:=Bool.eq_false_iff.2 fun e=>e0 (Nat.eq_of_beq_eq_true e).symm
     have q1:Nat.beq 1 b=false:=Bool.eq_false_iff.2 fun e=>e1 (Nat.eq_of_beq_eq_true e).symm
     simp only[aq,e0,e1,if_false,wS,lk,q0,q1,cond_false];rfl
  ·by_cases e0:b=0
   ·subst e0
    rw[h0]at hp;cases hp
    have:o= .var (.map ks) (us.map nU):=(Option.some.inj (show some (Ob.var (.map ks) (us.map nU))=some o from hl)).symm
    subst this
    simp only[Ob.at]
    exact⟨gm,us,rfl,MC,(ET us us).2 rfl,trivial⟩
   ·by_cases e1:b=1
    ·subst e1
     rw[U]at hp;cases hp
     have:o= .var (.cell t) [.mp 0]:=(Option.some.inj (show some (Ob.var (.cell t) [.mp 0])=some o from hl)).symm
     subst this
     simp only[Ob.at]
     refine⟨gb,ub,rfl,F_,?_,jx⟩
     rw[Ms]
     simp only[AV.ab,AV.den]
     exact⟨_,_,rfl,⟨gm,h0,rfl⟩,rfl⟩
    ·simp[aq,e0,e1]at hp
  ·rcases CC g ⟨b,hb⟩with rfl|rfl
   ·exact hR.off m _ jz
   ·exact hR.off bx _ jy
  ·by_cases e0:b=0
   ·subst e0
    rw[h0]at h;cases h
    by_cases f0:b'=0
    ·exact f0.symm
    ·by_cases f1:b'=1
     ·subst f1;rw[U]at h';cases h';exact absurd rfl cC
     ·simp[aq,f0,f1]at h'
   ·by_cases e1:b=1
    ·subst e1
     rw[U]at h;cases h
     by_cases f0:b'=0
     ·subst f0;rw[h0]at h';cases h';exact absurd rfl cC
     ·by_cases f1:b'=1
      ·exact f1.symm
      ·simp[aq,f0,f1]at h'
    ·simp[aq,e0,e1]at h
 have hlen:=p_ tU
 have n_:AV.ab w aq I [.fn gf [] [.ob 1 0]] vs:=by
  simp only[AV.ab,AV.den]at hd⊢
  obtain⟨u,ak,rfl,⟨fs,vs,rfl,⟨v,u7,rfl,⟨g,hg,rfl⟩,rfl⟩,rfl⟩,rfl⟩:=hd
  rw[jy]at hg;cases hg
  exact⟨_,_,rfl,⟨[],_,rfl,⟨_,_,rfl,⟨gb,U,rfl⟩,rfl⟩,rfl⟩,rfl⟩
 refine((hc us hlen).run w aq I vs n_ Vh hV).mono fun e w' ⟨r,H',φ',I',v,⟨hr,nY⟩,he,a8,hS⟩=>?_
 subst hr nY
 have zn:φ' 0=some (some gm):=hS.cE 0 _ (.var (.map ks) (us.map nU)) (show 0<2 by omega) h0 rfl
 have dq:φ' 1=some (some gb):=hS.cE 1 _ (.var (.cell t) [.mp 0]) (show 1<2 by omega) U rfl
 have ju:∀g,I g->w'.heap[g]?=w.heap[g]?:=fun g hg=>hS.ext.b_ g (hR.bM g hg) fun ho=>by
  obtain⟨b,hb⟩:=Gw g ho
  exact(hR.off b g hb).1 hg
 have MJ:∀b g,φ b=some (some g)->b≠m->b≠bx->w'.heap[g]?=w.heap[g]?:=fun b g iY U h2=>hS.ext.b_ g (hR.off b g iY).2 fun ho=>by
  rcases CC g ho with rfl|rfl
  ·exact U (hR.inj b m _ iY jz)
  ·exact h2 (hR.inj b bx _ iY jy)
 have wh:=hS.real.own 0 _ _ (show lk (wS t ks us) 0=some (.var (.map ks) (us.map nU)) from rfl) zn
 have bF:=hS.real.own 1 _ _ (show lk (wS t ks us) 1=some (.var (.cell t) [.mp 0]) from rfl) dq
 simp only[Ob.at]at wh bF
 obtain⟨q,oR,hq,V4,Mt,_⟩:=wh
 cases hq
 rw[ET]at Mt
 subst Mt
 obtain⟨q,Ra,hq,Ga,Mq,Wx⟩:=bF
 cases hq
 have Nu:Ra=[.map (some gm)]:=by
  simp only[AV.ab,AV.den]at Mq
  obtain⟨u,ak,rfl,⟨g,hg,rfl⟩,rfl⟩:=Mq
  rw[zn]at hg;cases hg;rfl
 have cK:∀b g n,φ b=some (some g)->shaped w g n->shaped w' g n:=fun b g n iY hs=>by
  by_cases U:b=m
  ·subst U
   rw[jz]at iY;cases iY
   obtain⟨c,e,hh,_⟩:=hs
   obtain⟨es,clock,h3,_⟩:=MC
   rw[h3]at hh;cases hh
  ·by_cases h2:b=bx
   ·subst h2
    rw[jy]at iY;cases iY
    obtain⟨c,e,hh,hn⟩:=hs
    simp only[Sh.has]at F_ Ga
    rw[F_]at hh;cases hh
    exact⟨_,t,Ga,by rw[Nu];rw[Ms]at hn;exact hn⟩
   ·obtain⟨c,e,hh,hn⟩:=hs
    exact⟨c,e,(MJ b g iY U h2).trans hh,hn⟩
 refine⟨r,H,φ,I',v,⟨rfl,rfl⟩,he,AV.qm _ _ y3 a8,⟨⟨hR.bj,fun b o p hl hp=>?_,fun b g iY=>⟨fun FC=>?_,?_⟩,hR.inj,hS.real.bM⟩,⟨hS.ext.size,fun g hg hn=>hS.ext.b_ g hg fun ho=>hn (Gw g ho),hS.ext.form,hS.ext.os,hS.ext.tape,hS.ext.output⟩,fun b g iY=> .inl ⟨b,iY⟩,fun g hg=>?_,hS.cj,fun b p o _ h _=>h⟩⟩
 ·by_cases U:b=m
  ·subst U
   rw[hm]at hl;cases hl
   rw[jz]at hp;cases hp
   simp only[Ob.at]
   exact⟨gm,_,rfl,V4,AV.fb ju hS.cj (fun _ _ h=>h) cK _ _ tU,trivial⟩
  ·by_cases h2:b=bx
   ·subst h2
    rw[hb]at hl;cases hl
    rw[jy]at hp;cases hp
    simp only[Ob.at]
    refine⟨gb,Ra,rfl,Ga,?_,Wx⟩
    rw[Nu]
    simp only[AV.ab,AV.den]
    exact⟨_,_,rfl,⟨gm,jz,rfl⟩,rfl⟩
   ·exact Ob.kF ju hS.cj (fun _ _ h=>h) cK (fun g hg=>MJ b g (hg▸hp) U h2) (hR.own b o p hl hp)
 ·rcases hS.cZ g FC with U|U|U
  ·exact(hR.off b g iY).1 U
  ·rcases CC g U with rfl|rfl
   ·exact(hS.real.off 0 _ zn).1 FC
   ·exact(hS.real.off 1 _ dq).1 FC
  ·have:=(hR.off b g iY).2
   have h2:w.heap.size<=g:=U
   omega
 ·exact Nat.lt_of_lt_of_le (hR.off b g iY).2 hS.ext.size
 ·rcases hS.cZ g hg with U|U|U
  ·exact .inl U
  ·exact .inr (.inl (Gw g U))
  ·exact .inr (.inr U)
end Go.AL
end
