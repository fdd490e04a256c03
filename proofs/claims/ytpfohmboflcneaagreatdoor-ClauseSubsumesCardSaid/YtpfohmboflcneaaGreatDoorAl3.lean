import Derived.Test.YtpfohmboflcneaaGreatDoorAl2
import Derived.MapKept
import Derived.Laws.CopyRow
import Derived.Laws.MakeOwn
import Derived.Lib.BufferWrite
import Derived.RecoverIn
import Derived.Sort.Grow
import Derived.Sort.EncStr
import Derived.Maps.RangeRun
set_option linter.unusedSimpArgs false
set_option linter.unusedVariables false
set_option linter.unnecessarySimpa false
section
namespace Go.AL
open Go
mutual
theorem AV.yd {nb b:Nat} (h:nb<=b):∀(x:AV),x.ge nb=false->x.men b=false
 | .ob b' _,hx=>by simp only[AV.ge,AV.men]at hx⊢;exact gC (by have:=oX hx;omega)
 | .oe b' _ _ _,hx=>by simp only[AV.ge,AV.men]at hx⊢;exact gC (by have:=oX hx;omega)
 | .os b' _ _ _,hx=>by simp only[AV.ge,AV.men]at hx⊢;exact gC (by have:=oX hx;omega)
 | .fn f fs aJ,hx=>by simp only[AV.ge,AV.men,Bool.or_eq_false_iff]at hx⊢;exact⟨AV.uq h fs hx.1,AV.uq h aJ hx.2⟩
 | .agg cs,hx=>by simp only[AV.ge,AV.men]at hx⊢;exact AV.uq h cs hx
 | .aM cs,hx=>by simp only[AV.ge,AV.men]at hx⊢;exact AV.uq h cs hx
 | .opt g x,hx=>by simp only[AV.ge,AV.men]at hx⊢;exact AV.yd h x hx
 | .im x,_=>rfl
 | .ar x,_=>rfl
 | .top,_=>rfl
 | .mp b',hx=>by simp only[AV.ge,AV.men]at hx⊢;exact gC (by have:=oX hx;omega)
 | .wr k x,hx=>by simp only[AV.ge,AV.men]at hx⊢;exact AV.yd h x hx
theorem AV.uq {nb b:Nat} (h:nb<=b):∀(xs:List AV),AV.iP nb xs=false->AV.mens b xs=false
 |[],_=>rfl
 |x::xs,hx=>by simp only[AV.iP,AV.mens,Bool.or_eq_false_iff]at hx⊢;exact⟨AV.yd h x hx.1,AV.uq h xs hx.2⟩
end
theorem CY {nb b:Nat} (h:nb<=b):∀(E:Env) (i:Nat) (x:AV),lk (jA nb E) i=some x->x.men b=false
 |[],i,x,hx=>by simp[jA,lk]at hx
 |(j,y)::r,i,x,hx=>by
  simp only[jA]at hx
  cases hm:y.ge nb with
  |true=>
   rw[hm]at hx
   simp only[cond_true,lk]at hx
   cases hb:Nat.beq j i with
   |true=>rw[hb]at hx;simp only[cond_true,Option.some.injEq]at hx;subst hx;rfl
   |false=>rw[hb]at hx;exact CY h r i x hx
  |false=>
   rw[hm]at hx
   simp only[cond_false,lk]at hx
   cases hb:Nat.beq j i with
   |true=>rw[hb]at hx;simp only[cond_true,Option.some.injEq]at hx;subst hx;exact AV.yd h y hm
   |false=>rw[hb]at hx;exact CY h r i x hx
theorem St.SJ {B:Bs} {φ:al} {I:Nat->Prop} {H:aa} {w:World} {l:Nat} {r:Loop} {o':Obj} (h:St B φ I H w) (hl:w.heap[l]?=some (.loop r)) (hI:¬I l) (au:∀b,φ b≠some (some l)) (ho:B.own l\/B.w0.heap.size<=l):
  St B φ I H (w.putObj l o')/\bt w φ I (w.putObj l o') φ I:=by
 have k:bt w φ I (w.putObj l o') φ I:=y9 hl hI
 refine⟨⟨⟨h.real.bq,fun b' o p aD hp=>?_,fun b' g hp=>?_,h.real.inj,fun g hg=>?_⟩,h.ext.trans (Gp (own:=fun g=>g=l) hl rfl) (fun g hg=>by subst hg;exact ho),h.bU,h.c8,h.cj,h.cD⟩,k⟩
 ·exact Ob.jM k.im k.I k.phi k.sh (fun g hg=>World.putObj_heap_other (fun e=>by subst e;subst hg;exact au b' hp)) (h.real.own b' o p aD hp)
 ·have:=h.real.off b' g hp
  exact⟨this.1,by simpa using this.2⟩
 ·have:=h.real.bO g hg
  simpa using this
def s_ (C:Cx) (K:List PK) (E:Env) (H:aa):gA->Prop
 | .ready=>AE C .normal K E H
 | .done .ret=>AE C .ret K E H
 | .done (.exit id)=>AE C (.exit id) K E H
 |_=>False
def DP (C:Cx) (H:aa) (b0:Nat):Prop:=match C.rd with
 |none=>C.ds=[]
 |some l0=>match lk H b0 with
  |some (.lp l1 _ _ _ _ _ _)=>l1=l0
  |_=>False
section
variable {C:Cx} {K:List PK} {E:Env} {H:aa}
theorem AP.range (nb b0:Nat) {p:List Nat} {t:Tmp} {ps:List Tmp} {as bd:Code} {f:FuncId} {fs aJ:List AV} (EL:Env) {R:Nat->AV->aa->Prop}
  (hc:bS C.fn p= .rangeFunc (.tmp t) ps.toArray as bd) (eY:lk E t=some (.fn f fs aJ)) (hnb:Nat.ble C.B.nb nb=true) (Bt:Sub E EL) (fD:DP C H b0)
  (uA:∀l,iJ C.P nb f (fs++[Yl l]++aJ) ((aL nb H,.lp l C.n .ready C.fn p ps EL)::H) (R l))
  (kB:∀l r H',R l r H'->eJ nb ((aL nb H,.lp l C.n .ready C.fn p ps EL)::H) H')
  (sb:∀l r H',R l r H'->∃st E',lk H' (aL nb H)=some (.lp l C.n st C.fn p ps E')/\noMen (aL nb H) (eh (aL nb H) H')=true/\s_ C K (jA nb E) (eh (aL nb H) H') st):AP C p K E H:=by
 unfold AP
 rw[hc]
 intro φ I a w hs
 have PV:=Nat.le_of_ble_eq_true hnb
 obtain⟨b,hb⟩:∃b,aL nb H=b:=⟨_,rfl⟩
 rw[hb]at uA kB sb
 have Hb:lk H b=none:=hb▸kO nb H
 have dJ:nb<=b:=hb▸(gL nb H).1
 refine wpIn_rangeFunc (F:=Fw C.rd) fun b_ _=>?_
 obtain⟨wD,ID,sX,D,e1,pe,kD,hM⟩:∃(wD:World) (ID:Nat->Prop) (sX:List Deferred) (D:Nat),
   (Instr.enterLoop b_ a.tmps ps.toArray as bd C.rd).run C.P w= .ok (wD.heap.size,sX) (wD.alloc (.loop {state:= .ready,pending:=none,fn:=b_,tmps:=a.tmps,params:=ps.toArray,assign:=as,body:=bd,defers:=D}))/\
   St C.B φ ID H wD/\bt w φ I wD φ ID/\Marks C.ds C.B.w0.heap.size wD ID (sX++a.defers):=by
  unfold DP at fD
  cases hr:C.rd with
  |none=>
   obtain⟨hS,k⟩:=hs.st.Jz (w':=w.alloc (.deferred (some []))) (by simp) (fun g hg=>heap_alloc_old w _ hg) rfl rfl rfl
   refine⟨w.alloc (.deferred (some [])),_,[sW w.heap.size],w.heap.size,?_,hS,k,?_⟩
   ·rw[run_enterLoop_outer];simp[sW]
   ·obtain⟨ms,U,h2,h3,_⟩:=hs.bD
    rw[hr]at fD
    refine⟨w.heap.size::ms,by rw[U];rfl,List.nodup_cons.2 ⟨fun hm=>?_,h2⟩,(fun D' k6=>?_),fun aR=>absurd fD aR⟩
    ·have:=hs.st.real.bO _ (h3 _ hm).1
     omega
    ·rcases List.mem_cons.1 k6 with rfl|k6
     ·exact⟨.inr rfl,hs.st.ext.size,World.alloc_heap_new w _⟩
     ·obtain⟨h4,h5,h6⟩:=h3 D' k6
      exact⟨.inl h4,h5,(k.im D' h4).trans h6⟩
  |some l0=>
   rw[hr]at fD
   simp only at fD
   split at fD
   ·rename_i l1 n1 WN Wi p1 WJ E1 e8
    subst fD
    have hd:=hs.st.real.bq b0
    rw[e8]at hd
    cases hp:φ b0 with
    |none=>rw[hp]at hd;cases hd
    |some p0=>
     have aQ:=hs.st.real.own b0 _ p0 e8 hp
     simp only[Ob.at]at aQ
     obtain⟨rfl,T,D,A6,U,h2,h3⟩:=aQ
     refine⟨w,I,[],D,?_,hs.st,bt.refl _ _ _,by simpa using hs.bD⟩
     unfold Instr.enterLoop
     simp only[Sem.run_bind,run_newObj_alloc,Result.andThen,Sem.run_pure,run_getLoop h2]
   ·exact fD.elim
 have gj:=aS hs.env (x:= .tmp t) eY
 simp only[AV.den]at gj
 obtain⟨dS,us,k_,gp,lX⟩:=gj
 obtain⟨rec,yL⟩:∃rec:Loop,rec={state:= .ready,pending:=none,fn:=b_,tmps:=a.tmps,params:=ps.toArray,assign:=as,body:=bd,defers:=D}:=⟨_,rfl⟩
 have OZ:=pe.xu (b:=b) Hb (by omega) (ob:= .loop rec) (o:= .lp wD.heap.size C.n .ready C.fn p ps EL) (by
  simp only[Ob.at]
  refine⟨trivial,a.tmps,D,b_,hs.bE,?_,fun i x hx=>?_⟩
  ·rw[World.alloc_heap_new,yL,hc];rfl
  ·obtain⟨u,hu,hd⟩:=hs.env i x (Bt i x hx)
   refine⟨u,hu,?_⟩
   have BN:=kD.den hd
   refine AV.jP (fun g hg=>heap_alloc_old wD _ (pe.real.bO g hg)) (fun _ h=>h) (fun b' p' b7=>?_) (fun _ g n _ dB=>(qw (fun _=>False) wD _).shaped (fun h=>h) dB) x u BN
   unfold a7
   rw[if_neg (fun e=>by subst e;rw[pe.Db Hb]at b7;cases b7)]
   exact b7)
 obtain⟨r6,k2⟩:=OZ
 have iV:bn C (a7 φ b (some wD.heap.size)) ID E ((b,.lp wD.heap.size C.n .ready C.fn p ps EL)::H) {a with defers:=sX++a.defers} (wD.alloc (.loop rec)):=
  ⟨hM.mono k2.im k2.I,hs.bE,fun i x hx=>let⟨u,hu,hd⟩:=hs.env i x hx;⟨u,hu,k2.den (kD.den hd)⟩,r6⟩
 have uH:=(uA wD.heap.size).gh
 rw[<-yL]at e1
 refine⟨wD.heap.size,sX,wD.alloc (.loop rec),{target:= .fn (.func f) us.toArray,args:=dS.toArray++#[Value.func (.yield wD.heap.size) #[] #[]]},wD.alloc (.loop rec),f,(dS++[Value.func (.yield wD.heap.size) #[] #[]]++us).toArray,wD.alloc (.loop rec),e1,?_,fun _ _=>trivial,?_,fun h=>(by cases h),?_⟩
 ·have:(resolve a.eval (rangeCall (.tmp t) wD.heap.size) 0)=Deferred.ofValue (a.eval (.tmp t)) #[Value.func (.yield wD.heap.size) #[] #[]]:=by
   simp[resolve,Act.eval]
  rw[this,lX]
  simp only[Deferred.ofValue,Sem.run_pure]
 ·simp only[invoke]
  rw[te uH]
  simp
 ·have a_:AV.ab (wD.alloc (.loop rec)) (a7 φ b (some wD.heap.size)) ID (fs++[Yl wD.heap.size]++aJ) (dS++[Value.func (.yield wD.heap.size) #[] #[]]++us):=by
   refine AQ.lP.kW _ _ _ _ (AQ.lP.kW _ _ _ _ (AV.gT k2.im k2.I k2.phi k2.sh _ _ (AV.gT kD.im kD.I kD.phi kD.sh _ _ k_)) ?_) (AV.gT k2.im k2.I k2.phi k2.sh _ _ (AV.gT kD.im kD.I kD.phi kD.sh _ _ gp))
   simp only[AV.ab,AV.den,IV.den]
   exact⟨_,_,rfl,⟨rfl,rfl⟩,rfl⟩
  refine(Av ((uA wD.heap.size).run _ _ ID _ a_ r6.real r6.vk)).mono fun e w3 ⟨r,H3,L9,I3,v,hr,he,bR,uw⟩=>?_
  subst he
  obtain⟨st,E',fC,bL,gX⟩:=sb _ r H3 hr
  have sw:=iV.tH PV uw (kB _ r H3 hr)
  have hd:=uw.real.bq b
  rw[fC]at hd
  cases hp:L9 b with
  |none=>rw[hp]at hd;cases hd
  |some p0=>
   have aQ:=uw.real.own b _ p0 fC hp
   simp only[Ob.at]at aQ
   obtain⟨rfl,T,D',A6,U,h2,h3⟩:=aQ
   have PW:st.state≠ .busy:=by
    cases st with
    |busy=>exact gX.elim
    |ready=>simp[gA.state]
    |done c=>simp[gA.state]
   refine⟨_,_,run_endLoop h2 PW,?_⟩
   have kE:=uw.real.off b _ hp
   have O0:=sw.st.forget b bL
   obtain⟨yh,ko⟩:=O0.SJ (o':= .loop {state:= .exhausted,pending:=st.ra,fn:=A6,tmps:=T,params:=ps.toArray,assign:=child 0 (bS C.fn p),body:=child 1 (bS C.fn p),defers:=D'}) h2 kE.1 (fun b' bK=>by
    simp only[fX]at bK
    by_cases e:b'=b
    ·simp[e]at bK
    ·rw[if_neg e]at bK
     exact e (uw.real.inj b' b _ bK hp)) (.inr pe.ext.size)
   have Cp:bn C (fX L9 b) I3 (jA nb E) (eh b H3) {a with defers:=sX++a.defers} (w3.putObj wD.heap.size (.loop {state:= .exhausted,pending:=st.ra,fn:=A6,tmps:=T,params:=ps.toArray,assign:=child 0 (bS C.fn p),body:=child 1 (bS C.fn p),defers:=D'})):=
    ⟨sw.bD.mono ko.im ko.I,sw.bE,fun i x hx=>by
     obtain⟨u,hu,dc⟩:=sw.env i x hx
     exact⟨u,hu,ko.den (AV.ov (fun b' bK=>by simp[fX,bK]) x u (CY dJ E i x hx) dc)⟩,yh⟩
   cases st with
   |busy=>exact gX.elim
   |ready=>
    simp only[s_]at gX
    unfold AE at gX
    exact gX _ _ _ _ Cp
   |done c=>
    simp only[gA.ra]
    cases c with
    |ret=>
     simp only[s_]at gX
     unfold AE at gX
     exact wpIn_ret (gX _ _ _ _ Cp)
    |exit id=>
     simp only[s_]at gX
     unfold AE at gX
     exact wpIn_exit (gX _ _ _ _ Cp)
    |_=>exact gX.elim
theorem AP.zH (nb b0 b:Nat) {p:List Nat} {t:Tmp} {ps:List Tmp} {as bd:Code} {f:FuncId} {fs aJ:List AV} (EL:Env) {R:Nat->AV->aa->Prop}
  (hc:bS C.fn p= .rangeFunc (.tmp t) ps.toArray as bd) (eY:lk E t=some (.fn f fs aJ)) (hnb:Nat.ble C.B.nb nb=true) (Bt:Sub E EL) (fD:DP C H b0) (hb:aL nb H=b)
  (uA:∀l,iJ C.P nb f (fs++[Yl l]++aJ) ((b,.lp l C.n .ready C.fn p ps EL)::H) (R l))
  (sb:∀l r H',R l r H'->eJ nb ((b,.lp l C.n .ready C.fn p ps EL)::H) H'/\∃st E',lk H' b=some (.lp l C.n st C.fn p ps E')/\noMen b (eh b H')=true/\s_ C K (jA nb E) (eh b H') st):AP C p K E H:=by
 subst hb
 exact AP.range nb b0 EL hc eY hnb Bt fD uA (fun l r H' h=>(sb l r H' h).1) (fun l r H' h=>(sb l r H' h).2)
def Rz (nb:Nat) (H H':aa):Bool:=(List.range nb).all fun b=>(lk H' b).isSome==(lk H b).isSome
theorem eJ.of (nb:Nat) (H H':aa) (h:Rz nb H H'=true):eJ nb H H':=fun b hb=>by
 have:=List.all_eq_true.1 h b (List.mem_range.2 hb)
 simpa using this
end
attribute [go_sem] s_
section
variable {C:Cx} {K:List PK} {E:Env} {H:aa}
theorem AQ.skip {ds:List (Nat×Nat)} {i:Nat} {o:Oper} {os:List Oper} (ai:bl C.n (o::os)=true) (hG:gd ds E o.guard=some false) (h:vq C K os (aZ o.dst i ds) (i+1) (a6 o.dst (.opt false .top) E) H):AQ C ds i (o::os) K E H:=
 AQ.r4 (ef ai).1 hG (AQ.go (ef ai).2 h)
end
attribute [go_sem] Bool.bne_false Bool.bne_true
def tl:Exit->List PK->Option (Sum (List Nat) Exit×List PK)
 | .normal,.seq q::K=>some (.inl q,K)
 | .normal,.dP _::K=>some (.inr .normal,K)
 | .normal,.sc::K=>some (.inr .normal,K)
 | .exit id,.seq _::K=>some (.inr (.exit id),K)
 | .exit id,.dP kG::K=>bif id==kG then some (.inr .normal,K)else some (.inr (.exit id),K)
 | .exit id,.sc::K=>some (.inr (.exit id),K)
 | .exit id,.lp _::K=>some (.inr (.exit id),K)
 | .ret,.seq _::K=>some (.inr .ret,K)
 | .ret,.dP _::K=>some (.inr .ret,K)
 | .ret,.sc::K=>some (.inr .ret,K)
 | .ret,.lp _::K=>some (.inr .ret,K)
 |_,_=>none
def oK (fn:Func) (p:List Nat) (K:List PK):Option (Sum (List Nat) Exit×List PK):=
 match bS fn p with
 | .seq _ _=>some (.inl (0::p),.seq (1::p)::K)
 | .block id _=>some (.inl (0::p),.dP id::K)
 | .scope _=>some (.inl (0::p),.sc::K)
 | .skip=>some (.inr .normal,K)
 | .ret=>some (.inr .ret,K)
 | .exit id=>some (.inr (.exit id),K)
 | .label _=>some (.inr .normal,K)
 |_=>none
def q7 (fn:Func):Nat->Sum (List Nat) Exit->List PK->Sum (List Nat) Exit×List PK
 |0,s,K=>(s,K)
 |n+1,.inl p,K=>match oK fn p K with
  |some (s,K')=>q7 fn n s K'
  |none=>(.inl p,K)
 |n+1,.inr e,K=>match tl e K with
  |some (s,K')=>q7 fn n s K'
  |none=>(.inr e,K)
def s4 (fn:Func) (p:List Nat) (K:List PK):Option (Sum (List Nat) Exit×List PK):=
 match oK fn p K with
 |some (s,K')=>some (q7 fn 99 s K')
 |none=>none
def s3 (fn:Func) (e:Exit) (K:List PK):Option (Sum (List Nat) Exit×List PK):=
 match tl e K with
 |some (s,K')=>some (q7 fn 99 s K')
 |none=>none
def AS (C:Cx) (s:Sum (List Nat) Exit) (K:List PK) (E:Env) (H:aa):Prop:=match s with
 | .inl p=>AP C p K E H
 | .inr e=>AE C e K E H
section
variable {C:Cx} {K K':List PK} {E:Env} {H:aa}
theorem La {e:Exit} {s:Sum (List Nat) Exit} (hs:tl e K=some (s,K')) (h:AS C s K' E H):AE C e K E H:=by
 unfold tl at hs
 split at hs
 all_goals first
  |(cases hs;done)
  |(cases hs;first|exact AE.seq h|exact AE.dP h|exact AE.sc h|exact AE.KL h|exact AE.KH h|exact AE.Jf h|exact AE.KM h|exact AE.E9 h|exact AE.KJ h|exact AE.Jg h)
  |skip
 rename_i id kG K0
 cases hb:(id==kG)with
 |true=>
  rw[hb]at hs
  cases hs
  have:id=kG:=by simpa using hb
  subst this
  exact AE.Aq h
 |false=>
  rw[hb]at hs
  cases hs
  exact AE.Ar hb h
theorem Lb {p:List Nat} {s:Sum (List Nat) Exit} (hs:oK C.fn p K=some (s,K')) (h:AS C s K' E H):AP C p K E H:=by
 unfold oK at hs
 split at hs
 all_goals first
  |(cases hs;done)
  |(cases hs;rename_i hc;first|exact AP.seq hc h|exact AP.block hc h|exact AP.scope hc h|exact AP.skip hc h|exact AP.ret hc h|exact AP.exit hc h|exact AP.label hc h)
theorem zw:∀(n:Nat) (s s':Sum (List Nat) Exit) (K K':List PK),q7 C.fn n s K=(s',K')->AS C s' K' E H->AS C s K E H
 |0,s,s',K,K',hs,h=>by cases hs;exact h
 |n+1,.inl p,s',K,K',hs,h=>by
  simp only[q7]at hs
  cases U:oK C.fn p K with
  |none=>rw[U]at hs;cases hs;exact h
  |some q=>
   obtain⟨s1,K1⟩:=q
   rw[U]at hs
   exact Lb U (zw n s1 s' K1 K' hs h)
 |n+1,.inr e,s',K,K',hs,h=>by
  simp only[q7]at hs
  cases U:tl e K with
  |none=>rw[U]at hs;cases hs;exact h
  |some q=>
   obtain⟨s1,K1⟩:=q
   rw[U]at hs
   exact La U (zw n s1 s' K1 K' hs h)
theorem JL {p:List Nat} {s:Sum (List Nat) Exit} (hs:s4 C.fn p K=some (s,K')) (h:AS C s K' E H):AP C p K E H:=by
 unfold s4 at hs
 cases U:oK C.fn p K with
 |none=>rw[U]at hs;cases hs
 |some q=>
  obtain⟨s1,K1⟩:=q
  rw[U]at hs
  exact Lb U (zw 99 s1 s K1 K' (Option.some.inj hs) h)
theorem JK {e:Exit} {s:Sum (List Nat) Exit} (hs:s3 C.fn e K=some (s,K')) (h:AS C s K' E H):AE C e K E H:=by
 unfold s3 at hs
 cases U:tl e K with
 |none=>rw[U]at hs;cases hs
 |some q=>
  obtain⟨s1,K1⟩:=q
  rw[U]at hs
  exact La U (zw 99 s1 s K1 K' (Option.some.inj hs) h)
theorem UF {p p':List Nat} (hs:s4 C.fn p K=some (.inl p',K')) (h:AP C p' K' E H):AP C p K E H:=JL hs h
theorem UE {p:List Nat} {e:Exit} (hs:s4 C.fn p K=some (.inr e,K')) (h:AE C e K' E H):AP C p K E H:=JL hs h
theorem UD {p':List Nat} {e:Exit} (hs:s3 C.fn e K=some (.inl p',K')) (h:AP C p' K' E H):AE C e K E H:=JK hs h
theorem UC {e e':Exit} (hs:s3 C.fn e K=some (.inr e',K')) (h:AE C e' K' E H):AE C e K E H:=JK hs h
end
attribute [go_sem] List.all_cons List.all_nil Value.oneCell'
def Kh (o:Oper):Bool:=match o.op with
 | .move _| .assign _| .pick _ _ _| .build _ _| .load _ _| .nilCheck _| .binOp _ _ _ _ _| .unOp _ _ _| .convert _ _ _| .slice _ _ _ _ _| .fieldAddr _ _ _| .field _ _ _| .indexAddr _ _ _| .index _ _ _| .extract _ _=>true
 | .call {callee:= .builtin b,.. }=>match b with
  | .len| .min| .max=>true
  |_=>false
 |_=>false
section
variable {C:Cx} {K:List PK} {E:Env} {H:aa} {p:List Nat}
end
def iR:List Nat->aa->aa
 |[],H=>H
 |b::l,H=>iR l (eh b H)
def ba:List Nat->AV->aa->Bool
 |[],_,_=>true
 |b::l,r,H=>noMen b (eh b H)&&!(AV.men b r)&&ba l r (eh b H)
theorem rR {B:Bs} {I:Nat->Prop} {w:World} {r:AV} {v:Value}:∀(l:List Nat) (φ:al) (H:aa),ba l r H=true->AV.den w φ I r v->St B φ I H w->∃φ',AV.den w φ' I r v/\St B φ' I (iR l H) w
 |[],φ,H,_,hd,hS=>⟨φ,hd,hS⟩
 |b::l,φ,H,hk,hd,hS=>by
  simp only[ba,Bool.and_eq_true,Bool.not_eq_true']at hk
  exact rR l (fX φ b) (eh b H) hk.2 (AV.ov (fun b' hb=>by simp[fX,hb]) r v hk.1.2 hd) (hS.forget b hk.1.1)
section
variable {C:Cx} {E:Env} {H:aa}
theorem AE.aX (l:List Nat) {sc:Prop} {xs:List AV} (h:iD C.P E H C.fn.results.toList=some (sc,xs)) (ay:sc) (hk:ba l (dZ xs) H=true) (hR:C.R (dZ xs) (iR l H)):AE C .ret [] E H:=by
 unfold AE
 intro φ I a w hs
 refine hs.leave fun w' hS hE=>?_
 obtain⟨v,hv,hd⟩:=rh hE hS.real h ay
 obtain⟨φ',eg,nV⟩:=rR l φ H hk hd hS
 exact⟨v,hv,dZ xs,iR l H,φ',I,v,hR,rfl,eg,nV⟩
theorem AE.N8 (l:List Nat) {sc:Prop} {xs:List AV} (h:iD C.P E H C.fn.results.toList=some (sc,xs)) (ay:sc) (hk:ba l (dZ xs) H=true) (hR:C.R (dZ xs) (iR l H)):AE C .normal [] E H:=by
 unfold AE
 intro φ I a w hs
 refine hs.leave fun w' hS hE=>?_
 obtain⟨v,hv,hd⟩:=rh hE hS.real h ay
 obtain⟨φ',eg,nV⟩:=rR l φ H hk hd hS
 exact⟨v,hv,dZ xs,iR l H,φ',I,v,hR,rfl,eg,nV⟩
theorem AE.dq {e:Exit} {K:List PK}:∀(l:List Nat) {E:Env} {H:aa},ba l .top H=true->AE C e K (l.foldl (fun E b=>killE b E) E) (iR l H)->AE C e K E H
 |[],_,_,_,h=>h
 |b::l,E,H,hk,h=>by
  simp only[ba,Bool.and_eq_true,Bool.not_eq_true']at hk
  exact AE.forget b hk.1.1 (AE.dq l hk.2 h)
end
attribute [go_sem] iR ba List.foldl_cons List.foldl_nil
theorem AQ.nx {C Cn:Cx} {K:List PK} {ops:List Oper} {n:Nat} {R P es:List Nat} {ts:List Tree} {ds ia:List (Nat×Nat)} {i:Nat} {E:Env} {H:aa} (hC:Cn=C.nr)
  (
   h:vR C ops H R ia E/\vP C ops H (fun ds E=>match es with
   |[]=>vq C K (ops.drop n) [] n E H
   |_::_=>lG C K ops n es ts ds E H) P ia E):
  AQ Cn ds i [] [.lp (tz C (vd C K ops n (.node R P es ts) ia)),.bot (oE C K ops)] E H:=by
 subst hC
 exact AQ.next (cr h)
def lD (rows zM:List (List IV)):Prop:=∀(w:World) (I:Nat->Prop) (ae:List (List Value)),IV.aH w I rows ae->IV.aH w I zM ae
section
variable {C:Cx} {K:List PK} {E:Env} {H:aa}
end
theorem Dy {w:World} {I:Nat->Prop} {es:Nat} {u:Value} (h:IV.den w I (.v (.slice none 0 0)) u):IV.den w I (.sl es []) u:=by
 simp only[IV.den]at h⊢
 obtain⟨rfl,_⟩:=h
 exact⟨none,0,[],rfl,Nat.le_refl _,by simp[IV.aH],(fun vs h=>absurd h (List.not_mem_nil)),fun h=>absurd rfl h⟩
def vg (C:Cx) (H:aa) (k:List (Nat×Nat)->Env->Prop):List Oper->List (Nat×Nat)->Nat->Env->Prop
 |[],ds,_,E=>k ds E
 |o::os,ds,i,E=>match gd ds E o.guard with
  |none=>False
  |some G=>match qi C.P E H o.op G with
   |none=>False
   |some (sc,v)=>(G=true->sc)/\vg C H k os (aZ o.dst i ds) (i+1) (a6 o.dst (wrap o.guard G v) E)
theorem LJ {C:Cx} {ops:List Oper} {H:aa} {k:List (Nat×Nat)->Env->Prop}:∀(rest:List Oper) (ds:List (Nat×Nat)) (i:Nat) (E:Env),(∀j,rest[j]?=ops[i+j]?)->vg C H k rest ds i E->vP C ops H k (List.range' i rest.length) ds E
 |[],ds,i,E,_,h=>by simpa[vP,vg]using h
 |o::os,ds,i,E,hr,h=>by
  have h0:ops[i]?=some o:=by have:=hr 0;simpa using this.symm
  simp only[List.length_cons,List.range'_succ,vP,h0]
  simp only[vg]at h
  revert h
  cases gd ds E o.guard with
  |none=>exact fun h=>h
  |some G=>
   simp only
   cases qi C.P E H o.op G with
   |none=>exact fun h=>h
   |some q=>
    obtain⟨sc,v⟩:=q
    simp only
    exact fun h=>⟨h.1,LJ os _ _ _ (fun j=>by have:=hr (j+1);rw[show i+1+j=i+(j+1) by omega];simpa using this) h.2⟩
def AU (n:Nat):Tree:= .node [] (List.range' 0 n) [] []
section
variable {C:Cx} {K:List PK} {E:Env} {H:aa} {p:List Nat}
theorem AP.NW {id:Nat} {ops:List Oper} (hc:bS C.fn p= .region id ops.toArray true) (HU:ops.all Kh=true) (hq:(bl C.n ops&&x3 ops ops.length (AU ops.length)&&C.P.follows .mixedOrders)=true)
  (h:vg C H (fun _ En=>AQ C [] ops.length [] K En H) ops [] 0 E):AP C p K E H:=by
 simp only[Bool.and_eq_true]at hq
 refine AP.cu ops.length (AU ops.length) hq.2 hc hq.1.1 hq.1.2 ?_
 refine cr ⟨trivial,?_⟩
 refine LJ ops [] 0 E (fun j=>by rw[Nat.zero_add]) ?_
 simp only[List.drop_length,vq]
 exact h
end
attribute [go_sem] vg
section
variable {C:Cx} {E:Env} {H:aa}
section
variable {K:List PK}
end
end
def reorder:List Nat->aa->aa
 |[],_=>[]
 |b::l,H=>match lk H b with
  |some o=>(b,o)::reorder l H
  |none=>reorder l H
def qo (ids:List Nat):aa->Bool
 |[]=>true
 |(b,_)::r=>bJ ids b&&qo ids r
theorem vG:∀(l:List Nat) (b:Nat),bJ l b=true->∀H:aa,lk (reorder l H) b=lk H b
 |[],b,h,H=>by simp[bJ]at h
 |c::l,b,h,H=>by
  simp only[bJ]at h
  simp only[reorder]
  cases hb:Nat.beq c b with
  |true=>
   have:=Nat.eq_of_beq_eq_true hb
   subst this
   cases hl:lk H c with
   |some o=>simp[lk]
   |none=>
    simp only
    cases hi:bJ l c with
    |true=>rw[vG l c hi H,hl]
    |false=>exact zg l c hi H
  |false=>
   rw[hb]at h
   simp only[cond_false]at h
   cases hl:lk H c with
   |some o=>simp only[lk,hb,cond_false];exact vG l b h H
   |none=>simp only;exact vG l b h H
where
 zg:∀(l:List Nat) (b:Nat),bJ l b=false->∀H:aa,lk (reorder l H) b=none
  |[],b,_,H=>rfl
  |c::l,b,h,H=>by
   simp only[bJ]at h
   cases hb:Nat.beq c b with
   |true=>rw[hb]at h;simp at h
   |false=>
    rw[hb]at h
    simp only[cond_false]at h
    simp only[reorder]
    cases hl:lk H c with
    |some o=>simp only[lk,hb,cond_false];exact zg l b h H
    |none=>simp only;exact zg l b h H
theorem FJ (ids:List Nat):∀(H:aa) (b:Nat),qo ids H=true->bJ ids b=false->lk H b=none
 |[],b,_,_=>rfl
 |(c,o)::r,b,h,hb=>by
  simp only[qo,Bool.and_eq_true]at h
  simp only[lk]
  cases hc:Nat.beq c b with
  |true=>
   have:=Nat.eq_of_beq_eq_true hc
   subst this
   rw[h.1]at hb;cases hb
  |false=>simp only[cond_false];exact FJ ids r b h.2 hb
theorem DQ {ids:List Nat} {H:aa} (h:qo ids H=true) (b:Nat):lk H b=lk (reorder ids H) b:=by
 cases hb:bJ ids b with
 |true=>exact(vG ids b hb H).symm
 |false=>rw[FJ ids H b h hb,vG.zg ids b hb H]
section
variable {C:Cx} {K:List PK} {E:Env} {H:aa}
theorem AE.order {e:Exit} (ids:List Nat) (hc:qo ids H=true) (h:AE C e K E (reorder ids H)):AE C e K E H:=AE.perm _ (DQ hc) h
theorem AP.order {p:List Nat} (ids:List Nat) (hc:qo ids H=true) (h:AP C p K E (reorder ids H)):AP C p K E H:=AP.perm _ (DQ hc) h
theorem AQ.order {ds:List (Nat×Nat)} {i:Nat} {rest:List Oper} (ids:List Nat) (hc:qo ids H=true) (h:AQ C ds i rest K E (reorder ids H)):AQ C ds i rest K E H:=AQ.perm _ (DQ hc) h
end
attribute [go_sem] reorder Sh.lit
end Go.AL
end
section
namespace Go.AL
open Go Go.MapKept
def oT (d:TypeDesc) (ks:List Value):Prop:=∀k∈ks,IsKey d k
theorem Al {w:World} {φ:al} {I:Nat->Prop} {cs:List AV} {us:List Value} (h:AV.ab w φ I cs us):us.length=cs.length:=hY cs us h
section
variable {P:Program} {w:World} {φ:al} {I:Nat->Prop} {H:aa} {b:Nat} {ks:List Value} {cs:List AV}
theorem pJ (hR:Real w φ I H) (hH:lk H b=some (.var (.map ks) cs)) {u:Value} (hu:AV.den w φ I (.mp b) u):
  ∃g es clock,u= .map (some g)/\φ b=some (some g)/\w.heap[g]?=some (.map es clock)/\es.toList.map (·.key)=ks/\AV.ab w φ I cs (es.toList.map (·.val))/\oS es clock:=by
 simp only[AV.den]at hu
 obtain⟨g,hg,rfl⟩:=hu
 have:=hR.own b _ _ hH hg
 simp only[Ob.at,Sh.has]at this
 obtain⟨g',us,dr,⟨es,clock,U,h2,h3,h5⟩,h4,_⟩:=this
 cases dr
 subst h3
 exact⟨g,es,clock,rfl,hg,U,h2,h4,h5⟩
end
section
variable {C:Cx} {K:List PK} {E:Env} {H:aa}
theorem sV {d:TypeDesc} {es:Array MapEntry} {ks:List Value} {kv:Value} (cw:es.toList.map (·.key)=ks) (ky:oT d ks) (hk:IsKey d kv):
  (Instr.findNow d kv es.toList 0=some none/\kv∉ks)\/∃j e,Instr.findNow d kv es.toList 0=some (some (j,e.val))/\es.toList[j]?=some e/\e.key=kv/\ks[j]?=some kv:=by
 subst cw
 rcases findNow_spec hk es.toList 0 (fun x hx=>ky _ (List.mem_map.2 ⟨x,hx,rfl⟩))with⟨U,h2⟩|⟨j,e,U,h2,h3⟩
 ·exact .inl ⟨U,fun h=>by obtain⟨x,hx,e⟩:=List.mem_map.1 h;exact h2 x hx e⟩
 ·exact .inr ⟨j,e,by rw[Nat.zero_add]at U;exact U,h2,h3,by rw[List.getElem?_map,h2,<-h3];rfl⟩
theorem AQ.pI (j:Nat) {ds:List (Nat×Nat)} {i:Nat} {d:Option Nat} {ty t kt et:TypeId} {pos:String} {af:Array Edge} {os:List Oper} {m k:Operand} {ok:Bool} {b:Nat} {ks:List Value} {cs:List AV} {kv:Value} {x:AV} {dk:TypeDesc}
  (ai:bl C.n ({dst:=d,op:= .lookup t m k ok,type:=ty,pos:=pos,after:=af,guard:=none}::os)=true)
  (hm:ev E m=some (.mp b)) (hk:ev E k=some (.im (.v kv))) (hH:lk H b=some (.var (.map ks) cs)) (ht:C.P.underlying t=some (.map kt et)) (hd:C.P.underlying kt=some dk)
  (ky:oT dk ks) (fR:IsKey dk kv) (cL:kv∈ks) (hj:∀i,ks[i]?=some kv->i=j) (hx:cs[j]?=some x)
  (h:vq C K os (aZ d i ds) (i+1) (a6 d (bif ok then .aM [x,.im (.v (.bool true))]else x) E) H):
  AQ C ds i ({dst:=d,op:= .lookup t m k ok,type:=ty,pos:=pos,after:=af,guard:=none}::os) K E H:=by
 refine AQ.val (bif ok then .aM [x,.im (.v (.bool true))]else x) ai rfl (fun φ I a w hs=>?_) h
 obtain⟨g,es,clock,il,hg,hh,aC,iQ,k7⟩:=pJ hs.st.real hH (aS hs.env hm)
 have ij:=aS hs.env hk
 simp only[AV.den,IV.den]at ij
 rcases sV aC ky fR with⟨_,h2⟩|⟨j',e,U,h2,h3,h4⟩
 ·exact absurd cL h2
 ·have:=hj j' h4
  subst this
  obtain⟨v,hv,bR⟩:=hU cs _ j' x iQ hx
  have qU:v=e.val:=by rw[List.getElem?_map,h2]at hv;cases hv;rfl
  subst qU
  have aE:(Instr.lookup t (a.eval m) (a.eval k) ok).run C.P w= .ok (if ok then .tuple #[e.val,.bool true]else e.val) w:=by
   rw[il,ij.1]
   cases ok<;>simp[Instr.lookup,run_underlying ht,MapKept.run_getObj_map hh,run_checkKey hd fR,run_findKey hd U,Result.andThen]
  refine⟨if ok then .tuple #[e.val,.bool true]else e.val,by simp only[execOp,Sem.run_bind,Sem.run_map,aE,Result.andThen_ok,Sem.run_pure],?_⟩
  cases ok with
  |true=>simp only[cond_true,if_true,AV.den,AV.ab];exact⟨_,⟨_,_,rfl,bR,_,_,rfl,by simp only[IV.den];exact⟨trivial,rfl⟩,rfl⟩,rfl⟩
  |false=>simpa using bR
theorem AQ.Df {ds:List (Nat×Nat)} {i:Nat} {d:Option Nat} {ty t kt et:TypeId} {pos:String} {af:Array Edge} {os:List Oper} {m k:Operand} {ok:Bool} {b:Nat} {ks:List Value} {cs:List AV} {kv z:Value} {dk:TypeDesc}
  (ai:bl C.n ({dst:=d,op:= .lookup t m k ok,type:=ty,pos:=pos,after:=af,guard:=none}::os)=true)
  (hm:ev E m=some (.mp b)) (hk:ev E k=some (.im (.v kv))) (hH:lk H b=some (.var (.map ks) cs)) (ht:C.P.underlying t=some (.map kt et)) (hd:C.P.underlying kt=some dk)
  (ky:oT dk ks) (fR:IsKey dk kv) (cL:kv∉ks) (hz:(C.P.info? et).bind (·.zero)=some z) (jw:z.oneCell'=true)
  (h:vq C K os (aZ d i ds) (i+1) (a6 d (bif ok then .aM [.im (.v z),.im (.v (.bool false))]else .im (.v z)) E) H):
  AQ C ds i ({dst:=d,op:= .lookup t m k ok,type:=ty,pos:=pos,after:=af,guard:=none}::os) K E H:=by
 refine AQ.val (bif ok then .aM [.im (.v z),.im (.v (.bool false))]else .im (.v z)) ai rfl (fun φ I a w hs=>?_) h
 obtain⟨g,es,clock,il,hg,hh,aC,iQ,k7⟩:=pJ hs.st.real hH (aS hs.env hm)
 have ij:=aS hs.env hk
 simp only[AV.den,IV.den]at ij
 rcases sV aC ky fR with⟨U,_⟩|⟨j',e,U,h2,h3,h4⟩
 ·have CJ:(zeroValue et).run C.P w= .ok z w:=by
   cases hi:C.P.info? et with
   |none=>rw[hi]at hz;cases hz
   |some inf=>
    rw[hi]at hz
    simp only[Option.bind_some]at hz
    simp[zeroValue,typeInfo,hi,hz]
  have aE:(Instr.lookup t (a.eval m) (a.eval k) ok).run C.P w= .ok (if ok then .tuple #[z,.bool false]else z) w:=by
   rw[il,ij.1]
   cases ok<;>simp[Instr.lookup,run_underlying ht,MapKept.run_getObj_map hh,run_checkKey hd fR,run_findKey hd U,CJ,Result.andThen]
  refine⟨if ok then .tuple #[z,.bool false]else z,by simp only[execOp,Sem.run_bind,Sem.run_map,aE,Result.andThen_ok,Sem.run_pure],?_⟩
  cases ok with
  |true=>simp only[cond_true,if_true,AV.den,AV.ab,IV.den];exact⟨_,⟨_,_,rfl,⟨rfl,jw⟩,_,_,rfl,⟨rfl,rfl⟩,rfl⟩,rfl⟩
  |false=>simp only[cond_false,Bool.false_eq_true,if_false,AV.den,IV.den];exact⟨trivial,jw⟩
 ·exact absurd (List.mem_of_getElem? h4) cL
theorem AQ.RP {ds:List (Nat×Nat)} {i:Nat} {d:Option Nat} {ty t kt et:TypeId} {pos:String} {af:Array Edge} {os:List Oper} {m:Operand} {b:Nat} {ks:List Value} {cs:List AV}
  (ai:bl C.n ({dst:=d,op:= .call {callee:= .builtin .len,args:=#[m],argTypes:=#[t]},type:=ty,pos:=pos,after:=af,guard:=none}::os)=true)
  (hm:ev E m=some (.mp b)) (hH:lk H b=some (.var (.map ks) cs)) (ht:C.P.underlying t=some (.map kt et))
  (h:vq C K os (aZ d i ds) (i+1) (a6 d (.im (.v (.int .i64 ks.length))) E) H):
  AQ C ds i ({dst:=d,op:= .call {callee:= .builtin .len,args:=#[m],argTypes:=#[t]},type:=ty,pos:=pos,after:=af,guard:=none}::os) K E H:=by
 refine AQ.val (.im (.v (.int .i64 ks.length))) ai rfl (fun φ I a w hs=>?_) h
 obtain⟨g,es,clock,il,hg,hh,aC,iQ,k7⟩:=pJ hs.st.real hH (aS hs.env hm)
 have aO:es.size=ks.length:=by rw[<-aC];simp
 have aE:(Builtin.len_ #[t] ty #[a.eval m]).run C.P w= .ok (.int .i64 es.size) w:=by
  rw[il]
  simp[Builtin.len_,run_underlying ht,MapKept.run_getObj_map hh,Result.andThen,goInt]
 refine⟨.int .i64 es.size,by simp only[execOp,resolve,invoke,builtin,Sem.run_bind,Sem.run_pure,Result.andThen_ok,List.map_toArray,List.map_cons,List.map_nil,aE],?_⟩
 simp only[AV.den,IV.den,aO]
 exact⟨trivial,rfl⟩
end
theorem M6 {es:Array MapEntry} {clock:Nat} {k v:Value} (h:oS es clock):oS (es.push {key:=k,val:=v,born:=clock}) (clock+1):=by
 refine⟨?_,fun e he=>?_⟩
 ·rw[Array.toList_push,List.map_append,List.nodup_append]
  refine⟨h.1,by simp,fun a ha b hb=>?_⟩
  obtain⟨e,he,rfl⟩:=List.mem_map.1 ha
  have:=h.2 e he
  have hb:b=clock:=by simpa using hb
  omega
 ·rw[Array.toList_push,List.mem_append]at he
  rcases he with he|he
  ·have:=h.2 e he;omega
  ·have:e={key:=k,val:=v,born:=clock}:=by simpa using he
   rw[this];exact Nat.lt_succ_self _
theorem M7 {es dn:Array MapEntry} {clock j:Nat} {e:MapEntry} {k v:Value} (hj:es.toList[j]?=some e) (hs:dn.toList=es.toList.set j {e with key:=k,val:=v}) (h:oS es clock):oS dn clock:=by
 have hb:dn.toList.map (·.born)=es.toList.map (·.born):=by
  rw[hs,List.map_set]
  refine List.ext_getElem? fun i=>?_
  rw[List.getElem?_set]
  split
  ·rename_i iS
   subst iS
   split
   ·rw[List.getElem?_map,hj];rfl
   ·rename_i hl
    rw[List.length_map]at hl
    rw[List.getElem?_eq_none (by rw[List.length_map];omega)]
  ·rfl
 refine⟨by rw[hb];exact h.1,fun x hx=>?_⟩
 have:x.born∈dn.toList.map (·.born):=List.mem_map.2 ⟨x,hx,rfl⟩
 rw[hb]at this
 obtain⟨y,hy,e2⟩:=List.mem_map.1 this
 rw[<-e2];exact h.2 y hy
section
variable {w:World} {φ:al} {I:Nat->Prop} {l:Nat} {es:Array MapEntry} {clock:Nat} {o':Obj}
theorem Ti (hl:w.heap[l]?=some (.map es clock)) (g n:Nat) (h:shaped w g n):shaped (w.putObj l o') g n:=by
 obtain⟨c,e,hc,hn⟩:=h
 have hg:g≠l:=fun h=>by subst h;rw[hl]at hc;cases hc
 exact⟨c,e,(World.putObj_heap_other hg).trans hc,hn⟩
theorem y_ (hl:w.heap[l]?=some (.map es clock)) (hI:¬I l):bt w φ I (w.putObj l o') φ I:=
 ⟨fun g hg=>World.putObj_heap_other (fun e=>hI (e▸hg)),fun _ h=>h,fun _ _ h=>h,fun _ g n _=>Ti hl g n⟩
theorem N6 {own:Nat->Prop} (hl:w.heap[l]?=some (.map es clock)) (ho:own l):Ext own w (w.putObj l o'):=
 ⟨by simp,fun g _ hn=>World.putObj_heap_other (fun e=>hn (e▸ho)),fun g c e fz hc=>⟨c,fz,(World.putObj_heap_other (fun e=>by subst e;rw[hl]at hc;cases hc)).trans hc,rfl⟩,rfl,rfl,rfl⟩
theorem St.DM {B:Bs} {H:aa} (h:St B φ I H w) {b:Nat} (hb:φ b=some (some l)) (hl:w.heap[l]?=some (.map es clock)) {na ob:Ob} (fC:lk H b=some na) (aQ:ob.at (w.putObj l o') φ I (some l)):
  St B φ I (bG H b ob) (w.putObj l o')/\bt w φ I (w.putObj l o') φ I:=by
 have hI:¬I l:=(h.real.off b l hb).1
 have k:bt w φ I (w.putObj l o') φ I:=y_ hl hI
 refine⟨⟨⟨fun b'=>?_,fun b' o p aD hp=>?_,fun b' g hp=>?_,h.real.inj,fun g hg=>?_⟩,h.ext.trans (N6 (own:=fun g=>g=l) hl rfl) (fun g hg=>by subst hg;exact h.bU b _ hb),h.bU,h.c8,h.cj,fun b' p o ag h0 aD=>?_⟩,k⟩
 ·by_cases ak:b'=b
  ·subst ak;rw[iA H b' _ fC,hb];rfl
  ·rw[e_ H b b' _ ak];exact h.real.bq b'
 ·by_cases ak:b'=b
  ·subst ak
   rw[iA H b' _ fC]at aD;cases aD
   rw[hb]at hp;cases hp
   exact aQ
  ·rw[e_ H b b' _ ak]at aD
   exact Ob.jM k.im k.I k.phi k.sh (fun g hg=>World.putObj_heap_other (fun e=>by subst e;subst hg;exact ak (h.real.inj b' b g hp hb))) (h.real.own b' o p aD hp)
 ·have:=h.real.off b' g hp
  exact⟨this.1,by simpa using this.2⟩
 ·have:=h.real.bO g hg
  simpa using this
 ·by_cases ak:b'=b
  ·subst ak;exact h.cD b' p na ag h0 fC
  ·rw[e_ H b b' _ ak]at aD;exact h.cD b' p o ag h0 aD
end
theorem FX {w:World} {φ:al} {I:Nat->Prop} {x:AV} {u:Value} (hx:AV.den w φ I x u):∀(cs:List AV) (us:List Value),AV.ab w φ I cs us->AV.ab w φ I (cs++[x]) (us++[u])
 |[],us,h=>by simp only[AV.ab]at h;subst h;simp only[List.nil_append,AV.ab];exact⟨u,[],rfl,hx,rfl⟩
 |y::cs,us,h=>by
  simp only[AV.ab]at h
  obtain⟨v,vs,rfl,U,h2⟩:=h
  simp only[List.cons_append,AV.ab]
  exact⟨v,_,rfl,U,FX hx cs vs h2⟩
theorem FV {w:World} {φ:al} {I:Nat->Prop} {x:AV} {u:Value} (hx:AV.den w φ I x u):∀(cs:List AV) (us:List Value) (j:Nat),AV.ab w φ I cs us->AV.ab w φ I (cs.set j x) (us.set j u)
 |[],us,j,h=>by simp only[AV.ab]at h;subst h;simp[AV.ab]
 |y::cs,us,0,h=>by
  simp only[AV.ab]at h
  obtain⟨v,vs,rfl,U,h2⟩:=h
  simp only[List.set_cons_zero,AV.ab]
  exact⟨u,vs,rfl,hx,h2⟩
 |y::cs,us,j+1,h=>by
  simp only[AV.ab]at h
  obtain⟨v,vs,rfl,U,h2⟩:=h
  simp only[List.set_cons_succ,AV.ab]
  exact⟨v,_,rfl,U,FV hx cs vs j h2⟩
section
variable {C:Cx} {K:List PK} {E:Env} {H:aa}
theorem AQ.vY {ds:List (Nat×Nat)} {i:Nat} {d:Option Nat} {ty t:TypeId} {pos:String} {af:Array Edge} {os:List Oper}
  (ai:bl C.n ({dst:=d,op:= .makeMap t none,type:=ty,pos:=pos,after:=af,guard:=none}::os)=true)
  (h:vq C K os (aZ d i ds) (i+1) (a6 d (.mp (aL C.B.nb H)) E) ((aL C.B.nb H,.var (.map []) [])::H)):
  AQ C ds i ({dst:=d,op:= .makeMap t none,type:=ty,pos:=pos,after:=af,guard:=none}::os) K E H:=by
 obtain⟨hd,ca⟩:=ef ai
 have bB:=AQ.go ca h
 unfold AQ at bB⊢
 refine AO.step fun ops φ I a w aT _ hs Kn bI=>?_
 have qL:=gL C.B.nb H
 obtain⟨U,h2⟩:=hs.st.xu (ob:= .map #[] 0) (o:= .var (.map []) []) (kO C.B.nb H) qL.1 (by
  simp only[Ob.at,Sh.has,Sh.one,AV.ab]
  exact⟨_,[],rfl,⟨#[],0,by simpa using gB w _,rfl,rfl,List.nodup_nil,fun _ h=>by cases h⟩,rfl,trivial⟩)
 rw[if_pos (by simp[Region.wanted])]
 unfold Oper.wp
 have aE:(execOp a.eval {dst:=d,op:= .makeMap t none,type:=ty,pos:=pos,after:=af,guard:=none}).run C.P w= .ok (.value (.map (some w.heap.size))) (w.alloc (.map #[] 0)):=by
  have PS:(Instr.makeMap t none).run C.P w= .ok (.map (some w.heap.size)) (w.alloc (.map #[] 0)):=rfl
  simp only[execOp,Option.map_none,Sem.run_bind,Sem.run_map,PS,Result.andThen_ok,Sem.run_pure]
 rw[aE,Oper.upon_value]
 exact bI _ _ _ I _ _ bB (hs.put U h2 hd (by simp only[AV.den,a7];exact⟨_,by simp,rfl⟩))
theorem AQ.v7 {ds:List (Nat×Nat)} {i:Nat} {ty t kt et:TypeId} {pos:String} {af:Array Edge} {os:List Oper} {m k x:Operand} {b:Nat} {ks:List Value} {cs:List AV} {kv:Value} {xv:AV} {dk:TypeDesc}
  (ai:bl C.n ({dst:=none,op:= .mapUpdate t m k x,type:=ty,pos:=pos,after:=af,guard:=none}::os)=true)
  (hm:ev E m=some (.mp b)) (hk:ev E k=some (.im (.v kv))) (hx:ev E x=some xv) (hH:lk H b=some (.var (.map ks) cs)) (ht:C.P.underlying t=some (.map kt et)) (hd:C.P.underlying kt=some dk)
  (ky:oT dk ks) (fR:IsKey dk kv) (cL:kv∉ks)
  (h:vq C K os ds (i+1) E (bG H b (.var (.map (ks++[kv])) (cs++[xv])))):
  AQ C ds i ({dst:=none,op:= .mapUpdate t m k x,type:=ty,pos:=pos,after:=af,guard:=none}::os) K E H:=by
 obtain⟨gk,ca⟩:=ef ai
 have bB:=AQ.go ca h
 unfold AQ at bB⊢
 refine AO.step fun ops φ I a w aT _ hs Kn bI=>?_
 obtain⟨g,es,clock,il,hg,hh,aC,iQ,k7⟩:=pJ hs.st.real hH (aS hs.env hm)
 have ij:=aS hs.env hk
 simp only[AV.den,IV.den]at ij
 have j6:=aS hs.env hx
 rcases sV aC ky fR with⟨U,_⟩|⟨j',e,U,h2,h3,h4⟩
 ·rw[if_pos (by simp[Region.wanted])]
  unfold Oper.wp
  have ag:g<w.heap.size:=(hs.st.real.off b g hg).2
  have aE:(Instr.mapUpdate t (a.eval m) (a.eval k) (a.eval x)).run C.P w= .ok () (w.putObj g (.map (es.push {key:=kv,val:=a.eval x,born:=clock}) (clock+1))):=by
   rw[il,ij.1]
   simp[Instr.mapUpdate,run_underlying ht,MapKept.run_getObj_map hh,run_checkKey hd fR,run_findKey hd U,MapKept.run_setObj_map _ hh,Result.andThen,World.putObj]
  have Cm:(execOp a.eval {dst:=none,op:= .mapUpdate t m k x,type:=ty,pos:=pos,after:=af,guard:=none}).run C.P w= .ok .skip (w.putObj g (.map (es.push {key:=kv,val:=a.eval x,born:=clock}) (clock+1))):=by
   simp only[execOp,Sem.run_bind,Sem.run_map,aE,Result.andThen_ok,Sem.run_pure]
  rw[Cm,Oper.upon_skip]
  obtain⟨hS,uU⟩:=hs.st.DM (o':= .map (es.push {key:=kv,val:=a.eval x,born:=clock}) (clock+1)) (ob:= .var (.map (ks++[kv])) (cs++[xv])) hg hh hH (by
   simp only[Ob.at,Sh.has,Sh.one]
   refine⟨g,es.toList.map (·.val)++[a.eval x],rfl,⟨_,_,World.putObj_heap_same ag,by simp[aC],by simp,M6 k7⟩,?_,trivial⟩
   have hK:=y_ (φ:=φ) (o':= .map (es.push {key:=kv,val:=a.eval x,born:=clock}) (clock+1)) hh (hs.st.real.off b g hg).1
   exact AV.gT hK.im hK.I hK.phi hK.sh _ _ (FX j6 cs _ iQ))
  exact bI _ _ φ I _ _ bB (hs.put hS uU gk (v:= .top) (by simp only[AV.den]))
 ·exact absurd (List.mem_of_getElem? h4) cL
theorem AQ.RU (j:Nat) {ds:List (Nat×Nat)} {i:Nat} {ty t kt et:TypeId} {pos:String} {af:Array Edge} {os:List Oper} {m k x:Operand} {b:Nat} {ks:List Value} {cs:List AV} {kv:Value} {xv:AV} {dk:TypeDesc}
  (ai:bl C.n ({dst:=none,op:= .mapUpdate t m k x,type:=ty,pos:=pos,after:=af,guard:=none}::os)=true)
  (hm:ev E m=some (.mp b)) (hk:ev E k=some (.im (.v kv))) (hx:ev E x=some xv) (hH:lk H b=some (.var (.map ks) cs)) (ht:C.P.underlying t=some (.map kt et)) (hd:C.P.underlying kt=some dk)
  (ky:oT dk ks) (fR:IsKey dk kv) (cL:kv∈ks) (hj:∀i,ks[i]?=some kv->i=j)
  (h:vq C K os ds (i+1) E (bG H b (.var (.map ks) (cs.set j xv)))):
  AQ C ds i ({dst:=none,op:= .mapUpdate t m k x,type:=ty,pos:=pos,after:=af,guard:=none}::os) K E H:=by
 obtain⟨gk,ca⟩:=ef ai
 have bB:=AQ.go ca h
 unfold AQ at bB⊢
 refine AO.step fun ops φ I a w aT _ hs Kn bI=>?_
 obtain⟨g,es,clock,il,hg,hh,aC,iQ,k7⟩:=pJ hs.st.real hH (aS hs.env hm)
 have ij:=aS hs.env hk
 simp only[AV.den,IV.den]at ij
 have j6:=aS hs.env hx
 rcases sV aC ky fR with⟨_,h2⟩|⟨j',e,U,h2,h3,h4⟩
 ·exact absurd cL h2
 ·have:=hj j' h4
  subst this
  rw[if_pos (by simp[Region.wanted])]
  unfold Oper.wp
  have ag:g<w.heap.size:=(hs.st.real.off b g hg).2
  have dV:es[j']?=some e:=by simpa using h2
  have aE:(Instr.mapUpdate t (a.eval m) (a.eval k) (a.eval x)).run C.P w= .ok () (w.putObj g (.map (es.modify j' fun e=>{e with key:=kv,val:=a.eval x}) clock)):=by
   rw[il,ij.1]
   simp[Instr.mapUpdate,run_underlying ht,MapKept.run_getObj_map hh,run_checkKey hd fR,run_findKey hd U,dV,h3,run_keyThatStays fR,MapKept.run_setObj_map _ hh,Result.andThen,World.putObj]
  have Cm:(execOp a.eval {dst:=none,op:= .mapUpdate t m k x,type:=ty,pos:=pos,after:=af,guard:=none}).run C.P w= .ok .skip (w.putObj g (.map (es.modify j' fun e=>{e with key:=kv,val:=a.eval x}) clock)):=by
   simp only[execOp,Sem.run_bind,Sem.run_map,aE,Result.andThen_ok,Sem.run_pure]
  rw[Cm,Oper.upon_skip]
  have B8:(es.modify j' fun e=>{e with key:=kv,val:=a.eval x}).toList=es.toList.set j' {e with key:=kv,val:=a.eval x}:=by
   rw[Array.toList_modify]
   exact Jo h2
  obtain⟨hS,uU⟩:=hs.st.DM (o':= .map (es.modify j' fun e=>{e with key:=kv,val:=a.eval x}) clock) (ob:= .var (.map ks) (cs.set j' xv)) hg hh hH (by
   simp only[Ob.at,Sh.has,Sh.one]
   refine⟨g,(es.toList.map (·.val)).set j' (a.eval x),rfl,⟨_,_,World.putObj_heap_same ag,?_,?_,M7 h2 B8 k7⟩,?_,trivial⟩
   ·rw[B8,List.map_set,aC]
    exact KO h4
   ·rw[B8,List.map_set]
   ·have hK:=y_ (φ:=φ) (o':= .map (es.modify j' fun e=>{e with key:=kv,val:=a.eval x}) clock) hh (hs.st.real.off b g hg).1
    exact AV.gT hK.im hK.I hK.phi hK.sh _ _ (FV j6 cs _ j' iQ))
  exact bI _ _ φ I _ _ bB (hs.put hS uU gk (v:= .top) (by simp only[AV.den]))
where
 Jo {α:Type} {f:α->α} {x:α}:∀{l:List α} {j:Nat},l[j]?=some x->l.modify j f=l.set j (f x)
  |[],_,h=>by simp at h
  |y::l,0,h=>by simp at h;subst h;rfl
  |y::l,j+1,h=>by simp only[List.getElem?_cons_succ]at h;simp only[List.modify_succ_cons,List.set_cons_succ];rw[Jo h]
 KO {α:Type} {x:α}:∀{l:List α} {j:Nat},l[j]?=some x->l.set j x=l
  |[],_,h=>by simp at h
  |y::l,0,h=>by simp at h;subst h;rfl
  |y::l,j+1,h=>by simp only[List.getElem?_cons_succ]at h;simp only[List.set_cons_succ];rw[KO h]
end
section
variable {C:Cx} {K:List PK} {E:Env} {H:aa}
end
end Go.AL
end
section
namespace Go.AL
open Go
theorem St.SO {B:Bs} {φ:al} {I:Nat->Prop} {H:aa} {w:World} (h:St B φ I H w) {b:Nat} {o o':Ob} (hl:lk H b=some o) (hd:∀p,φ b=some p->o.at w φ I p->o'.at w φ I p):
  St B φ I (bG H b o') w:=by
 refine⟨⟨fun b'=>?_,fun b' o2 p aD hp=>?_,h.real.off,h.real.inj,h.real.bO⟩,h.ext,h.bU,h.c8,h.cj,fun b' p o2 ag h0 aD=>?_⟩
 ·by_cases ak:b'=b
  ·subst ak;rw[iA H b' _ hl,h.real.bq b',hl];rfl
  ·rw[e_ H b b' _ ak];exact h.real.bq b'
 ·by_cases ak:b'=b
  ·subst ak
   rw[iA H b' _ hl]at aD
   cases aD
   exact hd p hp (h.real.own b' _ p hl hp)
  ·rw[e_ H b b' _ ak]at aD;exact h.real.own b' o2 p aD hp
 ·by_cases ak:b'=b
  ·subst ak;exact h.cD b' p _ ag h0 hl
  ·rw[e_ H b b' _ ak]at aD;exact h.cD b' p o2 ag h0 aD
theorem St.gH {B:Bs} {φ:al} {I:Nat->Prop} {H H':aa} {w:World} (h:St B φ I H w) (he:∀b,lk H b=lk H' b):St B φ I H' w:=
 ⟨⟨fun b=>by rw[h.real.bq b,he b],fun b o p hl hp=>h.real.own b o p ((he b).trans hl) hp,h.real.off,h.real.inj,h.real.bO⟩,h.ext,h.bU,h.c8,h.cj,fun b p o ag h0 hl=>h.cD b p o ag h0 ((he b).trans hl)⟩
section
variable {C:Cx} {K:List PK} {E:Env} {H:aa}
theorem AE.gH {e:Exit} (H':aa) (he:∀b,lk H b=lk H' b) (h:AE C e K E H'):AE C e K E H:=by
 unfold AE at h⊢
 exact fun φ I a w hs=>h _ _ _ _ ⟨hs.bD,hs.bE,hs.env,hs.st.gH he⟩
theorem AP.gH {p:List Nat} (H':aa) (he:∀b,lk H b=lk H' b) (h:AP C p K E H'):AP C p K E H:=by
 unfold AP at h⊢
 exact fun φ I a w hs=>h _ _ _ _ ⟨hs.bD,hs.bE,hs.env,hs.st.gH he⟩
theorem AQ.gH {ds:List (Nat×Nat)} {i:Nat} {rest:List Oper} (H':aa) (he:∀b,lk H b=lk H' b) (h:AQ C ds i rest K E H'):AQ C ds i rest K E H:=by
 unfold AQ at h⊢
 exact fun ops U h2 φ I a w hs=>h ops U h2 _ _ _ _ ⟨hs.bD,hs.bE,hs.env,hs.st.gH he⟩
end
section
variable {C:Cx} {K:List PK} {E:Env} {H:aa}
end
end Go.AL
end
section
namespace Go.AL
open Go
variable {es:Nat} {el:TypeId}
section
variable {C:Cx} {K:List PK} {E:Env}
end
end Go.AL
end
section
namespace Go.AL
open Go
section
variable {C:Cx} {K:List PK} {E:Env} {H:aa}
theorem FL {Hc:aa}:∀(m:List (Nat×Nat)),(∀b c,(b,c)∈m->(lk Hc b).isSome=true)->bZ Hc m=[]
 |[],_=>rfl
 |(b,c)::r,h=>by
  have U:=h b c (by simp)
  obtain⟨o,ho⟩:=Option.isSome_iff_exists.1 U
  simp only[bZ,ho]
  exact FL r fun b' c' hb=>h b' c' (by simp[hb])
theorem IU:∀(m:List (Nat×Nat)) (b c:Nat),(b,c)∈m->(lk m b).isSome=true
 |[],_,_,h=>by cases h
 |(b',c')::r,b,c,h=>by
  simp only[lk]
  cases hb:Nat.beq b' b with
  |true=>rfl
  |false=>
   rcases List.mem_cons.1 h with h|h
   ·cases h;simp at hb
   ·simpa using IU r b c h
theorem AQ.rK (m:List (Nat×Nat)) {ds:List (Nat×Nat)} {i:Nat} {d:Option Nat} {ty:TypeId} {pos:String} {af:Array Edge} {os:List Oper} {bk:Operand} {f:FuncId} {fs aJ:List AV} {xs:List Operand} {aV:Array TypeId} {l ga:List AV} {Hc:aa} {r:AV}
  (ai:bl C.n ({dst:=d,op:= .call {callee:= .value bk,args:=xs.toArray,argTypes:=aV},type:=ty,pos:=pos,after:=af,guard:=none}::os)=true)
  (eY:ev E bk=some (.fn f fs aJ)) (hl:dI E xs=some l) (du:gs l=true)
  (j0:eQ m=ly Hc) (iU:fF (eQ m)=true) (j3:fF (jc m)=true) (j4:∀k,jG (bm m k) H Hc)
  (cS:∀k,AV.cd (bm m k) ga=fs++l.map AV.st++aJ) (hr:∀k,AV.rn (bm m k) r=r) (hc:aj C.P f ga Hc (fun r' H'=>H'=Hc/\r'=r))
  (h:vq C K os (aZ d i ds) (i+1) (a6 d r E) H):
  AQ C ds i ({dst:=d,op:= .call {callee:= .value bk,args:=xs.toArray,argTypes:=aV},type:=ty,pos:=pos,after:=af,guard:=none}::os) K E H:=by
 have hH:Hand m (aL C.B.nb H) H Hc:=⟨j0,iU,j3,j4 _,fun b o hb=>by have:=oz H b o hb;have:=(gL C.B.nb H).2;omega⟩
 refine AQ.lP m ai eY hl du j0 iU j3 (j4 _) (cS _) hc fun r' H1 ⟨e1,e2⟩=>?_
 subst e1;subst e2
 have Ph:bZ H1 m=[]:=FL m fun b c hb=>by rw[<-hH.bq];exact IU m b c hb
 rw[Ph,hr]
 refine⟨rfl,AQ.gH H (fun c=>?_) (AQ.go (ef ai).2 h)⟩
 rcases Nat.lt_or_ge c (aL C.B.nb H)with ag|fB
 ·rw[hH.zf ag]
  cases hi:dv m c with
  |none=>rfl
  |some b=>
   obtain⟨o,U,h2⟩:=hH.get (hH.sJ hi)
   simp only[U,h2,Option.map_some]
 ·obtain⟨b,rfl⟩:=Nat.exists_eq_add_of_le fB
  rw[hH.C6 b]
  have hn:lk H (aL C.B.nb H+b)=none:=by
   cases hq:lk H (aL C.B.nb H+b)with
   |none=>rfl
   |some o=>have:=hH.fresh _ _ hq;omega
  rw[hn]
  cases hm:lk m b with
  |some c=>rfl
  |none=>
   have:=hH.bq b
   rw[hm]at this
   cases hq:lk H1 b with
   |none=>rfl
   |some o=>rw[hq]at this;cases this
end
section
variable {C:Cx} {K:List PK} {E:Env} {H:aa}
theorem AP.cut {p:List Nat} {α:Type} (LE:α->Env) (LH:α->aa) (ok:α->Prop) (h:AP C p (.lp (rE C LE LH ok (fun _=>0) 1)::K) E H) (h':∀q,ok q->AE C .normal K (LE q) (LH q)):AP C p K E H:=by
 unfold AP at h⊢
 unfold AE at h'
 intro φ I a w hs
 refine wpIn_mono (h φ I a w hs) (fun e a w hq=>?_)
 cases e with
 |normal=>
  obtain⟨q,U,_,a8,I1,h2⟩:=hq
  exact h' q U a8 I1 a w h2
 |_=>exact hq
theorem AE.meet {α:Type} {LE:α->Env} {LH:α->aa} {ok:α->Prop} (q:α) (ai:ok q) (hE:Sub E (LE q)) (hH:H=LH q):
  AE C .normal (.lp (rE C LE LH ok (fun _=>0) 1)::K) E H:=AE.round q ai (Nat.lt_succ_self 0) hE hH
def bY (cs cs':List AV):Prop:=∀(w:World) (φ:al) (I:Nat->Prop) (us:List Value),AV.ab w φ I cs us->AV.ab w φ I cs' us
theorem bY.refl (cs:List AV):bY cs cs:=fun _ _ _ _ h=>h
theorem bY.cons {x:AV} {cs cs':List AV} (h:bY cs cs'):bY (x::cs) (x::cs'):=fun w φ I us hd=>by
 simp only[AV.ab]at hd⊢
 obtain⟨u,ao,e,U,h2⟩:=hd
 exact⟨u,ao,e,U,h w φ I ao h2⟩
theorem bY.nil {es:Nat} {cs cs':List AV} (h:bY cs cs'):bY (.im (.v (.slice none 0 0))::cs) (.im (.sl es [])::cs'):=fun w φ I us hd=>by
 simp only[AV.ab]at hd⊢
 obtain⟨u,ao,e,U,h2⟩:=hd
 exact⟨u,ao,e,by simp only[AV.den]at U⊢;exact Dy U,h w φ I ao h2⟩
theorem St.fj {B:Bs} {φ:al} {I:Nat->Prop} {H:aa} {w:World} (h:St B φ I H w) {b:Nat} {e:Sh} {cs cs':List AV} (hl:lk H b=some (.var e cs)) (hc:bY cs cs'):St B φ I (bG H b (.var e cs')) w:=
 h.SO hl fun p _ ho=>by
  simp only[Ob.at]at ho⊢
  obtain⟨g,us,U,h2,h3,h4⟩:=ho
  exact⟨g,us,U,h2,hc w φ I us h3,h4⟩
theorem AE.fj {e:Exit} (b:Nat) (cs':List AV) {s:Sh} {cs:List AV} (hl:lk H b=some (.var s cs)) (hc:bY cs cs') (h:AE C e K E (bG H b (.var s cs'))):AE C e K E H:=by
 unfold AE at h⊢
 exact fun φ I a w hs=>h _ _ _ _ ⟨hs.bD,hs.bE,hs.env,hs.st.fj hl hc⟩
theorem AP.fj {p:List Nat} (b:Nat) (cs':List AV) {s:Sh} {cs:List AV} (hl:lk H b=some (.var s cs)) (hc:bY cs cs') (h:AP C p K E (bG H b (.var s cs'))):AP C p K E H:=by
 unfold AP at h⊢
 exact fun φ I a w hs=>h _ _ _ _ ⟨hs.bD,hs.bE,hs.env,hs.st.fj hl hc⟩
end
section
variable {C:Cx} {K:List PK} {E:Env} {H:aa}
theorem AQ.step1 (x:AV) (H':aa) {ds:List (Nat×Nat)} {i:Nat} {o:Oper} {os:List Oper} (ai:bl C.n (o::os)=true) (hg:o.guard=none)
  (hex:∀φ I a w,bn C φ I E H a w->∃u w' φ' I',(execOp a.eval o).run C.P w= .ok (.value u) w'/\AV.den w' φ' I' x u/\St C.B φ' I' H' w'/\bt w φ I w' φ' I')
  (h:vq C K os (aZ o.dst i ds) (i+1) (a6 o.dst x E) H'):AQ C ds i (o::os) K E H:=by
 obtain⟨hd,ca⟩:=ef ai
 have bB:=AQ.go ca h
 unfold AQ at bB⊢
 refine AO.step (o:=o) fun ops φ I a w aT _ hs Kn bI=>?_
 have hw:Region.wanted o (yielded ops a.tmps)=true:=by simp[Region.wanted,hg]
 rw[if_pos hw]
 obtain⟨u,w',φ',I',aE,a_,hS,hK⟩:=hex φ I a w hs
 unfold Oper.wp
 rw[aE,Oper.upon_value]
 exact bI _ _ φ' I' _ _ bB (hs.put hS hK hd a_)
def Em (C:Cx) (K:List PK):Nat->List Oper->List (Nat×Nat)->Nat->Env->aa->Prop
 |0,os,ds,i,E,H=>AQ C ds i os K E H
 |_+1,[],ds,i,E,H=>AQ C ds i [] K E H
 |n+1,o::os,ds,i,E,H=>match gd ds E o.guard with
  |none=>AQ C ds i (o::os) K E H
  |some G=>match gQ C.P E H o.op with
   |some (sc,v)=>(G=true->sc)/\Em C K n os (aZ o.dst i ds) (i+1) (a6 o.dst (wrap o.guard G v) E) H
   |none=>match o.guard with
    |some _=>AQ C ds i (o::os) K E H
    |none=>match nD C.P C.B.nb C.ob E H o with
     |some (sc,v,H')=>sc/\Em C K n os (aZ o.dst i ds) (i+1) (a6 o.dst v E) H'
     |none=>AQ C ds i (o::os) K E H
end
attribute [go_sem] Em
def sO (φ:al) (I:Nat->Prop) (g:Nat):Prop:=I g\/∃b,φ b=some (some g)
def kV (H:aa) (x:AV) (y:IV):Prop:=∀(w:World) (φ:al) (I:Nat->Prop),Real w φ I H->∀u,AV.den w φ I x u->IV.den w (sO φ I) y u
def qc (H:aa) (xs:List AV) (ys:List IV):Prop:=∀(w:World) (φ:al) (I:Nat->Prop),Real w φ I H->∀us,AV.ab w φ I xs us->IV.ab w (sO φ I) ys us
def mA (H:aa) (x y:AV):Prop:=∀(w:World) (φ:al) (I:Nat->Prop),Real w φ I H->∀u,AV.den w φ I x u->AV.den w (fun _=>none) (sO φ I) y u
def oU (H:aa) (xs ys:List AV):Prop:=∀(w:World) (φ:al) (I:Nat->Prop),Real w φ I H->∀us,AV.ab w φ I xs us->AV.ab w (fun _=>none) (sO φ I) ys us
theorem qc.nil {H:aa}:qc H [] []:=fun _ _ _ _ us h=>by simpa only[AV.ab,IV.ab]using h
theorem qc.cons {H:aa} {x:AV} {y:IV} {xs:List AV} {ys:List IV} (h:kV H x y) (h':qc H xs ys):qc H (x::xs) (y::ys):=fun w φ I hR us hd=>by
 simp only[AV.ab]at hd
 obtain⟨u,ao,rfl,U,h2⟩:=hd
 simp only[IV.ab]
 exact⟨u,ao,rfl,h w φ I hR u U,h' w φ I hR ao h2⟩
theorem oU.nil {H:aa}:oU H [] []:=fun _ _ _ _ us h=>by simpa only[AV.ab]using h
theorem oU.cons {H:aa} {x y:AV} {xs ys:List AV} (h:mA H x y) (h':oU H xs ys):oU H (x::xs) (y::ys):=fun w φ I hR us hd=>by
 simp only[AV.ab]at hd⊢
 obtain⟨u,ao,rfl,U,h2⟩:=hd
 exact⟨u,ao,rfl,h w φ I hR u U,h' w φ I hR ao h2⟩
theorem kV.im {H:aa} (x:IV):kV H (.im x) x:=fun w φ I hR u hd=>by
 simp only[AV.den]at hd
 exact IV.mE (fun _ _ _ _ h=>h) (fun g hg=> .inl hg) x u hd
theorem mA.of {H:aa} {x:AV} {y:IV} (h:kV H x y):mA H x (.im y):=fun w φ I hR u hd=>by
 simp only[AV.den];exact h w φ I hR u hd
theorem mA.im {H:aa} (x:IV):mA H (.im x) (.im x):=mA.of (kV.im x)
theorem mA.agg {H:aa} {xs ys:List AV} (h:oU H xs ys):mA H (.agg xs) (.agg ys):=fun w φ I hR u hd=>by
 simp only[AV.den]at hd⊢
 obtain⟨us,U,h2⟩:=hd
 exact⟨us,h w φ I hR us U,h2⟩
theorem mA.fn {H:aa} {f:FuncId} {xs ys as bs:List AV} (h:oU H xs ys) (h':oU H as bs):mA H (.fn f xs as) (.fn f ys bs):=fun w φ I hR u hd=>by
 simp only[AV.den]at hd⊢
 obtain⟨us,vs,U,h2,h3⟩:=hd
 exact⟨us,vs,h w φ I hR us U,h' w φ I hR vs h2,h3⟩
theorem kV.os {H:aa} {b es i n:Nat} {el:TypeId} {rows:List (List IV)} (hl:lk H b=some (.vec el es rows)) (hn:i+n<=rows.length):kV H (.os b es i n) (.sl es ((rows.drop i).take n)):=fun w φ I hR u hd=>by
 obtain⟨p,hp⟩:∃p,φ b=some p:=by
  have:=hR.bq b
  rw[hl]at this
  cases hq:φ b with
  |none=>rw[hq]at this;cases this
  |some p=>exact⟨p,rfl⟩
 have aQ:=hR.own b _ p hl hp
 simp only[Ob.at]at aQ
 have hb:(φ b=some none/\rows=[])\/∃g ae,φ b=some (some g)/\sO φ I g/\IV.aH w I rows ae/\(∀vs∈ae,vs.length=es)/\cB w g 0 ae.flatten:=by
  rcases aQ with⟨rfl,hr⟩|⟨g,ae,rest,rfl,b6,hd,uY⟩
  ·exact .inl ⟨hp,hr⟩
  ·refine .inr ⟨g,ae,hp,.inr ⟨b,hp⟩,hd,uY,fun j u hu=>?_⟩
   have ag:j<ae.flatten.length:=by
    rcases Nat.lt_or_ge j ae.flatten.length with h|h
    ·exact h
    ·rw[List.getElem?_eq_none h]at hu;cases hu
   simp only[World.cell?,b6,Option.isSome_none,Bool.false_eq_true,if_false,List.getElem?_toArray,Nat.zero_add]
   rw[List.getElem?_append_left ag];exact hu
 have:=r2 (φ':=φ) (I':=sO φ I) (b:=b) (es:=es) (rows:=rows) (fun _ _=>rfl) (fun g hg=> .inl hg) hb (.os b es i n) u (by simpa[gV]using hn) hd
 simpa[fN,AV.den]using this
theorem kV.ob {H:aa} {b:Nat} {e:TypeId} {cs:List AV} {ys:List IV} (o:Nat) (hl:lk H b=some (.var (.cell e) cs)) (hc:qc H cs ys):kV H (.ob b o) (.pt (ys.drop o)):=fun w φ I hR u hd=>by
 simp only[AV.den]at hd
 obtain⟨g,hg,rfl⟩:=hd
 have aQ:=hR.own b _ _ hl hg
 simp only[Ob.at,Sh.has]at aQ
 obtain⟨g',us,dr,b6,aT,_⟩:=aQ
 cases dr
 simp only[IV.den]
 refine⟨g,o,us.drop o,rfl,.inr ⟨b,hg⟩,sG o _ _ (hc w φ I hR us aT),fun j u hj=>?_⟩
 rw[List.getElem?_drop]at hj
 simp only[World.cell?,b6,Option.isSome_none,Bool.false_eq_true,if_false,List.getElem?_toArray]
 exact hj
theorem kV.na {H:aa} {b:Nat} {e:TypeId} {cs:List AV} {ys:List IV} (hl:lk H b=some (.var (.cell e) cs)) (hc:qc H cs ys):kV H (.ob b 0) (.pt ys):=kV.ob 0 hl hc
def IV.plain:IV->Bool
 | .v _=>true
 | .sl _ []=>true
 |_=>false
def IV.zB:List IV->Bool
 |[]=>true
 |x::xs=>x.plain&&IV.zB xs
def S1 (rows:List (List IV)):Prop:=∀r∈rows,IV.zB r=true
mutual
def AV.plain:AV->Bool
 | .im x=>x.plain
 | .ar xs=>IV.zB xs
 | .agg xs=>AV.rb xs
 | .aM xs=>AV.rb xs
 | .fn _ xs ys=>AV.rb xs&&AV.rb ys
 | .opt _ x=>AV.plain x
 | .wr _ x=>AV.plain x
 |_=>true
def AV.rb:List AV->Bool
 |[]=>true
 |x::xs=>AV.plain x&&AV.rb xs
end
def Ob.plain:Ob->Prop
 | .var _ cs=>AV.rb cs=true
 | .vec _ _ rows=>S1 rows
 | .lp .. =>False
def EM (k:Nat):aa->aa->aa
 |[],H=>H
 |(b,o)::r,H=>(k+b,cH (fun c=>k+c) o)::EM k r H
attribute [go_sem] EM AV.plain AV.rb IV.plain IV.zB
section
variable {C:Cx} {K:List PK} {E:Env} {H:aa}
end
section
variable {C:Cx} {K:List PK} {E:Env} {H:aa}
theorem AQ.hO {ds:List (Nat×Nat)} {i:Nat} {rest:List Oper} (b off:Nat) (el:TypeId) (es:Nat) {e:Sh} {cs:List AV} (hl:lk H b=some (.var e cs)) (hc:cs[off]?=some (.im (.v (.slice none 0 0))))
  (h:AQ C ds i rest K E ((aL C.B.nb H,.vec el es [])::bG H b (.var e (cs.set off (.os (aL C.B.nb H) es 0 0))))):AQ C ds i rest K E H:=by
 unfold AQ at h⊢
 exact fun ops U h2 φ I a w hs=>by
  obtain⟨φ',eG⟩:=hs.hO hl hc el es
  exact h ops U h2 _ _ _ _ eG
end
section
variable {C:Cx} {K K':List PK} {E:Env} {H:aa} {p p':List Nat} {e e':Exit} {ds:List (Nat×Nat)} {i:Nat} {os:List Oper}
theorem xA (h:AP C p' K' E H) (hs:s4 C.fn p K=some (.inl p',K'):=by exact rfl):AP C p K E H:=UF hs h
theorem xB (h:AE C e K' E H) (hs:s4 C.fn p K=some (.inr e,K'):=by exact rfl):AP C p K E H:=UE hs h
theorem xC (h:AP C p' K' E H) (hs:s3 C.fn e K=some (.inl p',K'):=by exact rfl):AE C e K E H:=UD hs h
theorem xE (h:AE C e' K' E H) (hs:s3 C.fn e K=some (.inr e',K'):=by exact rfl):AE C e K E H:=UC hs h
theorem xD (h:AE C .normal K (kL C.kp E) H):AQ C ds i [] K E H:=AQ.done h
theorem xK {o:Oper} (h:vq C K os (aZ o.dst i ds) (i+1) (a6 o.dst (.opt false .top) E) H) (ai:bl C.n (o::os)=true:=by kernel_rfl) (hG:gd ds E o.guard=some false:=by exact rfl):AQ C ds i (o::os) K E H:=AQ.skip ai hG h
theorem xS {d:Option Nat} {ty s dt e:TypeId} {x:Operand} {pos:String} {af:Array Edge} {l:List UInt8}
  (h:vq C K os (aZ d i ds) (i+1) (a6 d (.im (.sl 1 (di l))) E) H) (ai:bl C.n ({dst:=d,op:= .convert s dt x,type:=ty,pos:=pos,after:=af,guard:=none}::os)=true:=by kernel_rfl)
  (
   hx:ev E x=some (Sv l):=by exact rfl) (hs:(C.P.underlying s).isSome=true:=by exact rfl) (hd:tk C.P dt= .slice e:=by exact rfl) (he:tk C.P e= .int .u8:=by exact rfl)
   :
  AQ C ds i ({dst:=d,op:= .convert s dt x,type:=ty,pos:=pos,after:=af,guard:=none}::os) K E H:=AQ.S5 ai hx hs hd he h
theorem xM {d:Option Nat} {ty t e:TypeId} {x:Operand} {pos:String} {af:Array Edge} {b es n:Nat} {el:TypeId} {rows:List (List IV)}
  (h:vq C K os (aZ d i ds) (i+1) (a6 d (.im (.sl es rows)) (killE b E)) (eh b H)) (ai:bl C.n ({dst:=d,op:= .convert t t x,type:=ty,pos:=pos,after:=af,guard:=none}::os)=true:=by kernel_rfl)
  (
   hx:ev E x=some (.os b es 0 n):=by exact rfl) (hl:lk H b=some (.vec el es rows):=by exact rfl) (hn:n=rows.length:=by exact rfl) (aR:Nat.beq n 0=false:=by exact rfl) (bL:noMen b (eh b H)=true:=by exact rfl) (hd:tk C.P t= .slice e:=by exact rfl) (he:tk C.P e= .int .u8:=by exact rfl)
   :
  AQ C ds i ({dst:=d,op:= .convert t t x,type:=ty,pos:=pos,after:=af,guard:=none}::os) K E H:=AQ.mark ai hx hl hn aR bL hd he h
theorem xT {t:Tmp} {x y:Code} (ht:AP C (0::p) K E H) (hc:bS C.fn p= .cond (.tmp t) x y:=by exact rfl) (hb:lk E t=some (.im (.v (.bool true))):=by exact rfl):AP C p K E H:=AP.cond_true hc hb ht
theorem xF {t:Tmp} {x y:Code} (hf:AP C (1::p) K E H) (hc:bS C.fn p= .cond (.tmp t) x y:=by exact rfl) (hb:lk E t=some (.im (.v (.bool false))):=by exact rfl):AP C p K E H:=AP.cond_false hc hb hf
theorem xR {id:Nat} {ops:List Oper} (h:vq C K ops [] 0 E H) (hc:bS C.fn p= .region id ops.toArray false:=by exact rfl) (ai:bl C.n ops=true:=by kernel_rfl):AP C p K E H:=AP.region hc ai h
theorem xW {id:Nat} {ops:List Oper} (h:vg C H (fun _ En=>AQ C [] ops.length [] K En H) ops [] 0 E) (hc:bS C.fn p= .region id ops.toArray true:=by exact rfl) (HU:ops.all Kh=true:=by exact rfl) (hq:(bl C.n ops&&x3 ops ops.length (AU ops.length)&&C.P.follows .mixedOrders)=true:=by kernel_rfl)
   :AP C p K E H:=AP.NW hc HU hq h
end
end Go.AL
end
section
namespace Go.AL
open Go Go.RowKit Go.Lib
section
variable {P:Program} {w:World}
end
section
variable {C:Cx} {K:List KI} {E:Env} {H:aa}
end
section
variable {C:Cx} {K:List PK} {E:Env} {H:aa}
end
section
variable {C:Cx} {K:List PK} {E:Env} {H:aa}
end
end Go.AL
end
section
namespace Go.AL
open Go
section
variable {C:Cx} {K:List PK} {E:Env} {H:aa}
theorem NZ {w:World} {φ:al} {I:Nat->Prop} {a:Act} (he:dH w φ I E a):dH w φ I (rk E) a:=fun j x hx=>by
 obtain⟨y,hy,rfl⟩:=K5 E j x hx
 obtain⟨u,hu,hd⟩:=he j y hy
 exact⟨u,hu,Tv hd⟩
def x4 (C:Cx) (K:List PK) (E:Env) (H:aa) (ds:List (Nat×Nat)) (i:Nat) (o:Oper) (os:List Oper):Prop:=
 match nD C.P C.B.nb C.ob (rk E) H o with
 |some (sc,v,H')=>sc/\vq C K os (aZ o.dst i ds) (i+1) (a6 o.dst v E) H'
 |none=>False
theorem AQ.x4 {ds:List (Nat×Nat)} {i:Nat} {o:Oper} {os:List Oper} (ai:bl C.n (o::os)=true) (hg:o.guard=none) (h:x4 C K E H ds i o os):AQ C ds i (o::os) K E H:=by
 unfold AL.x4 at h
 split at h
 ·rename_i sc v H' he
  obtain⟨ay,qK⟩:=h
  obtain⟨hd,ca⟩:=ef ai
  have fy:=AQ.go ca qK
  unfold AQ at fy⊢
  refine AO.step (o:=o) fun ops φ I a w aT _ hs Kn bI=>?_
  have hw:Region.wanted o (yielded ops a.tmps)=true:=by simp[Region.wanted,hg]
  rw[if_pos hw]
  obtain⟨nx,w',φ',I',aE,qL,hS,hk⟩:=EO (P:=C.P) (NZ hs.env) hs.st he ay
  unfold Oper.wp
  rw[aE]
  rcases qL with⟨u,rfl,a_⟩|⟨rfl,a_⟩
  ·rw[Oper.upon_value]
   exact bI _ _ φ' I' _ _ fy (hs.put hS hk hd a_)
  ·rw[Oper.upon_skip]
   exact bI _ _ φ' I' _ _ fy (hs.put hS hk hd a_)
 ·exact h.elim
end
attribute [go_sem] x4
section
variable {C:Cx} {K:List PK} {E:Env} {H:aa}
theorem Kj (l:List Value):∀(n i:Nat),i<n*l.length->(List.replicate n l).flatten[i]?=l[i%l.length]?
 |0,i,h=>by simp at h
 |n+1,i,h=>by
  rw[List.replicate_succ,List.flatten_cons]
  rcases Nat.lt_or_ge i l.length with hi|hi
  ·rw[List.getElem?_append_left hi,Nat.mod_eq_of_lt hi]
  ·rw[List.getElem?_append_right hi,Kj l n (i-l.length) (by rw[Nat.add_mul]at h;omega),<-Nat.mod_eq_sub_mod hi]
theorem UH (z:Array Value) (n:Nat):(Builtin.zeroCells z n).toList=(List.replicate n z.toList).flatten:=by
 refine List.ext_getElem? fun i=>?_
 rcases Nat.lt_or_ge i (n*z.size)with h|h
 ·have hz:0<z.size:=by
   rcases Nat.eq_zero_or_pos z.size with h0|h0
   ·rw[h0]at h;simp at h
   ·exact h0
  rw[Kj _ _ _ (by simpa using h)]
  have hm:i%z.size<z.size:=Nat.mod_lt _ hz
  simp[Builtin.zeroCells,h,hm]
 ·rw[List.getElem?_eq_none (by simp[Builtin.zeroCells];exact h),List.getElem?_eq_none (by simp;exact h)]
theorem St.SL {B:Bs} {φ:al} {I:Nat->Prop} {w:World} (hS:St B φ I H w) {b g j es:Nat} {e:TypeId} {rows xs:List (List IV)} {ae ws:List (List Value)} {rest:List Value}
  (hH:lk H b=some (.vec e es rows)) (hb:φ b=some (some g)) (eA:w.heap[g]?=some (.cells (ae.flatten++rest).toArray e (0,0))) (hd:IV.aH w I rows ae) (gq:∀v∈ae,v.length=es)
  (hx:IV.aH w I xs ws) (b8:∀v∈ws,v.length=es) (hj:j+xs.length<=rows.length):
  St B φ I (bG H b (.vec e es (rows.take j++xs++rows.drop (j+xs.length)))) (w.setRow g ((ae.flatten++rest).toArray.toList.take (j*es)++ws.flatten++(ae.flatten++rest).toArray.toList.drop (j*es+ws.flatten.length)).toArray)/\
   bt w φ I (w.setRow g ((ae.flatten++rest).toArray.toList.take (j*es)++ws.flatten++(ae.flatten++rest).toArray.toList.drop (j*es+ws.flatten.length)).toArray) φ I:=by
 have hlen:=jQ rows ae hd
 have kF:=jQ xs ws hx
 have dA:=nS ae es gq
 have yw:=nS ws es b8
 have hle:j*es+ws.length*es<=ae.length*es:=by rw[<-Nat.add_mul];exact Nat.mul_le_mul_right _ (by omega)
 have nY:(ae.flatten++rest).toArray.toList.take (j*es)++ws.flatten++(ae.flatten++rest).toArray.toList.drop (j*es+ws.flatten.length)=(ae.take j++ws++ae.drop (j+ws.length)).flatten++rest:=by
  have e1:(ae.take j).flatten=ae.flatten.take (j*es):=uj j ae es gq (by omega)
  have e2:(ae.drop (j+ws.length)).flatten=ae.flatten.drop ((j+ws.length)*es):=rX (j+ws.length) ae es gq (by omega)
  rw[List.flatten_append,List.flatten_append,e1,e2,yw,Nat.add_mul]
  simp only[List.toList_toArray]
  rw[List.take_append_of_le_length (by omega),List.drop_append_of_le_length (by omega)]
  simp
 have aO:((ae.flatten++rest).toArray.toList.take (j*es)++ws.flatten++(ae.flatten++rest).toArray.toList.drop (j*es+ws.flatten.length)).toArray.size=(ae.flatten++rest).toArray.size:=by
  simp only[List.size_toArray,List.toList_toArray,List.length_append,List.length_take,List.length_drop]
  omega
 refine hS.write (o':= .vec e es (rows.take j++xs++rows.drop (j+xs.length))) hH hb eA aO (fun _ _ e=>by cases e) ?_
 rw[nY]
 simp only[Ob.at]
 refine .inr ⟨g,_,rest,rfl,setRow_heap w g _ _ e (0,0) eA,?_,fun vs dC=>?_⟩
 ·have hI:∀g',I g'->(w.setRow g ((ae.take j++ws++ae.drop (j+ws.length)).flatten++rest).toArray).heap[g']?=w.heap[g']?:=fun g' cm=>setRow_other w g g' _ (fun e=>by subst e;exact(hS.real.off b g' hb).1 cm)
  refine IV.gD hI (fun _ h=>h) _ _ ?_
  rw[kF]
  exact qp _ _ _ _ (qp _ _ _ _ (xZ j _ _ hd) hx) (xV _ _ _ hd)
 ·simp only[List.mem_append]at dC
  rcases dC with(dC|dC)|dC
  ·exact gq vs (List.mem_of_mem_take dC)
  ·exact b8 vs dC
  ·exact gq vs (List.mem_of_mem_drop dC)
theorem F0 {w:World} {I:Nat->Prop}:∀(zs:List Value),(∀z∈zs,z.oneCell'=true)->IV.ab w I (zs.map IV.v) zs
 |[],_=>by simp[IV.ab]
 |z::zs,h=>by
  simp only[List.map_cons,IV.ab,IV.den]
  exact⟨z,zs,rfl,⟨rfl,h z (by simp)⟩,F0 zs fun y hy=>h y (by simp[hy])⟩
theorem F1 {w:World} {I:Nat->Prop} {zs:List Value} (hz:∀z∈zs,z.oneCell'=true):∀n,IV.aH w I (List.replicate n (zs.map IV.v)) (List.replicate n zs)
 |0=>by simp[IV.aH]
 |n+1=>by
  simp only[List.replicate_succ,IV.aH]
  exact⟨_,_,rfl,F0 zs hz,F1 hz n⟩
theorem AQ.clear {ds:List (Nat×Nat)} {i:Nat} {d:Option Nat} {ty t e e':TypeId} {x:Operand} {pos:String} {af:Array Edge} {os:List Oper} {b j n es:Nat} {rows:List (List IV)} {zs:List Value}
  (ai:bl C.n ({dst:=d,op:= .call {callee:= .builtin .clear,args:=#[x],argTypes:=#[t]},type:=ty,pos:=pos,after:=af,guard:=none}::os)=true)
  (hx:ev E x=some (.os b es j n)) (hH:lk H b=some (.vec e es rows)) (ht:tk C.P t= .slice e') (hz:az C.P e'=some zs) (cw:zs.length=es) (jw:(zs.all Value.oneCell')=true)
  (h:(0<n/\j+n<=rows.length)/\vq C K os (aZ d i ds) (i+1) (a6 d .top E) (bG H b (.vec e es (rows.take j++List.replicate n (zs.map IV.v)++rows.drop (j+n))))):
  AQ C ds i ({dst:=d,op:= .call {callee:= .builtin .clear,args:=#[x],argTypes:=#[t]},type:=ty,pos:=pos,after:=af,guard:=none}::os) K E H:=by
 obtain⟨⟨U,h2⟩,h⟩:=h
 refine AQ.step1 _ _ ai rfl (fun φ I a w hs=>?_) h
 have j6:=aS hs.env hx
 simp only[AV.den]at j6
 rcases j6 with⟨_,_,n6,_⟩|⟨g,c,hb,hu,h4,h5,h6⟩
 ·omega
 have br:=hs.st.real.own b _ _ hH hb
 simp only[Ob.at]at br
 rcases br with⟨hn,_⟩|⟨g',ae,rest,hg,eA,hd,gq⟩
 ·cases hn
 cases hg
 obtain⟨iz,zv,hi,PH,QO⟩:=wX hz
 have jn:=List.all_eq_true.1 jw
 have hlen:=jQ rows ae hd
 have dA:=nS ae es gq
 obtain⟨hS,hK⟩:=hs.st.SL (j:=j) (xs:=List.replicate n (zs.map IV.v)) hH hb eA hd gq (F1 jn n) (fun v hv=>by rw[List.eq_of_mem_replicate hv,cw]) (by rw[List.length_replicate];exact h2)
 have QP:(Builtin.zeroCells zv.cells n).toList=(List.replicate n zs).flatten:=by rw[UH,QO]
 have mT:(List.replicate n zs).flatten.length=n*es:=by rw[nS _ es (fun v hv=>by rw[List.eq_of_mem_replicate hv,cw]),List.length_replicate]
 have uJ:j*es+n*es<=(ae.flatten++rest).toArray.size:=by
  have e:(ae.flatten++rest).toArray.size=ae.flatten.length+rest.length:=by simp only[List.size_toArray,List.length_append]
  have:j*es+n*es<=ae.length*es:=by rw[<-Nat.add_mul];exact Nat.mul_le_mul_right _ (by omega)
  omega
 have bx:=run_storeCells_at C.P g (j*es) e (List.replicate n zs).flatten 0 (ae.flatten++rest).toArray w eA (by rw[mT];omega) (fun v hv=>by
  obtain⟨l,hl,fo⟩:=List.mem_flatten.1 hv
  rw[List.eq_of_mem_replicate hl]at fo
  exact jn v fo)
 rw[Nat.add_zero]at bx
 rw[List.length_replicate]at hS
 refine⟨.tuple #[],_,φ,I,?_,?_,hS,hK⟩
 ·have n6:n≠0:=by omega
  obtain⟨n',rfl⟩:∃n',n=n'+1:=⟨n-1,by omega⟩
  simp[execOp,resolve,invoke,builtin,Builtin.clear_,hu,run_underlying (eV ht),zeroValue,typeInfo,hi,PH,QP,bx]
 ·simp only[AV.den]
end
section
variable {C:Cx} {K:List PK} {E:Env} {H:aa}
theorem AQ.fj {ds:List (Nat×Nat)} {i:Nat} {rest:List Oper} (b:Nat) (cs':List AV) {s:Sh} {cs:List AV} (hl:lk H b=some (.var s cs)) (hc:bY cs cs') (h:AQ C ds i rest K E (bG H b (.var s cs'))):AQ C ds i rest K E H:=by
 unfold AQ at h⊢
 exact fun ops U h2 φ I a w hs=>h ops U h2 _ _ _ _ ⟨hs.bD,hs.bE,hs.env,hs.st.fj hl hc⟩
end
section
variable {C:Cx} {K:List PK} {E:Env} {H:aa}
def cV (C:Cx) (r:AV) (K:List PK) (E:Env) (H:aa):Prop:=
 ∀φ I a w v,bn C φ I E H a w->AV.den w φ I r v->dz C (K.map (PK.ki C.fn)) (.panic [{v:=v,recovered:=false}]) a w
def mg:List PK->Bool
 |[]=>true
 | .bot _::_=>false
 | .seq _::K=>mg K
 | .dP _::K=>mg K
 | .lp _::K=>mg K
 | .sc::K=>mg K
theorem rQ:∀(K:List PK),mg K=true->∀c a w,xJ C (.panic c) a w->dz C (K.map (PK.ki C.fn)) (.panic c) a w
 |[],_,_,_,_,h=>h
 | .seq _::K,hK,c,a,w,h=>rQ K hK c a w h
 | .dP _::K,hK,c,a,w,h=>rQ K hK c a w h
 | .lp _::K,hK,c,a,w,h=>rQ K hK c a w h
 | .sc::K,hK,c,a,w,h=>rQ K hK c a w h
 | .bot _::_,hK,_,_,_,_=>by cases hK
theorem J5 (l:List Nat) {r:AV} {v:Value} {φ:al} {I:Nat->Prop} {a:Act} {w:World} (mJ:Marks C.ds C.B.w0.heap.size w I a.defers) (bx:St C.B φ I H w) (bR:AV.den w φ I r v) (hk:ba l r H=true) (hX:C.X r (iR l H)):xJ C (.panic [{v:=v,recovered:=false}]) a w:=by
 intro aT
 obtain⟨ms,U,h2,h3,_⟩:=mJ
 rw[U,aT,List.filterMap_nil,List.append_nil]
 have key:∀(ms:List Nat) (w:World),ms.Nodup->(∀D∈ms,C.B.w0.heap.size<=D/\w.heap[D]?=some (.deferred (some [])))->St C.B φ I H w->AV.den w φ I r v->
   LeavesInM Fence.wide 3 C.P C.fn a.tmps (jd C) (ms.map sW) (.panicking [{v:=v,recovered:=false}]) w:=by
  intro ms
  induction ms with
  |nil=>
   intro w _ _ hS hd
   simp only[List.map_nil,LeavesInM,LeavesIn]
   obtain⟨φ',eg,nV⟩:=rR l φ H hk hd hS
   exact .inr ⟨r,iR l H,φ',I,v,hX,rfl,eg,nV⟩
  |cons D ms ih=>
   intro w hn hd hS bR
   simp only[List.map_cons,LeavesInM]
   obtain⟨U,h2⟩:=hd D (by simp)
   rw[List.nodup_cons]at hn
   refine⟨by simp,.inl ⟨D,_,rfl,run_takeDeferred h2,ih _ hn.2 (fun D' k6=>?_) (hS.DL U h2) (xQ h2 r v bR)⟩⟩
   obtain⟨h3,h4⟩:=hd D' (by simp[k6])
   exact⟨h3,(World.putObj_heap_other (fun e=>hn.1 (by rw[<-e];exact k6))).trans h4⟩
 exact key ms w h2 (fun D hD=>(h3 D hD).2) bx bR
theorem cV.out (l:List Nat) {r:AV} (hK:mg K=true) (hk:ba l r H=true) (hX:C.X r (iR l H)):cV C r K E H:=fun φ I a w v hs hd=>
 rQ K hK _ a w (J5 l hs.bD hs.st hd hk hX)
theorem cV.JY (l:List Nat) {r:AV} {Cn:Cx} {J:Act->World->Prop} {ops:List Oper} (hC:Cn=C.nr) (hK:mg K=true) (hk:ba l r H=true) (hX:C.X r (iR l H)):cV Cn r [.lp J,.bot (oE C K ops)] E H:=fun φ I a w v hs hd=>by
 subst hC
 show oE C K ops (.panic _) a w
 intro a' BC _ _
 exact rQ K hK _ a' w (J5 (C:=C) (a:=a') l (by rw[BC];exact hs.bD) hs.st hd hk hX)
theorem CV:∀(l:List Nat) (E:Env) (i:Nat) (x:AV),lk (kL l E) i=some x->i∈l
 |[],E,i,x,h=>by simp[kL,lk]at h
 |j::r,E,i,x,h=>by
  rw[kL]at h
  cases hj:lk E j with
  |none=>rw[hj]at h;exact List.mem_cons_of_mem _ (CV r E i x h)
  |some y=>
   rw[hj]at h
   simp only[lk]at h
   cases hb:Nat.beq j i with
   |true=>have:=Nat.eq_of_beq_eq_true hb;subst this;exact List.mem_cons_self ..
   |false=>rw[hb]at h;exact List.mem_cons_of_mem _ (CV r E i x h)
theorem cV.draw (ids:List Nat) {r:AV} {Cn:Cx} {J:Act->World->Prop} {ops:List Oper} (hC:Cn=C.nr) (hi:(ids.all fun i=>ops.all fun o=>o.dst !=some i)=true) (h:cV C r K (kL ids E) H):cV Cn r [.lp J,.bot (oE C K ops)] E H:=fun φ I a w v hs hd=>by
 subst hC
 show oE C K ops (.panic _) a w
 intro a' U h2 h3
 refine h φ I a' w v ⟨by rw[U];exact hs.bD,by rw[h2];exact hs.bE,fun i x hx=>?_,hs.st⟩ hd
 obtain⟨u,hu,dc⟩:=hs.env i x (y8 ids E i x hx)
 refine⟨u,(h3 i fun o ho e=>?_).trans hu,dc⟩
 have:=List.all_eq_true.1 (List.all_eq_true.1 hi i (CV ids E i x hx)) o ho
 rw[e]at this
 simp at this
theorem da.walk {P:Program} {f:FuncId} {fn:Func} {c:Code} {n nb:Nat} {args:List AV} {H:aa} {R X:AV->aa->Prop} (kp ob:List Nat) (hf:P.funcs[f]?=some fn) (hb:fn.body=some c) (hn:fn.ntmps=n)
  (jm:enters P f=true) (cS:Nat.ble args.length n=true) (hnb:cU H=nb)
  (h:∀(w:World) (own I0:Nat->Prop) (aq:al) (lay:Lay P ⟨w,own,I0,aq,nb⟩),AP ⟨P,fn,n,⟨w,own,I0,aq,nb⟩,kp,ob,R,none,X,[],lay⟩ [] [] (enum 0 args) H):da P f args H R X:=
 da.intro kp ob hf hb hn jm cS hnb fun w own I0 aq lay=>by
  have:=h w own I0 aq lay
  unfold AP at this
  simp only[bS,hb,Option.getD_some]at this
  exact this
theorem da.mono {P:Program} {f:FuncId} {args:List AV} {H:aa} {R R' X X':AV->aa->Prop} (h:da P f args H R X) (hr:∀r H',R r H'->R' r H') (hx:∀r H',X r H'->X' r H'):da P f args H R' X':=
 ⟨h.gh,fun w φ I vs hd hR hV=>(h.run w φ I vs hd hR hV).mono fun _ _ h=>by
  rcases h with⟨r,H',φ',I',v,U,h2⟩|⟨r,H',φ',I',v,U,h2⟩
  ·exact .inl ⟨r,H',φ',I',v,hr _ _ U,h2⟩
  ·exact .inr ⟨r,H',φ',I',v,hx _ _ U,h2⟩⟩
theorem AQ.lQ (m:List (Nat×Nat)) {ds:List (Nat×Nat)} {i:Nat} {d:Option Nat} {ty:TypeId} {pos:String} {af:Array Edge} {os:List Oper} {bk:Operand} {f:FuncId} {fs aJ:List AV} {xs:List Operand} {aV:Array TypeId} {l ga:List AV} {Hc:aa} {R X:AV->aa->Prop}
  (ai:bl C.n ({dst:=d,op:= .call {callee:= .value bk,args:=xs.toArray,argTypes:=aV},type:=ty,pos:=pos,after:=af,guard:=none}::os)=true)
  (eY:ev E bk=some (.fn f fs aJ)) (hl:dI E xs=some l) (du:gs l=true)
  (j0:eQ m=ly Hc) (iU:fF (eQ m)=true) (j3:fF (jc m)=true) (j4:jG (bm m (aL C.B.nb H)) H Hc)
  (cS:AV.cd (bm m (aL C.B.nb H)) ga=fs++l.map AV.st++aJ) (hc:da C.P f ga Hc R X)
  (hx:∀r H1,X r H1->jF (bZ H1 m) (c6 m H)=true/\cV C (AV.rn (bm m (aL C.B.nb H)) r) K (fh (bZ H1 m) E) (eK m (aL C.B.nb H) H H1))
  (h:∀r H1,R r H1->jF (bZ H1 m) (c6 m H)=true/\AQ C (aZ d i ds) (i+1) os K (a6 d (AV.rn (bm m (aL C.B.nb H)) r) (fh (bZ H1 m) E)) (eK m (aL C.B.nb H) H H1)):
  AQ C ds i ({dst:=d,op:= .call {callee:= .value bk,args:=xs.toArray,argTypes:=aV},type:=ty,pos:=pos,after:=af,guard:=none}::os) K E H:=by
 obtain⟨hd,ca⟩:=ef ai
 generalize hk:aL C.B.nb H=k at*
 have hH:Hand m k H Hc:=⟨j0,iU,j3,j4,fun b o hb=>by have:=oz H b o hb;have:=(gL C.B.nb H).2;omega⟩
 have bB:=h
 unfold AQ at bB⊢
 refine AO.step (o:={dst:=d,op:= .call {callee:= .value bk,args:=xs.toArray,argTypes:=aV},type:=ty,pos:=pos,after:=af,guard:=none}) fun ops φ I a w aT _ hs Kn bI=>?_
 have hw:Region.wanted {dst:=d,op:= .call {callee:= .value bk,args:=xs.toArray,argTypes:=aV},type:=ty,pos:=pos,after:=af,guard:=none} (yielded ops a.tmps)=true:=by simp[Region.wanted]
 rw[if_pos hw]
 have gj:=aS hs.env eY
 simp only[AV.den]at gj
 obtain⟨dS,us,k_,gp,lX⟩:=gj
 have a_:AV.ab w φ I (fs++l.map AV.st++aJ) (dS++xs.map a.eval++us):=AQ.lP.kW _ _ _ _ (AQ.lP.kW _ _ _ _ k_ (k5 hs.env _ _ hl du)) gp
 rw[<-cS]at a_
 have uE:=AV.oH (ρ:=bm m k) (φ:=fun b=>φ (bm m k b)) (fun _=>rfl) _ _ a_
 have aE:(execOp a.eval {dst:=d,op:= .call {callee:= .value bk,args:=xs.toArray,argTypes:=aV},type:=ty,pos:=pos,after:=af,guard:=none}).run C.P w= .ok (.enter f (dS++xs.map a.eval++us).toArray) w:=by
  have:execOp a.eval {dst:=d,op:= .call {callee:= .value bk,args:=xs.toArray,argTypes:=aV},type:=ty,pos:=pos,after:=af,guard:=none}=(do let d<-Deferred.ofValue (a.eval bk) (xs.toArray.map a.eval);invoke d.target d.args):=rfl
  rw[this,lX,zz (t:=ty) hc.gh]
  simp
 unfold Oper.wp
 rw[aE,Oper.upon_enter]
 have jt:∀r H1 a8 I1 v w',jF (bZ H1 m) (c6 m H)=true->AV.den w' a8 I1 r v->St ⟨w,cP fun b=>φ (bm m k b),I,fun b=>φ (bm m k b),cU Hc⟩ a8 I1 H1 w'->
   bn C (gz m k φ a8) I1 (fh (bZ H1 m) E) (eK m k H H1) a w'/\AV.den w' (gz m k φ a8) I1 (AV.rn (bm m k) r) v:=fun r H1 a8 I1 v w' ln bR hS=>by
  obtain⟨jU,hf,jZ,hI,dB⟩:=hH.after (by have:=(gL C.B.nb H).1;omega) hs.st hS ln
  refine⟨⟨hs.bD.mono jZ hI,hs.bE,fun j x hx=>?_,jU⟩,AV.ri (φ':=gz m k φ a8) (fun b p hb=>hH.fwd (φ:=φ) hb) r v bR⟩
  obtain⟨y,hy,fg⟩:=za (w:=w) (I:=I) _ φ E j x hx
  obtain⟨u,hu,hd⟩:=hs.env j y hy
  exact⟨u,hu,AV.jP jZ hI hf dB x u (fg u hd)⟩
 refine(hc.run w (fun b=>φ (bm m k b)) I _ uE (hH.real hs.st) hs.st.vk).mono fun e w' he=>?_
 rcases he with⟨r,H1,a8,I1,v,hr,he,bR,hS⟩|⟨r,H1,a8,I1,v,hr,he,bR,hS⟩
 ·subst he
  obtain⟨ln,gX⟩:=bB r H1 hr
  obtain⟨iV,fD⟩:=jt r H1 a8 I1 v w' ln bR hS
  exact bI _ _ (gz m k φ a8) I1 _ _ gX (iV.put iV.st (bt.refl w' (gz m k φ a8) I1) hd fD)
 ·subst he
  obtain⟨ln,gX⟩:=hx r H1 hr
  obtain⟨iV,fD⟩:=jt r H1 a8 I1 v w' ln bR hS
  exact gX _ _ _ _ _ iV fD
theorem AQ.panic {ds:List (Nat×Nat)} {i:Nat} {d:Option Nat} {ty:TypeId} {pos:String} {af:Array Edge} {os:List Oper} {x:Operand} {t:TypeId} {y:AV}
  (hx:ev E x=some (.wr (.iface t) y)) (h:cV C (.wr (.iface t) y) K E H):
  AQ C ds i ({dst:=d,op:= .panic x,type:=ty,pos:=pos,after:=af,guard:=none}::os) K E H:=by
 unfold AQ
 refine AO.step (o:={dst:=d,op:= .panic x,type:=ty,pos:=pos,after:=af,guard:=none}) fun ops φ I a w aT _ hs Kn bI=>?_
 rw[if_pos (by simp[Region.wanted])]
 have hv:=aS hs.env hx
 have yU:=hv
 simp only[AV.den,WK.rel]at hv
 obtain⟨v,hu,_⟩:=hv
 have aE:(execOp a.eval {dst:=d,op:= .panic x,type:=ty,pos:=pos,after:=af,guard:=none}).run C.P w= .halt (.panic (a.eval x)) w:=by
  have e:execOp a.eval {dst:=d,op:= .panic x,type:=ty,pos:=pos,after:=af,guard:=none}=(do pure (.value (<-Instr.panic (a.eval x))):Sem Next):=rfl
  rw[e,hu]
  rfl
 unfold Oper.wp
 rw[aE]
 exact h φ I a w _ hs yU
end
def nP:Value->Deferred
 | .func fn dS us=>{target:= .fn fn us,args:=dS}
 |_=>{target:= .nil,args:=#[]}
def lN (C:Cx):Exit->Act->World->Prop
 | .normal,a,w| .ret,a,w=>LeavesInM Fence.wide 3 C.P C.fn a.tmps (jd C) a.defers .returning w
 | .panic c,a,w=>LeavesInM Fence.wide 3 C.P C.fn a.tmps (jd C) a.defers (.panicking c) w
 |_,_,_=>False
def sY:Option AV->Value->FrameMode
 |none,_=> .returning
 |some _,v=> .panicking [{v:=v,recovered:=false}]
structure lI (P:Program) (f:FuncId) (args:List AV) (H:aa) (r:Option AV) (R:aa->Prop):Prop where
 gh:enters P f=true
 run:∀(w:World) (φ:al) (I:Nat->Prop) (vs:List Value) (v:Value),AV.ab w φ I args vs->Real w φ I H->VK P w I->(∀r0,r=some r0->AV.den w φ I r0 v)->
  CallsDIn Fence.wide 2 P f vs.toArray (sY r v) w (fun e u' w'=>∃H' φ' I' x,R H'/\e= .returned x/\settle u'= .returning/\St ⟨w,cP φ,I,φ,cU H⟩ φ' I' H' w')
section
variable {C:Cx} {K:List PK} {E:Env} {H:aa}
theorem ua (D:List (Option Deferred)):∀(K:List PK),mg K=false->dz {C with ds:=D} (K.map (PK.ki C.fn))=dz C (K.map (PK.ki C.fn))
 |[],h=>by cases h
 | .bot _::_,_=>rfl
 | .seq q::K,h=>by
  have ih:=ua D K h
  funext e a w
  simp only[List.map_cons,PK.ki,dz,ih]
 | .dP _::K,h=>by
  have ih:=ua D K h
  funext e a w
  simp only[List.map_cons,PK.ki,dz,ih]
 | .lp _::K,h=>by
  have ih:=ua D K h
  funext e a w
  simp only[List.map_cons,PK.ki,dz,ih]
 | .sc::K,h=>by
  have ih:=ua D K h
  funext e a w
  simp only[List.map_cons,PK.ki,dz,ih]
theorem AQ.defer {ds:List (Nat×Nat)} {i:Nat} {ty:TypeId} {pos:String} {af:Array Edge} {os:List Oper} {t:Tmp} {aV:Array TypeId} {f:FuncId} {fs aJ:List AV}
  (hK:mg K=false) (aT:C.ds=[none]) (hl:lk E t=some (.fn f fs aJ))
  (h:∀u,AQ {C with ds:=[some (nP u)]} (aZ none i ds) (i+1) os K ((t,.wr (.exact u) (.fn f fs aJ))::E) H):
  AQ C ds i ({dst:=none,op:= .defer {callee:= .value (.tmp t),args:=#[],argTypes:=aV},type:=ty,pos:=pos,after:=af,guard:=none}::os) K E H:=by
 unfold AQ AO at h⊢
 intro ops U h2 φ I a w hs
 have hv:=aS hs.env (x:= .tmp t) hl
 obtain⟨v,CA⟩:∃v,a.eval (.tmp t)=v:=⟨_,rfl⟩
 rw[CA]at hv
 have yU:=hv
 simp only[AV.den]at yU
 obtain⟨dS,us,k_,gp,sd⟩:=yU
 unfold fY
 rw[if_pos (by simp[Region.wanted])]
 refine .inl ?_
 have aE:(execOp a.eval {dst:=none,op:= .defer {callee:= .value (.tmp t),args:=#[],argTypes:=aV},type:=ty,pos:=pos,after:=af,guard:=none}).run C.P w= .ok (.defer (nP v)) w:=by
  have e:execOp a.eval {dst:=none,op:= .defer {callee:= .value (.tmp t),args:=#[],argTypes:=aV},type:=ty,pos:=pos,after:=af,guard:=none}=(do let d<-Deferred.ofValue (a.eval (.tmp t)) ((#[]:Array Operand).map a.eval);pure (.defer d):Sem Next):=rfl
  rw[e,CA,sd]
  simp[Deferred.ofValue,Sem.run_bind,nP]
 unfold Oper.wp
 rw[aE,Oper.upon_defer]
 have hh:=h v ops (fun j d hj=>U j d (by simpa[aZ]using hj)) (fun j o hj=>by
  have:=h2 (j+1) o (by simpa using hj)
  rwa [show i+1+j=i+(j+1) by omega]) φ I ({a with defers:=nP v::a.defers}) w
 rw[ua _ K hK]at hh
 obtain⟨ms,g1,g2,g3,g4⟩:=hs.bD
 have qI:=g4 (by rw[aT];simp)
 have qD:a.defers=[]:=by rw[g1,qI,aT];rfl
 refine hh ⟨?_,hs.bE,fun j x hx=>?_,hs.st⟩
 ·refine⟨[],?_,List.nodup_nil,(fun D hD=>by cases hD),fun _=>rfl⟩
  show nP v::a.defers=_
  rw[qD];rfl
 ·simp only[lk]at hx
  cases hb:Nat.beq t j with
  |true=>
   rw[hb]at hx
   have:=Nat.eq_of_beq_eq_true hb
   subst this
   simp only[cond_true,Option.some.injEq]at hx
   subst hx
   obtain⟨u,hu,_⟩:=hs.env t _ hl
   refine⟨u,hu,?_⟩
   have vp:a.eval (.tmp t)=u:=by simp[Act.eval,hu]
   rw[CA]at vp
   subst vp
   rw[AV.den]
   exact⟨v,⟨rfl,rfl⟩,hv⟩
  |false=>
   rw[hb]at hx
   exact hs.env j x hx
def LV (C:Cx) (E:Env) (H:aa):Prop:=∀φ I a w,St C.B φ I H w->dH w φ I E a->LeavesInM Fence.wide 3 C.P C.fn a.tmps (jd C) [] .returning w
theorem LV.aX (l:List Nat) {sc:Prop} {xs:List AV} (h:iD C.P E H C.fn.results.toList=some (sc,xs)) (ay:sc) (hk:ba l (dZ xs) H=true) (hR:C.R (dZ xs) (iR l H)):LV C E H:=fun φ I a w hS hE=>by
 simp only[LeavesInM,LeavesIn]
 obtain⟨v,hv,hd⟩:=rh hE hS.real h ay
 obtain⟨φ',eg,nV⟩:=rR l φ H hk hd hS
 exact⟨v,hv,.inl ⟨dZ xs,iR l H,φ',I,v,hR,rfl,eg,nV⟩⟩
theorem S4 {P:Program} {f:FuncId} {dS us:Array Value} {w:World} (uH:enters P f=true):(invoke (.fn (.func f) us) dS).run P w= .ok (.enter f (dS++us)) w:=by
 simp only[invoke]
 exact te uH _ w
theorem IM (m:List (Nat×Nat)) {t:Tmp} {u:Value} {f:FuncId} {fs aJ ga:List AV} {Hc:aa} {r:Option AV} {RD:aa->Prop}
  (aT:C.ds=[some (nP u)]) (hl:lk E t=some (.wr (.exact u) (.fn f fs aJ)))
  (j0:eQ m=ly Hc) (iU:fF (eQ m)=true) (j3:fF (jc m)=true) (j4:jG (bm m (aL C.B.nb H)) H Hc)
  (cS:AV.cd (bm m (aL C.B.nb H)) ga=fs++aJ) (hc:lI C.P f ga Hc r RD)
  (h:∀H1,RD H1->jF (bZ H1 m) (c6 m H)=true/\LV C (fh (bZ H1 m) E) (eK m (aL C.B.nb H) H H1))
  {φ:al} {I:Nat->Prop} {a:Act} {w:World} (hs:bn C φ I E H a w) (v:Value) (hr:∀r0,r=some r0->AV.den w φ I (AV.rn (bm m (aL C.B.nb H)) r0) v):
  LeavesInM Fence.wide 3 C.P C.fn a.tmps (jd C) a.defers (sY r v) w:=by
 obtain⟨ms,g1,g2,g3,g4⟩:=hs.bD
 have qI:=g4 (by rw[aT];simp)
 have qD:a.defers=[nP u]:=by rw[g1,qI,aT];rfl
 rw[qD]
 generalize hk:aL C.B.nb H=k at*
 have hH:Hand m k H Hc:=⟨j0,iU,j3,j4,fun b o hb=>by have:=oz H b o hb;have:=(gL C.B.nb H).2;omega⟩
 obtain⟨u',WE,eg⟩:=hs.env t _ hl
 simp only[AV.den,WK.rel]at eg
 obtain⟨v',⟨rfl,rfl⟩,dS,us,k_,gp,sd⟩:=eg
 have a_:AV.ab w φ I (fs++aJ) (dS++us):=AQ.lP.kW _ _ _ _ k_ gp
 rw[<-cS]at a_
 have uE:=AV.oH (ρ:=bm m k) (φ:=fun b=>φ (bm m k b)) (fun _=>rfl) _ _ a_
 subst sd
 simp only[LeavesInM]
 refine⟨by cases r<;>simp[sY],.inr ⟨fun h=>(by cases h),.func f,us.toArray,f,(dS++us).toArray,rfl,?_,fun _ _=>trivial,?_⟩⟩
 ·show(invoke (.fn (.func f) us.toArray) dS.toArray).run C.P w=_
  rw[S4 hc.gh,List.append_toArray]
 ·refine(hc.run w (fun b=>φ (bm m k b)) I (dS++us) v uE (hH.real hs.st) hs.st.vk (fun r0 jo=>AV.wo (ρ:=bm m k) (φ:=fun b=>φ (bm m k b)) (fun _=>rfl) _ _ (hr r0 jo))).mono fun e u' w' he=>?_
  obtain⟨H1,a8,I1,x,OX,rfl,bG,hS⟩:=he
  show LeavesInM Fence.wide 3 C.P C.fn a.tmps (jd C) [] (settle u') w'
  rw[bG]
  obtain⟨ln,uY⟩:=h H1 OX
  obtain⟨jU,hf,jZ,hI,dB⟩:=hH.after (by have:=(gL C.B.nb H).1;omega) hs.st hS ln
  refine uY _ _ a w' jU fun j y hy=>?_
  obtain⟨z,hz,CI⟩:=za (w:=w) (I:=I) _ φ E j y hy
  obtain⟨q,hq,Qc⟩:=hs.env j z hz
  exact⟨q,hq,AV.jP jZ hI hf dB y q (CI q Qc)⟩
theorem AE.sN (m:List (Nat×Nat)) {C0:Cx} {e:Exit} {t:Tmp} {u:Value} {f:FuncId} {fs aJ ga:List AV} {Hc:aa} {RD:aa->Prop}
  (he:e= .ret\/e= .normal) (aT:C.ds=[some (nP u)]) (hl:lk E t=some (.wr (.exact u) (.fn f fs aJ)))
  (j0:eQ m=ly Hc) (iU:fF (eQ m)=true) (j3:fF (jc m)=true) (j4:jG (bm m (aL C.B.nb H)) H Hc)
  (cS:AV.cd (bm m (aL C.B.nb H)) ga=fs++aJ) (hc:lI C.P f ga Hc none RD)
  (h:∀H1,RD H1->jF (bZ H1 m) (c6 m H)=true/\LV C (fh (bZ H1 m) E) (eK m (aL C.B.nb H) H H1)) (hC:lN C0=lN C:=by rfl):AE C e [.bot (lN C0)] E H:=by
 unfold AE
 intro φ I a w hs
 have:=IM m aT hl j0 iU j3 j4 cS hc h hs undef (fun _ h=>by cases h)
 rw[hC]
 rcases he with rfl|rfl<;>exact this
theorem cV.sN (m:List (Nat×Nat)) {C0:Cx} {K':List PK} {r:AV} {t:Tmp} {u:Value} {f:FuncId} {fs aJ ga:List AV} {Hc:aa} {RD:aa->Prop}
  (aT:C.ds=[some (nP u)]) (hl:lk E t=some (.wr (.exact u) (.fn f fs aJ)))
  (j0:eQ m=ly Hc) (iU:fF (eQ m)=true) (j3:fF (jc m)=true) (j4:jG (bm m (aL C.B.nb H)) H Hc)
  (cS:AV.cd (bm m (aL C.B.nb H)) ga=fs++aJ) (hc:lI C.P f ga Hc (some r) RD) (vi:AV.rn (bm m (aL C.B.nb H)) r=r)
  (h:∀H1,RD H1->jF (bZ H1 m) (c6 m H)=true/\LV C (fh (bZ H1 m) E) (eK m (aL C.B.nb H) H H1)) (hK:mg K'=true) (hC:lN C0=lN C:=by rfl):cV C r (K'++[.bot (lN C0)]) E H:=by
 intro φ I a w v hs hd
 have h0:=IM m aT hl j0 iU j3 j4 cS hc h hs v (fun r0 h=>by cases h;rw[vi];exact hd)
 have key:∀(K':List PK),mg K'=true->dz C ((K'++[PK.bot (lN C0)]).map (PK.ki C.fn)) (.panic [{v:=v,recovered:=false}]) a w:=fun K'=>by
  induction K' with
  |nil=>intro _;rw[hC];exact h0
  |cons x K' ih=>
   intro hK
   cases x with
   |bot Q=>cases hK
   |_=>exact ih hK
 exact key K' hK
theorem da.Uq {P:Program} {f:FuncId} {fn:Func} {c:Code} {n nb:Nat} {args:List AV} {H:aa} {R X:AV->aa->Prop} (kp ob:List Nat) (hf:P.funcs[f]?=some fn) (hb:fn.body=some c) (hn:fn.ntmps=n)
  (jm:enters P f=true) (cS:Nat.ble args.length n=true) (hnb:cU H=nb)
  (h:∀(w:World) (own I0:Nat->Prop) (aq:al) (lay:Lay P ⟨w,own,I0,aq,nb⟩),AP ⟨P,fn,n,⟨w,own,I0,aq,nb⟩,kp,ob,R,none,X,[none],lay⟩ [] [.bot (lN ⟨P,fn,n,⟨w,own,I0,aq,nb⟩,kp,ob,R,none,X,[none],lay⟩)] (enum 0 args) H):da P f args H R X:=by
 refine⟨jm,fun w φ I vs hd hR hV=>?_⟩
 subst hnb
 have hl:=hY args vs hd
 have lV:=Nat.le_of_ble_eq_true cS
 have h0:=h w (cP φ) I φ (hR.lay hV _)
 unfold AP at h0
 simp only[bS,hb,Option.getD_some]at h0
 have U:=h0 φ I {tmps:=vs.toArray++Array.replicate (fn.ntmps-vs.toArray.size) undef,defers:=[]} w ⟨Marks.nil,?_,fun i x hx=>?_,pY hR _⟩
 ·refine callsIn_wide.1 (callsIn_of_wp_marks (F:=Fence.wide) (n:=3) hf hb trivial (Go.wpIn_mono (F:=Fence.wide) U fun e a w he=>?_))
  cases e with
  |normal=>exact he
  |ret=>exact he
  |panic c=>exact he
  |_=>exact he.elim
 ·simp only[Array.size_append,List.size_toArray,Array.size_replicate,hn];omega
 ·obtain⟨j,rfl,hj⟩:=qt args 0 i x hx
  obtain⟨u,hu,dc⟩:=hU args vs j x hd hj
  refine⟨u,?_,dc⟩
  have ag:j<vs.length:=by
   rcases Nat.lt_or_ge j vs.length with h|h
   ·exact h
   ·rw[List.getElem?_eq_none h]at hu;cases hu
  rw[Nat.zero_add,Array.getElem?_append_left (by simpa using ag)]
  simpa using hu
end
def tQ (C:Cx):Exit->Act->World->Prop
 | .normal,a,w| .ret,a,w=>a.defers=[]/\∃v,(results C.fn a.tmps).run C.P w= .ok v w/\kU C.B C.R (.returned v) w
 |_,_,_=>False
def pZ:Option AV->AV
 |none=> .im (.v .nilIface)
 |some r=>r
section
variable {C:Cx} {K:List PK} {E:Env} {H:aa}
theorem AE.Kk (l:List Nat) {e:Exit} {C0:Cx} {sc:Prop} {xs:List AV} (he:e= .ret\/e= .normal) (aT:C.ds=[none]) (h:iD C.P E H C.fn.results.toList=some (sc,xs)) (ay:sc) (hk:ba l (dZ xs) H=true) (hR:C.R (dZ xs) (iR l H)) (hC:tQ C0=tQ C:=by rfl):AE C e [.bot (tQ C0)] E H:=by
 unfold AE
 intro φ I a w hs
 obtain⟨ms,g1,g2,g3,g4⟩:=hs.bD
 have qI:=g4 (by rw[aT];simp)
 have qD:a.defers=[]:=by rw[g1,qI,aT];rfl
 obtain⟨v,hv,hd⟩:=rh hs.env hs.st.real h ay
 obtain⟨φ',eg,nV⟩:=rR l φ H hk hd hs.st
 rw[hC]
 have:a.defers=[]/\∃v,(results C.fn a.tmps).run C.P w= .ok v w/\kU C.B C.R (.returned v) w:=⟨qD,v,hv,dZ xs,iR l H,φ',I,v,hR,rfl,eg,nV⟩
 rcases he with rfl|rfl<;>exact this
theorem LX {P:Program} {c:Code} {Q:Exit->Act->World->Prop} {a:Act} {w:World} (h:c.wpIn Fence.wide 3 P Q a w):c.wpIn Fence.wide 2 P Q a w:=wpIn_wide.2 (wpIn_wide.1 h)
theorem lI.walk {P:Program} {f:FuncId} {fn:Func} {c2:Code} {n nb id d0 d1:Nat} {o0 o1:Oper} {args:List AV} {H:aa} {r:Option AV} {RD:aa->Prop} (kp ob:List Nat) (hf:P.funcs[f]?=some fn)
  (hb:fn.body=some (.seq (.region id #[o0,o1] false) c2)) (hn:fn.ntmps=n)
  (yG:(match o0.op with| .call c=>(match c.callee with| .builtin .recover=>c.args.size==0|_=>false)|_=>false)=true/\o0.dst=some d0/\o0.guard=none)
  (mP:o1.op= .assign (.tmp d0)/\o1.dst=some d1/\o1.guard=none) (hd:(Nat.blt d0 n&&Nat.blt d1 n)=true)
  (jm:enters P f=true) (cS:Nat.ble args.length n=true) (hnb:cU H=nb)
  (h:∀(w:World) (own I0:Nat->Prop) (aq:al) (lay:Lay P ⟨w,own,I0,aq,nb⟩),AP ⟨P,fn,n,⟨w,own,I0,aq,nb⟩,kp,ob,fun _ H'=>RD H',none,fun _ _=>False,[none],lay⟩ [1] [.bot (tQ ⟨P,fn,n,⟨w,own,I0,aq,nb⟩,kp,ob,fun _ H'=>RD H',none,fun _ _=>False,[none],lay⟩)] ((d1,pZ r)::(d0,pZ r)::enum 0 args) H):lI P f args H r RD:=by
 refine⟨jm,fun w φ I vs v a_ hR hV hr=>?_⟩
 subst hnb
 have hl:=hY args vs a_
 have lV:=Nat.le_of_ble_eq_true cS
 simp only[Bool.and_eq_true,Nat.blt_eq]at hd
 obtain⟨⟨u7,Pl,yx⟩,HM,Pm,lZ⟩:=And.intro yG mP
 have h0:=h w (cP φ) I φ (hR.lay hV _)
 unfold AP at h0
 obtain⟨x,hx⟩:∃x,x=(match r with|none=>Value.nilIface|some _=>v):=⟨_,rfl⟩
 obtain⟨T,hT⟩:∃T:Array Value,T=vs.toArray++Array.replicate (fn.ntmps-vs.toArray.size) undef:=⟨_,rfl⟩
 have yi:T.size=n:=by rw[hT];simp only[Array.size_append,List.size_toArray,Array.size_replicate,hn];omega
 have yW:AV.den w φ I (pZ r) x:=by
  cases r with
  |none=>rw[hx];simp[pZ,AV.den,IV.den,Value.oneCell']
  |some r0=>rw[hx];exact hr r0 rfl
 have jt:bn ⟨P,fn,n,⟨w,cP φ,I,φ,cU H⟩,kp,ob,fun _ H'=>RD H',none,fun _ _=>False,[none],hR.lay hV _⟩ φ I ((d1,pZ r)::(d0,pZ r)::enum 0 args) H {tmps:=(T.setIfInBounds d0 x).setIfInBounds d1 x,defers:=[]} w:=by
  refine⟨Marks.nil,by simpa using yi,fun i y hy=>?_,pY hR _⟩
  simp only[lk]at hy
  cases eX:Nat.beq d1 i with
  |true=>
   rw[eX]at hy
   have:=Nat.eq_of_beq_eq_true eX
   subst this
   simp only[cond_true,Option.some.injEq]at hy
   subst hy
   exact⟨x,by simp[yi,hd.2],yW⟩
  |false=>
   rw[eX]at hy
   have HJ:d1≠i:=fun e=>by subst e;simp at eX
   simp only[cond_false]at hy
   cases fe:Nat.beq d0 i with
   |true=>
    rw[fe]at hy
    have:=Nat.eq_of_beq_eq_true fe
    subst this
    simp only[cond_true,Option.some.injEq]at hy
    subst hy
    exact⟨x,by rw[Array.getElem?_setIfInBounds_ne HJ];simp[yi,hd.1],yW⟩
   |false=>
    rw[fe]at hy
    have PY:d0≠i:=fun e=>by subst e;simp at fe
    simp only[cond_false]at hy
    obtain⟨j,rfl,hj⟩:=qt args 0 i y hy
    obtain⟨u,hu,dc⟩:=hU args vs j y a_ hj
    refine⟨u,?_,dc⟩
    have ag:j<vs.length:=by
     rcases Nat.lt_or_ge j vs.length with h|h
     ·exact h
     ·rw[List.getElem?_eq_none h]at hu;cases hu
    rw[Array.getElem?_setIfInBounds_ne HJ,Array.getElem?_setIfInBounds_ne PY,hT,Nat.zero_add,Array.getElem?_append_left (by simpa using ag)]
    simpa using hu
 have r8:bS fn [1]=c2:=by simp[bS,hb,child]
 have sC:=h0 φ I _ w jt
 rw[r8]at sC
 refine callsDIn_of_wpSIn hf hb trivial fun k3 cs sj=>?_
 rw[<-hT]
 refine wpSIn_seq (wpSIn_region ?_)
 obtain⟨rO,r9⟩:∃rO:List Frame,rO=(match r with|none=>k3::cs|some _=>{k3 with mode:= .panicking [{v:=v,recovered:=true}]}::cs):=⟨_,rfl⟩
 have bG:∃u',rO={k3 with mode:=u'}::cs/\settle u'= .returning:=by
  cases r with
  |none=>exact⟨.returning,by rw[r9];simp only[sY]at sj;rw[<-sj],rfl⟩
  |some r0=>exact⟨_,r9,rfl⟩
 have mK:c2.wpSIn Fence.wide 2 P (bodyPostS P fn k3 cs fun e u' w'=>∃H' φ' I' x,RD H'/\e= .returned x/\settle u'= .returning/\St ⟨w,cP φ,I,φ,cU H⟩ φ' I' H' w') {tmps:=(T.setIfInBounds d0 x).setIfInBounds d1 x,defers:=[]} rO w:=by
  refine wpSIn_of_wpIn rfl (Go.wpIn_mono (LX sC) fun e a' w' he=>?_)
  obtain⟨u',H2,vo⟩:=bG
  cases e with
  |normal=>
   obtain⟨lY,v',od,rr,H',φ',I',vv,qC,_,_,hS⟩:=he
   exact⟨lY,u',H2,v',od,H',φ',I',v',qC,rfl,vo,hS⟩
  |ret=>
   obtain⟨lY,v',od,rr,H',φ',I',vv,qC,_,_,hS⟩:=he
   exact⟨lY,u',H2,v',od,H',φ',I',v',qC,rfl,vo,hS⟩
  |_=>exact he.elim
 have yL:(execOp ({tmps:=T,defers:=[]}:Act).eval o0).run P w= .ok .recover w:=by
  obtain⟨dst,op,ty,pos,af,g⟩:=o0
  cases op with
  |call cc=>
   obtain⟨callee,as,aV⟩:=cc
   simp only at u7
   cases callee with
   |builtin bb=>
    cases bb<;>first|(simp only at u7;exact absurd u7 (by decide))|rfl
   |_=>simp at u7
  |_=>simp at u7
 have Pa:∀a:Act,(execOp a.eval o1).run P w= .ok (.value (a.eval (.tmp d0))) w:=fun a=>by
  obtain⟨dst,op,ty,pos,af,g⟩:=o1
  simp only at HM
  subst HM
  rfl
 have e0:({tmps:=T,defers:=[]}:Act).put o0.dst x={tmps:=T.setIfInBounds d0 x,defers:=[]}:=by rw[Pl];rfl
 have e1:({tmps:=T.setIfInBounds d0 x,defers:=[]}:Act).put o1.dst x={tmps:=(T.setIfInBounds d0 x).setIfInBounds d1 x,defers:=[]}:=by rw[Pm];rfl
 have N2:({tmps:=T.setIfInBounds d0 x,defers:=[]}:Act).eval (.tmp d0)=x:=by simp[Act.eval,yi,hd.1]
 have HY:wpOpsSIn Fence.wide 2 P #[o0,o1] (Exit.thenS (c2.wpSIn Fence.wide 2 P (bodyPostS P fn k3 cs fun e u' w'=>∃H' φ' I' x,RD H'/\e= .returned x/\settle u'= .returning/\St ⟨w,cP φ,I,φ,cU H⟩ φ' I' H' w')) (bodyPostS P fn k3 cs fun e u' w'=>∃H' φ' I' x,RD H'/\e= .returned x/\settle u'= .returning/\St ⟨w,cP φ,I,φ,cU H⟩ φ' I' H' w')) [1] (({tmps:=T,defers:=[]}:Act).put o0.dst x) rO w:=by
  simp only[wpOpsSIn,List.getElem?_toArray,List.getElem?_cons_zero,List.getElem?_cons_succ]
  refine⟨fun _ _=>trivial,?_⟩
  rw[if_pos (by simp[Region.wanted,lZ]),Pa,e0,N2]
  show Exit.thenS _ _ Exit.normal (({tmps:=T.setIfInBounds d0 x,defers:=[]}:Act).put o1.dst x) rO w
  rw[e1]
  exact mK
 show wpOpsSIn Fence.wide 2 P #[o0,o1] _ [0,1] _ (k3::cs) w
 rw[wpOpsSIn]
 have PB:(#[o0,o1]:Array Oper)[0]?=some o0:=rfl
 rw[PB]
 refine⟨fun _ _=>trivial,?_⟩
 rw[if_pos (by simp[Region.wanted,yx]),yL]
 cases r with
 |none=>
  simp only[sY]at sj
  have fD:recoverD (k3::cs)=none:=by simp[recoverD,sj]
  simp only at hx r9
  subst hx
  subst r9
  show(match recoverD (k3::cs)with|some (v,cs')=>_|none=>_)
  rw[fD]
  exact HY
 |some r0=>
  simp only[sY]at sj
  have fD:recoverD (k3::cs)=some (v,{k3 with mode:= .panicking [{v:=v,recovered:=true}]}::cs):=by simp[recoverD,sj]
  simp only at hx r9
  subst hx
  subst r9
  show(match recoverD (k3::cs)with|some (v,cs')=>_|none=>_)
  rw[fD]
  exact HY
end
def zY:TK->Bool
 | .iface=>false
 | .other=>false
 |_=>true
theorem LF {P:Program} {t:TypeId} (h:zY (tk P t)=true):∃u,P.underlying t=some u/\∀m,u≠ .interface m:=by
 unfold tk at h
 cases hu:P.underlying t with
 |none=>rw[hu]at h;cases h
 |some u=>
  refine⟨u,rfl,fun m e=>?_⟩
  subst e
  rw[hu]at h
  cases h
section
variable {C:Cx} {K:List PK} {E:Env} {H:aa}
theorem AQ.iface {ds:List (Nat×Nat)} {i:Nat} {d:Option Nat} {ty t:TypeId} {pos:String} {af:Array Edge} {os:List Oper} {x:Operand} {y:AV}
  (ai:bl C.n ({dst:=d,op:= .makeInterface t x,type:=ty,pos:=pos,after:=af,guard:=none}::os)=true)
  (hx:ev E x=some y) (hg:y.g=true) (ht:zY (tk C.P t)=true)
  (h:vq C K os (aZ d i ds) (i+1) (a6 d (.wr (.iface t) y.st) E) H):
  AQ C ds i ({dst:=d,op:= .makeInterface t x,type:=ty,pos:=pos,after:=af,guard:=none}::os) K E H:=by
 obtain⟨hd,ca⟩:=ef ai
 have bB:=AQ.go ca h
 unfold AQ at bB⊢
 refine AO.step (o:={dst:=d,op:= .makeInterface t x,type:=ty,pos:=pos,after:=af,guard:=none}) fun ops φ I a w aT _ hs Kn bI=>?_
 rw[if_pos (by simp[Region.wanted])]
 have hv:=k5 hs.env [x] [y] (by simp[dI,hx]) (by simp[gs,hg])
 simp only[List.map_cons,List.map_nil,AV.ab]at hv
 obtain⟨v0,Eg,h0,hv,_⟩:=hv
 cases h0
 obtain⟨u,hu,B_⟩:=LF ht
 have aE:(execOp a.eval {dst:=d,op:= .makeInterface t x,type:=ty,pos:=pos,after:=af,guard:=none}).run C.P w= .ok (.value (.iface t (a.eval x))) w:=by
  have e:execOp a.eval {dst:=d,op:= .makeInterface t x,type:=ty,pos:=pos,after:=af,guard:=none}=(do pure (.value (<-Instr.makeInterface t (a.eval x))):Sem Next):=rfl
  rw[e]
  unfold Instr.makeInterface
  cases u<;>first|exact absurd rfl (B_ _)|simp[run_underlying hu]
 unfold Oper.wp
 rw[aE,Oper.upon_value]
 exact bI _ _ φ I _ _ bB (hs.put hs.st (bt.refl w φ I) hd ⟨_,rfl,hv⟩)
theorem xI {ds:List (Nat×Nat)} {i:Nat} {d:Option Nat} {ty t:TypeId} {pos:String} {af:Array Edge} {os:List Oper} {x:Operand} {y:AV}
  (h:vq C K os (aZ d i ds) (i+1) (a6 d (.wr (.iface t) y.st) E) H)
  (ai:bl C.n ({dst:=d,op:= .makeInterface t x,type:=ty,pos:=pos,after:=af,guard:=none}::os)=true:=by kernel_rfl)
  (hx:ev E x=some y:=by exact rfl) (hg:y.g=true:=by exact rfl) (ht:zY (tk C.P t)=true:=by exact rfl):
  AQ C ds i ({dst:=d,op:= .makeInterface t x,type:=ty,pos:=pos,after:=af,guard:=none}::os) K E H:=AQ.iface ai hx hg ht h
theorem AQ.MP {ds:List (Nat×Nat)} {i:Nat} {d:Option Nat} {ty t xt:TypeId} {pos:String} {af:Array Edge} {os:List Oper} {x:Operand} {y:AV}
  (ai:bl C.n ({dst:=d,op:= .typeAssert x xt t true,type:=ty,pos:=pos,after:=af,guard:=none}::os)=true)
  (hx:ev E x=some (.wr (.iface t) y)) (ht:zY (tk C.P t)=true)
  (h:vq C K os (aZ d i ds) (i+1) (a6 d (.aM [y,.im (.v (.bool true))]) E) H):
  AQ C ds i ({dst:=d,op:= .typeAssert x xt t true,type:=ty,pos:=pos,after:=af,guard:=none}::os) K E H:=
 AQ.val (.aM [y,.im (.v (.bool true))]) ai rfl (fun φ I a w hs=>by
  have hv:=aS hs.env hx
  simp only[AV.den,WK.rel]at hv
  obtain⟨v,hu,hv⟩:=hv
  obtain⟨u,Qt,B_⟩:=LF ht
  refine⟨.tuple #[v,.bool true],?_,?_⟩
  ·have e:execOp a.eval {dst:=d,op:= .typeAssert x xt t true,type:=ty,pos:=pos,after:=af,guard:=none}=(do pure (.value (<-Instr.typeAssert (a.eval x) xt t true)):Sem Next):=rfl
   rw[e,hu]
   unfold Instr.typeAssert
   cases u<;>first|exact absurd rfl (B_ _)|simp[run_underlying Qt]
  ·exact⟨_,⟨v,[.bool true],rfl,hv,.bool true,[],rfl,(by simp only[AV.den,IV.den];exact⟨trivial,rfl⟩),rfl⟩,rfl⟩) h
end
section
variable {P:Program} {Q:Exit->Act->World->Prop} {a:Act} {w:World}
theorem Sf {o:Oper} {K:Act->World->Prop} (h:m_ P o a w K Q):o.wpIn (Fw none) 3 P a w K Q:=by
 refine⟨fun _ _=>trivial,?_⟩
 have hs:o.semAt (Fw none).round a.eval=execOp a.eval o:=Oper.semAt_none _ _
 rw[hs]
 rcases h with h|⟨l,f,tmps,as,bd,hr,h⟩
 ·unfold Oper.wp at h
  generalize(execOp a.eval o).run P w=q at*
  cases q with
  |ok x w'=>
   cases x<;>simp only[Oper.upon,Oper.uponIn]at h⊢<;>first
    |exact h
    |exact⟨fun h=>(by cases h),Av h⟩
    |exact⟨fun h=>(by cases h),Kw h⟩
    |exact h.elim
  |halt x w'=>cases x<;>simp only[Oper.upon,Oper.uponIn]at h⊢<;>first|exact h|exact h.elim
 ·rw[hr,Oper.uponIn_round]
  exact⟨fun h=>(by cases h),Kq h⟩
theorem LZ {ops:Array Oper}:∀(l:List Oper) (k:Nat),(∀j,l[j]?=ops[k+j]?)->∀(a:Act) (w:World),fY P ops Q l a w->wpOpsIn (Fw none) 3 P ops Q (List.range' k l.length) a w
 |[],_,_,_,_,h=>h
 |o::l,k,hl,a,w,h=>by
  have h0:ops[k]?=some o:=by simpa using(hl 0).symm
  have ih:=LZ l (k+1) (fun j=>by have:=hl (j+1);simpa[Nat.add_assoc,Nat.add_comm 1 j]using this)
  rw[List.length_cons,List.range'_succ]
  simp only[wpOpsIn,h0]
  simp only[fY]at h
  split
  ·rename_i hw
   rw[if_pos hw]at h
   exact Oper.wpIn_mono (fun a' w' h'=>ih a' w' h') (Sf h)
  ·rename_i hw
   rw[if_neg hw]at h
   exact⟨fun _ _=>trivial,ih _ _ h⟩
theorem Uw {id:Nat} {ops:Array Oper} (h:fY P ops Q ops.toList a w):lH none P (.region id ops false) Q a w:=by
 refine wpIn_region ?_
 have:=LZ (ops:=ops) ops.toList 0 (by simp) a w h
 rwa [Array.length_toList,<-List.range_eq_range']at this
end
section
variable {C:Cx} {K:List PK} {E:Env} {H:aa}
theorem AP.SN {p:List Nat} {id:Nat} {ops:List Oper} (fD:C.rd=none) (hc:bS C.fn p= .region id ops.toArray false) (h:AQ C [] 0 ops K E H):AP C p K E H:=by
 unfold AP
 rw[hc]
 intro φ I a w hs
 unfold AQ at h
 rw[fD]
 refine Uw (h ops.toArray (fun j d hj=>by simp[lk]at hj) (fun j o hj=>?_) φ I a w hs)
 rw[Nat.zero_add]
 simp[hj]
theorem AQ.OE {ds:List (Nat×Nat)} {i:Nat} {o:Oper} {os:List Oper} {sc:Prop} {v:AV} (ai:bl C.n [o]=true) (hg:o.guard=none) (hv:gQ C.P E H o.op=some (sc,v)) (ay:sc)
  (h:AQ C (aZ o.dst i ds) (i+1) os K (a6 o.dst v E) H):AQ C ds i (o::os) K E H:=by
 obtain⟨hd,_⟩:=ef ai
 have fy:=h
 unfold AQ at fy⊢
 refine AO.step fun ops φ I a w aT _ hs Kn bI=>?_
 rw[if_pos (by simp[Region.wanted,hg])]
 obtain⟨u,hu,a_⟩:=xw hs.env hs.st.real hv ay
 unfold Oper.wp
 rw[hu,Oper.upon_value]
 exact bI _ _ φ I _ _ fy (hs.put hs.st (bt.refl _ _ _) hd a_)
end
section
variable {C:Cx} {K:List PK} {E:Env} {H:aa}
end
section
variable {C:Cx} {K:List PK} {E:Env} {H:aa}
end
section
variable {C:Cx} {K:List PK} {E:Env} {H:aa}
theorem AE.IL {C0:Cx} {e:Exit} (he:e= .ret\/e= .normal) (aT:C.ds=[none]) (h:LV C E H) (hC:lN C0=lN C:=by rfl):AE C e [.bot (lN C0)] E H:=by
 unfold AE
 intro φ I a w hs
 obtain⟨ms,g1,g2,g3,g4⟩:=hs.bD
 have qI:=g4 (by rw[aT];simp)
 have qD:a.defers=[]:=by rw[g1,qI,aT];rfl
 rw[hC]
 have:=h φ I a w hs.st hs.env
 rw[<-qD]at this
 rcases he with rfl|rfl<;>exact this
end
theorem an {a b:Prop} (x:a) (y:b):a/\b:=⟨x,y⟩
theorem gO {p q:Prop} (hq:q) (h:q->p:=by
 intro hq
 repeat(first|refine xA ?_|refine xB ?_|refine xC ?_|refine xE ?_|refine xD ?_|refine xK ?_|refine xS ?_|refine xM ?_|refine xT ?_|refine xF ?_|((first|refine xR ?_|refine xW ?_|refine np ?_);simp only[go_sem,Nat.reduceAdd,Nat.reduceLeDiff,Nat.reduceSub,Int.reduceToNat,reduceCtorEq])|(refine⟨by clear hq;first|omega|(intros;simp_all;done)|(intros;simp_all;omega),?_⟩;try simp only[go_sem,Nat.reduceAdd,Nat.reduceLeDiff,Nat.reduceSub,Int.reduceToNat,reduceCtorEq]))
 exact hq):p:=h hq
theorem gE {e p q:Prop} (he:e) (hq:q) (h:e->q->p:=by
 intro he hq
 repeat(first|refine xA ?_|refine xB ?_|refine xC ?_|refine xE ?_|refine xD ?_|refine xK ?_|refine xS ?_|refine xM ?_|refine xT ?_|refine xF ?_|((first|refine xR ?_|refine xW ?_|refine np ?_);simp only[go_sem,Nat.reduceAdd,Nat.reduceLeDiff,Nat.reduceSub,Int.reduceToNat,reduceCtorEq,he])|(refine⟨by clear hq;first|omega|(intros;simp_all;done)|(intros;simp_all;omega),?_⟩;try simp only[go_sem,Nat.reduceAdd,Nat.reduceLeDiff,Nat.reduceSub,Int.reduceToNat,reduceCtorEq,he]))
 exact hq):p:=h he hq
theorem sI {p q:Prop} (hq:q) (h:q->p:=by
 intro hq
 simp only[go_sem,Nat.reduceAdd,Nat.reduceLeDiff,Nat.reduceSub,Int.reduceToNat,reduceCtorEq]
 exact hq):p:=h hq
theorem sE {e p q:Prop} (he:e) (hq:q) (h:e->q->p:=by
 intro he hq
 simp only[go_sem,Nat.reduceAdd,Nat.reduceLeDiff,Nat.reduceSub,Int.reduceToNat,reduceCtorEq,he]
 exact hq):p:=h he hq
theorem sH {p q:Prop} (hq:q) (h:q->p:=by
 intro hq
 simp only[go_sem,Nat.reduceAdd,Nat.reduceLeDiff,Nat.reduceSub,Int.reduceToNat,reduceCtorEq,c6,eK,bZ,fh]
 exact hq):p:=h hq
section
variable {C:Cx} {K:List PK} {E:Env} {H:aa} {p:List Nat}
theorem cT {t:Tmp} {x y:Code} (ht:AP C (0::p) K E H) (hc:bS C.fn p= .cond (.tmp t) x y:=by exact rfl) (hb:lk E t=some (.im (.v (.bool true))):=by
 simp only[go_sem,Nat.reduceAdd,Nat.reduceLeDiff,Nat.reduceSub,Int.reduceToNat,reduceCtorEq]
 refine congrArg (fun b=>some (AV.im (IV.v (Value.bool b)))) ?_
 (first|(simp only[Bool.or_eq_true,Bool.and_eq_true,Bool.not_eq_true',Bool.not_eq_false',Bool.and_eq_false_iff,Bool.or_eq_false_iff,decide_eq_true_eq,decide_eq_false_iff_not,beq_iff_eq,bne_iff_ne,beq_eq_false_iff_ne,bne_eq_false_iff_eq,ne_eq];omega)|(simp;done)|(simp;omega)|(simp_all;done)|(simp_all;omega))):AP C p K E H:=AP.cond_true hc hb ht
theorem cF {t:Tmp} {x y:Code} (hf:AP C (1::p) K E H) (hc:bS C.fn p= .cond (.tmp t) x y:=by exact rfl) (hb:lk E t=some (.im (.v (.bool false))):=by
 simp only[go_sem,Nat.reduceAdd,Nat.reduceLeDiff,Nat.reduceSub,Int.reduceToNat,reduceCtorEq]
 refine congrArg (fun b=>some (AV.im (IV.v (Value.bool b)))) ?_
 (first|(simp only[Bool.or_eq_true,Bool.and_eq_true,Bool.not_eq_true',Bool.not_eq_false',Bool.and_eq_false_iff,Bool.or_eq_false_iff,decide_eq_true_eq,decide_eq_false_iff_not,beq_iff_eq,bne_iff_ne,beq_eq_false_iff_ne,bne_eq_false_iff_eq,ne_eq];omega)|(simp;done)|(simp;omega)|(simp_all;done)|(simp_all;omega))):AP C p K E H:=AP.cond_false hc hb hf
end
theorem sU {E E':Env} (h:Sub E E':=by repeat(first|exact Sub.nil _|refine Sub.cons rfl ?_)):Sub E E':=h
theorem lI.plain {P:Program} {f:FuncId} {fn:Func} {c:Code} {n nb:Nat} {args:List AV} {H:aa} {RD:aa->Prop} (kp ob:List Nat) (hf:P.funcs[f]?=some fn) (hb:fn.body=some c) (hn:fn.ntmps=n)
  (jm:enters P f=true) (cS:Nat.ble args.length n=true) (hnb:cU H=nb)
  (h:∀(w:World) (own I0:Nat->Prop) (aq:al) (lay:Lay P ⟨w,own,I0,aq,nb⟩),AP ⟨P,fn,n,⟨w,own,I0,aq,nb⟩,kp,ob,fun _ H'=>RD H',none,fun _ _=>False,[none],lay⟩ [] [.bot (tQ ⟨P,fn,n,⟨w,own,I0,aq,nb⟩,kp,ob,fun _ H'=>RD H',none,fun _ _=>False,[none],lay⟩)] (enum 0 args) H):lI P f args H none RD:=by
 refine⟨jm,fun w φ I vs v a_ hR hV _=>?_⟩
 subst hnb
 have hl:=hY args vs a_
 have lV:=Nat.le_of_ble_eq_true cS
 have h0:=h w (cP φ) I φ (hR.lay hV _)
 unfold AP at h0
 simp only[bS,hb,Option.getD_some]at h0
 have sC:=h0 φ I {tmps:=vs.toArray++Array.replicate (fn.ntmps-vs.toArray.size) undef,defers:=[]} w ⟨Marks.nil,by
  simp only[Array.size_append,List.size_toArray,Array.size_replicate,hn];omega,fun i x hx=>by
  obtain⟨j,rfl,hj⟩:=qt args 0 i x hx
  obtain⟨u,hu,dc⟩:=hU args vs j x a_ hj
  refine⟨u,?_,dc⟩
  have ag:j<vs.length:=by
   rcases Nat.lt_or_ge j vs.length with h|h
   ·exact h
   ·rw[List.getElem?_eq_none h]at hu;cases hu
  rw[Nat.zero_add,Array.getElem?_append_left (by simpa using ag)]
  simpa using hu,pY hR _⟩
 refine(callsDIn_of_wp (R:=fun e w'=>∃H' φ' I' x,RD H'/\e= .returned x/\St ⟨w,cP φ,I,φ,cU H⟩ φ' I' H' w') hf hb trivial (Go.wpIn_mono (LX sC) fun e a' w' he=>?_)).mono fun e u' w' ⟨hu,H',φ',I',x,U,h2,h3⟩=>⟨H',φ',I',x,U,h2,by rw[hu];rfl,h3⟩
 cases e with
 |normal=>
  obtain⟨lY,v',od,rr,H',φ',I',vv,qC,_,_,hS⟩:=he
  exact⟨lY,v',od,H',φ',I',v',qC,rfl,hS⟩
 |ret=>
  obtain⟨lY,v',od,rr,H',φ',I',vv,qC,_,_,hS⟩:=he
  exact⟨lY,v',od,H',φ',I',v',qC,rfl,hS⟩
 |_=>exact he.elim
def fZ (a b:IV):Prop:=∀(w:World) (I:Nat->Prop) (u:Value),IV.den w I a u->IV.den w I b u
def lC (a b:List IV):Prop:=∀(w:World) (I:Nat->Prop) (us:List Value),IV.ab w I a us->IV.ab w I b us
def dj (a b:AV):Prop:=∀(w:World) (φ:al) (I:Nat->Prop) (u:Value),AV.den w φ I a u->AV.den w φ I b u
theorem fZ.refl (a:IV):fZ a a:=fun _ _ _ h=>h
theorem dj.refl (a:AV):dj a a:=fun _ _ _ _ h=>h
theorem lC.refl (a:List IV):lC a a:=fun _ _ _ h=>h
theorem lD.refl (a:List (List IV)):lD a a:=fun _ _ _ h=>h
theorem fZ.nil (es:Nat):fZ (.v (.slice none 0 0)) (.sl es []):=fun w I u h=>Dy h
theorem lC.cons {x y:IV} {l m:List IV} (h:fZ x y) (h':lC l m):lC (x::l) (y::m):=fun w I us hd=>by
 simp only[IV.ab]at hd⊢
 obtain⟨u,ao,e,U,h2⟩:=hd
 exact⟨u,ao,e,h w I u U,h' w I ao h2⟩
theorem lD.cons {x y:List IV} {l m:List (List IV)} (h:lC x y) (h':lD l m):lD (x::l) (y::m):=fun w I us hd=>by
 simp only[IV.aH]at hd⊢
 obtain⟨u,ao,e,U,h2⟩:=hd
 exact⟨u,ao,e,h w I u U,h' w I ao h2⟩
theorem AN {w:World} {I:Nat->Prop}:∀(l:List (List IV)) (us:List (List Value)),IV.aH w I l us->us.length=l.length
 |[],us,h=>by simp only[IV.aH]at h;subst h;rfl
 |x::l,us,h=>by
  simp only[IV.aH]at h
  obtain⟨u,ao,rfl,_,h2⟩:=h
  simp[AN l ao h2]
theorem fZ.sl {es:Nat} {l m:List (List IV)} (h:lD l m):fZ (.sl es l) (.sl es m):=fun w I u hd=>by
 simp only[IV.den]at hd⊢
 obtain⟨p,c,ae,e,hc,U,h2,h3⟩:=hd
 have hm:=h w I ae U
 have hl:l.length=m.length:=by rw[<-AN l ae U,<-AN m ae hm]
 refine⟨p,c,ae,by rw[<-hl];exact e,by omega,hm,h2,fun aR=>h3 fun l7=>aR ?_⟩
 subst l7
 exact List.eq_nil_of_length_eq_zero hl.symm
theorem dj.im {a b:IV} (h:fZ a b):dj (.im a) (.im b):=fun w φ I u hd=>by
 simp only[AV.den]at hd⊢;exact h w I u hd
theorem bY.nM {x y:AV} {l m:List AV} (h:dj x y) (h':bY l m):bY (x::l) (y::m):=fun w φ I us hd=>by
 simp only[AV.ab]at hd⊢
 obtain⟨u,ao,e,U,h2⟩:=hd
 exact⟨u,ao,e,h w φ I u U,h' w φ I ao h2⟩
theorem dj.agg {l m:List AV} (h:bY l m):dj (.agg l) (.agg m):=fun w φ I u hd=>by
 simp only[AV.den]at hd⊢
 obtain⟨us,U,h2⟩:=hd
 exact⟨us,h w φ I us U,h2⟩
theorem dj.aM {l m:List AV} (h:bY l m):dj (.aM l) (.aM m):=fun w φ I u hd=>by
 simp only[AV.den]at hd⊢
 obtain⟨us,U,h2⟩:=hd
 exact⟨us,h w φ I us U,h2⟩
theorem aj.tM {P:Program} {f:FuncId} {xs ys:List AV} {H:aa} {R:AV->aa->Prop} (h:aj P f ys H R) (hl:bY xs ys):aj P f xs H R:=
 ⟨h.gh,fun w φ I vs hd hR hV=>h.run w φ I vs (hl w φ I vs hd) hR hV⟩
theorem da.tM {P:Program} {f:FuncId} {xs ys:List AV} {H:aa} {R X:AV->aa->Prop} (h:da P f ys H R X) (hl:bY xs ys):da P f xs H R X:=
 ⟨h.gh,fun w φ I vs hd hR hV=>h.run w φ I vs (hl w φ I vs hd) hR hV⟩
theorem aP.tM {P:Program} {f:FuncId} {xs ys:List AV} {r:AV} (h:aP P f ys r) (hl:bY xs ys):aP P f xs r:=aj.tM h hl
theorem QS {w:World} {I:Nat->Prop}:∀{x:IV} {u:Value},IV.den w I x u->u.oneCell'=true
 | .v x,u,h=>by simp only[IV.den]at h;rw[h.1];exact h.2
 | .sl es rows,u,h=>by
  simp only[IV.den]at h
  obtain⟨p,c,ae,rfl,_⟩:=h
  rfl
 | .pt cs,u,h=>by
  simp only[IV.den]at h
  obtain⟨g,off,us,rfl,_⟩:=h
  rfl
 | .fn f fs aJ,u,h=>by
  simp only[IV.den]at h
  obtain⟨us,vs,_,_,rfl⟩:=h
  rfl
theorem Ih {w:World} {I:Nat->Prop}:∀(cs:List IV) (us:List Value),IV.ab w I cs us->∀x∈us,x.oneCell'=true
 |[],us,h,x,hx=>by simp only[IV.ab]at h;subst h;cases hx
 |c::cs,us,h,x,hx=>by
  simp only[IV.ab]at h
  obtain⟨u,ao,rfl,U,h2⟩:=h
  rcases List.mem_cons.1 hx with rfl|hx
  ·exact QS U
  ·exact Ih cs ao h2 x hx
theorem Ig {w:World} {φ:al} {I:Nat->Prop}:∀(cs:List IV) (us:List Value),IV.ab w I cs us->AV.ab w φ I (cs.map .im) us
 |[],us,h=>by simp only[IV.ab]at h;subst h;rfl
 |c::cs,us,h=>by
  simp only[IV.ab]at h
  obtain⟨u,ao,rfl,U,h2⟩:=h
  exact⟨u,ao,rfl,by simp only[AV.den];exact U,Ig cs ao h2⟩
theorem dj.ar (cs:List IV):dj (.ar cs) (.agg (cs.map .im)):=fun w φ I u hd=>by
 simp only[AV.den]at hd⊢
 obtain⟨us,U,h2⟩:=hd
 exact⟨us,Ig cs us U,h2,Ih cs us U⟩
end Go.AL
end
section
namespace Go.AL
open Go Go.Sort Go.Proofs
abbrev p6 (l:List (List UInt8)):List (List IV):=l.map fun s=>[IV.v (.string (BA s))]
theorem Ld {w:World} {I:Nat->Prop}:∀(l:List (List UInt8)) (ae:List (List Value)),IV.aH w I (p6 l) ae->ae.flatten=l.map encStr
 |[],ae,h=>by simp only[p6,List.map_nil,IV.aH]at h;subst h;rfl
 |x::l,ae,h=>by
  simp only[p6,List.map_cons,IV.aH,IV.ab,IV.den]at h
  obtain⟨u,ao,rfl,⟨v,vs,rfl,⟨rfl,_⟩,rfl⟩,h2⟩:=h
  have:=Ld l ao h2
  simp only[List.flatten_cons,List.map_cons,this]
  rfl
theorem Lc {w:World} {I:Nat->Prop}:∀(l:List (List UInt8)),IV.aH w I (p6 l) (l.map fun s=>[encStr s])
 |[]=>by simp only[p6,List.map_nil,IV.aH]
 |x::l=>by
  simp only[p6,List.map_cons,IV.aH,IV.ab,IV.den]
  exact⟨_,_,rfl,⟨_,_,rfl,⟨rfl,rfl⟩,rfl⟩,Lc l⟩
theorem Gu:∀m:List (List UInt8),(m.map fun s=>[encStr s]).flatten=m.map encStr
 |[]=>rfl
 |x::r=>by rw[List.map_cons,List.flatten_cons,Gu r];rfl
theorem SH (l m:List (List UInt8)) (rest:List Value) (h:m.length=l.length):putCells encStr 0 m.toArray (l.map encStr++rest).toArray=(m.map encStr++rest).toArray:=by
 apply Array.ext_getElem?
 intro k
 unfold putCells
 rw[Array.getElem?_mapIdx,List.getElem?_toArray,List.getElem?_toArray]
 rcases Nat.lt_or_ge k m.length with hk|hk
 ·rw[List.getElem?_append_left (by simp;omega),List.getElem?_append_left (by simpa using hk),List.getElem?_map,List.getElem?_map,List.getElem?_eq_getElem (by omega),List.getElem?_eq_getElem hk]
  simp[hk]
 ·rw[List.getElem?_append_right (by simp;omega),List.getElem?_append_right (by simpa using hk)]
  simp only[List.length_map,h]
  cases rest[k-l.length]? with
  |none=>rfl
  |some x=>simp;omega
theorem Hr (w:World) (g:Nat) (n:Nat) (d:Array (List UInt8)) (os:Array Obj) (k:Nat) (hk:k<w.heap.size):(grow (putRow encStr (Sort.ahead w n) g 0 d) os).heap[k]?=if g=k then(w.heap[k]?).map (onCells (putCells encStr 0 d))else w.heap[k]?:=by
 rw[heap_grow_old _ _ (by show k<(w.heap.modify g _).size;simpa using hk)]
 show(w.heap.modify g (onCells (putCells encStr 0 d)))[k]?=_
 rw[Array.getElem?_modify]
theorem St.putRow {w:World} {φ:al} {I:Nat->Prop} {el:TypeId} {l m:List (List UInt8)} (hR:Real w φ I [(0,.vec el 1 (p6 l))]) {g:Nat} (hg:φ 0=some (some g)) (h:m.length=l.length) (n:Nat) (os:Array Obj):
  St ⟨w,cP φ,I,φ,1⟩ φ I [(0,.vec el 1 (p6 m))] (grow (putRow encStr (Sort.ahead w n) g 0 m.toArray) os):=by
 have aQ:=hR.own 0 _ (some g) rfl hg
 simp only[Ob.at]at aQ
 rcases aQ with⟨U,_⟩|⟨g',ae,rest,e,hh,hd,_⟩
 ·cases U
 cases e
 have dA:=Ld l ae hd
 rw[dA]at hh
 have bB:=hR.off 0 g hg
 have aO:w.heap.size<=(grow (Sort.putRow encStr (Sort.ahead w n) g 0 m.toArray) os).heap.size:=by
  rw[size_grow]
  show w.heap.size<=(w.heap.modify g _).size+_
  simp
 have ld:∀k,k<w.heap.size->k≠g->(grow (Sort.putRow encStr (Sort.ahead w n) g 0 m.toArray) os).heap[k]?=w.heap[k]?:=fun k hk aR=>by
  rw[Hr w g n _ os k hk,if_neg (fun e=>aR e.symm)]
 have kC:(grow (Sort.putRow encStr (Sort.ahead w n) g 0 m.toArray) os).heap[g]?=some (.cells (m.map encStr++rest).toArray el (0,0)):=by
  rw[Hr w g n _ os g bB.2,if_pos rfl,hh]
  show some (onCells (putCells encStr 0 m.toArray) (.cells (l.map encStr++rest).toArray el (0,0)))=_
  rw[onCells,SH l m rest h]
 refine⟨⟨fun b=>?_,fun b o p hl hp=>?_,fun b g2 hb=>⟨(hR.off b g2 hb).1,Nat.lt_of_lt_of_le (hR.off b g2 hb).2 aO⟩,hR.inj,fun g2 hi=>Nat.lt_of_lt_of_le (hR.bO g2 hi) aO⟩,
  ⟨aO,fun k hk bL=>ld k hk fun e=>bL ⟨0,e▸hg⟩,fun k c e fz hc=>?_,rfl,rfl,rfl⟩,fun b g2 hb=> .inl ⟨b,hb⟩,fun g2 hi=> .inl hi,fun g2 hi=>hi,fun b p o _ h0 _=>h0⟩
 ·have:=hR.bq b
  simp only[lk]at this⊢
  cases hb:Nat.beq 0 b with
  |true=>rw[hb]at this;simpa using this
  |false=>rw[hb]at this;simpa using this
 ·simp only[lk]at hl
  cases hb:Nat.beq 0 b with
  |true=>
   rw[hb]at hl
   have:=Nat.eq_of_beq_eq_true hb
   subst this
   rw[hg]at hp
   cases hp
   simp only[cond_true,Option.some.injEq]at hl
   subst hl
   simp only[Ob.at]
   refine .inr ⟨g,m.map fun s=>[encStr s],rest,rfl,?_,Lc m,fun vs hv=>?_⟩
   ·rw[kC]
    rw[Gu]
   ·obtain⟨s,_,rfl⟩:=List.mem_map.1 hv;rfl
  |false=>rw[hb]at hl;cases hl
 ·rcases Nat.lt_or_ge k w.heap.size with hk|hk
  ·by_cases uT:k=g
   ·subst uT
    rw[hh]at hc
    cases hc
    exact⟨_,_,kC,by simp[h]⟩
   ·exact⟨c,fz,(ld k hk uT).trans hc,rfl⟩
  ·rw[Array.getElem?_eq_none hk]at hc;cases hc
end Go.AL
end
section
namespace Go.AL
open Go
section
variable {C:Cx} {K:List PK} {E:Env} {H:aa}
theorem AQ.Es {ds:List (Nat×Nat)} {i:Nat} {os:List Oper} {E':Env} (h:AQ C ds i os K E' H) (hE:Sub E E'):AQ C ds i os K E H:=by
 unfold AQ at h⊢
 intro ops U h2 φ I a w hs
 exact h ops U h2 φ I a w (hs.sub hE)
end
section
variable {C:Cx} {K:List PK} {E:Env} {H:aa}
theorem AQ.opt (t:Nat) {ds:List (Nat×Nat)} {i:Nat} {os:List Oper} {x:AV} (hl:lk E t=some (.opt true x)) (h:AQ C ds i os K ((t,x)::E) H):AQ C ds i os K E H:=
 AQ.imp (E':=(t,x)::E) (fun w φ I a he j y hj=>by
  by_cases l5:j=t
  ·subst l5
   rw[lk,Nat.beq_refl,cond_true]at hj
   obtain⟨u,hu,hd⟩:=he j _ hl
   simp only[AV.den]at hd
   cases hj
   exact⟨u,hu,hd.1 trivial⟩
  ·have:Nat.beq t j=false:=by
    cases hb:Nat.beq t j with
    |false=>rfl
    |true=>exact absurd (Nat.eq_of_beq_eq_true hb).symm l5
   have mL:lk E j=some y:=by
    rw[lk]at hj
    first|(rw[this]at hj;exact hj)|(have t2:Nat.beq j t=false:=by(cases hb:Nat.beq j t with|false=>rfl|true=>exact absurd (Nat.eq_of_beq_eq_true hb) l5);rw[t2]at hj;exact hj)
   exact he j y mL) h
end
end Go.AL
end
section
namespace Go.AL
open Go Go.MapKept
def fI:List Value->List Nat->List Value->List MapEntry
 |k::ks,b::bs,u::us=>{key:=k,val:=u,born:=b}::fI ks bs us
 |_,_,_=>[]
theorem L4:∀l:List MapEntry,fI (l.map (·.key)) (l.map (·.born)) (l.map (·.val))=l
 |[]=>rfl
 |e::l=>by simp only[List.map_cons,fI,L4 l]
theorem wV:∀(ks:List Value) (bs:List Nat) (us:List Value),ks.length=bs.length->us.length=bs.length->(fI ks bs us).map (·.born)=bs
 |[],[],[],_,_=>rfl
 |k::ks,b::bs,u::us,U,h2=>by
  simp only[List.length_cons]at U h2
  simp only[fI,List.map_cons,wV ks bs us (by omega) (by omega)]
theorem Ez:∀(ks:List Value) (bs:List Nat) (us:List Value),ks.length=bs.length->us.length=bs.length->(fI ks bs us).map (·.key)=ks
 |[],[],[],_,_=>rfl
 |k::ks,b::bs,u::us,U,h2=>by
  simp only[List.length_cons]at U h2
  simp only[fI,List.map_cons,Ez ks bs us (by omega) (by omega)]
theorem EA:∀(ks:List Value) (bs:List Nat) (us:List Value),ks.length=bs.length->us.length=bs.length->(fI ks bs us).map (·.val)=us
 |[],[],[],_,_=>rfl
 |k::ks,b::bs,u::us,U,h2=>by
  simp only[List.length_cons]at U h2
  simp only[fI,List.map_cons,EA ks bs us (by omega) (by omega)]
theorem L5 {ks:List Value} {bs:List Nat} {us:List Value} (U:ks.length=bs.length) (h2:us.length=bs.length) {j:Nat} {e:MapEntry} (h:(fI ks bs us)[j]?=some e):ks[j]?=some e.key/\bs[j]?=some e.born/\us[j]?=some e.val:=by
 refine⟨?_,?_,?_⟩
 ·rw[<-Ez ks bs us U h2,List.getElem?_map,h];rfl
 ·rw[<-wV ks bs us U h2,List.getElem?_map,h];rfl
 ·conv=>lhs;rw[<-EA ks bs us U h2]
  rw[List.getElem?_map,h];rfl
def jD (ks:List Value) (bs:List Nat) (clock:Nat) (us:List Value):Obj:= .map (fI ks bs us).toArray clock
def iX (since:Nat) (seen:List Nat) (c:Nat) (us:List Value):Obj:= .mapIter (match us with|[.map m]=>m|_=>none) since seen.toArray c
theorem RJ (ks:List Value) (bs:List Nat) (clock:Nat) (us:List Value):w2 (jD ks bs clock us):= .inl ⟨_,_,rfl⟩
theorem CR (since:Nat) (seen:List Nat) (c:Nat) (us:List Value):w2 (iX since seen c us):= .inr ⟨_,_,_,_,rfl⟩
structure nC (ks:List Value) (bs:List Nat) (clock:Nat):Prop where
 len:ks.length=bs.length
 nd:bs.Nodup
 lt:∀n∈bs,n<clock
section
variable {C:Cx} {K:List PK} {E:Env} {H:aa}
theorem AQ.oK (R:AV->aa->Prop) {ds:List (Nat×Nat)} {i:Nat} {o:Oper} {os:List Oper} (ai:bl C.n (o::os)=true) (hg:o.guard=none)
  (hex:∀φ I a w,bn C φ I E H a w->∃x H' u w' φ' I',R x H'/\(execOp a.eval o).run C.P w= .ok (.value u) w'/\AV.den w' φ' I' x u/\St C.B φ' I' H' w'/\bt w φ I w' φ' I')
  (h:∀x H',R x H'->vq C K os (aZ o.dst i ds) (i+1) (a6 o.dst x E) H'):AQ C ds i (o::os) K E H:=by
 obtain⟨hd,ca⟩:=ef ai
 have bB:=fun x H' hx=>AQ.go ca (h x H' hx)
 unfold AQ at bB⊢
 refine AO.step (o:=o) fun ops φ I a w aT _ hs Kn bI=>?_
 have hw:Region.wanted o (yielded ops a.tmps)=true:=by simp[Region.wanted,hg]
 rw[if_pos hw]
 obtain⟨x,H',u,w',φ',I',hx,aE,a_,hS,hK⟩:=hex φ I a w hs
 unfold Oper.wp
 rw[aE,Oper.upon_value]
 exact bI _ _ φ' I' _ _ (bB x H' hx) (hs.put hS hK hd a_)
theorem St.drew {B:Bs} {φ:al} {I:Nat->Prop} {w:World} (h:St B φ I H w):St B φ I H w.drew/\bt w φ I w.drew φ I:=by
 have hx:Ext (fun _=>False) w w.drew:=⟨Nat.le_refl _,fun _ _ _=>rfl,fun _ c _ fz h=>⟨c,fz,h,rfl⟩,rfl,rfl,rfl⟩
 have k:bt w φ I w.drew φ I:=⟨fun _ _=>rfl,fun _ h=>h,fun _ _ h=>h,fun _ g n _ hs=>hx.shaped (fun h=>h) hs⟩
 refine⟨⟨⟨h.real.bq,fun b' o' p hl hp=>?_,fun b' g hp=>h.real.off b' g hp,h.real.inj,h.real.bO⟩,h.ext.trans hx (fun g hf=>hf.elim),h.bU,h.c8,h.cj,h.cD⟩,k⟩
 exact Ob.jM k.im k.I k.phi k.sh (fun g hg=>rfl) (h.real.own b' o' p hl hp)
theorem St.SK {B:Bs} {φ:al} {I:Nat->Prop} {w:World} {l:Nat} {o0 o':Obj} (h:St B φ I H w) {b:Nat} (hb:φ b=some (some l)) (hl:w.heap[l]?=some o0) (hm:w2 o0) {na ob:Ob} (fC:lk H b=some na)
  (aQ:(∀x u,AV.den w φ I x u->AV.den (w.putObj l o') φ I x u)->(w.putObj l o').heap[l]?=some o'->ob.at (w.putObj l o') φ I (some l)):
  St B φ I (bG H b ob) (w.putObj l o')/\bt w φ I (w.putObj l o') φ I:=by
 have hI:¬I l:=(h.real.off b l hb).1
 have ag:l<w.heap.size:=(h.real.off b l hb).2
 have qJ:∀c e fz,o0≠ .cells c e fz:=fun c e fz=>by rcases hm with⟨_,_,rfl⟩|⟨_,_,_,_,rfl⟩<;>exact fun h=>by cases h
 have hx:Ext (fun g=>g=l) w (w.putObj l o'):=
  ⟨by simp,fun g _ hn=>World.putObj_heap_other hn,fun g c e fz hc=>⟨c,fz,(World.putObj_heap_other (fun e2=>by subst e2;rw[hl]at hc;cases hc;exact qJ _ _ _ rfl)).trans hc,rfl⟩,rfl,rfl,rfl⟩
 have k:bt w φ I (w.putObj l o') φ I:=by
  refine⟨fun g hg=>World.putObj_heap_other (fun e=>hI (e▸hg)),fun _ h=>h,fun _ _ h=>h,fun _ g n _ hs=>?_⟩
  obtain⟨c,e,hc,hn⟩:=hs
  have hg:g≠l:=fun e2=>by subst e2;rw[hl]at hc;cases hc;exact qJ _ _ _ rfl
  exact⟨c,e,(World.putObj_heap_other hg).trans hc,hn⟩
 refine⟨⟨⟨fun b'=>?_,fun b' o p aD hp=>?_,fun b' g hp=>?_,h.real.inj,fun g hg=>?_⟩,h.ext.trans hx (fun g hg=>by subst hg;exact h.bU b _ hb),h.bU,h.c8,h.cj,fun b' p o j2 h0 aD=>?_⟩,k⟩
 ·by_cases ak:b'=b
  ·subst ak;rw[iA H b' _ fC,hb];rfl
  ·rw[e_ H b b' _ ak];exact h.real.bq b'
 ·by_cases ak:b'=b
  ·subst ak
   rw[iA H b' _ fC]at aD;cases aD
   rw[hb]at hp;cases hp
   exact aQ (fun x u hx=>k.den hx) (World.putObj_heap_same ag)
  ·rw[e_ H b b' _ ak]at aD
   exact Ob.jM k.im k.I k.phi k.sh (fun g hg=>World.putObj_heap_other (fun e=>by subst e;subst hg;exact ak (h.real.inj b' b g hp hb))) (h.real.own b' o p aD hp)
 ·have:=h.real.off b' g hp
  exact⟨this.1,by simpa using this.2⟩
 ·have:=h.real.bO g hg
  simpa using this
 ·by_cases ak:b'=b
  ·subst ak;exact h.cD b' p na j2 h0 fC
  ·rw[e_ H b b' _ ak]at aD;exact h.cD b' p o j2 h0 aD
theorem St.told {B:Bs} {φ:al} {I:Nat->Prop} {w:World} (h:St B φ I H w) {b:Nat} {na ob:Ob} (fC:lk H b=some na) (aQ:∀p,φ b=some p->na.at w φ I p->ob.at w φ I p):St B φ I (bG H b ob) w:=by
 refine⟨⟨fun b'=>?_,fun b' o p aD hp=>?_,h.real.off,h.real.inj,h.real.bO⟩,h.ext,h.bU,h.c8,h.cj,fun b' p o j2 h0 aD=>?_⟩
 ·by_cases ak:b'=b
  ·subst ak
   rw[iA H b' _ fC]
   have:=h.real.bq b'
   rw[fC]at this
   exact this
  ·rw[e_ H b b' _ ak];exact h.real.bq b'
 ·by_cases ak:b'=b
  ·subst ak
   rw[iA H b' _ fC]at aD;cases aD
   exact aQ p hp (h.real.own b' _ p fC hp)
  ·rw[e_ H b b' _ ak]at aD;exact h.real.own b' o p aD hp
 ·by_cases ak:b'=b
  ·subst ak;exact h.cD b' p na j2 h0 fC
  ·rw[e_ H b b' _ ak]at aD;exact h.cD b' p o j2 h0 aD
theorem AQ.Dl {ds:List (Nat×Nat)} {i:Nat} {d:Option Nat} {ty t kt et:TypeId} {pos:String} {af:Array Edge} {os:List Oper} {x:Operand} {b:Nat} {ks:List Value} {cs:List AV}
  (ai:bl C.n ({dst:=d,op:= .range t x,type:=ty,pos:=pos,after:=af,guard:=none}::os)=true)
  (hx:ev E x=some (.mp b)) (hH:lk H b=some (.var (.map ks) cs)) (ht:C.P.underlying t=some (.map kt et))
  (h:∀bs clock,nC ks bs clock->vq C K os (aZ d i ds) (i+1) (a6 d (.ob (aL C.B.nb H) 0) E) ((aL C.B.nb H,.var (.raw (iX clock [] clock)) [.mp b])::bG H b (.var (.raw (jD ks bs clock)) cs))):
  AQ C ds i ({dst:=d,op:= .range t x,type:=ty,pos:=pos,after:=af,guard:=none}::os) K E H:=by
 refine AQ.oK (fun x H'=>∃bs clock,nC ks bs clock/\x= .ob (aL C.B.nb H) 0/\H'=(aL C.B.nb H,.var (.raw (iX clock [] clock)) [.mp b])::bG H b (.var (.raw (jD ks bs clock)) cs)) ai rfl (fun φ I a w hs=>?_) ?_
 ·obtain⟨g,es,clock,il,hg,hh,aC,iQ,k7⟩:=pJ hs.st.real hH (aS hs.env hx)
  have bx:nC ks (es.toList.map (·.born)) clock:=⟨by rw[<-aC];simp,k7.1,fun n hn=>by
   obtain⟨e,he,rfl⟩:=List.mem_map.1 hn
   exact k7.2 e he⟩
  have U:=hs.st.told (ob:= .var (.raw (jD ks (es.toList.map (·.born)) clock)) cs) hH (fun p hp aQ=>by
   rw[hg]at hp;cases hp
   simp only[Ob.at,Sh.has,Sh.one]
   exact⟨g,es.toList.map (·.val),rfl,⟨by rw[hh,jD,<-aC,L4],RJ _ _ _ _⟩,iQ,trivial⟩)
  have qL:=gL C.B.nb H
  have e6:lk (bG H b (.var (.raw (jD ks (es.toList.map (·.born)) clock)) cs)) (aL C.B.nb H)=none:=by
   have hn:=kO C.B.nb H
   have aR:aL C.B.nb H≠b:=fun e=>by rw[e,hH]at hn;cases hn
   rw[e_ H b _ _ aR];exact hn
  have aE:=run_range_map (P:=C.P) w t kt et g es clock ht hh
  obtain⟨h2,h3⟩:=U.xu (ob:= .mapIter (some g) clock #[] clock) (o:= .var (.raw (iX clock [] clock)) [.mp b]) e6 qL.1 (by
   have Hg:b≠aL C.B.nb H:=fun e=>by have:=kO C.B.nb H;rw[<-e,hH]at this;cases this
   simp only[Ob.at,Sh.has,Sh.one,AV.ab,AV.den]
   refine⟨_,[.map (some g)],rfl,⟨by simpa[iX]using gB w _,CR _ _ _ _⟩,⟨_,_,rfl,⟨g,?_,rfl⟩,rfl⟩,trivial⟩
   first
    |exact hg
    |(simp[a7,Hg];exact hg)
    |(simp only[a7];rw[if_neg Hg];exact hg))
  refine⟨.ob (aL C.B.nb H) 0,_,.pointer (some ⟨w.heap.size,0,none⟩),w.alloc (.mapIter (some g) clock #[] clock),_,_,⟨_,_,bx,rfl,rfl⟩,?_,?_,h2,h3⟩
  ·rw[<-il]at aE
   simp only[execOp,Sem.run_bind,Sem.run_map,aE,Result.andThen_ok,Sem.run_pure]
  ·simp only[AV.den,a7];exact⟨_,by simp,rfl⟩
 ·rintro x H' ⟨bs,clock,U,rfl,rfl⟩
  exact h bs clock U
theorem Ri {es:Array MapEntry} {seen:List Nat} {e:MapEntry} (h:e∈(leftOf es seen.toArray).toList):e∈es.toList/\e.born∉seen:=by
 unfold leftOf at h
 simp at h
 exact⟨by simpa using h.1,h.2⟩
theorem Rj {es:Array MapEntry} {seen:List Nat} (h:(leftOf es seen.toArray).size=0):∀e∈es.toList,e.born∈seen:=fun e he=>by
 unfold leftOf at h
 have U:Array.filter (fun e=>!seen.toArray.contains e.born) es=#[]:=Array.eq_empty_of_size_eq_zero h
 rw[Array.filter_eq_empty_iff]at U
 have:=U e (by simpa using he)
 simpa using this
theorem AQ.Dj {ds:List (Nat×Nat)} {i:Nat} {d:Option Nat} {ty:TypeId} {pos:String} {af:Array Edge} {os:List Oper} {x:Operand} {b it:Nat} {ks:List Value} {cs:List AV} {bs seen:List Nat} {clock since c0:Nat}
  (ai:bl C.n ({dst:=d,op:= .next x false,type:=ty,pos:=pos,after:=af,guard:=none}::os)=true)
  (hx:ev E x=some (.ob it 0)) (hI:lk H it=some (.var (.raw (iX since seen c0)) [.mp b])) (hH:lk H b=some (.var (.raw (jD ks bs clock)) cs)) (bx:nC ks bs clock) (Qm:since=clock) (qE:c0=clock)
  (jn:∀k∈ks,k.oneCell'=true) (b5:cs.length=bs.length)
  (h0:(∀n∈bs,n∈seen)->vq C K os (aZ d i ds) (i+1) (a6 d (.aM [.im (.v (.bool false))]) E) H)
  (U:∀(j n:Nat) (k:Value) (y:AV),bs[j]?=some n->n∉seen->ks[j]?=some k->cs[j]?=some y->vq C K os (aZ d i ds) (i+1) (a6 d (.aM [.im (.v (.bool true)),.im (.v k),y]) E) (bG H it (.var (.raw (iX since (seen++[n]) clock)) [.mp b]))):
  AQ C ds i ({dst:=d,op:= .next x false,type:=ty,pos:=pos,after:=af,guard:=none}::os) K E H:=by
 subst Qm qE
 refine AQ.oK (fun x H'=>((∀n∈bs,n∈seen)/\x= .aM [.im (.v (.bool false))]/\H'=H)\/∃(j n:Nat) (k:Value) (y:AV),bs[j]?=some n/\n∉seen/\ks[j]?=some k/\cs[j]?=some y/\x= .aM [.im (.v (.bool true)),.im (.v k),y]/\H'=bG H it (.var (.raw (iX c0 (seen++[n]) c0)) [.mp b])) ai rfl (fun φ I a w hs=>?_) ?_
 ·have j6:=aS hs.env hx
  simp only[AV.den]at j6
  obtain⟨r,hr,qV⟩:=j6
  have ho:=hs.st.real.own it _ _ hI hr
  simp only[Ob.at,Sh.has,Sh.one,AV.ab,AV.den]at ho
  obtain⟨r',us,vi,⟨mP,_⟩,⟨u,p_,rfl,⟨g,hg,rfl⟩,rfl⟩,_⟩:=ho
  cases vi
  have hm:=hs.st.real.own b _ _ hH hg
  simp only[Ob.at,Sh.has,Sh.one]at hm
  obtain⟨g',us,dr,⟨lh,_⟩,cZ,_⟩:=hm
  cases dr
  have bH:=Al cZ
  have kz:us.length=bs.length:=by omega
  have fe:=wV ks bs us bx.len kz
  have hold:∀x∈((fI ks bs us).toArray).toList,x.born<c0:=fun x hx=>bx.lt _ (by rw[<-fe];exact List.mem_map.2 ⟨x,by simpa using hx,rfl⟩)
  rcases run_next_at (P:=C.P) w ty r g c0 c0 seen.toArray (fI ks bs us).toArray c0 (by rw[mP];rfl) (by rw[lh];rfl) hold (Nat.le_refl _)with⟨hz,aE⟩|⟨e,he,w1,b8,aE⟩
  ·refine⟨_,H,.tuple #[.bool false],w,φ,I,.inl ⟨fun n hn=>?_,rfl,rfl⟩,?_,?_,hs.st,bt.refl w φ I⟩
   ·rw[<-fe]at hn
    obtain⟨e,he,rfl⟩:=List.mem_map.1 hn
    exact Rj hz e (by simpa using he)
   ·rw[<-qV]at aE
    simp only[execOp,Sem.run_bind,Sem.run_map,aE,Result.andThen_ok,Sem.run_pure]
   ·simp only[AV.den,AV.ab,IV.den];exact⟨_,⟨_,_,rfl,⟨rfl,rfl⟩,rfl⟩,rfl⟩
  ·obtain⟨BU,n9⟩:=Ri he
   have BU:e∈fI ks bs us:=by simpa using BU
   obtain⟨j,hj⟩:=List.mem_iff_getElem?.1 BU
   obtain⟨hk,dJ,hv⟩:=L5 bx.len kz hj
   have Hz:j<cs.length:=by
    have:=(List.getElem?_eq_some_iff.1 dJ).1
    omega
   obtain⟨v,ju,bR⟩:=hU cs us j cs[j] cZ (List.getElem?_eq_getElem Hz)
   rw[hv]at ju
   cases ju
   have lr:Go.ChangeMaps.setBlock w1 r (.mapIter (some g) c0 (seen.toArray.push e.born) c0)=w1.putObj r (.mapIter (some g) c0 (seen.toArray.push e.born) c0):=rfl
   have H6:St C.B φ I H w1/\bt w φ I w1 φ I:=by
    rcases b8 with rfl|rfl
    ·exact⟨hs.st,bt.refl _ φ I⟩
    ·exact hs.st.drew
   have va:w1.heap[r]?=some (iX c0 seen c0 [.map (some g)]):=by rcases b8 with rfl|rfl<;>exact mP
   obtain⟨h2,h3⟩:=H6.1.SK (o':= .mapIter (some g) c0 (seen.toArray.push e.born) c0) (ob:= .var (.raw (iX c0 (seen++[e.born]) c0)) [.mp b]) hr va (CR _ _ _ _) hI (fun hd hh=>by
    simp only[Ob.at,Sh.has,Sh.one,AV.ab]
    refine⟨r,[.map (some g)],rfl,⟨by rw[hh,iX];simp,CR _ _ _ _⟩,⟨_,_,rfl,hd (.mp b) _ ?_,rfl⟩,trivial⟩
    simp only[AV.den];exact⟨g,hg,rfl⟩)
   have fR:bt w φ I (w1.putObj r (.mapIter (some g) c0 (seen.toArray.push e.born) c0)) φ I:=by
    have a1:=H6.2
    exact⟨fun g hg=>(h3.im g hg).trans (a1.im g hg),fun _ h=>h,fun _ _ h=>h,fun b g n hb dB=>h3.sh b g n hb (a1.sh b g n hb dB)⟩
   refine⟨_,_,.tuple #[.bool true,e.key,e.val],_,φ,I,.inr ⟨j,e.born,e.key,cs[j],dJ,n9,hk,List.getElem?_eq_getElem Hz,rfl,rfl⟩,?_,?_,h2,fR⟩
   ·rw[<-qV,lr]at aE
    simp only[execOp,Sem.run_bind,Sem.run_map,aE,Result.andThen_ok,Sem.run_pure]
   ·simp only[AV.den,AV.ab,IV.den]
    exact⟨_,⟨_,_,rfl,⟨rfl,rfl⟩,_,_,rfl,⟨rfl,jn _ (List.mem_of_getElem? hk)⟩,_,_,rfl,fR.den bR,rfl⟩,rfl⟩
 ·rintro x H' (⟨h2,rfl,rfl⟩|⟨j,n,k,y,h2,h3,h4,h5,rfl,rfl⟩)
  ·exact h0 h2
  ·exact U j n k y h2 h3 h4 h5
theorem AQ.Di {ds:List (Nat×Nat)} {i:Nat} {d:Option Nat} {ty:TypeId} {pos:String} {af:Array Edge} {os:List Oper} {x:Operand} {b it j n:Nat} {ks:List Value} {cs:List AV} {bs seen:List Nat} {clock since:Nat} {k:Value} {y:AV}
  (ai:bl C.n ({dst:=d,op:= .entry x,type:=ty,pos:=pos,after:=af,guard:=none}::os)=true)
  (hx:ev E x=some (.ob it 0)) (hI:lk H it=some (.var (.raw (iX since (seen++[n]) clock)) [.mp b])) (hH:lk H b=some (.var (.raw (jD ks bs clock)) cs)) (bx:nC ks bs clock)
  (jn:∀k∈ks,k.oneCell'=true) (b5:cs.length=bs.length) (dJ:bs[j]?=some n) (hk:ks[j]?=some k) (hy:cs[j]?=some y)
  (h:vq C K os (aZ d i ds) (i+1) (a6 d (.aM [.im (.v k),y]) E) H):
  AQ C ds i ({dst:=d,op:= .entry x,type:=ty,pos:=pos,after:=af,guard:=none}::os) K E H:=by
 refine AQ.val (.aM [.im (.v k),y]) ai rfl (fun φ I a w hs=>?_) h
 have j6:=aS hs.env hx
 simp only[AV.den]at j6
 obtain⟨r,hr,qV⟩:=j6
 have ho:=hs.st.real.own it _ _ hI hr
 simp only[Ob.at,Sh.has,Sh.one,AV.ab,AV.den]at ho
 obtain⟨r',us,vi,⟨mP,_⟩,⟨u,p_,rfl,⟨g,hg,rfl⟩,rfl⟩,_⟩:=ho
 cases vi
 have hm:=hs.st.real.own b _ _ hH hg
 simp only[Ob.at,Sh.has,Sh.one]at hm
 obtain⟨g',us,dr,⟨lh,_⟩,cZ,_⟩:=hm
 cases dr
 have bH:=Al cZ
 have kz:us.length=bs.length:=by omega
 have fe:=wV ks bs us bx.len kz
 obtain⟨v,ju,bR⟩:=hU cs us j y cZ hy
 have PN:j<(fI ks bs us).length:=by
  have:=congrArg List.length fe
  rw[List.length_map]at this
  have h2:=(List.getElem?_eq_some_iff.1 dJ).1
  omega
 obtain⟨e,he⟩:∃e,(fI ks bs us)[j]?=some e:=⟨_,List.getElem?_eq_getElem PN⟩
 obtain⟨e1,e2,e3⟩:=L5 bx.len kz he
 rw[hk]at e1;cases e1
 rw[dJ]at e2;cases e2
 rw[ju]at e3;cases e3
 have aE:=run_entry_at (P:=C.P) w r g since seen.toArray (fI ks bs us).toArray clock e (by rw[mP,iX];simp) (by rw[lh];rfl) (by simpa using List.mem_of_getElem? he) (by rw[show(fI ks bs us).toArray.toList=fI ks bs us by simp,fe];exact bx.nd)
 refine⟨.tuple #[e.key,e.val],?_,?_⟩
 ·rw[<-qV]at aE
  simp only[execOp,Sem.run_bind,Sem.run_map,aE,Result.andThen_ok,Sem.run_pure]
 ·simp only[AV.den,AV.ab,IV.den]
  exact⟨_,⟨_,_,rfl,⟨rfl,jn _ (List.mem_of_getElem? hk)⟩,_,_,rfl,bR,rfl⟩,rfl⟩
theorem St.mf {B:Bs} {φ:al} {I:Nat->Prop} {w:World} (h:St B φ I H w) {b:Nat} {ks:List Value} {bs:List Nat} {clock:Nat} {cs:List AV} (hH:lk H b=some (.var (.raw (jD ks bs clock)) cs)) (bx:nC ks bs clock) (b5:cs.length=bs.length):St B φ I (bG H b (.var (.map ks) cs)) w:=by
 refine h.told hH fun p hp aQ=>?_
 simp only[Ob.at,Sh.has,Sh.one]at aQ⊢
 obtain⟨g,us,hg,⟨U,_⟩,h2,_⟩:=aQ
 have bH:=Al h2
 have kz:us.length=bs.length:=by omega
 have fe:=wV ks bs us bx.len kz
 refine⟨g,us,hg,⟨(fI ks bs us).toArray,clock,U,by simpa using Ez ks bs us bx.len kz,by simpa using EA ks bs us bx.len kz,by rw[show(fI ks bs us).toArray.toList=fI ks bs us by simp,fe];exact bx.nd,fun e he=>bx.lt _ (by rw[<-fe];exact List.mem_map.2 ⟨e,by simpa using he,rfl⟩)⟩,h2,trivial⟩
theorem AQ.mf {ds:List (Nat×Nat)} {i:Nat} {rest:List Oper} (b:Nat) {ks:List Value} {bs:List Nat} {clock:Nat} {cs:List AV} (hH:lk H b=some (.var (.raw (jD ks bs clock)) cs)) (bx:nC ks bs clock) (b5:cs.length=bs.length) (h:AQ C ds i rest K E (bG H b (.var (.map ks) cs))):AQ C ds i rest K E H:=by
 unfold AQ at h⊢
 exact fun ops U h2 φ I a w hs=>h ops U h2 _ _ _ _ ⟨hs.bD,hs.bE,hs.env,hs.st.mf hH bx b5⟩
theorem AE.mf {e:Exit} (b:Nat) {ks:List Value} {bs:List Nat} {clock:Nat} {cs:List AV} (hH:lk H b=some (.var (.raw (jD ks bs clock)) cs)) (bx:nC ks bs clock) (b5:cs.length=bs.length) (h:AE C e K E (bG H b (.var (.map ks) cs))):AE C e K E H:=by
 unfold AE at h⊢
 exact fun φ I a w hs=>h _ _ _ _ ⟨hs.bD,hs.bE,hs.env,hs.st.mf hH bx b5⟩
theorem AP.mf {p:List Nat} (b:Nat) {ks:List Value} {bs:List Nat} {clock:Nat} {cs:List AV} (hH:lk H b=some (.var (.raw (jD ks bs clock)) cs)) (bx:nC ks bs clock) (b5:cs.length=bs.length) (h:AP C p K E (bG H b (.var (.map ks) cs))):AP C p K E H:=by
 unfold AP at h⊢
 exact fun φ I a w hs=>h _ _ _ _ ⟨hs.bD,hs.bE,hs.env,hs.st.mf hH bx b5⟩
end
theorem Dg {α β:Type} (f:α->β):∀(l:List α) (j:Nat),(l.eraseIdx j).map f=(l.map f).eraseIdx j
 |[],_=>rfl
 |_::_,0=>rfl
 |x::l,j+1=>by rw[List.eraseIdx_cons_succ,List.map_cons,List.map_cons,List.eraseIdx_cons_succ,Dg f l j]
theorem FT {w:World} {φ:al} {I:Nat->Prop}:∀(j:Nat) (cs:List AV) (us:List Value),AV.ab w φ I cs us->AV.ab w φ I (cs.eraseIdx j) (us.eraseIdx j)
 |_,[],us,h=>by
  simp only[AV.ab]at h
  subst h
  simp[AV.ab]
 |0,c::cs,us,h=>by
  simp only[AV.ab]at h
  obtain⟨u,ao,rfl,_,h2⟩:=h
  simpa using h2
 |j+1,c::cs,us,h=>by
  simp only[AV.ab]at h
  obtain⟨u,ao,rfl,U,h2⟩:=h
  simp only[List.eraseIdx_cons_succ,AV.ab]
  exact⟨u,_,rfl,U,FT j cs ao h2⟩
theorem M5 {es dn:Array MapEntry} {clock j:Nat} (he:dn.toList=es.toList.eraseIdx j) (h:oS es clock):oS dn clock:=by
 refine⟨?_,fun e hm=>h.2 e ?_⟩
 ·rw[he]
  exact h.1.sublist ((List.eraseIdx_sublist _ _).map _)
 ·rw[he]at hm
  exact(List.eraseIdx_sublist _ _).subset hm
section
variable {C:Cx} {K:List PK} {E:Env} {H:aa}
theorem AQ.Jm (j:Nat) {ds:List (Nat×Nat)} {i:Nat} {d:Option Nat} {ty t kt CZ et:TypeId} {pos:String} {af:Array Edge} {os:List Oper} {m k:Operand} {b:Nat} {ks:List Value} {cs:List AV} {kv:Value} {dk:TypeDesc}
  (ai:bl C.n ({dst:=d,op:= .call {callee:= .builtin .delete,args:=#[m,k],argTypes:=#[t,CZ]},type:=ty,pos:=pos,after:=af,guard:=none}::os)=true)
  (hm:ev E m=some (.mp b)) (hk:ev E k=some (.im (.v kv))) (hH:lk H b=some (.var (.map ks) cs)) (ht:C.P.underlying t=some (.map kt et)) (hd:C.P.underlying kt=some dk)
  (ky:oT dk ks) (fR:IsKey dk kv) (cL:kv∈ks) (hj:∀i,ks[i]?=some kv->i=j)
  (h:vq C K os (aZ d i ds) (i+1) (a6 d .top E) (bG H b (.var (.map (ks.eraseIdx j)) (cs.eraseIdx j)))):
  AQ C ds i ({dst:=d,op:= .call {callee:= .builtin .delete,args:=#[m,k],argTypes:=#[t,CZ]},type:=ty,pos:=pos,after:=af,guard:=none}::os) K E H:=by
 refine AQ.step1 _ _ ai rfl (fun φ I a w hs=>?_) h
 obtain⟨g,es,clock,il,hg,hh,aC,iQ,k7⟩:=pJ hs.st.real hH (aS hs.env hm)
 have ij:=aS hs.env hk
 simp only[AV.den,IV.den]at ij
 rcases sV aC ky fR with⟨_,h2⟩|⟨j',e,U,h2,h3,h4⟩
 ·exact absurd cL h2
 ·have:=hj j' h4
  subst this
  have ag:g<w.heap.size:=(hs.st.real.off b g hg).2
  have yr:(es.eraseIdxIfInBounds j').toList=es.toList.eraseIdx j':=by
   have jX:j'<es.size:=by
    have:=(List.getElem?_eq_some_iff.1 h2).1
    simpa using this
   rw[Array.eraseIdxIfInBounds,dif_pos jX,Array.toList_eraseIdx]
  have aE:(Builtin.delete_ #[t,CZ] ty #[a.eval m,a.eval k]).run C.P w= .ok (.tuple #[]) (w.putObj g (.map (es.eraseIdxIfInBounds j') clock)):=by
   rw[il,ij.1]
   simp[Builtin.delete_,run_underlying ht,MapKept.run_getObj_map hh,run_checkKey hd fR,run_findKey hd U,MapKept.run_setObj_map _ hh,Result.andThen,World.putObj]
  obtain⟨hS,uU⟩:=hs.st.DM (o':= .map (es.eraseIdxIfInBounds j') clock) (ob:= .var (.map (ks.eraseIdx j')) (cs.eraseIdx j')) hg hh hH (by
   simp only[Ob.at,Sh.has,Sh.one]
   refine⟨g,(es.toList.map (·.val)).eraseIdx j',rfl,⟨_,_,World.putObj_heap_same ag,?_,?_,M5 yr k7⟩,?_,trivial⟩
   ·rw[yr,<-aC,Dg]
   ·rw[yr,Dg]
   ·have hK:=y_ (φ:=φ) (o':= .map (es.eraseIdxIfInBounds j') clock) hh (hs.st.real.off b g hg).1
    exact AV.gT hK.im hK.I hK.phi hK.sh _ _ (FT j' cs _ iQ))
  refine⟨.tuple #[],_,φ,I,?_,?_,hS,uU⟩
  ·simp only[execOp,resolve,invoke,builtin,Sem.run_bind,Sem.run_pure,Result.andThen_ok,List.map_toArray,List.map_cons,List.map_nil,aE]
  ·simp only[AV.den]
end
end Go.AL
end
section
namespace Go.AL
open Go Go.Sort Go.Proofs
section
variable {α:Type} {enc:α->Value} {iv:α->IV}
structure wZ (enc:α->Value) (iv:α->IV):Prop where
 to:∀{w:World} {I:Nat->Prop} {a:α} {v:Value},IV.den w I (iv a) v->v=enc a
 of:∀{w:World} {I:Nat->Prop} {a:α},IV.den w I (iv a) (enc a)
abbrev gR (iv:α->IV) (l:List α):List (List IV):=l.map fun s=>[iv s]
theorem Bh (hE:wZ enc iv) {w:World} {I:Nat->Prop}:∀(l:List α) (ae:List (List Value)),IV.aH w I (gR iv l) ae->ae.flatten=l.map enc
 |[],ae,h=>by simp only[gR,List.map_nil,IV.aH]at h;subst h;rfl
 |x::l,ae,h=>by
  simp only[gR,List.map_cons,IV.aH,IV.ab]at h
  obtain⟨u,ao,rfl,⟨v,vs,rfl,U,rfl⟩,h2⟩:=h
  cases hE.to U
  have:=Bh hE l ao h2
  simp only[List.flatten_cons,List.map_cons,this]
  rfl
theorem GO (hE:wZ enc iv) {w:World} {I:Nat->Prop}:∀(l:List α),IV.aH w I (gR iv l) (l.map fun s=>[enc s])
 |[]=>by simp only[gR,List.map_nil,IV.aH]
 |x::l=>by
  simp only[gR,List.map_cons,IV.aH,IV.ab]
  exact⟨_,_,rfl,⟨_,_,rfl,hE.of,rfl⟩,GO hE l⟩
theorem Gs:∀m:List α,(m.map fun s=>[enc s]).flatten=m.map enc
 |[]=>rfl
 |x::r=>by rw[List.map_cons,List.flatten_cons,Gs r];rfl
theorem SG [Inhabited α] (l m:List α) (rest:List Value) (h:m.length=l.length):putCells enc 0 m.toArray (l.map enc++rest).toArray=(m.map enc++rest).toArray:=by
 apply Array.ext_getElem?
 intro k
 unfold putCells
 rw[Array.getElem?_mapIdx,List.getElem?_toArray,List.getElem?_toArray]
 rcases Nat.lt_or_ge k m.length with hk|hk
 ·rw[List.getElem?_append_left (by simp;omega),List.getElem?_append_left (by simpa using hk),List.getElem?_map,List.getElem?_map,List.getElem?_eq_getElem (by omega),List.getElem?_eq_getElem hk]
  simp[hk]
 ·rw[List.getElem?_append_right (by simp;omega),List.getElem?_append_right (by simpa using hk)]
  simp only[List.length_map,h]
  cases rest[k-l.length]? with
  |none=>rfl
  |some x=>simp;omega
theorem Hq [Inhabited α] (w:World) (g:Nat) (n:Nat) (d:Array α) (os:Array Obj) (k:Nat) (hk:k<w.heap.size):(grow (Sort.putRow enc (Sort.ahead w n) g 0 d) os).heap[k]?=if g=k then(w.heap[k]?).map (onCells (putCells enc 0 d))else w.heap[k]?:=by
 rw[heap_grow_old _ _ (by show k<(w.heap.modify g _).size;simpa using hk)]
 show(w.heap.modify g (onCells (putCells enc 0 d)))[k]?=_
 rw[Array.getElem?_modify]
theorem St.SI [Inhabited α] (hE:wZ enc iv) {w:World} {φ:al} {I:Nat->Prop} {el:TypeId} {l m:List α} (hR:Real w φ I [(0,.vec el 1 (gR iv l))]) {g:Nat} (hg:φ 0=some (some g)) (h:m.length=l.length) (n:Nat) (os:Array Obj):
  St ⟨w,cP φ,I,φ,1⟩ φ I [(0,.vec el 1 (gR iv m))] (grow (Sort.putRow enc (Sort.ahead w n) g 0 m.toArray) os):=by
 have aQ:=hR.own 0 _ (some g) rfl hg
 simp only[Ob.at]at aQ
 rcases aQ with⟨U,_⟩|⟨g',ae,rest,e,hh,hd,_⟩
 ·cases U
 cases e
 have dA:=Bh hE l ae hd
 rw[dA]at hh
 have bB:=hR.off 0 g hg
 have aO:w.heap.size<=(grow (Sort.putRow enc (Sort.ahead w n) g 0 m.toArray) os).heap.size:=by
  rw[size_grow]
  show w.heap.size<=(w.heap.modify g _).size+_
  simp
 have ld:∀k,k<w.heap.size->k≠g->(grow (Sort.putRow enc (Sort.ahead w n) g 0 m.toArray) os).heap[k]?=w.heap[k]?:=fun k hk aR=>by
  rw[Hq w g n _ os k hk,if_neg (fun e=>aR e.symm)]
 have kC:(grow (Sort.putRow enc (Sort.ahead w n) g 0 m.toArray) os).heap[g]?=some (.cells (m.map enc++rest).toArray el (0,0)):=by
  rw[Hq w g n _ os g bB.2,if_pos rfl,hh]
  show some (onCells (putCells enc 0 m.toArray) (.cells (l.map enc++rest).toArray el (0,0)))=_
  rw[onCells,SG l m rest h]
 refine⟨⟨fun b=>?_,fun b o p hl hp=>?_,fun b g2 hb=>⟨(hR.off b g2 hb).1,Nat.lt_of_lt_of_le (hR.off b g2 hb).2 aO⟩,hR.inj,fun g2 hi=>Nat.lt_of_lt_of_le (hR.bO g2 hi) aO⟩,
  ⟨aO,fun k hk bL=>ld k hk fun e=>bL ⟨0,e▸hg⟩,fun k c e fz hc=>?_,rfl,rfl,rfl⟩,fun b g2 hb=> .inl ⟨b,hb⟩,fun g2 hi=> .inl hi,fun g2 hi=>hi,fun b p o _ h0 _=>h0⟩
 ·have:=hR.bq b
  simp only[lk]at this⊢
  cases hb:Nat.beq 0 b with
  |true=>rw[hb]at this;simpa using this
  |false=>rw[hb]at this;simpa using this
 ·simp only[lk]at hl
  cases hb:Nat.beq 0 b with
  |true=>
   rw[hb]at hl
   have:=Nat.eq_of_beq_eq_true hb
   subst this
   rw[hg]at hp
   cases hp
   simp only[cond_true,Option.some.injEq]at hl
   subst hl
   simp only[Ob.at]
   refine .inr ⟨g,m.map fun s=>[enc s],rest,rfl,?_,GO hE m,fun vs hv=>?_⟩
   ·rw[kC]
    rw[Gs]
   ·obtain⟨s,_,rfl⟩:=List.mem_map.1 hv;rfl
  |false=>rw[hb]at hl;cases hl
 ·rcases Nat.lt_or_ge k w.heap.size with hk|hk
  ·by_cases uT:k=g
   ·subst uT
    rw[hh]at hc
    cases hc
    exact⟨_,_,kC,by simp[h]⟩
   ·exact⟨c,fz,(ld k hk uT).trans hc,rfl⟩
  ·rw[Array.getElem?_eq_none hk]at hc;cases hc
end
end Go.AL
end
