import Derived.Test.YtpfohmboflcneaaGreatDoorAl2
import Derived.MapKept
import Derived.Laws.CopyRow
import Derived.Laws.MakeOwn
import Derived.Lib.BufferWrite
import Derived.RecoverIn
import Derived.Sort.Grow
import Derived.Sort.EncStr
import Derived.Maps.RangeRun
import Derived.LaidEql
set_option linter.unusedSimpArgs false
set_option linter.unusedVariables false
set_option linter.unnecessarySimpa false
section
namespace Go.AL
open Go
mutual
theorem AV.CG {nb b:Nat} (h:nb<=b):∀(x:AV),x.ge nb=false->x.men b=false
 | .ob b' _,hx=>by simp only[AV.ge,AV.men]at hx⊢;exact iO (by have:=sy hx;omega)
 | .oe b' _ _ _,hx=>by simp only[AV.ge,AV.men]at hx⊢;exact iO (by have:=sy hx;omega)
 | .os b' _ _ _,hx=>by simp only[AV.ge,AV.men]at hx⊢;exact iO (by have:=sy hx;omega)
 | .fn f fs aN,hx=>by simp only[AV.ge,AV.men,Bool.or_eq_false_iff]at hx⊢;exact⟨AV.zt h fs hx.1,AV.zt h aN hx.2⟩
 | .agg cs,hx=>by simp only[AV.ge,AV.men]at hx⊢;exact AV.zt h cs hx
 | .aI cs,hx=>by simp only[AV.ge,AV.men]at hx⊢;exact AV.zt h cs hx
 | .opt g x,hx=>by simp only[AV.ge,AV.men]at hx⊢;exact AV.CG h x hx
 | .im x,_=>rfl
 | .ar x,_=>rfl
 | .top,_=>rfl
 | .mp b',hx=>by simp only[AV.ge,AV.men]at hx⊢;exact iO (by have:=sy hx;omega)
 | .wr k x,hx=>by simp only[AV.ge,AV.men]at hx⊢;exact AV.CG h x hx
theorem AV.zt {nb b:Nat} (h:nb<=b):∀(xs:List AV),AV.jh nb xs=false->AV.mens b xs=false
 |[],_=>rfl
 |x::xs,hx=>by simp only[AV.jh,AV.mens,Bool.or_eq_false_iff]at hx⊢;exact⟨AV.CG h x hx.1,AV.zt h xs hx.2⟩
end
theorem Iz {nb b:Nat} (h:nb<=b):∀(E:Env) (i:Nat) (x:AV),lk (lJ nb E) i=some x->x.men b=false
 |[],i,x,hx=>by simp[lJ,lk]at hx
 |(j,y)::r,i,x,hx=>by
  simp only[lJ]at hx
  cases hm:y.ge nb with
  |true=>
   rw[hm]at hx
   simp only[cond_true,lk]at hx
   cases hb:Nat.beq j i with
   |true=>rw[hb]at hx;simp only[cond_true,Option.some.injEq]at hx;subst hx;rfl
   |false=>rw[hb]at hx;exact Iz h r i x hx
  |false=>
   rw[hm]at hx
   simp only[cond_false,lk]at hx
   cases hb:Nat.beq j i with
   |true=>rw[hb]at hx;simp only[cond_true,Option.some.injEq]at hx;subst hx;exact AV.CG h y hm
   |false=>rw[hb]at hx;exact Iz h r i x hx
theorem St.aaJ {B:Bs} {φ:al} {I:Nat->Prop} {H:aa} {w:World} {l:Nat} {r:Loop} {o':Obj} (h:St B φ I H w) (hl:w.heap[l]?=some (.loop r)) (hI:¬I l) (az:∀b,φ b≠some (some l)) (ho:B.own l\/B.w0.heap.size<=l):
  St B φ I H (w.putObj l o')/\bE w φ I (w.putObj l o') φ I:=by
 have k:bE w φ I (w.putObj l o') φ I:=DT hl hI
 refine⟨⟨⟨h.real.bj,fun b' o p aJ hp=>?_,fun b' g hp=>?_,h.real.inj,fun g hg=>?_⟩,h.ext.trans (Mc (own:=fun g=>g=l) hl rfl) (fun g hg=>by subst hg;exact ho),h.cf,h.dj,h.cC,h.cP⟩,k⟩
 ·exact Ob.k5 k.im k.I k.phi k.sh (fun g hg=>World.putObj_heap_other (fun e=>by subst e;subst hg;exact az b' hp)) (h.real.own b' o p aJ hp)
 ·have:=h.real.off b' g hp
  exact⟨this.1,by simpa using this.2⟩
 ·have:=h.real.bN g hg
  simpa using this
def ym (C:Cx) (K:List PK) (E:Env) (H:aa):iK->Prop
 | .ready=>AE C .normal K E H
 | .done .ret=>AE C .ret K E H
 | .done (.exit id)=>AE C (.exit id) K E H
 |_=>False
def Jx (C:Cx) (H:aa) (b0:Nat):Prop:=match C.rd with
 |none=>C.ds=[]
 |some l0=>match lk H b0 with
  |some (.lp l1 _ _ _ _ _ _)=>l1=l0
  |_=>False
section
variable {C:Cx} {K:List PK} {E:Env} {H:aa}
theorem AP.range (nb b0:Nat) {p:List Nat} {t:Tmp} {ps:List Tmp} {as bd:Code} {f:FuncId} {fs aN:List AV} (EL:Env) {R:Nat->AV->aa->Prop}
  (hc:cd C.fn p= .rangeFunc (.tmp t) ps.toArray as bd) (fB:lk E t=some (.fn f fs aN)) (hnb:Nat.ble C.B.nb nb=true) (Gu:Sub E EL) (gB:Jx C H b0)
  (zL:∀l,dz C.P nb f (fs++[Yl l]++aN) ((ay nb H,.lp l C.n .ready C.fn p ps EL)::H) (R l))
  (jk:∀l r H',R l r H'->cE nb ((ay nb H,.lp l C.n .ready C.fn p ps EL)::H) H')
  (wZ:∀l r H',R l r H'->∃st E',lk H' (ay nb H)=some (.lp l C.n st C.fn p ps E')/\noMen (ay nb H) (e6 (ay nb H) H')=true/\ym C K (lJ nb E) (e6 (ay nb H) H') st):AP C p K E H:=by
 unfold AP
 rw[hc]
 intro φ I a w hs
 have Dl:=Nat.le_of_ble_eq_true hnb
 obtain⟨b,hb⟩:∃b,ay nb H=b:=⟨_,rfl⟩
 rw[hb]at zL jk wZ
 have Na:lk H b=none:=hb▸lN nb H
 have ei:nb<=b:=hb▸(dw nb H).1
 refine wpIn_rangeFunc (F:=Fw C.rd) fun cz _=>?_
 obtain⟨wD,ID,x7,D,e1,sT,kD,hM⟩:∃(wD:World) (ID:Nat->Prop) (x7:List Deferred) (D:Nat),
   (Instr.enterLoop cz a.tmps ps.toArray as bd C.rd).run C.P w= .ok (wD.heap.size,x7) (wD.alloc (.loop {state:= .ready,pending:=none,fn:=cz,tmps:=a.tmps,params:=ps.toArray,assign:=as,body:=bd,defers:=D}))/\
   St C.B φ ID H wD/\bE w φ I wD φ ID/\Marks C.ds C.B.w0.heap.size wD ID (x7++a.defers):=by
  unfold Jx at gB
  cases hr:C.rd with
  |none=>
   obtain⟨hS,k⟩:=hs.st.PY (w':=w.alloc (.deferred (some []))) (by simp) (fun g hg=>heap_alloc_old w _ hg) rfl rfl rfl
   refine⟨w.alloc (.deferred (some [])),_,[x6 w.heap.size],w.heap.size,?_,hS,k,?_⟩
   ·rw[run_enterLoop_outer];simp[x6]
   ·obtain⟨ms,U,h2,h3,_⟩:=hs.bF
    rw[hr]at gB
    refine⟨w.heap.size::ms,by rw[U];rfl,List.nodup_cons.2 ⟨fun hm=>?_,h2⟩,(fun D' nR=>?_),fun aK=>absurd gB aK⟩
    ·have:=hs.st.real.bN _ (h3 _ hm).1
     omega
    ·rcases List.mem_cons.1 nR with rfl|nR
     ·exact⟨.inr rfl,hs.st.ext.size,World.alloc_heap_new w _⟩
     ·obtain⟨h4,h5,h6⟩:=h3 D' nR
      exact⟨.inl h4,h5,(k.im D' h4).trans h6⟩
  |some l0=>
   rw[hr]at gB
   simp only at gB
   split at gB
   ·rename_i l1 n1 st1 fn1 p1 ps1 E1 fG
    subst gB
    have hd:=hs.st.real.bj b0
    rw[fG]at hd
    cases hp:φ b0 with
    |none=>rw[hp]at hd;cases hd
    |some p0=>
     have aU:=hs.st.real.own b0 _ p0 fG hp
     simp only[Ob.at]at aU
     obtain⟨rfl,T,D,F5,U,h2,h3⟩:=aU
     refine⟨w,I,[],D,?_,hs.st,bE.refl _ _ _,by simpa using hs.bF⟩
     unfold Instr.enterLoop
     simp only[Sem.run_bind,run_newObj_alloc,Result.andThen,Sem.run_pure,run_getLoop h2]
   ·exact gB.elim
 have fZ:=aO hs.env (x:= .tmp t) fB
 simp only[AV.den]at fZ
 obtain⟨eQ,us,nT,dW,oW⟩:=fZ
 obtain⟨rec,Dv⟩:∃rec:Loop,rec={state:= .ready,pending:=none,fn:=cz,tmps:=a.tmps,params:=ps.toArray,assign:=as,body:=bd,defers:=D}:=⟨_,rfl⟩
 have Wj:=sT.Cg (b:=b) Na (by omega) (ob:= .loop rec) (o:= .lp wD.heap.size C.n .ready C.fn p ps EL) (by
  simp only[Ob.at]
  refine⟨trivial,a.tmps,D,cz,hs.bC,?_,fun i x hx=>?_⟩
  ·rw[World.alloc_heap_new,Dv,hc];rfl
  ·obtain⟨u,hu,hd⟩:=hs.env i x (Gu i x hx)
   refine⟨u,hu,?_⟩
   have GW:=kD.den hd
   refine AV.j_ (fun g hg=>heap_alloc_old wD _ (sT.real.bN g hg)) (fun _ h=>h) (fun b' p' bM=>?_) (fun _ g n _ cX=>(uG (fun _=>False) wD _).shaped (fun h=>h) cX) x u GW
   unfold aY
   rw[if_neg (fun e=>by subst e;rw[sT.IQ Na]at bM;cases bM)]
   exact bM)
 obtain⟨kz,k2⟩:=Wj
 have gW:bB C (aY φ b (some wD.heap.size)) ID E ((b,.lp wD.heap.size C.n .ready C.fn p ps EL)::H) {a with defers:=x7++a.defers} (wD.alloc (.loop rec)):=
  ⟨hM.mono k2.im k2.I,hs.bC,fun i x hx=>let⟨u,hu,hd⟩:=hs.env i x hx;⟨u,hu,k2.den (kD.den hd)⟩,kz⟩
 have uX:=(zL wD.heap.size).gN
 rw[<-Dv]at e1
 refine⟨wD.heap.size,x7,wD.alloc (.loop rec),{target:= .fn (.func f) us.toArray,args:=eQ.toArray++#[Value.func (.yield wD.heap.size) #[] #[]]},wD.alloc (.loop rec),f,(eQ++[Value.func (.yield wD.heap.size) #[] #[]]++us).toArray,wD.alloc (.loop rec),e1,?_,fun _ _=>trivial,?_,fun h=>(by cases h),?_⟩
 ·have:(resolve a.eval (rangeCall (.tmp t) wD.heap.size) 0)=Deferred.ofValue (a.eval (.tmp t)) #[Value.func (.yield wD.heap.size) #[] #[]]:=by
   simp[resolve,Act.eval]
  rw[this,oW]
  simp only[Deferred.ofValue,Sem.run_pure]
 ·simp only[invoke]
  rw[yq uX]
  simp
 ·have aX:AV.ab (wD.alloc (.loop rec)) (aY φ b (some wD.heap.size)) ID (fs++[Yl wD.heap.size]++aN) (eQ++[Value.func (.yield wD.heap.size) #[] #[]]++us):=by
   refine AQ.oK.nF _ _ _ _ (AQ.oK.nF _ _ _ _ (AV.fA k2.im k2.I k2.phi k2.sh _ _ (AV.fA kD.im kD.I kD.phi kD.sh _ _ nT)) ?_) (AV.fA k2.im k2.I k2.phi k2.sh _ _ (AV.fA kD.im kD.I kD.phi kD.sh _ _ dW))
   simp only[AV.ab,AV.den,IV.den]
   exact⟨_,_,rfl,⟨rfl,rfl⟩,rfl⟩
  refine(FA ((zL wD.heap.size).run _ _ ID _ aX kz.real kz.vk)).mono fun e w3 ⟨r,H3,S8,I3,v,hr,he,bc,zE⟩=>?_
  subst he
  obtain⟨st,E',gz,a_,ji⟩:=wZ _ r H3 hr
  have xi:=gW.yV Dl zE (jk _ r H3 hr)
  have hd:=zE.real.bj b
  rw[gz]at hd
  cases hp:S8 b with
  |none=>rw[hp]at hd;cases hd
  |some p0=>
   have aU:=zE.real.own b _ p0 gz hp
   simp only[Ob.at]at aU
   obtain⟨rfl,T,D',F5,U,h2,h3⟩:=aU
   have Xo:st.state≠ .busy:=by
    cases st with
    |busy=>exact ji.elim
    |ready=>simp[iK.state]
    |done c=>simp[iK.state]
   refine⟨_,_,run_endLoop h2 Xo,?_⟩
   have mV:=zE.real.off b _ hp
   have Wk:=xi.st.forget b a_
   obtain⟨CR,ko⟩:=Wk.aaJ (o':= .loop {state:= .exhausted,pending:=st.vM,fn:=F5,tmps:=T,params:=ps.toArray,assign:=child 0 (cd C.fn p),body:=child 1 (cd C.fn p),defers:=D'}) h2 mV.1 (fun b' bK=>by
    simp only[hQ]at bK
    by_cases e:b'=b
    ·simp[e]at bK
    ·rw[if_neg e]at bK
     exact e (zE.real.inj b' b _ bK hp)) (.inr sT.ext.size)
   have HH:bB C (hQ S8 b) I3 (lJ nb E) (e6 b H3) {a with defers:=x7++a.defers} (w3.putObj wD.heap.size (.loop {state:= .exhausted,pending:=st.vM,fn:=F5,tmps:=T,params:=ps.toArray,assign:=child 0 (cd C.fn p),body:=child 1 (cd C.fn p),defers:=D'})):=
    ⟨xi.bF.mono ko.im ko.I,xi.bC,fun i x hx=>by
     obtain⟨u,hu,dL⟩:=xi.env i x hx
     exact⟨u,hu,ko.den (AV.rS (fun b' bK=>by simp[hQ,bK]) x u (Iz ei E i x hx) dL)⟩,CR⟩
   cases st with
   |busy=>exact ji.elim
   |ready=>
    simp only[ym]at ji
    unfold AE at ji
    exact ji _ _ _ _ HH
   |done c=>
    simp only[iK.vM]
    cases c with
    |ret=>
     simp only[ym]at ji
     unfold AE at ji
     exact wpIn_ret (ji _ _ _ _ HH)
    |exit id=>
     simp only[ym]at ji
     unfold AE at ji
     exact wpIn_exit (ji _ _ _ _ HH)
    |_=>exact ji.elim
theorem AP.Bg (nb b0 b:Nat) {p:List Nat} {t:Tmp} {ps:List Tmp} {as bd:Code} {f:FuncId} {fs aN:List AV} (EL:Env) {R:Nat->AV->aa->Prop}
  (hc:cd C.fn p= .rangeFunc (.tmp t) ps.toArray as bd) (fB:lk E t=some (.fn f fs aN)) (hnb:Nat.ble C.B.nb nb=true) (Gu:Sub E EL) (gB:Jx C H b0) (hb:ay nb H=b)
  (zL:∀l,dz C.P nb f (fs++[Yl l]++aN) ((b,.lp l C.n .ready C.fn p ps EL)::H) (R l))
  (wZ:∀l r H',R l r H'->cE nb ((b,.lp l C.n .ready C.fn p ps EL)::H) H'/\∃st E',lk H' b=some (.lp l C.n st C.fn p ps E')/\noMen b (e6 b H')=true/\ym C K (lJ nb E) (e6 b H') st):AP C p K E H:=by
 subst hb
 exact AP.range nb b0 EL hc fB hnb Gu gB zL (fun l r H' h=>(wZ l r H' h).1) (fun l r H' h=>(wZ l r H' h).2)
def Zv (nb:Nat) (H H':aa):Bool:=(List.range nb).all fun b=>(lk H' b).isSome==(lk H b).isSome
theorem cE.of (nb:Nat) (H H':aa) (h:Zv nb H H'=true):cE nb H H':=fun b hb=>by
 have:=List.all_eq_true.1 h b (List.mem_range.2 hb)
 simpa using this
end
attribute [go_sem] ym
section
variable {C:Cx} {K:List PK} {E:Env} {H:aa}
theorem AQ.skip {ds:List (Nat×Nat)} {i:Nat} {o:Oper} {os:List Oper} (ah:ba C.n (o::os)=true) (hG:gd ds E o.guard=some false) (h:vq C K os (aZ o.dst i ds) (i+1) (a7 o.dst (.opt false .top) E) H):AQ C ds i (o::os) K E H:=
 AQ.wL (ef ah).1 hG (AQ.go (ef ah).2 h)
end
attribute [go_sem] Bool.bne_false Bool.bne_true
def yy:Exit->List PK->Option (Sum (List Nat) Exit×List PK)
 | .normal,.seq q::K=>some (.inl q,K)
 | .normal,.eI _::K=>some (.inr .normal,K)
 | .normal,.sc::K=>some (.inr .normal,K)
 | .exit id,.seq _::K=>some (.inr (.exit id),K)
 | .exit id,.eI na::K=>bif id==na then some (.inr .normal,K)else some (.inr (.exit id),K)
 | .exit id,.sc::K=>some (.inr (.exit id),K)
 | .exit id,.lp _::K=>some (.inr (.exit id),K)
 | .ret,.seq _::K=>some (.inr .ret,K)
 | .ret,.eI _::K=>some (.inr .ret,K)
 | .ret,.sc::K=>some (.inr .ret,K)
 | .ret,.lp _::K=>some (.inr .ret,K)
 |_,_=>none
def sd (fn:Func) (p:List Nat) (K:List PK):Option (Sum (List Nat) Exit×List PK):=
 match cd fn p with
 | .seq _ _=>some (.inl (0::p),.seq (1::p)::K)
 | .block id _=>some (.inl (0::p),.eI id::K)
 | .scope _=>some (.inl (0::p),.sc::K)
 | .skip=>some (.inr .normal,K)
 | .ret=>some (.inr .ret,K)
 | .exit id=>some (.inr (.exit id),K)
 | .label _=>some (.inr .normal,K)
 |_=>none
def vK (fn:Func):Nat->Sum (List Nat) Exit->List PK->Sum (List Nat) Exit×List PK
 |0,s,K=>(s,K)
 |n+1,.inl p,K=>match sd fn p K with
  |some (s,K')=>vK fn n s K'
  |none=>(.inl p,K)
 |n+1,.inr e,K=>match yy e K with
  |some (s,K')=>vK fn n s K'
  |none=>(.inr e,K)
def yf (fn:Func) (p:List Nat) (K:List PK):Option (Sum (List Nat) Exit×List PK):=
 match sd fn p K with
 |some (s,K')=>some (vK fn 99 s K')
 |none=>none
def ye (fn:Func) (e:Exit) (K:List PK):Option (Sum (List Nat) Exit×List PK):=
 match yy e K with
 |some (s,K')=>some (vK fn 99 s K')
 |none=>none
def AS (C:Cx) (s:Sum (List Nat) Exit) (K:List PK) (E:Env) (H:aa):Prop:=match s with
 | .inl p=>AP C p K E H
 | .inr e=>AE C e K E H
section
variable {C:Cx} {K K':List PK} {E:Env} {H:aa}
theorem RR {e:Exit} {s:Sum (List Nat) Exit} (hs:yy e K=some (s,K')) (h:AS C s K' E H):AE C e K E H:=by
 unfold yy at hs
 split at hs
 all_goals first
  |(cases hs;done)
  |(cases hs;first|exact AE.seq h|exact AE.eI h|exact AE.sc h|exact AE.Rk h|exact AE.Rh h|exact AE.Pv h|exact AE.Rl h|exact AE.KV h|exact AE.Ri h|exact AE.Pw h)
  |skip
 rename_i id na K0
 cases hb:(id==na)with
 |true=>
  rw[hb]at hs
  cases hs
  have:id=na:=by simpa using hb
  subst this
  exact AE.Fu h
 |false=>
  rw[hb]at hs
  cases hs
  exact AE.Fv hb h
theorem RS {p:List Nat} {s:Sum (List Nat) Exit} (hs:sd C.fn p K=some (s,K')) (h:AS C s K' E H):AP C p K E H:=by
 unfold sd at hs
 split at hs
 all_goals first
  |(cases hs;done)
  |(cases hs;rename_i hc;first|exact AP.seq hc h|exact AP.block hc h|exact AP.scope hc h|exact AP.skip hc h|exact AP.ret hc h|exact AP.exit hc h|exact AP.label hc h)
theorem Ef:∀(n:Nat) (s s':Sum (List Nat) Exit) (K K':List PK),vK C.fn n s K=(s',K')->AS C s' K' E H->AS C s K E H
 |0,s,s',K,K',hs,h=>by cases hs;exact h
 |n+1,.inl p,s',K,K',hs,h=>by
  simp only[vK]at hs
  cases U:sd C.fn p K with
  |none=>rw[U]at hs;cases hs;exact h
  |some q=>
   obtain⟨s1,K1⟩:=q
   rw[U]at hs
   exact RS U (Ef n s1 s' K1 K' hs h)
 |n+1,.inr e,s',K,K',hs,h=>by
  simp only[vK]at hs
  cases U:yy e K with
  |none=>rw[U]at hs;cases hs;exact h
  |some q=>
   obtain⟨s1,K1⟩:=q
   rw[U]at hs
   exact RR U (Ef n s1 s' K1 K' hs h)
theorem Qd {p:List Nat} {s:Sum (List Nat) Exit} (hs:yf C.fn p K=some (s,K')) (h:AS C s K' E H):AP C p K E H:=by
 unfold yf at hs
 cases U:sd C.fn p K with
 |none=>rw[U]at hs;cases hs
 |some q=>
  obtain⟨s1,K1⟩:=q
  rw[U]at hs
  exact RS U (Ef 99 s1 s K1 K' (Option.some.inj hs) h)
theorem Qc {e:Exit} {s:Sum (List Nat) Exit} (hs:ye C.fn e K=some (s,K')) (h:AS C s K' E H):AE C e K E H:=by
 unfold ye at hs
 cases U:yy e K with
 |none=>rw[U]at hs;cases hs
 |some q=>
  obtain⟨s1,K1⟩:=q
  rw[U]at hs
  exact RR U (Ef 99 s1 s K1 K' (Option.some.inj hs) h)
theorem xPP {p p':List Nat} (hs:yf C.fn p K=some (.inl p',K')) (h:AP C p' K' E H):AP C p K E H:=Qd hs h
theorem xPE {p:List Nat} {e:Exit} (hs:yf C.fn p K=some (.inr e,K')) (h:AE C e K' E H):AP C p K E H:=Qd hs h
theorem xEP {p':List Nat} {e:Exit} (hs:ye C.fn e K=some (.inl p',K')) (h:AP C p' K' E H):AE C e K E H:=Qc hs h
theorem xEE {e e':Exit} (hs:ye C.fn e K=some (.inr e',K')) (h:AE C e' K' E H):AE C e K E H:=Qc hs h
end
attribute [go_sem] List.all_cons List.all_nil Value.oneCell'
def QM (o:Oper):Bool:=match o.op with
 | .move _| .assign _| .pick _ _ _| .build _ _| .load _ _| .nilCheck _| .binOp _ _ _ _ _| .unOp _ _ _| .convert _ _ _| .slice _ _ _ _ _| .fieldAddr _ _ _| .field _ _ _| .indexAddr _ _ _| .index _ _ _| .extract _ _=>true
 | .call {callee:= .builtin b,.. }=>match b with
  | .len| .min| .max=>true
  |_=>false
 |_=>false
section
variable {C:Cx} {K:List PK} {E:Env} {H:aa} {p:List Nat}
end
def kB:List Nat->aa->aa
 |[],H=>H
 |b::l,H=>kB l (e6 b H)
def cw:List Nat->AV->aa->Bool
 |[],_,_=>true
 |b::l,r,H=>noMen b (e6 b H)&&!(AV.men b r)&&cw l r (e6 b H)
theorem wA {B:Bs} {I:Nat->Prop} {w:World} {r:AV} {v:Value}:∀(l:List Nat) (φ:al) (H:aa),cw l r H=true->AV.den w φ I r v->St B φ I H w->∃φ',AV.den w φ' I r v/\St B φ' I (kB l H) w
 |[],φ,H,_,hd,hS=>⟨φ,hd,hS⟩
 |b::l,φ,H,hk,hd,hS=>by
  simp only[cw,Bool.and_eq_true,Bool.not_eq_true']at hk
  exact wA l (hQ φ b) (e6 b H) hk.2 (AV.rS (fun b' hb=>by simp[hQ,hb]) r v hk.1.2 hd) (hS.forget b hk.1.1)
section
variable {C:Cx} {E:Env} {H:aa}
theorem AE.a6 (l:List Nat) {sc:Prop} {xs:List AV} (h:eW C.P E H C.fn.results.toList=some (sc,xs)) (aB:sc) (hk:cw l (eG xs) H=true) (hR:C.R (eG xs) (kB l H)):AE C .ret [] E H:=by
 unfold AE
 intro φ I a w hs
 refine hs.leave fun w' hS hE=>?_
 obtain⟨v,hv,hd⟩:=vU hE hS.real h aB
 obtain⟨φ',eZ,rp⟩:=wA l φ H hk hd hS
 exact⟨v,hv,eG xs,kB l H,φ',I,v,hR,rfl,eZ,rp⟩
theorem AE.Me (l:List Nat) {sc:Prop} {xs:List AV} (h:eW C.P E H C.fn.results.toList=some (sc,xs)) (aB:sc) (hk:cw l (eG xs) H=true) (hR:C.R (eG xs) (kB l H)):AE C .normal [] E H:=by
 unfold AE
 intro φ I a w hs
 refine hs.leave fun w' hS hE=>?_
 obtain⟨v,hv,hd⟩:=vU hE hS.real h aB
 obtain⟨φ',eZ,rp⟩:=wA l φ H hk hd hS
 exact⟨v,hv,eG xs,kB l H,φ',I,v,hR,rfl,eZ,rp⟩
theorem AE.gQ {e:Exit} {K:List PK}:∀(l:List Nat) {E:Env} {H:aa},cw l .top H=true->AE C e K (l.foldl (fun E b=>killE b E) E) (kB l H)->AE C e K E H
 |[],_,_,_,h=>h
 |b::l,E,H,hk,h=>by
  simp only[cw,Bool.and_eq_true,Bool.not_eq_true']at hk
  exact AE.forget b hk.1.1 (AE.gQ l hk.2 h)
end
attribute [go_sem] kB cw List.foldl_cons List.foldl_nil
theorem AQ.nx {C Cn:Cx} {K:List PK} {ops:List Oper} {n:Nat} {R P es:List Nat} {ts:List Tree} {ds jB:List (Nat×Nat)} {i:Nat} {E:Env} {H:aa} (hC:Cn=C.nr)
  (
   h:vR C ops H R jB E/\vP C ops H (fun ds E=>match es with
   |[]=>vq C K (ops.drop n) [] n E H
   |_::_=>oC C K ops n es ts ds E H) P jB E):
  AQ Cn ds i [] [.lp (yP C (vd C K ops n (.node R P es ts) jB)),.bot (rZ C K ops)] E H:=by
 subst hC
 exact AQ.next (bO h)
def mE (rows ED:List (List IV)):Prop:=∀(w:World) (I:Nat->Prop) (ae:List (List Value)),IV.aM w I rows ae->IV.aM w I ED ae
section
variable {C:Cx} {K:List PK} {E:Env} {H:aa}
end
theorem Ja {w:World} {I:Nat->Prop} {es:Nat} {u:Value} (h:IV.den w I (.v (.slice none 0 0)) u):IV.den w I (.sl es []) u:=by
 simp only[IV.den]at h⊢
 obtain⟨rfl,_⟩:=h
 exact⟨none,0,[],rfl,Nat.le_refl _,by simp[IV.aM],(fun vs h=>absurd h (List.not_mem_nil)),fun h=>absurd rfl h⟩
def vg (C:Cx) (H:aa) (k:List (Nat×Nat)->Env->Prop):List Oper->List (Nat×Nat)->Nat->Env->Prop
 |[],ds,_,E=>k ds E
 |o::os,ds,i,E=>match gd ds E o.guard with
  |none=>False
  |some G=>match uo C.P E H o.op G with
   |none=>False
   |some (sc,v)=>(G=true->sc)/\vg C H k os (aZ o.dst i ds) (i+1) (a7 o.dst (wrap o.guard G v) E)
theorem SE {C:Cx} {ops:List Oper} {H:aa} {k:List (Nat×Nat)->Env->Prop}:∀(rest:List Oper) (ds:List (Nat×Nat)) (i:Nat) (E:Env),(∀j,rest[j]?=ops[i+j]?)->vg C H k rest ds i E->vP C ops H k (List.range' i rest.length) ds E
 |[],ds,i,E,_,h=>by simpa[vP,vg]using h
 |o::os,ds,i,E,hr,h=>by
  have h0:ops[i]?=some o:=by have:=hr 0;simpa using this.symm
  simp only[List.length_cons,List.range'_succ,vP,h0]
  simp only[vg]at h
  revert h
  cases gd ds E o.guard with
  |none=>exact fun h=>h
  |some G=>
   simp only
   cases uo C.P E H o.op G with
   |none=>exact fun h=>h
   |some q=>
    obtain⟨sc,v⟩:=q
    simp only
    exact fun h=>⟨h.1,SE os _ _ _ (fun j=>by have:=hr (j+1);rw[show i+1+j=i+(j+1) by omega];simpa using this) h.2⟩
def FV (n:Nat):Tree:= .node [] (List.range' 0 n) [] []
section
variable {C:Cx} {K:List PK} {E:Env} {H:aa} {p:List Nat}
theorem AP.U0 {id:Nat} {ops:List Oper} (hc:cd C.fn p= .region id ops.toArray true) (N6:ops.all QM=true) (hq:(ba C.n ops&&Cv ops ops.length (FV ops.length)&&C.P.follows .mixedOrders)=true)
  (h:vg C H (fun _ En=>AQ C [] ops.length [] K En H) ops [] 0 E):AP C p K E H:=by
 simp only[Bool.and_eq_true]at hq
 refine AP.bQ ops.length (FV ops.length) hq.2 hc hq.1.1 hq.1.2 ?_
 refine bO ⟨trivial,?_⟩
 refine SE ops [] 0 E (fun j=>by rw[Nat.zero_add]) ?_
 simp only[List.drop_length,vq]
 exact h
end
attribute [go_sem] vg
section
variable {C:Cx} {E:Env} {H:aa}
section
variable {K:List PK}
end
end
def reorder:List Nat->aa->aa
 |[],_=>[]
 |b::l,H=>match lk H b with
  |some o=>(b,o)::reorder l H
  |none=>reorder l H
def uz (ids:List Nat):aa->Bool
 |[]=>true
 |(b,_)::r=>bY ids b&&uz ids r
theorem AK:∀(l:List Nat) (b:Nat),bY l b=true->∀H:aa,lk (reorder l H) b=lk H b
 |[],b,h,H=>by simp[bY]at h
 |c::l,b,h,H=>by
  simp only[bY]at h
  simp only[reorder]
  cases hb:Nat.beq c b with
  |true=>
   have:=Nat.eq_of_beq_eq_true hb
   subst this
   cases hl:lk H c with
   |some o=>simp[lk]
   |none=>
    simp only
    cases hi:bY l c with
    |true=>rw[AK l c hi H,hl]
    |false=>exact D1 l c hi H
  |false=>
   rw[hb]at h
   simp only[cond_false]at h
   cases hl:lk H c with
   |some o=>simp only[lk,hb,cond_false];exact AK l b h H
   |none=>simp only;exact AK l b h H
where
 D1:∀(l:List Nat) (b:Nat),bY l b=false->∀H:aa,lk (reorder l H) b=none
  |[],b,_,H=>rfl
  |c::l,b,h,H=>by
   simp only[bY]at h
   cases hb:Nat.beq c b with
   |true=>rw[hb]at h;simp at h
   |false=>
    rw[hb]at h
    simp only[cond_false]at h
    simp only[reorder]
    cases hl:lk H c with
    |some o=>simp only[lk,hb,cond_false];exact D1 l b h H
    |none=>simp only;exact D1 l b h H
theorem Ls (ids:List Nat):∀(H:aa) (b:Nat),uz ids H=true->bY ids b=false->lk H b=none
 |[],b,_,_=>rfl
 |(c,o)::r,b,h,hb=>by
  simp only[uz,Bool.and_eq_true]at h
  simp only[lk]
  cases hc:Nat.beq c b with
  |true=>
   have:=Nat.eq_of_beq_eq_true hc
   subst this
   rw[h.1]at hb;cases hb
  |false=>simp only[cond_false];exact Ls ids r b h.2 hb
theorem Jz {ids:List Nat} {H:aa} (h:uz ids H=true) (b:Nat):lk H b=lk (reorder ids H) b:=by
 cases hb:bY ids b with
 |true=>exact(AK ids b hb H).symm
 |false=>rw[Ls ids H b h hb,AK.D1 ids b hb H]
section
variable {C:Cx} {K:List PK} {E:Env} {H:aa}
theorem AE.order {e:Exit} (ids:List Nat) (hc:uz ids H=true) (h:AE C e K E (reorder ids H)):AE C e K E H:=AE.perm _ (Jz hc) h
theorem AP.order {p:List Nat} (ids:List Nat) (hc:uz ids H=true) (h:AP C p K E (reorder ids H)):AP C p K E H:=AP.perm _ (Jz hc) h
theorem AQ.order {ds:List (Nat×Nat)} {i:Nat} {rest:List Oper} (ids:List Nat) (hc:uz ids H=true) (h:AQ C ds i rest K E (reorder ids H)):AQ C ds i rest K E H:=AQ.perm _ (Jz hc) h
end
attribute [go_sem] reorder Sh.lit
end Go.AL
end
section
namespace Go.AL
open Go Go.MapKept
def uc (d:TypeDesc) (ks:List Value):Prop:=∀k∈ks,IsKey d k
theorem qR {w:World} {φ:al} {I:Nat->Prop} {cs:List AV} {us:List Value} (h:AV.ab w φ I cs us):us.length=cs.length:=jA cs us h
section
variable {P:Program} {w:World} {φ:al} {I:Nat->Prop} {H:aa} {b:Nat} {ks:List Value} {cs:List AV}
theorem vG (hR:Real w φ I H) (hH:lk H b=some (.var (.map ks) cs)) {u:Value} (hu:AV.den w φ I (.mp b) u):
  ∃g es clock,u= .map (some g)/\φ b=some (some g)/\w.heap[g]?=some (.map es clock)/\es.toList.map (·.key)=ks/\AV.ab w φ I cs (es.toList.map (·.val))/\sq es clock:=by
 simp only[AV.den]at hu
 obtain⟨g,hg,rfl⟩:=hu
 have:=hR.own b _ _ hH hg
 simp only[Ob.at,Sh.has]at this
 obtain⟨g',us,cN,⟨es,clock,U,h2,h3,h5⟩,h4,_⟩:=this
 cases cN
 subst h3
 exact⟨g,es,clock,rfl,hg,U,h2,h4,h5⟩
end
section
variable {C:Cx} {K:List PK} {E:Env} {H:aa}
theorem A2 {d:TypeDesc} {es:Array MapEntry} {ks:List Value} {kv:Value} (b5:es.toList.map (·.key)=ks) (fF:uc d ks) (hk:IsKey d kv):
  (Instr.findNow d kv es.toList 0=some none/\kv∉ks)\/∃j e,Instr.findNow d kv es.toList 0=some (some (j,e.val))/\es.toList[j]?=some e/\e.key=kv/\ks[j]?=some kv:=by
 subst b5
 rcases findNow_spec hk es.toList 0 (fun x hx=>fF _ (List.mem_map.2 ⟨x,hx,rfl⟩))with⟨U,h2⟩|⟨j,e,U,h2,h3⟩
 ·exact .inl ⟨U,fun h=>by obtain⟨x,hx,e⟩:=List.mem_map.1 h;exact h2 x hx e⟩
 ·exact .inr ⟨j,e,by rw[Nat.zero_add]at U;exact U,h2,h3,by rw[List.getElem?_map,h2,<-h3];rfl⟩
theorem AQ.vF (j:Nat) {ds:List (Nat×Nat)} {i:Nat} {d:Option Nat} {ty t kt et:TypeId} {pos:String} {af:Array Edge} {os:List Oper} {m k:Operand} {ok:Bool} {b:Nat} {ks:List Value} {cs:List AV} {kv:Value} {x:AV} {dk:TypeDesc}
  (ah:ba C.n ({dst:=d,op:= .lookup t m k ok,type:=ty,pos:=pos,after:=af,guard:=none}::os)=true)
  (hm:ev E m=some (.mp b)) (hk:ev E k=some (.im (.v kv))) (hH:lk H b=some (.var (.map ks) cs)) (ht:C.P.underlying t=some (.map kt et)) (hd:C.P.underlying kt=some dk)
  (fF:uc dk ks) (jj:IsKey dk kv) (dP:kv∈ks) (hj:∀i,ks[i]?=some kv->i=j) (hx:cs[j]?=some x)
  (h:vq C K os (aZ d i ds) (i+1) (a7 d (bif ok then .aI [x,.im (.v (.bool true))]else x) E) H):
  AQ C ds i ({dst:=d,op:= .lookup t m k ok,type:=ty,pos:=pos,after:=af,guard:=none}::os) K E H:=by
 refine AQ.val (bif ok then .aI [x,.im (.v (.bool true))]else x) ah rfl (fun φ I a w hs=>?_) h
 obtain⟨g,es,clock,fH,hg,hh,aC,mf,kA⟩:=vG hs.st.real hH (aO hs.env hm)
 have gT:=aO hs.env hk
 simp only[AV.den,IV.den]at gT
 rcases A2 aC fF jj with⟨_,h2⟩|⟨j',e,U,h2,h3,h4⟩
 ·exact absurd dP h2
 ·have:=hj j' h4
  subst this
  obtain⟨v,hv,bc⟩:=ig cs _ j' x mf hx
  have td:v=e.val:=by rw[List.getElem?_map,h2]at hv;cases hv;rfl
  subst td
  have aF:(Instr.lookup t (a.eval m) (a.eval k) ok).run C.P w= .ok (if ok then .tuple #[e.val,.bool true]else e.val) w:=by
   rw[fH,gT.1]
   cases ok<;>simp[Instr.lookup,run_underlying ht,MapKept.run_getObj_map hh,run_checkKey hd jj,run_findKey hd U,Result.andThen]
  refine⟨if ok then .tuple #[e.val,.bool true]else e.val,by simp only[execOp,Sem.run_bind,Sem.run_map,aF,Result.andThen_ok,Sem.run_pure],?_⟩
  cases ok with
  |true=>simp only[cond_true,if_true,AV.den,AV.ab];exact⟨_,⟨_,_,rfl,bc,_,_,rfl,by simp only[IV.den];exact⟨trivial,rfl⟩,rfl⟩,rfl⟩
  |false=>simpa using bc
theorem AQ.D5 {ds:List (Nat×Nat)} {i:Nat} {d:Option Nat} {ty t kt et:TypeId} {pos:String} {af:Array Edge} {os:List Oper} {m k:Operand} {ok:Bool} {b:Nat} {ks:List Value} {cs:List AV} {kv z:Value} {dk:TypeDesc}
  (ah:ba C.n ({dst:=d,op:= .lookup t m k ok,type:=ty,pos:=pos,after:=af,guard:=none}::os)=true)
  (hm:ev E m=some (.mp b)) (hk:ev E k=some (.im (.v kv))) (hH:lk H b=some (.var (.map ks) cs)) (ht:C.P.underlying t=some (.map kt et)) (hd:C.P.underlying kt=some dk)
  (fF:uc dk ks) (jj:IsKey dk kv) (dP:kv∉ks) (hz:(C.P.info? et).bind (·.zero)=some z) (fI:z.oneCell'=true)
  (h:vq C K os (aZ d i ds) (i+1) (a7 d (bif ok then .aI [.im (.v z),.im (.v (.bool false))]else .im (.v z)) E) H):
  AQ C ds i ({dst:=d,op:= .lookup t m k ok,type:=ty,pos:=pos,after:=af,guard:=none}::os) K E H:=by
 refine AQ.val (bif ok then .aI [.im (.v z),.im (.v (.bool false))]else .im (.v z)) ah rfl (fun φ I a w hs=>?_) h
 obtain⟨g,es,clock,fH,hg,hh,aC,mf,kA⟩:=vG hs.st.real hH (aO hs.env hm)
 have gT:=aO hs.env hk
 simp only[AV.den,IV.den]at gT
 rcases A2 aC fF jj with⟨U,_⟩|⟨j',e,U,h2,h3,h4⟩
 ·have AG:(zeroValue et).run C.P w= .ok z w:=by
   cases hi:C.P.info? et with
   |none=>rw[hi]at hz;cases hz
   |some inf=>
    rw[hi]at hz
    simp only[Option.bind_some]at hz
    simp[zeroValue,typeInfo,hi,hz]
  have aF:(Instr.lookup t (a.eval m) (a.eval k) ok).run C.P w= .ok (if ok then .tuple #[z,.bool false]else z) w:=by
   rw[fH,gT.1]
   cases ok<;>simp[Instr.lookup,run_underlying ht,MapKept.run_getObj_map hh,run_checkKey hd jj,run_findKey hd U,AG,Result.andThen]
  refine⟨if ok then .tuple #[z,.bool false]else z,by simp only[execOp,Sem.run_bind,Sem.run_map,aF,Result.andThen_ok,Sem.run_pure],?_⟩
  cases ok with
  |true=>simp only[cond_true,if_true,AV.den,AV.ab,IV.den];exact⟨_,⟨_,_,rfl,⟨rfl,fI⟩,_,_,rfl,⟨rfl,rfl⟩,rfl⟩,rfl⟩
  |false=>simp only[cond_false,Bool.false_eq_true,if_false,AV.den,IV.den];exact⟨trivial,fI⟩
 ·exact absurd (List.mem_of_getElem? h4) dP
theorem AQ.ZN {ds:List (Nat×Nat)} {i:Nat} {d:Option Nat} {ty t kt et:TypeId} {pos:String} {af:Array Edge} {os:List Oper} {m:Operand} {b:Nat} {ks:List Value} {cs:List AV}
  (ah:ba C.n ({dst:=d,op:= .call {callee:= .builtin .len,args:=#[m],argTypes:=#[t]},type:=ty,pos:=pos,after:=af,guard:=none}::os)=true)
  (hm:ev E m=some (.mp b)) (hH:lk H b=some (.var (.map ks) cs)) (ht:C.P.underlying t=some (.map kt et))
  (h:vq C K os (aZ d i ds) (i+1) (a7 d (.im (.v (.int .i64 ks.length))) E) H):
  AQ C ds i ({dst:=d,op:= .call {callee:= .builtin .len,args:=#[m],argTypes:=#[t]},type:=ty,pos:=pos,after:=af,guard:=none}::os) K E H:=by
 refine AQ.val (.im (.v (.int .i64 ks.length))) ah rfl (fun φ I a w hs=>?_) h
 obtain⟨g,es,clock,fH,hg,hh,aC,mf,kA⟩:=vG hs.st.real hH (aO hs.env hm)
 have aT:es.size=ks.length:=by rw[<-aC];simp
 have aF:(Builtin.len_ #[t] ty #[a.eval m]).run C.P w= .ok (.int .i64 es.size) w:=by
  rw[fH]
  simp[Builtin.len_,run_underlying ht,MapKept.run_getObj_map hh,Result.andThen,goInt]
 refine⟨.int .i64 es.size,by simp only[execOp,resolve,invoke,builtin,Sem.run_bind,Sem.run_pure,Result.andThen_ok,List.map_toArray,List.map_cons,List.map_nil,aF],?_⟩
 simp only[AV.den,IV.den,aT]
 exact⟨trivial,rfl⟩
end
theorem KS {es:Array MapEntry} {clock:Nat} {k v:Value} (h:sq es clock):sq (es.push {key:=k,val:=v,born:=clock}) (clock+1):=by
 refine⟨?_,fun e he=>?_⟩
 ·rw[Array.toList_push,List.map_append,List.nodup_append]
  refine⟨h.1,by simp,fun a ha b hb=>?_⟩
  obtain⟨e,he,rfl⟩:=List.mem_map.1 ha
  have:=h.2 e he
  have hb:b=clock:=by simpa using hb
  omega
 ·rw[Array.toList_push,List.mem_append]at he
  rcases he with he|he
  ·have:=h.2 e he;omega
  ·have:e={key:=k,val:=v,born:=clock}:=by simpa using he
   rw[this];exact Nat.lt_succ_self _
theorem KT {es eJ:Array MapEntry} {clock j:Nat} {e:MapEntry} {k v:Value} (hj:es.toList[j]?=some e) (hs:eJ.toList=es.toList.set j {e with key:=k,val:=v}) (h:sq es clock):sq eJ clock:=by
 have hb:eJ.toList.map (·.born)=es.toList.map (·.born):=by
  rw[hs,List.map_set]
  refine List.ext_getElem? fun i=>?_
  rw[List.getElem?_set]
  split
  ·rename_i fT
   subst fT
   split
   ·rw[List.getElem?_map,hj];rfl
   ·rename_i hl
    rw[List.length_map]at hl
    rw[List.getElem?_eq_none (by rw[List.length_map];omega)]
  ·rfl
 refine⟨by rw[hb];exact h.1,fun x hx=>?_⟩
 have:x.born∈eJ.toList.map (·.born):=List.mem_map.2 ⟨x,hx,rfl⟩
 rw[hb]at this
 obtain⟨y,hy,e2⟩:=List.mem_map.1 this
 rw[<-e2];exact h.2 y hy
section
variable {w:World} {φ:al} {I:Nat->Prop} {l:Nat} {es:Array MapEntry} {clock:Nat} {o':Obj}
theorem abg (hl:w.heap[l]?=some (.map es clock)) (g n:Nat) (h:shaped w g n):shaped (w.putObj l o') g n:=by
 obtain⟨c,e,hc,hn⟩:=h
 have hg:g≠l:=fun h=>by subst h;rw[hl]at hc;cases hc
 exact⟨c,e,(World.putObj_heap_other hg).trans hc,hn⟩
theorem AU (hl:w.heap[l]?=some (.map es clock)) (hI:¬I l):bE w φ I (w.putObj l o') φ I:=
 ⟨fun g hg=>World.putObj_heap_other (fun e=>hI (e▸hg)),fun _ h=>h,fun _ _ h=>h,fun _ g n _=>abg hl g n⟩
theorem U9 {own:Nat->Prop} (hl:w.heap[l]?=some (.map es clock)) (ho:own l):Ext own w (w.putObj l o'):=
 ⟨by simp,fun g _ hn=>World.putObj_heap_other (fun e=>hn (e▸ho)),fun g c e fz hc=>⟨c,fz,(World.putObj_heap_other (fun e=>by subst e;rw[hl]at hc;cases hc)).trans hc,rfl⟩,rfl,rfl,rfl⟩
theorem St.Ev {B:Bs} {H:aa} (h:St B φ I H w) {b:Nat} (hb:φ b=some (some l)) (hl:w.heap[l]?=some (.map es clock)) {qB ob:Ob} (gz:lk H b=some qB) (aU:ob.at (w.putObj l o') φ I (some l)):
  St B φ I (aR H b ob) (w.putObj l o')/\bE w φ I (w.putObj l o') φ I:=by
 have hI:¬I l:=(h.real.off b l hb).1
 have k:bE w φ I (w.putObj l o') φ I:=AU hl hI
 refine⟨⟨⟨fun b'=>?_,fun b' o p aJ hp=>?_,fun b' g hp=>?_,h.real.inj,fun g hg=>?_⟩,h.ext.trans (U9 (own:=fun g=>g=l) hl rfl) (fun g hg=>by subst hg;exact h.cf b _ hb),h.cf,h.dj,h.cC,fun b' p o ag h0 aJ=>?_⟩,k⟩
 ·by_cases aq:b'=b
  ·subst aq;rw[de H b' _ gz,hb];rfl
  ·rw[cD H b b' _ aq];exact h.real.bj b'
 ·by_cases aq:b'=b
  ·subst aq
   rw[de H b' _ gz]at aJ;cases aJ
   rw[hb]at hp;cases hp
   exact aU
  ·rw[cD H b b' _ aq]at aJ
   exact Ob.k5 k.im k.I k.phi k.sh (fun g hg=>World.putObj_heap_other (fun e=>by subst e;subst hg;exact aq (h.real.inj b' b g hp hb))) (h.real.own b' o p aJ hp)
 ·have:=h.real.off b' g hp
  exact⟨this.1,by simpa using this.2⟩
 ·have:=h.real.bN g hg
  simpa using this
 ·by_cases aq:b'=b
  ·subst aq;exact h.cP b' p qB ag h0 gz
  ·rw[cD H b b' _ aq]at aJ;exact h.cP b' p o ag h0 aJ
end
theorem wB {w:World} {φ:al} {I:Nat->Prop} {x:AV} {u:Value} (hx:AV.den w φ I x u):∀(cs:List AV) (us:List Value),AV.ab w φ I cs us->AV.ab w φ I (cs++[x]) (us++[u])
 |[],us,h=>by simp only[AV.ab]at h;subst h;simp only[List.nil_append,AV.ab];exact⟨u,[],rfl,hx,rfl⟩
 |y::cs,us,h=>by
  simp only[AV.ab]at h
  obtain⟨v,vs,rfl,U,h2⟩:=h
  simp only[List.cons_append,AV.ab]
  exact⟨v,_,rfl,U,wB hx cs vs h2⟩
theorem FR {w:World} {φ:al} {I:Nat->Prop} {x:AV} {u:Value} (hx:AV.den w φ I x u):∀(cs:List AV) (us:List Value) (j:Nat),AV.ab w φ I cs us->AV.ab w φ I (cs.set j x) (us.set j u)
 |[],us,j,h=>by simp only[AV.ab]at h;subst h;simp[AV.ab]
 |y::cs,us,0,h=>by
  simp only[AV.ab]at h
  obtain⟨v,vs,rfl,U,h2⟩:=h
  simp only[List.set_cons_zero,AV.ab]
  exact⟨u,vs,rfl,hx,h2⟩
 |y::cs,us,j+1,h=>by
  simp only[AV.ab]at h
  obtain⟨v,vs,rfl,U,h2⟩:=h
  simp only[List.set_cons_succ,AV.ab]
  exact⟨v,_,rfl,U,FR hx cs vs j h2⟩
section
variable {C:Cx} {K:List PK} {E:Env} {H:aa}
theorem AQ.A5 {ds:List (Nat×Nat)} {i:Nat} {d:Option Nat} {ty t:TypeId} {pos:String} {af:Array Edge} {os:List Oper}
  (ah:ba C.n ({dst:=d,op:= .makeMap t none,type:=ty,pos:=pos,after:=af,guard:=none}::os)=true)
  (h:vq C K os (aZ d i ds) (i+1) (a7 d (.mp (ay C.B.nb H)) E) ((ay C.B.nb H,.var (.map []) [])::H)):
  AQ C ds i ({dst:=d,op:= .makeMap t none,type:=ty,pos:=pos,after:=af,guard:=none}::os) K E H:=by
 obtain⟨hd,b7⟩:=ef ah
 have bm:=AQ.go b7 h
 unfold AQ at bm⊢
 refine AO.step fun ops φ I a w aV _ hs Kn bG=>?_
 have o_:=dw C.B.nb H
 obtain⟨U,h2⟩:=hs.st.Cg (ob:= .map #[] 0) (o:= .var (.map []) []) (lN C.B.nb H) o_.1 (by
  simp only[Ob.at,Sh.has,Sh.one,AV.ab]
  exact⟨_,[],rfl,⟨#[],0,by simpa using iL w _,rfl,rfl,List.nodup_nil,fun _ h=>by cases h⟩,rfl,trivial⟩)
 rw[if_pos (by simp[Region.wanted])]
 unfold Oper.wp
 have aF:(execOp a.eval {dst:=d,op:= .makeMap t none,type:=ty,pos:=pos,after:=af,guard:=none}).run C.P w= .ok (.value (.map (some w.heap.size))) (w.alloc (.map #[] 0)):=by
  have rE:(Instr.makeMap t none).run C.P w= .ok (.map (some w.heap.size)) (w.alloc (.map #[] 0)):=rfl
  simp only[execOp,Option.map_none,Sem.run_bind,Sem.run_map,rE,Result.andThen_ok,Sem.run_pure]
 rw[aF,Oper.upon_value]
 exact bG _ _ _ I _ _ bm (hs.put U h2 hd (by simp only[AV.den,aY];exact⟨_,by simp,rfl⟩))
theorem AQ.D_ {ds:List (Nat×Nat)} {i:Nat} {ty t kt et:TypeId} {pos:String} {af:Array Edge} {os:List Oper} {m k x:Operand} {b:Nat} {ks:List Value} {cs:List AV} {kv:Value} {xv:AV} {dk:TypeDesc}
  (ah:ba C.n ({dst:=none,op:= .mapUpdate t m k x,type:=ty,pos:=pos,after:=af,guard:=none}::os)=true)
  (hm:ev E m=some (.mp b)) (hk:ev E k=some (.im (.v kv))) (hx:ev E x=some xv) (hH:lk H b=some (.var (.map ks) cs)) (ht:C.P.underlying t=some (.map kt et)) (hd:C.P.underlying kt=some dk)
  (fF:uc dk ks) (jj:IsKey dk kv) (dP:kv∉ks)
  (h:vq C K os ds (i+1) E (aR H b (.var (.map (ks++[kv])) (cs++[xv])))):
  AQ C ds i ({dst:=none,op:= .mapUpdate t m k x,type:=ty,pos:=pos,after:=af,guard:=none}::os) K E H:=by
 obtain⟨fS,b7⟩:=ef ah
 have bm:=AQ.go b7 h
 unfold AQ at bm⊢
 refine AO.step fun ops φ I a w aV _ hs Kn bG=>?_
 obtain⟨g,es,clock,fH,hg,hh,aC,mf,kA⟩:=vG hs.st.real hH (aO hs.env hm)
 have gT:=aO hs.env hk
 simp only[AV.den,IV.den]at gT
 have fj:=aO hs.env hx
 rcases A2 aC fF jj with⟨U,_⟩|⟨j',e,U,h2,h3,h4⟩
 ·rw[if_pos (by simp[Region.wanted])]
  unfold Oper.wp
  have ag:g<w.heap.size:=(hs.st.real.off b g hg).2
  have aF:(Instr.mapUpdate t (a.eval m) (a.eval k) (a.eval x)).run C.P w= .ok () (w.putObj g (.map (es.push {key:=kv,val:=a.eval x,born:=clock}) (clock+1))):=by
   rw[fH,gT.1]
   simp[Instr.mapUpdate,run_underlying ht,MapKept.run_getObj_map hh,run_checkKey hd jj,run_findKey hd U,MapKept.run_setObj_map _ hh,Result.andThen,World.putObj]
  have vp:(execOp a.eval {dst:=none,op:= .mapUpdate t m k x,type:=ty,pos:=pos,after:=af,guard:=none}).run C.P w= .ok .skip (w.putObj g (.map (es.push {key:=kv,val:=a.eval x,born:=clock}) (clock+1))):=by
   simp only[execOp,Sem.run_bind,Sem.run_map,aF,Result.andThen_ok,Sem.run_pure]
  rw[vp,Oper.upon_skip]
  obtain⟨hS,u7⟩:=hs.st.Ev (o':= .map (es.push {key:=kv,val:=a.eval x,born:=clock}) (clock+1)) (ob:= .var (.map (ks++[kv])) (cs++[xv])) hg hh hH (by
   simp only[Ob.at,Sh.has,Sh.one]
   refine⟨g,es.toList.map (·.val)++[a.eval x],rfl,⟨_,_,World.putObj_heap_same ag,by simp[aC],by simp,KS kA⟩,?_,trivial⟩
   have hK:=AU (φ:=φ) (o':= .map (es.push {key:=kv,val:=a.eval x,born:=clock}) (clock+1)) hh (hs.st.real.off b g hg).1
   exact AV.fA hK.im hK.I hK.phi hK.sh _ _ (wB fj cs _ mf))
  exact bG _ _ φ I _ _ bm (hs.put hS u7 fS (v:= .top) (by simp only[AV.den]))
 ·exact absurd (List.mem_of_getElem? h4) dP
theorem AQ.I6 (j:Nat) {ds:List (Nat×Nat)} {i:Nat} {ty t kt et:TypeId} {pos:String} {af:Array Edge} {os:List Oper} {m k x:Operand} {b:Nat} {ks:List Value} {cs:List AV} {kv:Value} {xv:AV} {dk:TypeDesc}
  (ah:ba C.n ({dst:=none,op:= .mapUpdate t m k x,type:=ty,pos:=pos,after:=af,guard:=none}::os)=true)
  (hm:ev E m=some (.mp b)) (hk:ev E k=some (.im (.v kv))) (hx:ev E x=some xv) (hH:lk H b=some (.var (.map ks) cs)) (ht:C.P.underlying t=some (.map kt et)) (hd:C.P.underlying kt=some dk)
  (fF:uc dk ks) (jj:IsKey dk kv) (dP:kv∈ks) (hj:∀i,ks[i]?=some kv->i=j)
  (h:vq C K os ds (i+1) E (aR H b (.var (.map ks) (cs.set j xv)))):
  AQ C ds i ({dst:=none,op:= .mapUpdate t m k x,type:=ty,pos:=pos,after:=af,guard:=none}::os) K E H:=by
 obtain⟨fS,b7⟩:=ef ah
 have bm:=AQ.go b7 h
 unfold AQ at bm⊢
 refine AO.step fun ops φ I a w aV _ hs Kn bG=>?_
 obtain⟨g,es,clock,fH,hg,hh,aC,mf,kA⟩:=vG hs.st.real hH (aO hs.env hm)
 have gT:=aO hs.env hk
 simp only[AV.den,IV.den]at gT
 have fj:=aO hs.env hx
 rcases A2 aC fF jj with⟨_,h2⟩|⟨j',e,U,h2,h3,h4⟩
 ·exact absurd dP h2
 ·have:=hj j' h4
  subst this
  rw[if_pos (by simp[Region.wanted])]
  unfold Oper.wp
  have ag:g<w.heap.size:=(hs.st.real.off b g hg).2
  have iS:es[j']?=some e:=by simpa using h2
  have aF:(Instr.mapUpdate t (a.eval m) (a.eval k) (a.eval x)).run C.P w= .ok () (w.putObj g (.map (es.modify j' fun e=>{e with key:=kv,val:=a.eval x}) clock)):=by
   rw[fH,gT.1]
   simp[Instr.mapUpdate,run_underlying ht,MapKept.run_getObj_map hh,run_checkKey hd jj,run_findKey hd U,iS,h3,run_keyThatStays jj,MapKept.run_setObj_map _ hh,Result.andThen,World.putObj]
  have vp:(execOp a.eval {dst:=none,op:= .mapUpdate t m k x,type:=ty,pos:=pos,after:=af,guard:=none}).run C.P w= .ok .skip (w.putObj g (.map (es.modify j' fun e=>{e with key:=kv,val:=a.eval x}) clock)):=by
   simp only[execOp,Sem.run_bind,Sem.run_map,aF,Result.andThen_ok,Sem.run_pure]
  rw[vp,Oper.upon_skip]
  have va:(es.modify j' fun e=>{e with key:=kv,val:=a.eval x}).toList=es.toList.set j' {e with key:=kv,val:=a.eval x}:=by
   rw[Array.toList_modify]
   exact I2 h2
  obtain⟨hS,u7⟩:=hs.st.Ev (o':= .map (es.modify j' fun e=>{e with key:=kv,val:=a.eval x}) clock) (ob:= .var (.map ks) (cs.set j' xv)) hg hh hH (by
   simp only[Ob.at,Sh.has,Sh.one]
   refine⟨g,(es.toList.map (·.val)).set j' (a.eval x),rfl,⟨_,_,World.putObj_heap_same ag,?_,?_,KT h2 va kA⟩,?_,trivial⟩
   ·rw[va,List.map_set,aC]
    exact JI h4
   ·rw[va,List.map_set]
   ·have hK:=AU (φ:=φ) (o':= .map (es.modify j' fun e=>{e with key:=kv,val:=a.eval x}) clock) hh (hs.st.real.off b g hg).1
    exact AV.fA hK.im hK.I hK.phi hK.sh _ _ (FR fj cs _ j' mf))
  exact bG _ _ φ I _ _ bm (hs.put hS u7 fS (v:= .top) (by simp only[AV.den]))
where
 I2 {α:Type} {f:α->α} {x:α}:∀{l:List α} {j:Nat},l[j]?=some x->l.modify j f=l.set j (f x)
  |[],_,h=>by simp at h
  |y::l,0,h=>by simp at h;subst h;rfl
  |y::l,j+1,h=>by simp only[List.getElem?_cons_succ]at h;simp only[List.modify_succ_cons,List.set_cons_succ];rw[I2 h]
 JI {α:Type} {x:α}:∀{l:List α} {j:Nat},l[j]?=some x->l.set j x=l
  |[],_,h=>by simp at h
  |y::l,0,h=>by simp at h;subst h;rfl
  |y::l,j+1,h=>by simp only[List.getElem?_cons_succ]at h;simp only[List.set_cons_succ];rw[JI h]
end
section
variable {C:Cx} {K:List PK} {E:Env} {H:aa}
end
end Go.AL
end
section
namespace Go.AL
open Go
theorem St.Jy {B:Bs} {φ:al} {I:Nat->Prop} {H:aa} {w:World} (h:St B φ I H w) {b:Nat} {o o':Ob} (hl:lk H b=some o) (hd:∀p,φ b=some p->o.at w φ I p->o'.at w φ I p):
  St B φ I (aR H b o') w:=by
 refine⟨⟨fun b'=>?_,fun b' o2 p aJ hp=>?_,h.real.off,h.real.inj,h.real.bN⟩,h.ext,h.cf,h.dj,h.cC,fun b' p o2 ag h0 aJ=>?_⟩
 ·by_cases aq:b'=b
  ·subst aq;rw[de H b' _ hl,h.real.bj b',hl];rfl
  ·rw[cD H b b' _ aq];exact h.real.bj b'
 ·by_cases aq:b'=b
  ·subst aq
   rw[de H b' _ hl]at aJ
   cases aJ
   exact hd p hp (h.real.own b' _ p hl hp)
  ·rw[cD H b b' _ aq]at aJ;exact h.real.own b' o2 p aJ hp
 ·by_cases aq:b'=b
  ·subst aq;exact h.cP b' p _ ag h0 hl
  ·rw[cD H b b' _ aq]at aJ;exact h.cP b' p o2 ag h0 aJ
theorem St.dS {B:Bs} {φ:al} {I:Nat->Prop} {H H':aa} {w:World} (h:St B φ I H w) (he:∀b,lk H b=lk H' b):St B φ I H' w:=
 ⟨⟨fun b=>by rw[h.real.bj b,he b],fun b o p hl hp=>h.real.own b o p ((he b).trans hl) hp,h.real.off,h.real.inj,h.real.bN⟩,h.ext,h.cf,h.dj,h.cC,fun b p o ag h0 hl=>h.cP b p o ag h0 ((he b).trans hl)⟩
def lits (us:List Value):List (List IV):=us.map fun c=>[.v c]
theorem vB (us:List Value):(lits us).length=us.length:=by simp[lits]
theorem St.EC {B:Bs} {φ:al} {I:Nat->Prop} {H:aa} {w:World} (h:St B φ I H w) {b:Nat} {e:TypeId} {cs:List AV} (hl:lk H b=some (.var (.row e) cs)):
  ∃us,AV.ab w φ I cs us/\us.length=cs.length/\St B φ I (aR H b (.vec e 1 (lits us))) w:=by
 have hd:=h.real.bj b
 rw[hl]at hd
 obtain⟨p,hp⟩:=Option.isSome_iff_exists.1 hd
 have ho:=h.real.own b _ p hl hp
 simp only[Ob.at,Sh.has,Sh.one]at ho
 obtain⟨g,us,rfl,⟨rest,hg⟩,aX,U⟩:=ho
 refine⟨us,aX,qR aX,h.Jy hl fun p' bM _=>?_⟩
 rw[hp]at bM
 cases bM
 simp only[Ob.at]
 exact .inr ⟨g,us.map fun c=>[c],rest,rfl,by rw[zn];exact hg,JB us (List.all_eq_true.2 U),fun vs hv=>by obtain⟨c,_,rfl⟩:=List.mem_map.1 hv;rfl⟩
theorem St.SD {B:Bs} {φ:al} {I:Nat->Prop} {H:aa} {w:World} (h:St B φ I H w) {b:Nat} {e:TypeId} {rows:List (List IV)} {cs:List AV} (hl:lk H b=some (.vec e 1 rows)) (aK:rows≠[])
  (hd:∀ae,IV.aM w I rows ae->AV.ab w φ I cs ae.flatten):St B φ I (aR H b (.var (.row e) cs)) w:=by
 refine h.Jy hl fun p _ ho=>?_
 simp only[Ob.at]at ho
 rcases ho with⟨_,h0⟩|⟨g,ae,rest,rfl,hg,aX,_⟩
 ·exact absurd h0 aK
 ·simp only[Ob.at,Sh.has,Sh.one]
  exact⟨g,ae.flatten,rfl,⟨rest,hg⟩,hd ae aX,tj _ _ (sG _ _ aX)⟩
theorem Aq:∀(H:aa) (b:Nat) (o o':Ob),aR (aR H b o) b o'=aR H b o'
 |[],_,_,_=>rfl
 |(j,x)::r,b,o,o'=>by
  simp only[aR]
  cases hb:Nat.beq j b with
  |true=>simp only[cond_true,aR,hb]
  |false=>simp only[cond_false,aR,hb];rw[Aq r b o o']
section
variable {C:Cx} {K:List PK} {E:Env} {H:aa}
theorem AE.dS {e:Exit} (H':aa) (he:∀b,lk H b=lk H' b) (h:AE C e K E H'):AE C e K E H:=by
 unfold AE at h⊢
 exact fun φ I a w hs=>h _ _ _ _ ⟨hs.bF,hs.bC,hs.env,hs.st.dS he⟩
theorem AP.dS {p:List Nat} (H':aa) (he:∀b,lk H b=lk H' b) (h:AP C p K E H'):AP C p K E H:=by
 unfold AP at h⊢
 exact fun φ I a w hs=>h _ _ _ _ ⟨hs.bF,hs.bC,hs.env,hs.st.dS he⟩
theorem AQ.dS {ds:List (Nat×Nat)} {i:Nat} {rest:List Oper} (H':aa) (he:∀b,lk H b=lk H' b) (h:AQ C ds i rest K E H'):AQ C ds i rest K E H:=by
 unfold AQ at h⊢
 exact fun ops U h2 φ I a w hs=>h ops U h2 _ _ _ _ ⟨hs.bF,hs.bC,hs.env,hs.st.dS he⟩
end
theorem P9 {b c:Nat} {e:TypeId} {es:Nat} {rows:List (List IV)}:∀H:aa,noMen b H=true->noMen b (aR H c (.vec e es rows))=true
 |[],_=>rfl
 |(j,o)::r,h=>by
  have hr:noMen b r=true:=by
   cases o with
   |var _ _=>simp only[noMen,Bool.and_eq_true]at h;exact h.2
   |vec _ _ _=>simpa only[noMen]using h
   |lp _ _ _ _ _ _ _=>simp only[noMen,Bool.and_eq_true]at h;exact h.2
  simp only[aR]
  cases Nat.beq j c with
  |true=>simp only[cond_true,noMen];exact hr
  |false=>
   simp only[cond_false]
   have ih:=P9 (c:=c) (e:=e) (es:=es) (rows:=rows) r hr
   cases o with
   |var _ _=>simp only[noMen,Bool.and_eq_true]at h⊢;exact⟨h.1,ih⟩
   |vec _ _ _=>simpa only[noMen]using ih
   |lp _ _ _ _ _ _ _=>simp only[noMen,Bool.and_eq_true]at h⊢;exact⟨h.1,ih⟩
theorem IG {w:World} {I:Nat->Prop} {z:IV}:∀(us:List Value) (ae:List (List Value)),IV.aM w I (lits us++[[z]]) ae->∃v,ae.flatten=us++[v]/\IV.den w I z v
 |[],ae,h=>by
  simp only[lits,List.map_nil,List.nil_append,IV.aM,IV.ab]at h
  obtain⟨vs,E7,rfl,⟨v,wb,rfl,U,rfl⟩,rfl⟩:=h
  exact⟨v,rfl,U⟩
 |u::us,ae,h=>by
  simp only[lits,List.map_cons,List.cons_append,IV.aM,IV.ab,IV.den]at h
  obtain⟨vs,E7,rfl,⟨v,wb,rfl,⟨rfl,_⟩,rfl⟩,h2⟩:=h
  obtain⟨x,hx,hd⟩:=IG us E7 h2
  exact⟨x,by simp[hx],hd⟩
theorem Zl {us:List Value} {j:Nat} {u:Value} (h:us[j]?=some u):(lits us).getD j []=[.v u]:=by
 simp[lits,List.getD,h]
section
variable {C:Cx} {K:List PK} {E:Env} {H:aa}
end
end Go.AL
end
section
namespace Go.AL
open Go
variable {es:Nat} {el:TypeId}
section
variable {C:Cx} {K:List PK} {E:Env}
end
end Go.AL
end
section
namespace Go.AL
open Go
section
variable {C:Cx} {K:List PK} {E:Env} {H:aa}
theorem Lv {Hc:aa}:∀(m:List (Nat×Nat)),(∀b c,(b,c)∈m->(lk Hc b).isSome=true)->cu Hc m=[]
 |[],_=>rfl
 |(b,c)::r,h=>by
  have U:=h b c (by simp)
  obtain⟨o,ho⟩:=Option.isSome_iff_exists.1 U
  simp only[cu,ho]
  exact Lv r fun b' c' hb=>h b' c' (by simp[hb])
theorem Pd:∀(m:List (Nat×Nat)) (b c:Nat),(b,c)∈m->(lk m b).isSome=true
 |[],_,_,h=>by cases h
 |(b',c')::r,b,c,h=>by
  simp only[lk]
  cases hb:Nat.beq b' b with
  |true=>rfl
  |false=>
   rcases List.mem_cons.1 h with h|h
   ·cases h;simp at hb
   ·simpa using Pd r b c h
theorem AQ.y6 (m:List (Nat×Nat)) {ds:List (Nat×Nat)} {i:Nat} {d:Option Nat} {ty:TypeId} {pos:String} {af:Array Edge} {os:List Oper} {br:Operand} {f:FuncId} {fs aN:List AV} {xs:List Operand} {a8:Array TypeId} {l ij:List AV} {Hc:aa} {r:AV}
  (ah:ba C.n ({dst:=d,op:= .call {callee:= .value br,args:=xs.toArray,argTypes:=a8},type:=ty,pos:=pos,after:=af,guard:=none}::os)=true)
  (fB:ev E br=some (.fn f fs aN)) (hl:eB E xs=some l) (dT:gs l=true)
  (mi:fx m=oh Hc) (ml:gG (fx m)=true) (mm:gG (kW m)=true) (mn:∀k,lP (bA m k) H Hc)
  (dr:∀k,AV.cU (bA m k) ij=fs++l.map AV.st++aN) (hr:∀k,AV.rn (bA m k) r=r) (hc:ai C.P f ij Hc (fun r' H'=>H'=Hc/\r'=r))
  (h:vq C K os (aZ d i ds) (i+1) (a7 d r E) H):
  AQ C ds i ({dst:=d,op:= .call {callee:= .value br,args:=xs.toArray,argTypes:=a8},type:=ty,pos:=pos,after:=af,guard:=none}::os) K E H:=by
 have hH:Hand m (ay C.B.nb H) H Hc:=⟨mi,ml,mm,mn _,fun b o hb=>by have:=bZ H b o hb;have:=(dw C.B.nb H).2;omega⟩
 refine AQ.oK m ah fB hl dT mi ml mm (mn _) (dr _) hc fun r' H1 ⟨e1,e2⟩=>?_
 subst e1;subst e2
 have WI:cu H1 m=[]:=Lv m fun b c hb=>by rw[<-hH.bj];exact Pd m b c hb
 rw[WI,hr]
 refine⟨rfl,AQ.dS H (fun c=>?_) (AQ.go (ef ah).2 h)⟩
 rcases Nat.lt_or_ge c (ay C.B.nb H)with ag|cH
 ·rw[hH.D0 ag]
  cases hi:dX m c with
  |none=>rfl
  |some b=>
   obtain⟨o,U,h2⟩:=hH.get (hH.xH hi)
   simp only[U,h2,Option.map_some]
 ·obtain⟨b,rfl⟩:=Nat.exists_eq_add_of_le cH
  rw[hH.IJ b]
  have hn:lk H (ay C.B.nb H+b)=none:=by
   cases hq:lk H (ay C.B.nb H+b)with
   |none=>rfl
   |some o=>have:=hH.fresh _ _ hq;omega
  rw[hn]
  cases hm:lk m b with
  |some c=>rfl
  |none=>
   have:=hH.bj b
   rw[hm]at this
   cases hq:lk H1 b with
   |none=>rfl
   |some o=>rw[hq]at this;cases this
end
section
variable {C:Cx} {K:List PK} {E:Env} {H:aa}
theorem AP.cut {p:List Nat} {α:Type} (LE:α->Env) (LH:α->aa) (ok:α->Prop) (h:AP C p (.lp (wi C LE LH ok (fun _=>0) 1)::K) E H) (h':∀q,ok q->AE C .normal K (LE q) (LH q)):AP C p K E H:=by
 unfold AP at h⊢
 unfold AE at h'
 intro φ I a w hs
 refine wpIn_mono (h φ I a w hs) (fun e a w hq=>?_)
 cases e with
 |normal=>
  obtain⟨q,U,_,bg,I1,h2⟩:=hq
  exact h' q U bg I1 a w h2
 |_=>exact hq
theorem AE.meet {α:Type} {LE:α->Env} {LH:α->aa} {ok:α->Prop} (q:α) (ah:ok q) (hE:Sub E (LE q)) (hH:H=LH q):
  AE C .normal (.lp (wi C LE LH ok (fun _=>0) 1)::K) E H:=AE.round q ah (Nat.lt_succ_self 0) hE hH
def bP (cs cs':List AV):Prop:=∀(w:World) (φ:al) (I:Nat->Prop) (us:List Value),AV.ab w φ I cs us->AV.ab w φ I cs' us
theorem bP.refl (cs:List AV):bP cs cs:=fun _ _ _ _ h=>h
theorem bP.cons {x:AV} {cs cs':List AV} (h:bP cs cs'):bP (x::cs) (x::cs'):=fun w φ I us hd=>by
 simp only[AV.ab]at hd⊢
 obtain⟨u,au,e,U,h2⟩:=hd
 exact⟨u,au,e,U,h w φ I au h2⟩
theorem bP.nil {es:Nat} {cs cs':List AV} (h:bP cs cs'):bP (.im (.v (.slice none 0 0))::cs) (.im (.sl es [])::cs'):=fun w φ I us hd=>by
 simp only[AV.ab]at hd⊢
 obtain⟨u,au,e,U,h2⟩:=hd
 exact⟨u,au,e,by simp only[AV.den]at U⊢;exact Ja U,h w φ I au h2⟩
theorem St.fX {B:Bs} {φ:al} {I:Nat->Prop} {H:aa} {w:World} (h:St B φ I H w) {b:Nat} {e:Sh} {cs cs':List AV} (hl:lk H b=some (.var e cs)) (hc:bP cs cs'):St B φ I (aR H b (.var e cs')) w:=
 h.Jy hl fun p _ ho=>by
  simp only[Ob.at]at ho⊢
  obtain⟨g,us,U,h2,h3,h4⟩:=ho
  exact⟨g,us,U,h2,hc w φ I us h3,h4⟩
theorem AE.fX {e:Exit} (b:Nat) (cs':List AV) {s:Sh} {cs:List AV} (hl:lk H b=some (.var s cs)) (hc:bP cs cs') (h:AE C e K E (aR H b (.var s cs'))):AE C e K E H:=by
 unfold AE at h⊢
 exact fun φ I a w hs=>h _ _ _ _ ⟨hs.bF,hs.bC,hs.env,hs.st.fX hl hc⟩
theorem AP.fX {p:List Nat} (b:Nat) (cs':List AV) {s:Sh} {cs:List AV} (hl:lk H b=some (.var s cs)) (hc:bP cs cs') (h:AP C p K E (aR H b (.var s cs'))):AP C p K E H:=by
 unfold AP at h⊢
 exact fun φ I a w hs=>h _ _ _ _ ⟨hs.bF,hs.bC,hs.env,hs.st.fX hl hc⟩
end
section
variable {C:Cx} {K:List PK} {E:Env} {H:aa}
theorem AQ.step1 (x:AV) (H':aa) {ds:List (Nat×Nat)} {i:Nat} {o:Oper} {os:List Oper} (ah:ba C.n (o::os)=true) (hg:o.guard=none)
  (hex:∀φ I a w,bB C φ I E H a w->∃u w' φ' I',(execOp a.eval o).run C.P w= .ok (.value u) w'/\AV.den w' φ' I' x u/\St C.B φ' I' H' w'/\bE w φ I w' φ' I')
  (h:vq C K os (aZ o.dst i ds) (i+1) (a7 o.dst x E) H'):AQ C ds i (o::os) K E H:=by
 obtain⟨hd,b7⟩:=ef ah
 have bm:=AQ.go b7 h
 unfold AQ at bm⊢
 refine AO.step (o:=o) fun ops φ I a w aV _ hs Kn bG=>?_
 have hw:Region.wanted o (yielded ops a.tmps)=true:=by simp[Region.wanted,hg]
 rw[if_pos hw]
 obtain⟨u,w',φ',I',aF,aX,hS,hK⟩:=hex φ I a w hs
 unfold Oper.wp
 rw[aF,Oper.upon_value]
 exact bG _ _ φ' I' _ _ bm (hs.put hS hK hd aX)
def J4 (C:Cx) (K:List PK):Nat->List Oper->List (Nat×Nat)->Nat->Env->aa->Prop
 |0,os,ds,i,E,H=>AQ C ds i os K E H
 |_+1,[],ds,i,E,H=>AQ C ds i [] K E H
 |n+1,o::os,ds,i,E,H=>match gd ds E o.guard with
  |none=>AQ C ds i (o::os) K E H
  |some G=>match iM C.P E H o.op with
   |some (sc,v)=>(G=true->sc)/\J4 C K n os (aZ o.dst i ds) (i+1) (a7 o.dst (wrap o.guard G v) E) H
   |none=>match o.guard with
    |some _=>AQ C ds i (o::os) K E H
    |none=>match qS C.P C.B.nb C.ob E H o with
     |some (sc,v,H')=>sc/\J4 C K n os (aZ o.dst i ds) (i+1) (a7 o.dst v E) H'
     |none=>AQ C ds i (o::os) K E H
end
attribute [go_sem] J4
def xP (φ:al) (I:Nat->Prop) (g:Nat):Prop:=I g\/∃b,φ b=some (some g)
def nD (H:aa) (x:AV) (y:IV):Prop:=∀(w:World) (φ:al) (I:Nat->Prop),Real w φ I H->∀u,AV.den w φ I x u->IV.den w (xP φ I) y u
def ud (H:aa) (xs:List AV) (ys:List IV):Prop:=∀(w:World) (φ:al) (I:Nat->Prop),Real w φ I H->∀us,AV.ab w φ I xs us->IV.ab w (xP φ I) ys us
def pW (H:aa) (x y:AV):Prop:=∀(w:World) (φ:al) (I:Nat->Prop),Real w φ I H->∀u,AV.den w φ I x u->AV.den w (fun _=>none) (xP φ I) y u
def sr (H:aa) (xs ys:List AV):Prop:=∀(w:World) (φ:al) (I:Nat->Prop),Real w φ I H->∀us,AV.ab w φ I xs us->AV.ab w (fun _=>none) (xP φ I) ys us
theorem ud.nil {H:aa}:ud H [] []:=fun _ _ _ _ us h=>by simpa only[AV.ab,IV.ab]using h
theorem ud.cons {H:aa} {x:AV} {y:IV} {xs:List AV} {ys:List IV} (h:nD H x y) (h':ud H xs ys):ud H (x::xs) (y::ys):=fun w φ I hR us hd=>by
 simp only[AV.ab]at hd
 obtain⟨u,au,rfl,U,h2⟩:=hd
 simp only[IV.ab]
 exact⟨u,au,rfl,h w φ I hR u U,h' w φ I hR au h2⟩
theorem sr.nil {H:aa}:sr H [] []:=fun _ _ _ _ us h=>by simpa only[AV.ab]using h
theorem sr.cons {H:aa} {x y:AV} {xs ys:List AV} (h:pW H x y) (h':sr H xs ys):sr H (x::xs) (y::ys):=fun w φ I hR us hd=>by
 simp only[AV.ab]at hd⊢
 obtain⟨u,au,rfl,U,h2⟩:=hd
 exact⟨u,au,rfl,h w φ I hR u U,h' w φ I hR au h2⟩
theorem nD.im {H:aa} (x:IV):nD H (.im x) x:=fun w φ I hR u hd=>by
 simp only[AV.den]at hd
 exact IV.p4 (fun _ _ _ _ h=>h) (fun g hg=> .inl hg) x u hd
theorem pW.of {H:aa} {x:AV} {y:IV} (h:nD H x y):pW H x (.im y):=fun w φ I hR u hd=>by
 simp only[AV.den];exact h w φ I hR u hd
theorem pW.im {H:aa} (x:IV):pW H (.im x) (.im x):=pW.of (nD.im x)
theorem pW.agg {H:aa} {xs ys:List AV} (h:sr H xs ys):pW H (.agg xs) (.agg ys):=fun w φ I hR u hd=>by
 simp only[AV.den]at hd⊢
 obtain⟨us,U,h2⟩:=hd
 exact⟨us,h w φ I hR us U,h2⟩
theorem pW.fn {H:aa} {f:FuncId} {xs ys as bs:List AV} (h:sr H xs ys) (h':sr H as bs):pW H (.fn f xs as) (.fn f ys bs):=fun w φ I hR u hd=>by
 simp only[AV.den]at hd⊢
 obtain⟨us,vs,U,h2,h3⟩:=hd
 exact⟨us,vs,h w φ I hR us U,h' w φ I hR vs h2,h3⟩
theorem nD.os {H:aa} {b es i n:Nat} {el:TypeId} {rows:List (List IV)} (hl:lk H b=some (.vec el es rows)) (hn:i+n<=rows.length):nD H (.os b es i n) (.sl es ((rows.drop i).take n)):=fun w φ I hR u hd=>by
 obtain⟨p,hp⟩:∃p,φ b=some p:=by
  have:=hR.bj b
  rw[hl]at this
  cases hq:φ b with
  |none=>rw[hq]at this;cases this
  |some p=>exact⟨p,rfl⟩
 have aU:=hR.own b _ p hl hp
 simp only[Ob.at]at aU
 have hb:(φ b=some none/\rows=[])\/∃g ae,φ b=some (some g)/\xP φ I g/\IV.aM w I rows ae/\(∀vs∈ae,vs.length=es)/\c8 w g 0 ae.flatten:=by
  rcases aU with⟨rfl,hr⟩|⟨g,ae,rest,rfl,cB,hd,Af⟩
  ·exact .inl ⟨hp,hr⟩
  ·refine .inr ⟨g,ae,hp,.inr ⟨b,hp⟩,hd,Af,fun j u hu=>?_⟩
   have ag:j<ae.flatten.length:=by
    rcases Nat.lt_or_ge j ae.flatten.length with h|h
    ·exact h
    ·rw[List.getElem?_eq_none h]at hu;cases hu
   simp only[World.cell?,cB,Option.isSome_none,Bool.false_eq_true,if_false,List.getElem?_toArray,Nat.zero_add]
   rw[List.getElem?_append_left ag];exact hu
 have:=wJ (φ':=φ) (I':=xP φ I) (b:=b) (es:=es) (rows:=rows) (fun _ _=>rfl) (fun g hg=> .inl hg) hb (.os b es i n) u (by simpa[eK]using hn) hd
 simpa[eh,AV.den]using this
theorem nD.ob {H:aa} {b:Nat} {e:TypeId} {cs:List AV} {ys:List IV} (o:Nat) (hl:lk H b=some (.var (.cell e) cs)) (hc:ud H cs ys):nD H (.ob b o) (.pt (ys.drop o)):=fun w φ I hR u hd=>by
 simp only[AV.den]at hd
 obtain⟨g,hg,rfl⟩:=hd
 have aU:=hR.own b _ _ hl hg
 simp only[Ob.at,Sh.has]at aU
 obtain⟨g',us,cN,cB,aV,_⟩:=aU
 cases cN
 simp only[IV.den]
 refine⟨g,o,us.drop o,rfl,.inr ⟨b,hg⟩,xG o _ _ (hc w φ I hR us aV),fun j u hj=>?_⟩
 rw[List.getElem?_drop]at hj
 simp only[World.cell?,cB,Option.isSome_none,Bool.false_eq_true,if_false,List.getElem?_toArray]
 exact hj
theorem nD.qB {H:aa} {b:Nat} {e:TypeId} {cs:List AV} {ys:List IV} (hl:lk H b=some (.var (.cell e) cs)) (hc:ud H cs ys):nD H (.ob b 0) (.pt ys):=nD.ob 0 hl hc
def IV.plain:IV->Bool
 | .v _=>true
 | .sl _ []=>true
 |_=>false
def IV.Eo:List IV->Bool
 |[]=>true
 |x::xs=>x.plain&&IV.Eo xs
def aa6 (rows:List (List IV)):Prop:=∀r∈rows,IV.Eo r=true
mutual
def AV.plain:AV->Bool
 | .im x=>x.plain
 | .ar xs=>IV.Eo xs
 | .agg xs=>AV.vO xs
 | .aI xs=>AV.vO xs
 | .fn _ xs ys=>AV.vO xs&&AV.vO ys
 | .opt _ x=>AV.plain x
 | .wr _ x=>AV.plain x
 |_=>true
def AV.vO:List AV->Bool
 |[]=>true
 |x::xs=>AV.plain x&&AV.vO xs
end
def Ob.plain:Ob->Prop
 | .var _ cs=>AV.vO cs=true
 | .vec _ _ rows=>aa6 rows
 | .lp .. =>False
def Kw (k:Nat):aa->aa->aa
 |[],H=>H
 |(b,o)::r,H=>(k+b,dY (fun c=>k+c) o)::Kw k r H
attribute [go_sem] Kw AV.plain AV.vO IV.plain IV.Eo
section
variable {C:Cx} {K:List PK} {E:Env} {H:aa}
end
section
variable {C:Cx} {K:List PK} {E:Env} {H:aa}
theorem AQ.jv {ds:List (Nat×Nat)} {i:Nat} {rest:List Oper} (b off:Nat) (el:TypeId) (es:Nat) {e:Sh} {cs:List AV} (hl:lk H b=some (.var e cs)) (hc:cs[off]?=some (.im (.v (.slice none 0 0))))
  (h:AQ C ds i rest K E ((ay C.B.nb H,.vec el es [])::aR H b (.var e (cs.set off (.os (ay C.B.nb H) es 0 0))))):AQ C ds i rest K E H:=by
 unfold AQ at h⊢
 exact fun ops U h2 φ I a w hs=>by
  obtain⟨φ',da⟩:=hs.jv hl hc el es
  exact h ops U h2 _ _ _ _ da
end
section
variable {C:Cx} {K K':List PK} {E:Env} {H:aa} {p p':List Nat} {e e':Exit} {ds:List (Nat×Nat)} {i:Nat} {os:List Oper}
theorem xA (h:AP C p' K' E H) (hs:yf C.fn p K=some (.inl p',K'):=by exact rfl):AP C p K E H:=xPP hs h
theorem xB (h:AE C e K' E H) (hs:yf C.fn p K=some (.inr e,K'):=by exact rfl):AP C p K E H:=xPE hs h
theorem xC (h:AP C p' K' E H) (hs:ye C.fn e K=some (.inl p',K'):=by exact rfl):AE C e K E H:=xEP hs h
theorem xE (h:AE C e' K' E H) (hs:ye C.fn e K=some (.inr e',K'):=by exact rfl):AE C e K E H:=xEE hs h
theorem xD (h:AE C .normal K (nh C.kp E) H):AQ C ds i [] K E H:=AQ.done h
theorem xK {o:Oper} (h:vq C K os (aZ o.dst i ds) (i+1) (a7 o.dst (.opt false .top) E) H) (ah:ba C.n (o::os)=true:=by kernel_rfl) (hG:gd ds E o.guard=some false:=by exact rfl):AQ C ds i (o::os) K E H:=AQ.skip ah hG h
theorem xS {d:Option Nat} {ty s dt e:TypeId} {x:Operand} {pos:String} {af:Array Edge} {l:List UInt8}
  (h:vq C K os (aZ d i ds) (i+1) (a7 d (.im (.sl 1 (dO l))) E) H) (ah:ba C.n ({dst:=d,op:= .convert s dt x,type:=ty,pos:=pos,after:=af,guard:=none}::os)=true:=by kernel_rfl)
  (
   hx:ev E x=some (Sv l):=by exact rfl) (hs:(C.P.underlying s).isSome=true:=by exact rfl) (hd:tk C.P dt= .slice e:=by exact rfl) (he:tk C.P e= .int .u8:=by exact rfl)
   :
  AQ C ds i ({dst:=d,op:= .convert s dt x,type:=ty,pos:=pos,after:=af,guard:=none}::os) K E H:=AQ.s2b ah hx hs hd he h
theorem xM {d:Option Nat} {ty t e:TypeId} {x:Operand} {pos:String} {af:Array Edge} {b es n:Nat} {el:TypeId} {rows:List (List IV)}
  (h:vq C K os (aZ d i ds) (i+1) (a7 d (.im (.sl es rows)) (killE b E)) (e6 b H)) (ah:ba C.n ({dst:=d,op:= .convert t t x,type:=ty,pos:=pos,after:=af,guard:=none}::os)=true:=by kernel_rfl)
  (
   hx:ev E x=some (.os b es 0 n):=by exact rfl) (hl:lk H b=some (.vec el es rows):=by exact rfl) (hn:n=rows.length:=by exact rfl) (aK:Nat.beq n 0=false:=by exact rfl) (a_:noMen b (e6 b H)=true:=by exact rfl) (hd:tk C.P t= .slice e:=by exact rfl) (he:tk C.P e= .int .u8:=by exact rfl)
   :
  AQ C ds i ({dst:=d,op:= .convert t t x,type:=ty,pos:=pos,after:=af,guard:=none}::os) K E H:=AQ.mark ah hx hl hn aK a_ hd he h
theorem xT {t:Tmp} {x y:Code} (ht:AP C (0::p) K E H) (hc:cd C.fn p= .cond (.tmp t) x y:=by exact rfl) (hb:lk E t=some (.im (.v (.bool true))):=by exact rfl):AP C p K E H:=AP.cond_true hc hb ht
theorem xF {t:Tmp} {x y:Code} (hf:AP C (1::p) K E H) (hc:cd C.fn p= .cond (.tmp t) x y:=by exact rfl) (hb:lk E t=some (.im (.v (.bool false))):=by exact rfl):AP C p K E H:=AP.cond_false hc hb hf
theorem xR {id:Nat} {ops:List Oper} (h:vq C K ops [] 0 E H) (hc:cd C.fn p= .region id ops.toArray false:=by exact rfl) (ah:ba C.n ops=true:=by kernel_rfl):AP C p K E H:=AP.region hc ah h
theorem xW {id:Nat} {ops:List Oper} (h:vg C H (fun _ En=>AQ C [] ops.length [] K En H) ops [] 0 E) (hc:cd C.fn p= .region id ops.toArray true:=by exact rfl) (N6:ops.all QM=true:=by exact rfl) (hq:(ba C.n ops&&Cv ops ops.length (FV ops.length)&&C.P.follows .mixedOrders)=true:=by kernel_rfl)
   :AP C p K E H:=AP.U0 hc N6 hq h
end
end Go.AL
end
section
namespace Go.AL
open Go Go.RowKit Go.Lib
section
variable {P:Program} {w:World}
end
section
variable {C:Cx} {K:List KI} {E:Env} {H:aa}
end
section
variable {C:Cx} {K:List PK} {E:Env} {H:aa}
end
section
variable {C:Cx} {K:List PK} {E:Env} {H:aa}
end
end Go.AL
end
section
namespace Go.AL
open Go
section
variable {C:Cx} {K:List PK} {E:Env} {H:aa}
theorem L1 {w:World} {φ:al} {I:Nat->Prop} {a:Act} (he:eA w φ I E a):eA w φ I (tS E) a:=fun j x hx=>by
 obtain⟨y,hy,rfl⟩:=RI E j x hx
 obtain⟨u,hu,hd⟩:=he j y hy
 exact⟨u,hu,abu hd⟩
def Cz (C:Cx) (K:List PK) (E:Env) (H:aa) (ds:List (Nat×Nat)) (i:Nat) (o:Oper) (os:List Oper):Prop:=
 match qS C.P C.B.nb C.ob (tS E) H o with
 |some (sc,v,H')=>sc/\vq C K os (aZ o.dst i ds) (i+1) (a7 o.dst v E) H'
 |none=>False
theorem AQ.Cz {ds:List (Nat×Nat)} {i:Nat} {o:Oper} {os:List Oper} (ah:ba C.n (o::os)=true) (hg:o.guard=none) (h:Cz C K E H ds i o os):AQ C ds i (o::os) K E H:=by
 unfold AL.Cz at h
 split at h
 ·rename_i sc v H' he
  obtain⟨aB,vf⟩:=h
  obtain⟨hd,b7⟩:=ef ah
  have gy:=AQ.go b7 vf
  unfold AQ at gy⊢
  refine AO.step (o:=o) fun ops φ I a w aV _ hs Kn bG=>?_
  have hw:Region.wanted o (yielded ops a.tmps)=true:=by simp[Region.wanted,hg]
  rw[if_pos hw]
  obtain⟨nx,w',φ',I',aF,o_,hS,hk⟩:=Ky (P:=C.P) (L1 hs.env) hs.st he aB
  unfold Oper.wp
  rw[aF]
  rcases o_ with⟨u,rfl,aX⟩|⟨rfl,aX⟩
  ·rw[Oper.upon_value]
   exact bG _ _ φ' I' _ _ gy (hs.put hS hk hd aX)
  ·rw[Oper.upon_skip]
   exact bG _ _ φ' I' _ _ gy (hs.put hS hk hd aX)
 ·exact h.elim
end
attribute [go_sem] Cz
section
variable {C:Cx} {K:List PK} {E:Env} {H:aa}
theorem QO (l:List Value):∀(n i:Nat),i<n*l.length->(List.replicate n l).flatten[i]?=l[i%l.length]?
 |0,i,h=>by simp at h
 |n+1,i,h=>by
  rw[List.replicate_succ,List.flatten_cons]
  rcases Nat.lt_or_ge i l.length with hi|hi
  ·rw[List.getElem?_append_left hi,Nat.mod_eq_of_lt hi]
  ·rw[List.getElem?_append_right hi,QO l n (i-l.length) (by rw[Nat.add_mul]at h;omega),<-Nat.mod_eq_sub_mod hi]
theorem acy (z:Array Value) (n:Nat):(Builtin.zeroCells z n).toList=(List.replicate n z.toList).flatten:=by
 refine List.ext_getElem? fun i=>?_
 rcases Nat.lt_or_ge i (n*z.size)with h|h
 ·have hz:0<z.size:=by
   rcases Nat.eq_zero_or_pos z.size with h0|h0
   ·rw[h0]at h;simp at h
   ·exact h0
  rw[QO _ _ _ (by simpa using h)]
  have hm:i%z.size<z.size:=Nat.mod_lt _ hz
  simp[Builtin.zeroCells,h,hm]
 ·rw[List.getElem?_eq_none (by simp[Builtin.zeroCells];exact h),List.getElem?_eq_none (by simp;exact h)]
theorem St.aaL {B:Bs} {φ:al} {I:Nat->Prop} {w:World} (hS:St B φ I H w) {b g j es:Nat} {e:TypeId} {rows xs:List (List IV)} {ae ws:List (List Value)} {rest:List Value}
  (hH:lk H b=some (.vec e es rows)) (hb:φ b=some (some g)) (dF:w.heap[g]?=some (.cells (ae.flatten++rest).toArray e (0,0))) (hd:IV.aM w I rows ae) (iA:∀v∈ae,v.length=es)
  (hx:IV.aM w I xs ws) (bT:∀v∈ws,v.length=es) (hj:j+xs.length<=rows.length):
  St B φ I (aR H b (.vec e es (rows.take j++xs++rows.drop (j+xs.length)))) (w.setRow g ((ae.flatten++rest).toArray.toList.take (j*es)++ws.flatten++(ae.flatten++rest).toArray.toList.drop (j*es+ws.flatten.length)).toArray)/\
   bE w φ I (w.setRow g ((ae.flatten++rest).toArray.toList.take (j*es)++ws.flatten++(ae.flatten++rest).toArray.toList.drop (j*es+ws.flatten.length)).toArray) φ I:=by
 have hlen:=l7 rows ae hd
 have lF:=l7 xs ws hx
 have ej:=q9 ae es iA
 have C7:=q9 ws es bT
 have hle:j*es+ws.length*es<=ae.length*es:=by rw[<-Nat.add_mul];exact Nat.mul_le_mul_right _ (by omega)
 have iy:(ae.flatten++rest).toArray.toList.take (j*es)++ws.flatten++(ae.flatten++rest).toArray.toList.drop (j*es+ws.flatten.length)=(ae.take j++ws++ae.drop (j+ws.length)).flatten++rest:=by
  have e1:(ae.take j).flatten=ae.flatten.take (j*es):=zo j ae es iA (by omega)
  have e2:(ae.drop (j+ws.length)).flatten=ae.flatten.drop ((j+ws.length)*es):=wG (j+ws.length) ae es iA (by omega)
  rw[List.flatten_append,List.flatten_append,e1,e2,C7,Nat.add_mul]
  simp only[List.toList_toArray]
  rw[List.take_append_of_le_length (by omega),List.drop_append_of_le_length (by omega)]
  simp
 have aT:((ae.flatten++rest).toArray.toList.take (j*es)++ws.flatten++(ae.flatten++rest).toArray.toList.drop (j*es+ws.flatten.length)).toArray.size=(ae.flatten++rest).toArray.size:=by
  simp only[List.size_toArray,List.toList_toArray,List.length_append,List.length_take,List.length_drop]
  omega
 refine hS.write (o':= .vec e es (rows.take j++xs++rows.drop (j+xs.length))) hH hb dF aT (fun _ _ e=>by cases e) ?_
 rw[iy]
 simp only[Ob.at]
 refine .inr ⟨g,_,rest,rfl,setRow_heap w g _ _ e (0,0) dF,?_,fun vs dH=>?_⟩
 ·have hI:∀g',I g'->(w.setRow g ((ae.take j++ws++ae.drop (j+ws.length)).flatten++rest).toArray).heap[g']?=w.heap[g']?:=fun g' bR=>setRow_other w g g' _ (fun e=>by subst e;exact(hS.real.off b g' hb).1 bR)
  refine IV.iQ hI (fun _ h=>h) _ _ ?_
  rw[lF]
  exact uA _ _ _ _ (uA _ _ _ _ (Ct j _ _ hd) hx) (Cq _ _ _ hd)
 ·simp only[List.mem_append]at dH
  rcases dH with(dH|dH)|dH
  ·exact iA vs (List.mem_of_mem_take dH)
  ·exact bT vs dH
  ·exact iA vs (List.mem_of_mem_drop dH)
theorem LJ {w:World} {I:Nat->Prop}:∀(zs:List Value),(∀z∈zs,z.oneCell'=true)->IV.ab w I (zs.map IV.v) zs
 |[],_=>by simp[IV.ab]
 |z::zs,h=>by
  simp only[List.map_cons,IV.ab,IV.den]
  exact⟨z,zs,rfl,⟨rfl,h z (by simp)⟩,LJ zs fun y hy=>h y (by simp[hy])⟩
theorem LK {w:World} {I:Nat->Prop} {zs:List Value} (hz:∀z∈zs,z.oneCell'=true):∀n,IV.aM w I (List.replicate n (zs.map IV.v)) (List.replicate n zs)
 |0=>by simp[IV.aM]
 |n+1=>by
  simp only[List.replicate_succ,IV.aM]
  exact⟨_,_,rfl,LJ zs hz,LK hz n⟩
theorem AQ.clear {ds:List (Nat×Nat)} {i:Nat} {d:Option Nat} {ty t e e':TypeId} {x:Operand} {pos:String} {af:Array Edge} {os:List Oper} {b j n es:Nat} {rows:List (List IV)} {zs:List Value}
  (ah:ba C.n ({dst:=d,op:= .call {callee:= .builtin .clear,args:=#[x],argTypes:=#[t]},type:=ty,pos:=pos,after:=af,guard:=none}::os)=true)
  (hx:ev E x=some (.os b es j n)) (hH:lk H b=some (.vec e es rows)) (ht:tk C.P t= .slice e') (hz:ax C.P e'=some zs) (b5:zs.length=es) (fI:(zs.all Value.oneCell')=true)
  (h:(0<n/\j+n<=rows.length)/\vq C K os (aZ d i ds) (i+1) (a7 d .top E) (aR H b (.vec e es (rows.take j++List.replicate n (zs.map IV.v)++rows.drop (j+n))))):
  AQ C ds i ({dst:=d,op:= .call {callee:= .builtin .clear,args:=#[x],argTypes:=#[t]},type:=ty,pos:=pos,after:=af,guard:=none}::os) K E H:=by
 obtain⟨⟨U,h2⟩,h⟩:=h
 refine AQ.step1 _ _ ah rfl (fun φ I a w hs=>?_) h
 have fj:=aO hs.env hx
 simp only[AV.den]at fj
 rcases fj with⟨_,_,gU,_⟩|⟨g,c,hb,hu,h4,h5,h6⟩
 ·omega
 have bh:=hs.st.real.own b _ _ hH hb
 simp only[Ob.at]at bh
 rcases bh with⟨hn,_⟩|⟨g',ae,rest,hg,dF,hd,iA⟩
 ·cases hn
 cases hg
 obtain⟨iz,zv,hi,W6,Yz⟩:=we hz
 have jJ:=List.all_eq_true.1 fI
 have hlen:=l7 rows ae hd
 have ej:=q9 ae es iA
 obtain⟨hS,hK⟩:=hs.st.aaL (j:=j) (xs:=List.replicate n (zs.map IV.v)) hH hb dF hd iA (LK jJ n) (fun v hv=>by rw[List.eq_of_mem_replicate hv,b5]) (by rw[List.length_replicate];exact h2)
 have DG:(Builtin.zeroCells zv.cells n).toList=(List.replicate n zs).flatten:=by rw[acy,Yz]
 have s8:(List.replicate n zs).flatten.length=n*es:=by rw[q9 _ es (fun v hv=>by rw[List.eq_of_mem_replicate hv,b5]),List.length_replicate]
 have zT:j*es+n*es<=(ae.flatten++rest).toArray.size:=by
  have e:(ae.flatten++rest).toArray.size=ae.flatten.length+rest.length:=by simp only[List.size_toArray,List.length_append]
  have:j*es+n*es<=ae.length*es:=by rw[<-Nat.add_mul];exact Nat.mul_le_mul_right _ (by omega)
  omega
 have bI:=run_storeCells_at C.P g (j*es) e (List.replicate n zs).flatten 0 (ae.flatten++rest).toArray w dF (by rw[s8];omega) (fun v hv=>by
  obtain⟨l,hl,fw⟩:=List.mem_flatten.1 hv
  rw[List.eq_of_mem_replicate hl]at fw
  exact jJ v fw)
 rw[Nat.add_zero]at bI
 rw[List.length_replicate]at hS
 refine⟨.tuple #[],_,φ,I,?_,?_,hS,hK⟩
 ·have gU:n≠0:=by omega
  obtain⟨n',rfl⟩:∃n',n=n'+1:=⟨n-1,by omega⟩
  simp[execOp,resolve,invoke,builtin,Builtin.clear_,hu,run_underlying (fc ht),zeroValue,typeInfo,hi,W6,DG,bI]
 ·simp only[AV.den]
end
section
variable {C:Cx} {K:List PK} {E:Env} {H:aa}
theorem AQ.fX {ds:List (Nat×Nat)} {i:Nat} {rest:List Oper} (b:Nat) (cs':List AV) {s:Sh} {cs:List AV} (hl:lk H b=some (.var s cs)) (hc:bP cs cs') (h:AQ C ds i rest K E (aR H b (.var s cs'))):AQ C ds i rest K E H:=by
 unfold AQ at h⊢
 exact fun ops U h2 φ I a w hs=>h ops U h2 _ _ _ _ ⟨hs.bF,hs.bC,hs.env,hs.st.fX hl hc⟩
end
section
variable {C:Cx} {K:List PK} {E:Env} {H:aa}
def dA (C:Cx) (r:AV) (K:List PK) (E:Env) (H:aa):Prop:=
 ∀φ I a w v,bB C φ I E H a w->AV.den w φ I r v->d_ C (K.map (PK.ki C.fn)) (.panic [{v:=v,recovered:=false}]) a w
def pF:List PK->Bool
 |[]=>true
 | .bot _::_=>false
 | .seq _::K=>pF K
 | .eI _::K=>pF K
 | .lp _::K=>pF K
 | .sc::K=>pF K
theorem wz:∀(K:List PK),pF K=true->∀c a w,Ci C (.panic c) a w->d_ C (K.map (PK.ki C.fn)) (.panic c) a w
 |[],_,_,_,_,h=>h
 | .seq _::K,hK,c,a,w,h=>wz K hK c a w h
 | .eI _::K,hK,c,a,w,h=>wz K hK c a w h
 | .lp _::K,hK,c,a,w,h=>wz K hK c a w h
 | .sc::K,hK,c,a,w,h=>wz K hK c a w h
 | .bot _::_,hK,_,_,_,_=>by cases hK
theorem Qy (l:List Nat) {r:AV} {v:Value} {φ:al} {I:Nat->Prop} {a:Act} {w:World} (p_:Marks C.ds C.B.w0.heap.size w I a.defers) (bI:St C.B φ I H w) (bc:AV.den w φ I r v) (hk:cw l r H=true) (hX:C.X r (kB l H)):Ci C (.panic [{v:=v,recovered:=false}]) a w:=by
 intro aV
 obtain⟨ms,U,h2,h3,_⟩:=p_
 rw[U,aV,List.filterMap_nil,List.append_nil]
 have key:∀(ms:List Nat) (w:World),ms.Nodup->(∀D∈ms,C.B.w0.heap.size<=D/\w.heap[D]?=some (.deferred (some [])))->St C.B φ I H w->AV.den w φ I r v->
   LeavesInM Fence.wide 3 C.P C.fn a.tmps (kX C) (ms.map x6) (.panicking [{v:=v,recovered:=false}]) w:=by
  intro ms
  induction ms with
  |nil=>
   intro w _ _ hS hd
   simp only[List.map_nil,LeavesInM,LeavesIn]
   obtain⟨φ',eZ,rp⟩:=wA l φ H hk hd hS
   exact .inr ⟨r,kB l H,φ',I,v,hX,rfl,eZ,rp⟩
  |cons D ms ih=>
   intro w hn hd hS bc
   simp only[List.map_cons,LeavesInM]
   obtain⟨U,h2⟩:=hd D (by simp)
   rw[List.nodup_cons]at hn
   refine⟨by simp,.inl ⟨D,_,rfl,run_takeDeferred h2,ih _ hn.2 (fun D' nR=>?_) (hS.Ju U h2) (Co h2 r v bc)⟩⟩
   obtain⟨h3,h4⟩:=hd D' (by simp[nR])
   exact⟨h3,(World.putObj_heap_other (fun e=>hn.1 (by rw[<-e];exact nR))).trans h4⟩
 exact key ms w h2 (fun D hD=>(h3 D hD).2) bI bc
theorem dA.out (l:List Nat) {r:AV} (hK:pF K=true) (hk:cw l r H=true) (hX:C.X r (kB l H)):dA C r K E H:=fun φ I a w v hs hd=>
 wz K hK _ a w (Qy l hs.bF hs.st hd hk hX)
theorem dA.Qr (l:List Nat) {r:AV} {Cn:Cx} {J:Act->World->Prop} {ops:List Oper} (hC:Cn=C.nr) (hK:pF K=true) (hk:cw l r H=true) (hX:C.X r (kB l H)):dA Cn r [.lp J,.bot (rZ C K ops)] E H:=fun φ I a w v hs hd=>by
 subst hC
 show rZ C K ops (.panic _) a w
 intro a' GI _ _
 exact wz K hK _ a' w (Qy (C:=C) (a:=a') l (by rw[GI];exact hs.bF) hs.st hd hk hX)
theorem It:∀(l:List Nat) (E:Env) (i:Nat) (x:AV),lk (nh l E) i=some x->i∈l
 |[],E,i,x,h=>by simp[nh,lk]at h
 |j::r,E,i,x,h=>by
  rw[nh]at h
  cases hj:lk E j with
  |none=>rw[hj]at h;exact List.mem_cons_of_mem _ (It r E i x h)
  |some y=>
   rw[hj]at h
   simp only[lk]at h
   cases hb:Nat.beq j i with
   |true=>have:=Nat.eq_of_beq_eq_true hb;subst this;exact List.mem_cons_self ..
   |false=>rw[hb]at h;exact List.mem_cons_of_mem _ (It r E i x h)
theorem dA.draw (ids:List Nat) {r:AV} {Cn:Cx} {J:Act->World->Prop} {ops:List Oper} (hC:Cn=C.nr) (hi:(ids.all fun i=>ops.all fun o=>o.dst !=some i)=true) (h:dA C r K (nh ids E) H):dA Cn r [.lp J,.bot (rZ C K ops)] E H:=fun φ I a w v hs hd=>by
 subst hC
 show rZ C K ops (.panic _) a w
 intro a' U h2 h3
 refine h φ I a' w v ⟨by rw[U];exact hs.bF,by rw[h2];exact hs.bC,fun i x hx=>?_,hs.st⟩ hd
 obtain⟨u,hu,dL⟩:=hs.env i x (DS ids E i x hx)
 refine⟨u,(h3 i fun o ho e=>?_).trans hu,dL⟩
 have:=List.all_eq_true.1 (List.all_eq_true.1 hi i (It ids E i x hx)) o ho
 rw[e]at this
 simp at this
theorem dJ.walk {P:Program} {f:FuncId} {fn:Func} {c:Code} {n nb:Nat} {args:List AV} {H:aa} {R X:AV->aa->Prop} (kp ob:List Nat) (hf:P.funcs[f]?=some fn) (hb:fn.body=some c) (hn:fn.ntmps=n)
  (lx:enters P f=true) (dr:Nat.ble args.length n=true) (hnb:bD H=nb)
  (h:∀(w:World) (own I0:Nat->Prop) (ao:al) (lay:Lay P ⟨w,own,I0,ao,nb⟩),AP ⟨P,fn,n,⟨w,own,I0,ao,nb⟩,kp,ob,R,none,X,[],lay⟩ [] [] (enum 0 args) H):dJ P f args H R X:=
 dJ.intro kp ob hf hb hn lx dr hnb fun w own I0 ao lay=>by
  have:=h w own I0 ao lay
  unfold AP at this
  simp only[cd,hb,Option.getD_some]at this
  exact this
theorem dJ.mono {P:Program} {f:FuncId} {args:List AV} {H:aa} {R R' X X':AV->aa->Prop} (h:dJ P f args H R X) (hr:∀r H',R r H'->R' r H') (hx:∀r H',X r H'->X' r H'):dJ P f args H R' X':=
 ⟨h.gN,fun w φ I vs hd hR hV=>(h.run w φ I vs hd hR hV).mono fun _ _ h=>by
  rcases h with⟨r,H',φ',I',v,U,h2⟩|⟨r,H',φ',I',v,U,h2⟩
  ·exact .inl ⟨r,H',φ',I',v,hr _ _ U,h2⟩
  ·exact .inr ⟨r,H',φ',I',v,hx _ _ U,h2⟩⟩
theorem AQ.oL (m:List (Nat×Nat)) {ds:List (Nat×Nat)} {i:Nat} {d:Option Nat} {ty:TypeId} {pos:String} {af:Array Edge} {os:List Oper} {br:Operand} {f:FuncId} {fs aN:List AV} {xs:List Operand} {a8:Array TypeId} {l ij:List AV} {Hc:aa} {R X:AV->aa->Prop}
  (ah:ba C.n ({dst:=d,op:= .call {callee:= .value br,args:=xs.toArray,argTypes:=a8},type:=ty,pos:=pos,after:=af,guard:=none}::os)=true)
  (fB:ev E br=some (.fn f fs aN)) (hl:eB E xs=some l) (dT:gs l=true)
  (mi:fx m=oh Hc) (ml:gG (fx m)=true) (mm:gG (kW m)=true) (mn:lP (bA m (ay C.B.nb H)) H Hc)
  (dr:AV.cU (bA m (ay C.B.nb H)) ij=fs++l.map AV.st++aN) (hc:dJ C.P f ij Hc R X)
  (hx:∀r H1,X r H1->lO (cu H1 m) (dC m H)=true/\dA C (AV.rn (bA m (ay C.B.nb H)) r) K (fV (cu H1 m) E) (fo m (ay C.B.nb H) H H1))
  (h:∀r H1,R r H1->lO (cu H1 m) (dC m H)=true/\AQ C (aZ d i ds) (i+1) os K (a7 d (AV.rn (bA m (ay C.B.nb H)) r) (fV (cu H1 m) E)) (fo m (ay C.B.nb H) H H1)):
  AQ C ds i ({dst:=d,op:= .call {callee:= .value br,args:=xs.toArray,argTypes:=a8},type:=ty,pos:=pos,after:=af,guard:=none}::os) K E H:=by
 obtain⟨hd,b7⟩:=ef ah
 generalize hk:ay C.B.nb H=k at*
 have hH:Hand m k H Hc:=⟨mi,ml,mm,mn,fun b o hb=>by have:=bZ H b o hb;have:=(dw C.B.nb H).2;omega⟩
 have bm:=h
 unfold AQ at bm⊢
 refine AO.step (o:={dst:=d,op:= .call {callee:= .value br,args:=xs.toArray,argTypes:=a8},type:=ty,pos:=pos,after:=af,guard:=none}) fun ops φ I a w aV _ hs Kn bG=>?_
 have hw:Region.wanted {dst:=d,op:= .call {callee:= .value br,args:=xs.toArray,argTypes:=a8},type:=ty,pos:=pos,after:=af,guard:=none} (yielded ops a.tmps)=true:=by simp[Region.wanted]
 rw[if_pos hw]
 have fZ:=aO hs.env fB
 simp only[AV.den]at fZ
 obtain⟨eQ,us,nT,dW,oW⟩:=fZ
 have aX:AV.ab w φ I (fs++l.map AV.st++aN) (eQ++xs.map a.eval++us):=AQ.oK.nF _ _ _ _ (AQ.oK.nF _ _ _ _ nT (nO hs.env _ _ hl dT)) dW
 rw[<-dr]at aX
 have zQ:=AV.r_ (ρ:=bA m k) (φ:=fun b=>φ (bA m k b)) (fun _=>rfl) _ _ aX
 have aF:(execOp a.eval {dst:=d,op:= .call {callee:= .value br,args:=xs.toArray,argTypes:=a8},type:=ty,pos:=pos,after:=af,guard:=none}).run C.P w= .ok (.enter f (eQ++xs.map a.eval++us).toArray) w:=by
  have:execOp a.eval {dst:=d,op:= .call {callee:= .value br,args:=xs.toArray,argTypes:=a8},type:=ty,pos:=pos,after:=af,guard:=none}=(do let d<-Deferred.ofValue (a.eval br) (xs.toArray.map a.eval);invoke d.target d.args):=rfl
  rw[this,oW,Ei (t:=ty) hc.gN]
  simp
 unfold Oper.wp
 rw[aF,Oper.upon_enter]
 have lC:∀r H1 bg I1 v w',lO (cu H1 m) (dC m H)=true->AV.den w' bg I1 r v->St ⟨w,cZ fun b=>φ (bA m k b),I,fun b=>φ (bA m k b),bD Hc⟩ bg I1 H1 w'->
   bB C (iI m k φ bg) I1 (fV (cu H1 m) E) (fo m k H H1) a w'/\AV.den w' (iI m k φ bg) I1 (AV.rn (bA m k) r) v:=fun r H1 bg I1 v w' eT bc hS=>by
  obtain⟨mb,hf,jG,hI,cX⟩:=hH.after (by have:=(dw C.B.nb H).1;omega) hs.st hS eT
  refine⟨⟨hs.bF.mono jG hI,hs.bC,fun j x hx=>?_,mb⟩,AV.vW (φ':=iI m k φ bg) (fun b p hb=>hH.fwd (φ:=φ) hb) r v bc⟩
  obtain⟨y,hy,iX⟩:=DW (w:=w) (I:=I) _ φ E j x hx
  obtain⟨u,hu,hd⟩:=hs.env j y hy
  exact⟨u,hu,AV.j_ jG hI hf cX x u (iX u hd)⟩
 refine(hc.run w (fun b=>φ (bA m k b)) I _ zQ (hH.real hs.st) hs.st.vk).mono fun e w' he=>?_
 rcases he with⟨r,H1,bg,I1,v,hr,he,bc,hS⟩|⟨r,H1,bg,I1,v,hr,he,bc,hS⟩
 ·subst he
  obtain⟨eT,ji⟩:=bm r H1 hr
  obtain⟨gW,gB⟩:=lC r H1 bg I1 v w' eT bc hS
  exact bG _ _ (iI m k φ bg) I1 _ _ ji (gW.put gW.st (bE.refl w' (iI m k φ bg) I1) hd gB)
 ·subst he
  obtain⟨eT,ji⟩:=hx r H1 hr
  obtain⟨gW,gB⟩:=lC r H1 bg I1 v w' eT bc hS
  exact ji _ _ _ _ _ gW gB
theorem AQ.panic {ds:List (Nat×Nat)} {i:Nat} {d:Option Nat} {ty:TypeId} {pos:String} {af:Array Edge} {os:List Oper} {x:Operand} {t:TypeId} {y:AV}
  (hx:ev E x=some (.wr (.iface t) y)) (h:dA C (.wr (.iface t) y) K E H):
  AQ C ds i ({dst:=d,op:= .panic x,type:=ty,pos:=pos,after:=af,guard:=none}::os) K E H:=by
 unfold AQ
 refine AO.step (o:={dst:=d,op:= .panic x,type:=ty,pos:=pos,after:=af,guard:=none}) fun ops φ I a w aV _ hs Kn bG=>?_
 rw[if_pos (by simp[Region.wanted])]
 have hv:=aO hs.env hx
 have jo:=hv
 simp only[AV.den,WK.rel]at hv
 obtain⟨v,hu,_⟩:=hv
 have aF:(execOp a.eval {dst:=d,op:= .panic x,type:=ty,pos:=pos,after:=af,guard:=none}).run C.P w= .halt (.panic (a.eval x)) w:=by
  have e:execOp a.eval {dst:=d,op:= .panic x,type:=ty,pos:=pos,after:=af,guard:=none}=(do pure (.value (<-Instr.panic (a.eval x))):Sem Next):=rfl
  rw[e,hu]
  rfl
 unfold Oper.wp
 rw[aF]
 exact h φ I a w _ hs jo
end
def q5:Value->Deferred
 | .func fn eQ us=>{target:= .fn fn us,args:=eQ}
 |_=>{target:= .nil,args:=#[]}
def oJ (C:Cx):Exit->Act->World->Prop
 | .normal,a,w| .ret,a,w=>LeavesInM Fence.wide 3 C.P C.fn a.tmps (kX C) a.defers .returning w
 | .panic c,a,w=>LeavesInM Fence.wide 3 C.P C.fn a.tmps (kX C) a.defers (.panicking c) w
 |_,_,_=>False
def x9:Option AV->Value->FrameMode
 |none,_=> .returning
 |some _,v=> .panicking [{v:=v,recovered:=false}]
structure oF (P:Program) (f:FuncId) (args:List AV) (H:aa) (r:Option AV) (R:aa->Prop):Prop where
 gN:enters P f=true
 run:∀(w:World) (φ:al) (I:Nat->Prop) (vs:List Value) (v:Value),AV.ab w φ I args vs->Real w φ I H->VK P w I->(∀r0,r=some r0->AV.den w φ I r0 v)->
  CallsDIn Fence.wide 2 P f vs.toArray (x9 r v) w (fun e u' w'=>∃H' φ' I' x,R H'/\e= .returned x/\settle u'= .returning/\St ⟨w,cZ φ,I,φ,bD H⟩ φ' I' H' w')
section
variable {C:Cx} {K:List PK} {E:Env} {H:aa}
theorem zd (D:List (Option Deferred)):∀(K:List PK),pF K=false->d_ {C with ds:=D} (K.map (PK.ki C.fn))=d_ C (K.map (PK.ki C.fn))
 |[],h=>by cases h
 | .bot _::_,_=>rfl
 | .seq q::K,h=>by
  have ih:=zd D K h
  funext e a w
  simp only[List.map_cons,PK.ki,d_,ih]
 | .eI _::K,h=>by
  have ih:=zd D K h
  funext e a w
  simp only[List.map_cons,PK.ki,d_,ih]
 | .lp _::K,h=>by
  have ih:=zd D K h
  funext e a w
  simp only[List.map_cons,PK.ki,d_,ih]
 | .sc::K,h=>by
  have ih:=zd D K h
  funext e a w
  simp only[List.map_cons,PK.ki,d_,ih]
theorem AQ.defer {ds:List (Nat×Nat)} {i:Nat} {ty:TypeId} {pos:String} {af:Array Edge} {os:List Oper} {t:Tmp} {a8:Array TypeId} {f:FuncId} {fs aN:List AV}
  (hK:pF K=false) (aV:C.ds=[none]) (hl:lk E t=some (.fn f fs aN))
  (h:∀u,AQ {C with ds:=[some (q5 u)]} (aZ none i ds) (i+1) os K ((t,.wr (.exact u) (.fn f fs aN))::E) H):
  AQ C ds i ({dst:=none,op:= .defer {callee:= .value (.tmp t),args:=#[],argTypes:=a8},type:=ty,pos:=pos,after:=af,guard:=none}::os) K E H:=by
 unfold AQ AO at h⊢
 intro ops U h2 φ I a w hs
 have hv:=aO hs.env (x:= .tmp t) hl
 obtain⟨v,xr⟩:∃v,a.eval (.tmp t)=v:=⟨_,rfl⟩
 rw[xr]at hv
 have jo:=hv
 simp only[AV.den]at jo
 obtain⟨eQ,us,nT,dW,mh⟩:=jo
 unfold h_
 rw[if_pos (by simp[Region.wanted])]
 refine .inl ?_
 have aF:(execOp a.eval {dst:=none,op:= .defer {callee:= .value (.tmp t),args:=#[],argTypes:=a8},type:=ty,pos:=pos,after:=af,guard:=none}).run C.P w= .ok (.defer (q5 v)) w:=by
  have e:execOp a.eval {dst:=none,op:= .defer {callee:= .value (.tmp t),args:=#[],argTypes:=a8},type:=ty,pos:=pos,after:=af,guard:=none}=(do let d<-Deferred.ofValue (a.eval (.tmp t)) ((#[]:Array Operand).map a.eval);pure (.defer d):Sem Next):=rfl
  rw[e,xr,mh]
  simp[Deferred.ofValue,Sem.run_bind,q5]
 unfold Oper.wp
 rw[aF,Oper.upon_defer]
 have hh:=h v ops (fun j d hj=>U j d (by simpa[aZ]using hj)) (fun j o hj=>by
  have:=h2 (j+1) o (by simpa using hj)
  rwa [show i+1+j=i+(j+1) by omega]) φ I ({a with defers:=q5 v::a.defers}) w
 rw[zd _ K hK]at hh
 obtain⟨ms,g1,g2,g3,g4⟩:=hs.bF
 have vb:=g4 (by rw[aV];simp)
 have uR:a.defers=[]:=by rw[g1,vb,aV];rfl
 refine hh ⟨?_,hs.bC,fun j x hx=>?_,hs.st⟩
 ·refine⟨[],?_,List.nodup_nil,(fun D hD=>by cases hD),fun _=>rfl⟩
  show q5 v::a.defers=_
  rw[uR];rfl
 ·simp only[lk]at hx
  cases hb:Nat.beq t j with
  |true=>
   rw[hb]at hx
   have:=Nat.eq_of_beq_eq_true hb
   subst this
   simp only[cond_true,Option.some.injEq]at hx
   subst hx
   obtain⟨u,hu,_⟩:=hs.env t _ hl
   refine⟨u,hu,?_⟩
   have Aw:a.eval (.tmp t)=u:=by simp[Act.eval,hu]
   rw[xr]at Aw
   subst Aw
   rw[AV.den]
   exact⟨v,⟨rfl,rfl⟩,hv⟩
  |false=>
   rw[hb]at hx
   exact hs.env j x hx
def LV (C:Cx) (E:Env) (H:aa):Prop:=∀φ I a w,St C.B φ I H w->eA w φ I E a->LeavesInM Fence.wide 3 C.P C.fn a.tmps (kX C) [] .returning w
theorem LV.a6 (l:List Nat) {sc:Prop} {xs:List AV} (h:eW C.P E H C.fn.results.toList=some (sc,xs)) (aB:sc) (hk:cw l (eG xs) H=true) (hR:C.R (eG xs) (kB l H)):LV C E H:=fun φ I a w hS hE=>by
 simp only[LeavesInM,LeavesIn]
 obtain⟨v,hv,hd⟩:=vU hE hS.real h aB
 obtain⟨φ',eZ,rp⟩:=wA l φ H hk hd hS
 exact⟨v,hv,.inl ⟨eG xs,kB l H,φ',I,v,hR,rfl,eZ,rp⟩⟩
theorem aa_ {P:Program} {f:FuncId} {eQ us:Array Value} {w:World} (uX:enters P f=true):(invoke (.fn (.func f) us) eQ).run P w= .ok (.enter f (eQ++us)) w:=by
 simp only[invoke]
 exact yq uX _ w
theorem O7 (m:List (Nat×Nat)) {t:Tmp} {u:Value} {f:FuncId} {fs aN ij:List AV} {Hc:aa} {r:Option AV} {RD:aa->Prop}
  (aV:C.ds=[some (q5 u)]) (hl:lk E t=some (.wr (.exact u) (.fn f fs aN)))
  (mi:fx m=oh Hc) (ml:gG (fx m)=true) (mm:gG (kW m)=true) (mn:lP (bA m (ay C.B.nb H)) H Hc)
  (dr:AV.cU (bA m (ay C.B.nb H)) ij=fs++aN) (hc:oF C.P f ij Hc r RD)
  (h:∀H1,RD H1->lO (cu H1 m) (dC m H)=true/\LV C (fV (cu H1 m) E) (fo m (ay C.B.nb H) H H1))
  {φ:al} {I:Nat->Prop} {a:Act} {w:World} (hs:bB C φ I E H a w) (v:Value) (hr:∀r0,r=some r0->AV.den w φ I (AV.rn (bA m (ay C.B.nb H)) r0) v):
  LeavesInM Fence.wide 3 C.P C.fn a.tmps (kX C) a.defers (x9 r v) w:=by
 obtain⟨ms,g1,g2,g3,g4⟩:=hs.bF
 have vb:=g4 (by rw[aV];simp)
 have uR:a.defers=[q5 u]:=by rw[g1,vb,aV];rfl
 rw[uR]
 generalize hk:ay C.B.nb H=k at*
 have hH:Hand m k H Hc:=⟨mi,ml,mm,mn,fun b o hb=>by have:=bZ H b o hb;have:=(dw C.B.nb H).2;omega⟩
 obtain⟨u',hu',eZ⟩:=hs.env t _ hl
 simp only[AV.den,WK.rel]at eZ
 obtain⟨v',⟨rfl,rfl⟩,eQ,us,nT,dW,mh⟩:=eZ
 have aX:AV.ab w φ I (fs++aN) (eQ++us):=AQ.oK.nF _ _ _ _ nT dW
 rw[<-dr]at aX
 have zQ:=AV.r_ (ρ:=bA m k) (φ:=fun b=>φ (bA m k b)) (fun _=>rfl) _ _ aX
 subst mh
 simp only[LeavesInM]
 refine⟨by cases r<;>simp[x9],.inr ⟨fun h=>(by cases h),.func f,us.toArray,f,(eQ++us).toArray,rfl,?_,fun _ _=>trivial,?_⟩⟩
 ·show(invoke (.fn (.func f) us.toArray) eQ.toArray).run C.P w=_
  rw[aa_ hc.gN,List.append_toArray]
 ·refine(hc.run w (fun b=>φ (bA m k b)) I (eQ++us) v zQ (hH.real hs.st) hs.st.vk (fun r0 lz=>AV.Bh (ρ:=bA m k) (φ:=fun b=>φ (bA m k b)) (fun _=>rfl) _ _ (hr r0 lz))).mono fun e u' w' he=>?_
  obtain⟨H1,bg,I1,x,Wh,rfl,aR,hS⟩:=he
  show LeavesInM Fence.wide 3 C.P C.fn a.tmps (kX C) [] (settle u') w'
  rw[aR]
  obtain⟨eT,Af⟩:=h H1 Wh
  obtain⟨mb,hf,jG,hI,cX⟩:=hH.after (by have:=(dw C.B.nb H).1;omega) hs.st hS eT
  refine Af _ _ a w' mb fun j y hy=>?_
  obtain⟨z,hz,H_⟩:=DW (w:=w) (I:=I) _ φ E j y hy
  obtain⟨q,hq,XP⟩:=hs.env j z hz
  exact⟨q,hq,AV.j_ jG hI hf cX y q (H_ q XP)⟩
theorem AE.xO (m:List (Nat×Nat)) {C0:Cx} {e:Exit} {t:Tmp} {u:Value} {f:FuncId} {fs aN ij:List AV} {Hc:aa} {RD:aa->Prop}
  (he:e= .ret\/e= .normal) (aV:C.ds=[some (q5 u)]) (hl:lk E t=some (.wr (.exact u) (.fn f fs aN)))
  (mi:fx m=oh Hc) (ml:gG (fx m)=true) (mm:gG (kW m)=true) (mn:lP (bA m (ay C.B.nb H)) H Hc)
  (dr:AV.cU (bA m (ay C.B.nb H)) ij=fs++aN) (hc:oF C.P f ij Hc none RD)
  (h:∀H1,RD H1->lO (cu H1 m) (dC m H)=true/\LV C (fV (cu H1 m) E) (fo m (ay C.B.nb H) H H1)) (hC:oJ C0=oJ C:=by rfl):AE C e [.bot (oJ C0)] E H:=by
 unfold AE
 intro φ I a w hs
 have:=O7 m aV hl mi ml mm mn dr hc h hs undef (fun _ h=>by cases h)
 rw[hC]
 rcases he with rfl|rfl<;>exact this
theorem dA.xO (m:List (Nat×Nat)) {C0:Cx} {K':List PK} {r:AV} {t:Tmp} {u:Value} {f:FuncId} {fs aN ij:List AV} {Hc:aa} {RD:aa->Prop}
  (aV:C.ds=[some (q5 u)]) (hl:lk E t=some (.wr (.exact u) (.fn f fs aN)))
  (mi:fx m=oh Hc) (ml:gG (fx m)=true) (mm:gG (kW m)=true) (mn:lP (bA m (ay C.B.nb H)) H Hc)
  (dr:AV.cU (bA m (ay C.B.nb H)) ij=fs++aN) (hc:oF C.P f ij Hc (some r) RD) (vo:AV.rn (bA m (ay C.B.nb H)) r=r)
  (h:∀H1,RD H1->lO (cu H1 m) (dC m H)=true/\LV C (fV (cu H1 m) E) (fo m (ay C.B.nb H) H H1)) (hK:pF K'=true) (hC:oJ C0=oJ C:=by rfl):dA C r (K'++[.bot (oJ C0)]) E H:=by
 intro φ I a w v hs hd
 have h0:=O7 m aV hl mi ml mm mn dr hc h hs v (fun r0 h=>by cases h;rw[vo];exact hd)
 have key:∀(K':List PK),pF K'=true->d_ C ((K'++[PK.bot (oJ C0)]).map (PK.ki C.fn)) (.panic [{v:=v,recovered:=false}]) a w:=fun K'=>by
  induction K' with
  |nil=>intro _;rw[hC];exact h0
  |cons x K' ih=>
   intro hK
   cases x with
   |bot Q=>cases hK
   |_=>exact ih hK
 exact key K' hK
theorem dJ.acm {P:Program} {f:FuncId} {fn:Func} {c:Code} {n nb:Nat} {args:List AV} {H:aa} {R X:AV->aa->Prop} (kp ob:List Nat) (hf:P.funcs[f]?=some fn) (hb:fn.body=some c) (hn:fn.ntmps=n)
  (lx:enters P f=true) (dr:Nat.ble args.length n=true) (hnb:bD H=nb)
  (h:∀(w:World) (own I0:Nat->Prop) (ao:al) (lay:Lay P ⟨w,own,I0,ao,nb⟩),AP ⟨P,fn,n,⟨w,own,I0,ao,nb⟩,kp,ob,R,none,X,[none],lay⟩ [] [.bot (oJ ⟨P,fn,n,⟨w,own,I0,ao,nb⟩,kp,ob,R,none,X,[none],lay⟩)] (enum 0 args) H):dJ P f args H R X:=by
 refine⟨lx,fun w φ I vs hd hR hV=>?_⟩
 subst hnb
 have hl:=jA args vs hd
 have zI:=Nat.le_of_ble_eq_true dr
 have h0:=h w (cZ φ) I φ (hR.lay hV _)
 unfold AP at h0
 simp only[cd,hb,Option.getD_some]at h0
 have U:=h0 φ I {tmps:=vs.toArray++Array.replicate (fn.ntmps-vs.toArray.size) undef,defers:=[]} w ⟨Marks.nil,?_,fun i x hx=>?_,tL hR _⟩
 ·refine callsIn_wide.1 (callsIn_of_wp_marks (F:=Fence.wide) (n:=3) hf hb trivial (Go.wpIn_mono (F:=Fence.wide) U fun e a w he=>?_))
  cases e with
  |normal=>exact he
  |ret=>exact he
  |panic c=>exact he
  |_=>exact he.elim
 ·simp only[Array.size_append,List.size_toArray,Array.size_replicate,hn];omega
 ·obtain⟨j,rfl,hj⟩:=uC args 0 i x hx
  obtain⟨u,hu,dL⟩:=ig args vs j x hd hj
  refine⟨u,?_,dL⟩
  have ag:j<vs.length:=by
   rcases Nat.lt_or_ge j vs.length with h|h
   ·exact h
   ·rw[List.getElem?_eq_none h]at hu;cases hu
  rw[Nat.zero_add,Array.getElem?_append_left (by simpa using ag)]
  simpa using hu
end
def y2 (C:Cx):Exit->Act->World->Prop
 | .normal,a,w| .ret,a,w=>a.defers=[]/\∃v,(results C.fn a.tmps).run C.P w= .ok v w/\nC C.B C.R (.returned v) w
 |_,_,_=>False
def tM:Option AV->AV
 |none=> .im (.v .nilIface)
 |some r=>r
section
variable {C:Cx} {K:List PK} {E:Env} {H:aa}
theorem AE.QP (l:List Nat) {e:Exit} {C0:Cx} {sc:Prop} {xs:List AV} (he:e= .ret\/e= .normal) (aV:C.ds=[none]) (h:eW C.P E H C.fn.results.toList=some (sc,xs)) (aB:sc) (hk:cw l (eG xs) H=true) (hR:C.R (eG xs) (kB l H)) (hC:y2 C0=y2 C:=by rfl):AE C e [.bot (y2 C0)] E H:=by
 unfold AE
 intro φ I a w hs
 obtain⟨ms,g1,g2,g3,g4⟩:=hs.bF
 have vb:=g4 (by rw[aV];simp)
 have uR:a.defers=[]:=by rw[g1,vb,aV];rfl
 obtain⟨v,hv,hd⟩:=vU hs.env hs.st.real h aB
 obtain⟨φ',eZ,rp⟩:=wA l φ H hk hd hs.st
 rw[hC]
 have:a.defers=[]/\∃v,(results C.fn a.tmps).run C.P w= .ok v w/\nC C.B C.R (.returned v) w:=⟨uR,v,hv,eG xs,kB l H,φ',I,v,hR,rfl,eZ,rp⟩
 rcases he with rfl|rfl<;>exact this
theorem SX {P:Program} {c:Code} {Q:Exit->Act->World->Prop} {a:Act} {w:World} (h:c.wpIn Fence.wide 3 P Q a w):c.wpIn Fence.wide 2 P Q a w:=wpIn_wide.2 (wpIn_wide.1 h)
theorem oF.walk {P:Program} {f:FuncId} {fn:Func} {c2:Code} {n nb id d0 d1:Nat} {o0 o1:Oper} {args:List AV} {H:aa} {r:Option AV} {RD:aa->Prop} (kp ob:List Nat) (hf:P.funcs[f]?=some fn)
  (hb:fn.body=some (.seq (.region id #[o0,o1] false) c2)) (hn:fn.ntmps=n)
  (qi:(match o0.op with| .call c=>(match c.callee with| .builtin .recover=>c.args.size==0|_=>false)|_=>false)=true/\o0.dst=some d0/\o0.guard=none)
  (mU:o1.op= .assign (.tmp d0)/\o1.dst=some d1/\o1.guard=none) (hd:(Nat.blt d0 n&&Nat.blt d1 n)=true)
  (lx:enters P f=true) (dr:Nat.ble args.length n=true) (hnb:bD H=nb)
  (h:∀(w:World) (own I0:Nat->Prop) (ao:al) (lay:Lay P ⟨w,own,I0,ao,nb⟩),AP ⟨P,fn,n,⟨w,own,I0,ao,nb⟩,kp,ob,fun _ H'=>RD H',none,fun _ _=>False,[none],lay⟩ [1] [.bot (y2 ⟨P,fn,n,⟨w,own,I0,ao,nb⟩,kp,ob,fun _ H'=>RD H',none,fun _ _=>False,[none],lay⟩)] ((d1,tM r)::(d0,tM r)::enum 0 args) H):oF P f args H r RD:=by
 refine⟨lx,fun w φ I vs v aX hR hV hr=>?_⟩
 subst hnb
 have hl:=jA args vs aX
 have zI:=Nat.le_of_ble_eq_true dr
 simp only[Bool.and_eq_true,Nat.blt_eq]at hd
 obtain⟨⟨Ak,WN,C8⟩,NW,WO,oY⟩:=And.intro qi mU
 have h0:=h w (cZ φ) I φ (hR.lay hV _)
 unfold AP at h0
 obtain⟨x,hx⟩:∃x,x=(match r with|none=>Value.nilIface|some _=>v):=⟨_,rfl⟩
 obtain⟨T,hT⟩:∃T:Array Value,T=vs.toArray++Array.replicate (fn.ntmps-vs.toArray.size) undef:=⟨_,rfl⟩
 have CS:T.size=n:=by rw[hT];simp only[Array.size_append,List.size_toArray,Array.size_replicate,hn];omega
 have DD:AV.den w φ I (tM r) x:=by
  cases r with
  |none=>rw[hx];simp[tM,AV.den,IV.den,Value.oneCell']
  |some r0=>rw[hx];exact hr r0 rfl
 have lC:bB ⟨P,fn,n,⟨w,cZ φ,I,φ,bD H⟩,kp,ob,fun _ H'=>RD H',none,fun _ _=>False,[none],hR.lay hV _⟩ φ I ((d1,tM r)::(d0,tM r)::enum 0 args) H {tmps:=(T.setIfInBounds d0 x).setIfInBounds d1 x,defers:=[]} w:=by
  refine⟨Marks.nil,by simpa using CS,fun i y hy=>?_,tL hR _⟩
  simp only[lk]at hy
  cases cM:Nat.beq d1 i with
  |true=>
   rw[cM]at hy
   have:=Nat.eq_of_beq_eq_true cM
   subst this
   simp only[cond_true,Option.some.injEq]at hy
   subst hy
   exact⟨x,by simp[CS,hd.2],DD⟩
  |false=>
   rw[cM]at hy
   have NR:d1≠i:=fun e=>by subst e;simp at cM
   simp only[cond_false]at hy
   cases fQ:Nat.beq d0 i with
   |true=>
    rw[fQ]at hy
    have:=Nat.eq_of_beq_eq_true fQ
    subst this
    simp only[cond_true,Option.some.injEq]at hy
    subst hy
    exact⟨x,by rw[Array.getElem?_setIfInBounds_ne NR];simp[CS,hd.1],DD⟩
   |false=>
    rw[fQ]at hy
    have Xr:d0≠i:=fun e=>by subst e;simp at fQ
    simp only[cond_false]at hy
    obtain⟨j,rfl,hj⟩:=uC args 0 i y hy
    obtain⟨u,hu,dL⟩:=ig args vs j y aX hj
    refine⟨u,?_,dL⟩
    have ag:j<vs.length:=by
     rcases Nat.lt_or_ge j vs.length with h|h
     ·exact h
     ·rw[List.getElem?_eq_none h]at hu;cases hu
    rw[Array.getElem?_setIfInBounds_ne NR,Array.getElem?_setIfInBounds_ne Xr,hT,Nat.zero_add,Array.getElem?_append_left (by simpa using ag)]
    simpa using hu
 have sX:cd fn [1]=c2:=by simp[cd,hb,child]
 have xw:=h0 φ I _ w lC
 rw[sX]at xw
 refine callsDIn_of_wpSIn hf hb trivial fun nL cs w_=>?_
 rw[<-hT]
 refine wpSIn_seq (wpSIn_region ?_)
 obtain⟨sD,p9⟩:∃sD:List Frame,sD=(match r with|none=>nL::cs|some _=>{nL with mode:= .panicking [{v:=v,recovered:=true}]}::cs):=⟨_,rfl⟩
 have aR:∃u',sD={nL with mode:=u'}::cs/\settle u'= .returning:=by
  cases r with
  |none=>exact⟨.returning,by rw[p9];simp only[x9]at w_;rw[<-w_],rfl⟩
  |some r0=>exact⟨_,p9,rfl⟩
 have qa:c2.wpSIn Fence.wide 2 P (bodyPostS P fn nL cs fun e u' w'=>∃H' φ' I' x,RD H'/\e= .returned x/\settle u'= .returning/\St ⟨w,cZ φ,I,φ,bD H⟩ φ' I' H' w') {tmps:=(T.setIfInBounds d0 x).setIfInBounds d1 x,defers:=[]} sD w:=by
  refine wpSIn_of_wpIn rfl (Go.wpIn_mono (SX xw) fun e a' w' he=>?_)
  obtain⟨u',xm,xn⟩:=aR
  cases e with
  |normal=>
   obtain⟨oX,v',jP,rr,H',φ',I',vv,uO,_,_,hS⟩:=he
   exact⟨oX,u',xm,v',jP,H',φ',I',v',uO,rfl,xn,hS⟩
  |ret=>
   obtain⟨oX,v',jP,rr,H',φ',I',vv,uO,_,_,hS⟩:=he
   exact⟨oX,u',xm,v',jP,H',φ',I',v',uO,rfl,xn,hS⟩
  |_=>exact he.elim
 have Dv:(execOp ({tmps:=T,defers:=[]}:Act).eval o0).run P w= .ok .recover w:=by
  obtain⟨dst,op,ty,pos,af,g⟩:=o0
  cases op with
  |call cc=>
   obtain⟨callee,as,a8⟩:=cc
   simp only at Ak
   cases callee with
   |builtin bb=>
    cases bb<;>first|(simp only at Ak;exact absurd Ak (by decide))|rfl
   |_=>simp at Ak
  |_=>simp at Ak
 have Ww:∀a:Act,(execOp a.eval o1).run P w= .ok (.value (a.eval (.tmp d0))) w:=fun a=>by
  obtain⟨dst,op,ty,pos,af,g⟩:=o1
  simp only at NW
  subst NW
  rfl
 have e0:({tmps:=T,defers:=[]}:Act).put o0.dst x={tmps:=T.setIfInBounds d0 x,defers:=[]}:=by rw[WN];rfl
 have e1:({tmps:=T.setIfInBounds d0 x,defers:=[]}:Act).put o1.dst x={tmps:=(T.setIfInBounds d0 x).setIfInBounds d1 x,defers:=[]}:=by rw[WO];rfl
 have U5:({tmps:=T.setIfInBounds d0 x,defers:=[]}:Act).eval (.tmp d0)=x:=by simp[Act.eval,CS,hd.1]
 have Od:wpOpsSIn Fence.wide 2 P #[o0,o1] (Exit.thenS (c2.wpSIn Fence.wide 2 P (bodyPostS P fn nL cs fun e u' w'=>∃H' φ' I' x,RD H'/\e= .returned x/\settle u'= .returning/\St ⟨w,cZ φ,I,φ,bD H⟩ φ' I' H' w')) (bodyPostS P fn nL cs fun e u' w'=>∃H' φ' I' x,RD H'/\e= .returned x/\settle u'= .returning/\St ⟨w,cZ φ,I,φ,bD H⟩ φ' I' H' w')) [1] (({tmps:=T,defers:=[]}:Act).put o0.dst x) sD w:=by
  simp only[wpOpsSIn,List.getElem?_toArray,List.getElem?_cons_zero,List.getElem?_cons_succ]
  refine⟨fun _ _=>trivial,?_⟩
  rw[if_pos (by simp[Region.wanted,oY]),Ww,e0,U5]
  show Exit.thenS _ _ Exit.normal (({tmps:=T.setIfInBounds d0 x,defers:=[]}:Act).put o1.dst x) sD w
  rw[e1]
  exact qa
 show wpOpsSIn Fence.wide 2 P #[o0,o1] _ [0,1] _ (nL::cs) w
 rw[wpOpsSIn]
 have Db:(#[o0,o1]:Array Oper)[0]?=some o0:=rfl
 rw[Db]
 refine⟨fun _ _=>trivial,?_⟩
 rw[if_pos (by simp[Region.wanted,C8]),Dv]
 cases r with
 |none=>
  simp only[x9]at w_
  have gB:recoverD (nL::cs)=none:=by simp[recoverD,w_]
  simp only at hx p9
  subst hx
  subst p9
  show(match recoverD (nL::cs)with|some (v,cs')=>_|none=>_)
  rw[gB]
  exact Od
 |some r0=>
  simp only[x9]at w_
  have gB:recoverD (nL::cs)=some (v,{nL with mode:= .panicking [{v:=v,recovered:=true}]}::cs):=by simp[recoverD,w_]
  simp only at hx p9
  subst hx
  subst p9
  show(match recoverD (nL::cs)with|some (v,cs')=>_|none=>_)
  rw[gB]
  exact Od
end
def EW:TK->Bool
 | .iface=>false
 | .other=>false
 |_=>true
theorem Sl {P:Program} {t:TypeId} (h:EW (tk P t)=true):∃u,P.underlying t=some u/\∀m,u≠ .interface m:=by
 unfold tk at h
 cases hu:P.underlying t with
 |none=>rw[hu]at h;cases h
 |some u=>
  refine⟨u,rfl,fun m e=>?_⟩
  subst e
  rw[hu]at h
  cases h
section
variable {C:Cx} {K:List PK} {E:Env} {H:aa}
theorem AQ.iface {ds:List (Nat×Nat)} {i:Nat} {d:Option Nat} {ty t:TypeId} {pos:String} {af:Array Edge} {os:List Oper} {x:Operand} {y:AV}
  (ah:ba C.n ({dst:=d,op:= .makeInterface t x,type:=ty,pos:=pos,after:=af,guard:=none}::os)=true)
  (hx:ev E x=some y) (hg:y.g=true) (ht:EW (tk C.P t)=true)
  (h:vq C K os (aZ d i ds) (i+1) (a7 d (.wr (.iface t) y.st) E) H):
  AQ C ds i ({dst:=d,op:= .makeInterface t x,type:=ty,pos:=pos,after:=af,guard:=none}::os) K E H:=by
 obtain⟨hd,b7⟩:=ef ah
 have bm:=AQ.go b7 h
 unfold AQ at bm⊢
 refine AO.step (o:={dst:=d,op:= .makeInterface t x,type:=ty,pos:=pos,after:=af,guard:=none}) fun ops φ I a w aV _ hs Kn bG=>?_
 rw[if_pos (by simp[Region.wanted])]
 have hv:=nO hs.env [x] [y] (by simp[eB,hx]) (by simp[gs,hg])
 simp only[List.map_cons,List.map_nil,AV.ab]at hv
 obtain⟨v0,JY,h0,hv,_⟩:=hv
 cases h0
 obtain⟨u,hu,Hq⟩:=Sl ht
 have aF:(execOp a.eval {dst:=d,op:= .makeInterface t x,type:=ty,pos:=pos,after:=af,guard:=none}).run C.P w= .ok (.value (.iface t (a.eval x))) w:=by
  have e:execOp a.eval {dst:=d,op:= .makeInterface t x,type:=ty,pos:=pos,after:=af,guard:=none}=(do pure (.value (<-Instr.makeInterface t (a.eval x))):Sem Next):=rfl
  rw[e]
  unfold Instr.makeInterface
  cases u<;>first|exact absurd rfl (Hq _)|simp[run_underlying hu]
 unfold Oper.wp
 rw[aF,Oper.upon_value]
 exact bG _ _ φ I _ _ bm (hs.put hs.st (bE.refl w φ I) hd ⟨_,rfl,hv⟩)
theorem xI {ds:List (Nat×Nat)} {i:Nat} {d:Option Nat} {ty t:TypeId} {pos:String} {af:Array Edge} {os:List Oper} {x:Operand} {y:AV}
  (h:vq C K os (aZ d i ds) (i+1) (a7 d (.wr (.iface t) y.st) E) H)
  (ah:ba C.n ({dst:=d,op:= .makeInterface t x,type:=ty,pos:=pos,after:=af,guard:=none}::os)=true:=by kernel_rfl)
  (hx:ev E x=some y:=by exact rfl) (hg:y.g=true:=by exact rfl) (ht:EW (tk C.P t)=true:=by exact rfl):
  AQ C ds i ({dst:=d,op:= .makeInterface t x,type:=ty,pos:=pos,after:=af,guard:=none}::os) K E H:=AQ.iface ah hx hg ht h
theorem AQ.TU {ds:List (Nat×Nat)} {i:Nat} {d:Option Nat} {ty t xt:TypeId} {pos:String} {af:Array Edge} {os:List Oper} {x:Operand} {y:AV}
  (ah:ba C.n ({dst:=d,op:= .typeAssert x xt t true,type:=ty,pos:=pos,after:=af,guard:=none}::os)=true)
  (hx:ev E x=some (.wr (.iface t) y)) (ht:EW (tk C.P t)=true)
  (h:vq C K os (aZ d i ds) (i+1) (a7 d (.aI [y,.im (.v (.bool true))]) E) H):
  AQ C ds i ({dst:=d,op:= .typeAssert x xt t true,type:=ty,pos:=pos,after:=af,guard:=none}::os) K E H:=
 AQ.val (.aI [y,.im (.v (.bool true))]) ah rfl (fun φ I a w hs=>by
  have hv:=aO hs.env hx
  simp only[AV.den,WK.rel]at hv
  obtain⟨v,hu,hv⟩:=hv
  obtain⟨u,Ye,Hq⟩:=Sl ht
  refine⟨.tuple #[v,.bool true],?_,?_⟩
  ·have e:execOp a.eval {dst:=d,op:= .typeAssert x xt t true,type:=ty,pos:=pos,after:=af,guard:=none}=(do pure (.value (<-Instr.typeAssert (a.eval x) xt t true)):Sem Next):=rfl
   rw[e,hu]
   unfold Instr.typeAssert
   cases u<;>first|exact absurd rfl (Hq _)|simp[run_underlying Ye]
  ·exact⟨_,⟨v,[.bool true],rfl,hv,.bool true,[],rfl,(by simp only[AV.den,IV.den];exact⟨trivial,rfl⟩),rfl⟩,rfl⟩) h
end
section
variable {P:Program} {Q:Exit->Act->World->Prop} {a:Act} {w:World}
theorem aad {o:Oper} {K:Act->World->Prop} (h:qA P o a w K Q):o.wpIn (Fw none) 3 P a w K Q:=by
 refine⟨fun _ _=>trivial,?_⟩
 have hs:o.semAt (Fw none).round a.eval=execOp a.eval o:=Oper.semAt_none _ _
 rw[hs]
 rcases h with h|⟨l,f,tmps,as,bd,hr,h⟩
 ·unfold Oper.wp at h
  generalize(execOp a.eval o).run P w=q at*
  cases q with
  |ok x w'=>
   cases x<;>simp only[Oper.upon,Oper.uponIn]at h⊢<;>first
    |exact h
    |exact⟨fun h=>(by cases h),FA h⟩
    |exact⟨fun h=>(by cases h),Q4 h⟩
    |exact h.elim
  |halt x w'=>cases x<;>simp only[Oper.upon,Oper.uponIn]at h⊢<;>first|exact h|exact h.elim
 ·rw[hr,Oper.uponIn_round]
  exact⟨fun h=>(by cases h),QZ h⟩
theorem SZ {ops:Array Oper}:∀(l:List Oper) (k:Nat),(∀j,l[j]?=ops[k+j]?)->∀(a:Act) (w:World),h_ P ops Q l a w->wpOpsIn (Fw none) 3 P ops Q (List.range' k l.length) a w
 |[],_,_,_,_,h=>h
 |o::l,k,hl,a,w,h=>by
  have h0:ops[k]?=some o:=by simpa using(hl 0).symm
  have ih:=SZ l (k+1) (fun j=>by have:=hl (j+1);simpa[Nat.add_assoc,Nat.add_comm 1 j]using this)
  rw[List.length_cons,List.range'_succ]
  simp only[wpOpsIn,h0]
  simp only[h_]at h
  split
  ·rename_i hw
   rw[if_pos hw]at h
   exact Oper.wpIn_mono (fun a' w' h'=>ih a' w' h') (aad h)
  ·rename_i hw
   rw[if_neg hw]at h
   exact⟨fun _ _=>trivial,ih _ _ h⟩
theorem acq {id:Nat} {ops:Array Oper} (h:h_ P ops Q ops.toList a w):oE none P (.region id ops false) Q a w:=by
 refine wpIn_region ?_
 have:=SZ (ops:=ops) ops.toList 0 (by simp) a w h
 rwa [Array.length_toList,<-List.range_eq_range']at this
end
section
variable {C:Cx} {K:List PK} {E:Env} {H:aa}
theorem AP.aaR {p:List Nat} {id:Nat} {ops:List Oper} (gB:C.rd=none) (hc:cd C.fn p= .region id ops.toArray false) (h:AQ C [] 0 ops K E H):AP C p K E H:=by
 unfold AP
 rw[hc]
 intro φ I a w hs
 unfold AQ at h
 rw[gB]
 refine acq (h ops.toArray (fun j d hj=>by simp[lk]at hj) (fun j o hj=>?_) φ I a w hs)
 rw[Nat.zero_add]
 simp[hj]
theorem AQ.VA {ds:List (Nat×Nat)} {i:Nat} {o:Oper} {os:List Oper} {sc:Prop} {v:AV} (ah:ba C.n [o]=true) (hg:o.guard=none) (hv:iM C.P E H o.op=some (sc,v)) (aB:sc)
  (h:AQ C (aZ o.dst i ds) (i+1) os K (a7 o.dst v E) H):AQ C ds i (o::os) K E H:=by
 obtain⟨hd,_⟩:=ef ah
 have gy:=h
 unfold AQ at gy⊢
 refine AO.step fun ops φ I a w aV _ hs Kn bG=>?_
 rw[if_pos (by simp[Region.wanted,hg])]
 obtain⟨u,hu,aX⟩:=yX hs.env hs.st.real hv aB
 unfold Oper.wp
 rw[hu,Oper.upon_value]
 exact bG _ _ φ I _ _ gy (hs.put hs.st (bE.refl _ _ _) hd aX)
end
section
variable {C:Cx} {K:List PK} {E:Env} {H:aa}
end
section
variable {C:Cx} {K:List PK} {E:Env} {H:aa}
end
section
variable {C:Cx} {K:List PK} {E:Env} {H:aa}
theorem AE.O6 {C0:Cx} {e:Exit} (he:e= .ret\/e= .normal) (aV:C.ds=[none]) (h:LV C E H) (hC:oJ C0=oJ C:=by rfl):AE C e [.bot (oJ C0)] E H:=by
 unfold AE
 intro φ I a w hs
 obtain⟨ms,g1,g2,g3,g4⟩:=hs.bF
 have vb:=g4 (by rw[aV];simp)
 have uR:a.defers=[]:=by rw[g1,vb,aV];rfl
 rw[hC]
 have:=h φ I a w hs.st hs.env
 rw[<-uR]at this
 rcases he with rfl|rfl<;>exact this
end
theorem an {a b:Prop} (x:a) (y:b):a/\b:=⟨x,y⟩
theorem gO {p q:Prop} (hq:q) (h:q->p:=by
 intro hq
 repeat(first|refine xA ?_|refine xB ?_|refine xC ?_|refine xE ?_|refine xD ?_|refine xK ?_|refine xS ?_|refine xM ?_|refine xT ?_|refine xF ?_|((first|refine xR ?_|refine xW ?_|refine gJ ?_);simp only[go_sem,Nat.reduceAdd,Nat.reduceLeDiff,Nat.reduceSub,Int.reduceToNat,reduceCtorEq])|(refine⟨by clear hq;first|omega|(intros;simp_all;done)|(intros;simp_all;omega),?_⟩;try simp only[go_sem,Nat.reduceAdd,Nat.reduceLeDiff,Nat.reduceSub,Int.reduceToNat,reduceCtorEq]))
 exact hq):p:=h hq
theorem gE {e p q:Prop} (he:e) (hq:q) (h:e->q->p:=by
 intro he hq
 repeat(first|refine xA ?_|refine xB ?_|refine xC ?_|refine xE ?_|refine xD ?_|refine xK ?_|refine xS ?_|refine xM ?_|refine xT ?_|refine xF ?_|((first|refine xR ?_|refine xW ?_|refine gJ ?_);simp only[go_sem,Nat.reduceAdd,Nat.reduceLeDiff,Nat.reduceSub,Int.reduceToNat,reduceCtorEq,he])|(refine⟨by clear hq;first|omega|(intros;simp_all;done)|(intros;simp_all;omega),?_⟩;try simp only[go_sem,Nat.reduceAdd,Nat.reduceLeDiff,Nat.reduceSub,Int.reduceToNat,reduceCtorEq,he]))
 exact hq):p:=h he hq
theorem sI {p q:Prop} (hq:q) (h:q->p:=by
 intro hq
 simp only[go_sem,Nat.reduceAdd,Nat.reduceLeDiff,Nat.reduceSub,Int.reduceToNat,reduceCtorEq]
 exact hq):p:=h hq
theorem sE {e p q:Prop} (he:e) (hq:q) (h:e->q->p:=by
 intro he hq
 simp only[go_sem,Nat.reduceAdd,Nat.reduceLeDiff,Nat.reduceSub,Int.reduceToNat,reduceCtorEq,he]
 exact hq):p:=h he hq
theorem sH {p q:Prop} (hq:q) (h:q->p:=by
 intro hq
 simp only[go_sem,Nat.reduceAdd,Nat.reduceLeDiff,Nat.reduceSub,Int.reduceToNat,reduceCtorEq,dC,fo,cu,fV]
 exact hq):p:=h hq
section
variable {C:Cx} {K:List PK} {E:Env} {H:aa} {p:List Nat}
theorem cT {t:Tmp} {x y:Code} (ht:AP C (0::p) K E H) (hc:cd C.fn p= .cond (.tmp t) x y:=by exact rfl) (hb:lk E t=some (.im (.v (.bool true))):=by
 simp only[go_sem,Nat.reduceAdd,Nat.reduceLeDiff,Nat.reduceSub,Int.reduceToNat,reduceCtorEq]
 refine congrArg (fun b=>some (AV.im (IV.v (Value.bool b)))) ?_
 (first|(simp only[Bool.or_eq_true,Bool.and_eq_true,Bool.not_eq_true',Bool.not_eq_false',Bool.and_eq_false_iff,Bool.or_eq_false_iff,decide_eq_true_eq,decide_eq_false_iff_not,beq_iff_eq,bne_iff_ne,beq_eq_false_iff_ne,bne_eq_false_iff_eq,ne_eq];omega)|(simp;done)|(simp;omega)|(simp_all;done)|(simp_all;omega))):AP C p K E H:=AP.cond_true hc hb ht
theorem cF {t:Tmp} {x y:Code} (hf:AP C (1::p) K E H) (hc:cd C.fn p= .cond (.tmp t) x y:=by exact rfl) (hb:lk E t=some (.im (.v (.bool false))):=by
 simp only[go_sem,Nat.reduceAdd,Nat.reduceLeDiff,Nat.reduceSub,Int.reduceToNat,reduceCtorEq]
 refine congrArg (fun b=>some (AV.im (IV.v (Value.bool b)))) ?_
 (first|(simp only[Bool.or_eq_true,Bool.and_eq_true,Bool.not_eq_true',Bool.not_eq_false',Bool.and_eq_false_iff,Bool.or_eq_false_iff,decide_eq_true_eq,decide_eq_false_iff_not,beq_iff_eq,bne_iff_ne,beq_eq_false_iff_ne,bne_eq_false_iff_eq,ne_eq];omega)|(simp;done)|(simp;omega)|(simp_all;done)|(simp_all;omega))):AP C p K E H:=AP.cond_false hc hb hf
end
theorem sU {E E':Env} (h:Sub E E':=by repeat(first|exact Sub.nil _|refine Sub.cons rfl ?_)):Sub E E':=h
theorem oF.plain {P:Program} {f:FuncId} {fn:Func} {c:Code} {n nb:Nat} {args:List AV} {H:aa} {RD:aa->Prop} (kp ob:List Nat) (hf:P.funcs[f]?=some fn) (hb:fn.body=some c) (hn:fn.ntmps=n)
  (lx:enters P f=true) (dr:Nat.ble args.length n=true) (hnb:bD H=nb)
  (h:∀(w:World) (own I0:Nat->Prop) (ao:al) (lay:Lay P ⟨w,own,I0,ao,nb⟩),AP ⟨P,fn,n,⟨w,own,I0,ao,nb⟩,kp,ob,fun _ H'=>RD H',none,fun _ _=>False,[none],lay⟩ [] [.bot (y2 ⟨P,fn,n,⟨w,own,I0,ao,nb⟩,kp,ob,fun _ H'=>RD H',none,fun _ _=>False,[none],lay⟩)] (enum 0 args) H):oF P f args H none RD:=by
 refine⟨lx,fun w φ I vs v aX hR hV _=>?_⟩
 subst hnb
 have hl:=jA args vs aX
 have zI:=Nat.le_of_ble_eq_true dr
 have h0:=h w (cZ φ) I φ (hR.lay hV _)
 unfold AP at h0
 simp only[cd,hb,Option.getD_some]at h0
 have xw:=h0 φ I {tmps:=vs.toArray++Array.replicate (fn.ntmps-vs.toArray.size) undef,defers:=[]} w ⟨Marks.nil,by
  simp only[Array.size_append,List.size_toArray,Array.size_replicate,hn];omega,fun i x hx=>by
  obtain⟨j,rfl,hj⟩:=uC args 0 i x hx
  obtain⟨u,hu,dL⟩:=ig args vs j x aX hj
  refine⟨u,?_,dL⟩
  have ag:j<vs.length:=by
   rcases Nat.lt_or_ge j vs.length with h|h
   ·exact h
   ·rw[List.getElem?_eq_none h]at hu;cases hu
  rw[Nat.zero_add,Array.getElem?_append_left (by simpa using ag)]
  simpa using hu,tL hR _⟩
 refine(callsDIn_of_wp (R:=fun e w'=>∃H' φ' I' x,RD H'/\e= .returned x/\St ⟨w,cZ φ,I,φ,bD H⟩ φ' I' H' w') hf hb trivial (Go.wpIn_mono (SX xw) fun e a' w' he=>?_)).mono fun e u' w' ⟨hu,H',φ',I',x,U,h2,h3⟩=>⟨H',φ',I',x,U,h2,by rw[hu];rfl,h3⟩
 cases e with
 |normal=>
  obtain⟨oX,v',jP,rr,H',φ',I',vv,uO,_,_,hS⟩:=he
  exact⟨oX,v',jP,H',φ',I',v',uO,rfl,hS⟩
 |ret=>
  obtain⟨oX,v',jP,rr,H',φ',I',vv,uO,_,_,hS⟩:=he
  exact⟨oX,v',jP,H',φ',I',v',uO,rfl,hS⟩
 |_=>exact he.elim
def fK (a b:IV):Prop:=∀(w:World) (I:Nat->Prop) (u:Value),IV.den w I a u->IV.den w I b u
def mD (a b:List IV):Prop:=∀(w:World) (I:Nat->Prop) (us:List Value),IV.ab w I a us->IV.ab w I b us
def c6 (a b:AV):Prop:=∀(w:World) (φ:al) (I:Nat->Prop) (u:Value),AV.den w φ I a u->AV.den w φ I b u
theorem fK.refl (a:IV):fK a a:=fun _ _ _ h=>h
theorem c6.refl (a:AV):c6 a a:=fun _ _ _ _ h=>h
theorem mD.refl (a:List IV):mD a a:=fun _ _ _ h=>h
theorem mE.refl (a:List (List IV)):mE a a:=fun _ _ _ h=>h
theorem fK.nil (es:Nat):fK (.v (.slice none 0 0)) (.sl es []):=fun w I u h=>Ja h
theorem mD.cons {x y:IV} {l m:List IV} (h:fK x y) (h':mD l m):mD (x::l) (y::m):=fun w I us hd=>by
 simp only[IV.ab]at hd⊢
 obtain⟨u,au,e,U,h2⟩:=hd
 exact⟨u,au,e,h w I u U,h' w I au h2⟩
theorem mE.cons {x y:List IV} {l m:List (List IV)} (h:mD x y) (h':mE l m):mE (x::l) (y::m):=fun w I us hd=>by
 simp only[IV.aM]at hd⊢
 obtain⟨u,au,e,U,h2⟩:=hd
 exact⟨u,au,e,h w I u U,h' w I au h2⟩
theorem FT {w:World} {I:Nat->Prop}:∀(l:List (List IV)) (us:List (List Value)),IV.aM w I l us->us.length=l.length
 |[],us,h=>by simp only[IV.aM]at h;subst h;rfl
 |x::l,us,h=>by
  simp only[IV.aM]at h
  obtain⟨u,au,rfl,_,h2⟩:=h
  simp[FT l au h2]
theorem fK.sl {es:Nat} {l m:List (List IV)} (h:mE l m):fK (.sl es l) (.sl es m):=fun w I u hd=>by
 simp only[IV.den]at hd⊢
 obtain⟨p,c,ae,e,hc,U,h2,h3⟩:=hd
 have hm:=h w I ae U
 have hl:l.length=m.length:=by rw[<-FT l ae U,<-FT m ae hm]
 refine⟨p,c,ae,by rw[<-hl];exact e,by omega,hm,h2,fun aK=>h3 fun o9=>aK ?_⟩
 subst o9
 exact List.eq_nil_of_length_eq_zero hl.symm
theorem c6.im {a b:IV} (h:fK a b):c6 (.im a) (.im b):=fun w φ I u hd=>by
 simp only[AV.den]at hd⊢;exact h w I u hd
theorem bP.k6 {x y:AV} {l m:List AV} (h:c6 x y) (h':bP l m):bP (x::l) (y::m):=fun w φ I us hd=>by
 simp only[AV.ab]at hd⊢
 obtain⟨u,au,e,U,h2⟩:=hd
 exact⟨u,au,e,h w φ I u U,h' w φ I au h2⟩
theorem c6.agg {l m:List AV} (h:bP l m):c6 (.agg l) (.agg m):=fun w φ I u hd=>by
 simp only[AV.den]at hd⊢
 obtain⟨us,U,h2⟩:=hd
 exact⟨us,h w φ I us U,h2⟩
theorem c6.aI {l m:List AV} (h:bP l m):c6 (.aI l) (.aI m):=fun w φ I u hd=>by
 simp only[AV.den]at hd⊢
 obtain⟨us,U,h2⟩:=hd
 exact⟨us,h w φ I us U,h2⟩
theorem ai.qT {P:Program} {f:FuncId} {xs ys:List AV} {H:aa} {R:AV->aa->Prop} (h:ai P f ys H R) (hl:bP xs ys):ai P f xs H R:=
 ⟨h.gN,fun w φ I vs hd hR hV=>h.run w φ I vs (hl w φ I vs hd) hR hV⟩
theorem dJ.qT {P:Program} {f:FuncId} {xs ys:List AV} {H:aa} {R X:AV->aa->Prop} (h:dJ P f ys H R X) (hl:bP xs ys):dJ P f xs H R X:=
 ⟨h.gN,fun w φ I vs hd hR hV=>h.run w φ I vs (hl w φ I vs hd) hR hV⟩
theorem aS.qT {P:Program} {f:FuncId} {xs ys:List AV} {r:AV} (h:aS P f ys r) (hl:bP xs ys):aS P f xs r:=ai.qT h hl
theorem YC {w:World} {I:Nat->Prop}:∀{x:IV} {u:Value},IV.den w I x u->u.oneCell'=true
 | .v x,u,h=>by simp only[IV.den]at h;rw[h.1];exact h.2
 | .sl es rows,u,h=>by
  simp only[IV.den]at h
  obtain⟨p,c,ae,rfl,_⟩:=h
  rfl
 | .pt cs,u,h=>by
  simp only[IV.den]at h
  obtain⟨g,off,us,rfl,_⟩:=h
  rfl
 | .fn f fs aN,u,h=>by
  simp only[IV.den]at h
  obtain⟨us,vs,_,_,rfl⟩:=h
  rfl
theorem OG {w:World} {I:Nat->Prop}:∀(cs:List IV) (us:List Value),IV.ab w I cs us->∀x∈us,x.oneCell'=true
 |[],us,h,x,hx=>by simp only[IV.ab]at h;subst h;cases hx
 |c::cs,us,h,x,hx=>by
  simp only[IV.ab]at h
  obtain⟨u,au,rfl,U,h2⟩:=h
  rcases List.mem_cons.1 hx with rfl|hx
  ·exact YC U
  ·exact OG cs au h2 x hx
theorem OF {w:World} {φ:al} {I:Nat->Prop}:∀(cs:List IV) (us:List Value),IV.ab w I cs us->AV.ab w φ I (cs.map .im) us
 |[],us,h=>by simp only[IV.ab]at h;subst h;rfl
 |c::cs,us,h=>by
  simp only[IV.ab]at h
  obtain⟨u,au,rfl,U,h2⟩:=h
  exact⟨u,au,rfl,by simp only[AV.den];exact U,OF cs au h2⟩
theorem c6.ar (cs:List IV):c6 (.ar cs) (.agg (cs.map .im)):=fun w φ I u hd=>by
 simp only[AV.den]at hd⊢
 obtain⟨us,U,h2⟩:=hd
 exact⟨us,OF cs us U,h2,OG cs us U⟩
end Go.AL
end
section
namespace Go.AL
open Go Go.Sort Go.Proofs
abbrev tT (l:List (List UInt8)):List (List IV):=l.map fun s=>[IV.v (.string (BA s))]
theorem RV {w:World} {I:Nat->Prop}:∀(l:List (List UInt8)) (ae:List (List Value)),IV.aM w I (tT l) ae->ae.flatten=l.map encStr
 |[],ae,h=>by simp only[tT,List.map_nil,IV.aM]at h;subst h;rfl
 |x::l,ae,h=>by
  simp only[tT,List.map_cons,IV.aM,IV.ab,IV.den]at h
  obtain⟨u,au,rfl,⟨v,vs,rfl,⟨rfl,_⟩,rfl⟩,h2⟩:=h
  have:=RV l au h2
  simp only[List.flatten_cons,List.map_cons,this]
  rfl
theorem RU {w:World} {I:Nat->Prop}:∀(l:List (List UInt8)),IV.aM w I (tT l) (l.map fun s=>[encStr s])
 |[]=>by simp only[tT,List.map_nil,IV.aM]
 |x::l=>by
  simp only[tT,List.map_cons,IV.aM,IV.ab,IV.den]
  exact⟨_,_,rfl,⟨_,_,rfl,⟨rfl,rfl⟩,rfl⟩,RU l⟩
theorem Mh:∀m:List (List UInt8),(m.map fun s=>[encStr s]).flatten=m.map encStr
 |[]=>rfl
 |x::r=>by rw[List.map_cons,List.flatten_cons,Mh r];rfl
theorem aaG (l m:List (List UInt8)) (rest:List Value) (h:m.length=l.length):putCells encStr 0 m.toArray (l.map encStr++rest).toArray=(m.map encStr++rest).toArray:=by
 apply Array.ext_getElem?
 intro k
 unfold putCells
 rw[Array.getElem?_mapIdx,List.getElem?_toArray,List.getElem?_toArray]
 rcases Nat.lt_or_ge k m.length with hk|hk
 ·rw[List.getElem?_append_left (by simp;omega),List.getElem?_append_left (by simpa using hk),List.getElem?_map,List.getElem?_map,List.getElem?_eq_getElem (by omega),List.getElem?_eq_getElem hk]
  simp[hk]
 ·rw[List.getElem?_append_right (by simp;omega),List.getElem?_append_right (by simpa using hk)]
  simp only[List.length_map,h]
  cases rest[k-l.length]? with
  |none=>rfl
  |some x=>simp;omega
theorem Nr (w:World) (g:Nat) (n:Nat) (d:Array (List UInt8)) (os:Array Obj) (k:Nat) (hk:k<w.heap.size):(grow (putRow encStr (Sort.ahead w n) g 0 d) os).heap[k]?=if g=k then(w.heap[k]?).map (onCells (putCells encStr 0 d))else w.heap[k]?:=by
 rw[heap_grow_old _ _ (by show k<(w.heap.modify g _).size;simpa using hk)]
 show(w.heap.modify g (onCells (putCells encStr 0 d)))[k]?=_
 rw[Array.getElem?_modify]
theorem St.putRow {w:World} {φ:al} {I:Nat->Prop} {el:TypeId} {l m:List (List UInt8)} (hR:Real w φ I [(0,.vec el 1 (tT l))]) {g:Nat} (hg:φ 0=some (some g)) (h:m.length=l.length) (n:Nat) (os:Array Obj):
  St ⟨w,cZ φ,I,φ,1⟩ φ I [(0,.vec el 1 (tT m))] (grow (putRow encStr (Sort.ahead w n) g 0 m.toArray) os):=by
 have aU:=hR.own 0 _ (some g) rfl hg
 simp only[Ob.at]at aU
 rcases aU with⟨U,_⟩|⟨g',ae,rest,e,hh,hd,_⟩
 ·cases U
 cases e
 have ej:=RV l ae hd
 rw[ej]at hh
 have bm:=hR.off 0 g hg
 have aT:w.heap.size<=(grow (Sort.putRow encStr (Sort.ahead w n) g 0 m.toArray) os).heap.size:=by
  rw[size_grow]
  show w.heap.size<=(w.heap.modify g _).size+_
  simp
 have nY:∀k,k<w.heap.size->k≠g->(grow (Sort.putRow encStr (Sort.ahead w n) g 0 m.toArray) os).heap[k]?=w.heap[k]?:=fun k hk aK=>by
  rw[Nr w g n _ os k hk,if_neg (fun e=>aK e.symm)]
 have mT:(grow (Sort.putRow encStr (Sort.ahead w n) g 0 m.toArray) os).heap[g]?=some (.cells (m.map encStr++rest).toArray el (0,0)):=by
  rw[Nr w g n _ os g bm.2,if_pos rfl,hh]
  show some (onCells (putCells encStr 0 m.toArray) (.cells (l.map encStr++rest).toArray el (0,0)))=_
  rw[onCells,aaG l m rest h]
 refine⟨⟨fun b=>?_,fun b o p hl hp=>?_,fun b g2 hb=>⟨(hR.off b g2 hb).1,Nat.lt_of_lt_of_le (hR.off b g2 hb).2 aT⟩,hR.inj,fun g2 hi=>Nat.lt_of_lt_of_le (hR.bN g2 hi) aT⟩,
  ⟨aT,fun k hk a_=>nY k hk fun e=>a_ ⟨0,e▸hg⟩,fun k c e fz hc=>?_,rfl,rfl,rfl⟩,fun b g2 hb=> .inl ⟨b,hb⟩,fun g2 hi=> .inl hi,fun g2 hi=>hi,fun b p o _ h0 _=>h0⟩
 ·have:=hR.bj b
  simp only[lk]at this⊢
  cases hb:Nat.beq 0 b with
  |true=>rw[hb]at this;simpa using this
  |false=>rw[hb]at this;simpa using this
 ·simp only[lk]at hl
  cases hb:Nat.beq 0 b with
  |true=>
   rw[hb]at hl
   have:=Nat.eq_of_beq_eq_true hb
   subst this
   rw[hg]at hp
   cases hp
   simp only[cond_true,Option.some.injEq]at hl
   subst hl
   simp only[Ob.at]
   refine .inr ⟨g,m.map fun s=>[encStr s],rest,rfl,?_,RU m,fun vs hv=>?_⟩
   ·rw[mT]
    rw[Mh]
   ·obtain⟨s,_,rfl⟩:=List.mem_map.1 hv;rfl
  |false=>rw[hb]at hl;cases hl
 ·rcases Nat.lt_or_ge k w.heap.size with hk|hk
  ·by_cases Aa:k=g
   ·subst Aa
    rw[hh]at hc
    cases hc
    exact⟨_,_,mT,by simp[h]⟩
   ·exact⟨c,fz,(nY k hk Aa).trans hc,rfl⟩
  ·rw[Array.getElem?_eq_none hk]at hc;cases hc
end Go.AL
end
section
namespace Go.AL
open Go
section
variable {C:Cx} {K:List PK} {E:Env} {H:aa}
theorem AQ.Qp {ds:List (Nat×Nat)} {i:Nat} {os:List Oper} {t:Nat} {x:AV} (h:AQ C ds i os K ((t,x)::E) H):AQ C ds i os K ((t,.opt true x)::E) H:=
 AQ.imp (E':=a7 (some t) x E) (fun _ _ _ _ he=>Be (d:=some t) (x:= .opt true x) (fun _ hu=>by simp only[AV.den]at hu;exact hu.1 trivial) he) h
theorem AQ.J9 {ds:List (Nat×Nat)} {i:Nat} {os:List Oper} {E':Env} (h:AQ C ds i os K E' H) (hE:Sub E E'):AQ C ds i os K E H:=by
 unfold AQ at h⊢
 intro ops U h2 φ I a w hs
 exact h ops U h2 φ I a w (hs.sub hE)
end
section
variable {C:Cx} {K:List PK} {E:Env} {H:aa}
theorem AQ.opt (t:Nat) {ds:List (Nat×Nat)} {i:Nat} {os:List Oper} {x:AV} (hl:lk E t=some (.opt true x)) (h:AQ C ds i os K ((t,x)::E) H):AQ C ds i os K E H:=
 AQ.imp (E':=(t,x)::E) (fun w φ I a he j y hj=>by
  by_cases o5:j=t
  ·subst o5
   rw[lk,Nat.beq_refl,cond_true]at hj
   obtain⟨u,hu,hd⟩:=he j _ hl
   simp only[AV.den]at hd
   cases hj
   exact⟨u,hu,hd.1 trivial⟩
  ·have:Nat.beq t j=false:=by
    cases hb:Nat.beq t j with
    |false=>rfl
    |true=>exact absurd (Nat.eq_of_beq_eq_true hb).symm o5
   have kE:lk E j=some y:=by
    rw[lk]at hj
    first|(rw[this]at hj;exact hj)|(have t2:Nat.beq j t=false:=by(cases hb:Nat.beq j t with|false=>rfl|true=>exact absurd (Nat.eq_of_beq_eq_true hb) o5);rw[t2]at hj;exact hj)
   exact he j y kE) h
end
end Go.AL
end
section
namespace Go.AL
open Go Go.MapKept
def gn:List Value->List Nat->List Value->List MapEntry
 |k::ks,b::bs,u::us=>{key:=k,val:=u,born:=b}::gn ks bs us
 |_,_,_=>[]
theorem Kd:∀l:List MapEntry,gn (l.map (·.key)) (l.map (·.born)) (l.map (·.val))=l
 |[]=>rfl
 |e::l=>by simp only[List.map_cons,gn,Kd l]
theorem yM:∀(ks:List Value) (bs:List Nat) (us:List Value),ks.length=bs.length->us.length=bs.length->(gn ks bs us).map (·.born)=bs
 |[],[],[],_,_=>rfl
 |k::ks,b::bs,u::us,U,h2=>by
  simp only[List.length_cons]at U h2
  simp only[gn,List.map_cons,yM ks bs us (by omega) (by omega)]
theorem Fc:∀(ks:List Value) (bs:List Nat) (us:List Value),ks.length=bs.length->us.length=bs.length->(gn ks bs us).map (·.key)=ks
 |[],[],[],_,_=>rfl
 |k::ks,b::bs,u::us,U,h2=>by
  simp only[List.length_cons]at U h2
  simp only[gn,List.map_cons,Fc ks bs us (by omega) (by omega)]
theorem Fe:∀(ks:List Value) (bs:List Nat) (us:List Value),ks.length=bs.length->us.length=bs.length->(gn ks bs us).map (·.val)=us
 |[],[],[],_,_=>rfl
 |k::ks,b::bs,u::us,U,h2=>by
  simp only[List.length_cons]at U h2
  simp only[gn,List.map_cons,Fe ks bs us (by omega) (by omega)]
theorem S4 {ks:List Value} {bs:List Nat} {us:List Value} (U:ks.length=bs.length) (h2:us.length=bs.length) {j:Nat} {e:MapEntry} (h:(gn ks bs us)[j]?=some e):ks[j]?=some e.key/\bs[j]?=some e.born/\us[j]?=some e.val:=by
 refine⟨?_,?_,?_⟩
 ·rw[<-Fc ks bs us U h2,List.getElem?_map,h];rfl
 ·rw[<-yM ks bs us U h2,List.getElem?_map,h];rfl
 ·conv=>lhs;rw[<-Fe ks bs us U h2]
  rw[List.getElem?_map,h];rfl
def lK (ks:List Value) (bs:List Nat) (clock:Nat) (us:List Value):Obj:= .map (gn ks bs us).toArray clock
def kJ (since:Nat) (seen:List Nat) (c:Nat) (us:List Value):Obj:= .mapIter (match us with|[.map m]=>m|_=>none) since seen.toArray c
theorem ZD (ks:List Value) (bs:List Nat) (clock:Nat) (us:List Value):yO (lK ks bs clock us):= .inl ⟨_,_,rfl⟩
theorem Il (since:Nat) (seen:List Nat) (c:Nat) (us:List Value):yO (kJ since seen c us):= .inr ⟨_,_,_,_,rfl⟩
structure qP (ks:List Value) (bs:List Nat) (clock:Nat):Prop where
 len:ks.length=bs.length
 nd:bs.Nodup
 lt:∀n∈bs,n<clock
section
variable {C:Cx} {K:List PK} {E:Env} {H:aa}
theorem AQ.sd (R:AV->aa->Prop) {ds:List (Nat×Nat)} {i:Nat} {o:Oper} {os:List Oper} (ah:ba C.n (o::os)=true) (hg:o.guard=none)
  (hex:∀φ I a w,bB C φ I E H a w->∃x H' u w' φ' I',R x H'/\(execOp a.eval o).run C.P w= .ok (.value u) w'/\AV.den w' φ' I' x u/\St C.B φ' I' H' w'/\bE w φ I w' φ' I')
  (h:∀x H',R x H'->vq C K os (aZ o.dst i ds) (i+1) (a7 o.dst x E) H'):AQ C ds i (o::os) K E H:=by
 obtain⟨hd,b7⟩:=ef ah
 have bm:=fun x H' hx=>AQ.go b7 (h x H' hx)
 unfold AQ at bm⊢
 refine AO.step (o:=o) fun ops φ I a w aV _ hs Kn bG=>?_
 have hw:Region.wanted o (yielded ops a.tmps)=true:=by simp[Region.wanted,hg]
 rw[if_pos hw]
 obtain⟨x,H',u,w',φ',I',hx,aF,aX,hS,hK⟩:=hex φ I a w hs
 unfold Oper.wp
 rw[aF,Oper.upon_value]
 exact bG _ _ φ' I' _ _ (bm x H' hx) (hs.put hS hK hd aX)
theorem St.drew {B:Bs} {φ:al} {I:Nat->Prop} {w:World} (h:St B φ I H w):St B φ I H w.drew/\bE w φ I w.drew φ I:=by
 have hx:Ext (fun _=>False) w w.drew:=⟨Nat.le_refl _,fun _ _ _=>rfl,fun _ c _ fz h=>⟨c,fz,h,rfl⟩,rfl,rfl,rfl⟩
 have k:bE w φ I w.drew φ I:=⟨fun _ _=>rfl,fun _ h=>h,fun _ _ h=>h,fun _ g n _ hs=>hx.shaped (fun h=>h) hs⟩
 refine⟨⟨⟨h.real.bj,fun b' o' p hl hp=>?_,fun b' g hp=>h.real.off b' g hp,h.real.inj,h.real.bN⟩,h.ext.trans hx (fun g hf=>hf.elim),h.cf,h.dj,h.cC,h.cP⟩,k⟩
 exact Ob.k5 k.im k.I k.phi k.sh (fun g hg=>rfl) (h.real.own b' o' p hl hp)
theorem St.aaK {B:Bs} {φ:al} {I:Nat->Prop} {w:World} {l:Nat} {o0 o':Obj} (h:St B φ I H w) {b:Nat} (hb:φ b=some (some l)) (hl:w.heap[l]?=some o0) (hm:yO o0) {qB ob:Ob} (gz:lk H b=some qB)
  (aU:(∀x u,AV.den w φ I x u->AV.den (w.putObj l o') φ I x u)->(w.putObj l o').heap[l]?=some o'->ob.at (w.putObj l o') φ I (some l)):
  St B φ I (aR H b ob) (w.putObj l o')/\bE w φ I (w.putObj l o') φ I:=by
 have hI:¬I l:=(h.real.off b l hb).1
 have ag:l<w.heap.size:=(h.real.off b l hb).2
 have ve:∀c e fz,o0≠ .cells c e fz:=fun c e fz=>by rcases hm with⟨_,_,rfl⟩|⟨_,_,_,_,rfl⟩<;>exact fun h=>by cases h
 have hx:Ext (fun g=>g=l) w (w.putObj l o'):=
  ⟨by simp,fun g _ hn=>World.putObj_heap_other hn,fun g c e fz hc=>⟨c,fz,(World.putObj_heap_other (fun e2=>by subst e2;rw[hl]at hc;cases hc;exact ve _ _ _ rfl)).trans hc,rfl⟩,rfl,rfl,rfl⟩
 have k:bE w φ I (w.putObj l o') φ I:=by
  refine⟨fun g hg=>World.putObj_heap_other (fun e=>hI (e▸hg)),fun _ h=>h,fun _ _ h=>h,fun _ g n _ hs=>?_⟩
  obtain⟨c,e,hc,hn⟩:=hs
  have hg:g≠l:=fun e2=>by subst e2;rw[hl]at hc;cases hc;exact ve _ _ _ rfl
  exact⟨c,e,(World.putObj_heap_other hg).trans hc,hn⟩
 refine⟨⟨⟨fun b'=>?_,fun b' o p aJ hp=>?_,fun b' g hp=>?_,h.real.inj,fun g hg=>?_⟩,h.ext.trans hx (fun g hg=>by subst hg;exact h.cf b _ hb),h.cf,h.dj,h.cC,fun b' p o mj h0 aJ=>?_⟩,k⟩
 ·by_cases aq:b'=b
  ·subst aq;rw[de H b' _ gz,hb];rfl
  ·rw[cD H b b' _ aq];exact h.real.bj b'
 ·by_cases aq:b'=b
  ·subst aq
   rw[de H b' _ gz]at aJ;cases aJ
   rw[hb]at hp;cases hp
   exact aU (fun x u hx=>k.den hx) (World.putObj_heap_same ag)
  ·rw[cD H b b' _ aq]at aJ
   exact Ob.k5 k.im k.I k.phi k.sh (fun g hg=>World.putObj_heap_other (fun e=>by subst e;subst hg;exact aq (h.real.inj b' b g hp hb))) (h.real.own b' o p aJ hp)
 ·have:=h.real.off b' g hp
  exact⟨this.1,by simpa using this.2⟩
 ·have:=h.real.bN g hg
  simpa using this
 ·by_cases aq:b'=b
  ·subst aq;exact h.cP b' p qB mj h0 gz
  ·rw[cD H b b' _ aq]at aJ;exact h.cP b' p o mj h0 aJ
theorem St.told {B:Bs} {φ:al} {I:Nat->Prop} {w:World} (h:St B φ I H w) {b:Nat} {qB ob:Ob} (gz:lk H b=some qB) (aU:∀p,φ b=some p->qB.at w φ I p->ob.at w φ I p):St B φ I (aR H b ob) w:=by
 refine⟨⟨fun b'=>?_,fun b' o p aJ hp=>?_,h.real.off,h.real.inj,h.real.bN⟩,h.ext,h.cf,h.dj,h.cC,fun b' p o mj h0 aJ=>?_⟩
 ·by_cases aq:b'=b
  ·subst aq
   rw[de H b' _ gz]
   have:=h.real.bj b'
   rw[gz]at this
   exact this
  ·rw[cD H b b' _ aq];exact h.real.bj b'
 ·by_cases aq:b'=b
  ·subst aq
   rw[de H b' _ gz]at aJ;cases aJ
   exact aU p hp (h.real.own b' _ p gz hp)
  ·rw[cD H b b' _ aq]at aJ;exact h.real.own b' o p aJ hp
 ·by_cases aq:b'=b
  ·subst aq;exact h.cP b' p qB mj h0 gz
  ·rw[cD H b b' _ aq]at aJ;exact h.cP b' p o mj h0 aJ
theorem AQ.I5 {ds:List (Nat×Nat)} {i:Nat} {d:Option Nat} {ty t kt et:TypeId} {pos:String} {af:Array Edge} {os:List Oper} {x:Operand} {b:Nat} {ks:List Value} {cs:List AV}
  (ah:ba C.n ({dst:=d,op:= .range t x,type:=ty,pos:=pos,after:=af,guard:=none}::os)=true)
  (hx:ev E x=some (.mp b)) (hH:lk H b=some (.var (.map ks) cs)) (ht:C.P.underlying t=some (.map kt et))
  (h:∀bs clock,qP ks bs clock->vq C K os (aZ d i ds) (i+1) (a7 d (.ob (ay C.B.nb H) 0) E) ((ay C.B.nb H,.var (.raw (kJ clock [] clock)) [.mp b])::aR H b (.var (.raw (lK ks bs clock)) cs))):
  AQ C ds i ({dst:=d,op:= .range t x,type:=ty,pos:=pos,after:=af,guard:=none}::os) K E H:=by
 refine AQ.sd (fun x H'=>∃bs clock,qP ks bs clock/\x= .ob (ay C.B.nb H) 0/\H'=(ay C.B.nb H,.var (.raw (kJ clock [] clock)) [.mp b])::aR H b (.var (.raw (lK ks bs clock)) cs)) ah rfl (fun φ I a w hs=>?_) ?_
 ·obtain⟨g,es,clock,fH,hg,hh,aC,mf,kA⟩:=vG hs.st.real hH (aO hs.env hx)
  have bI:qP ks (es.toList.map (·.born)) clock:=⟨by rw[<-aC];simp,kA.1,fun n hn=>by
   obtain⟨e,he,rfl⟩:=List.mem_map.1 hn
   exact kA.2 e he⟩
  have U:=hs.st.told (ob:= .var (.raw (lK ks (es.toList.map (·.born)) clock)) cs) hH (fun p hp aU=>by
   rw[hg]at hp;cases hp
   simp only[Ob.at,Sh.has,Sh.one]
   exact⟨g,es.toList.map (·.val),rfl,⟨by rw[hh,lK,<-aC,Kd],ZD _ _ _ _⟩,mf,trivial⟩)
  have o_:=dw C.B.nb H
  have fD:lk (aR H b (.var (.raw (lK ks (es.toList.map (·.born)) clock)) cs)) (ay C.B.nb H)=none:=by
   have hn:=lN C.B.nb H
   have aK:ay C.B.nb H≠b:=fun e=>by rw[e,hH]at hn;cases hn
   rw[cD H b _ _ aK];exact hn
  have aF:=run_range_map (P:=C.P) w t kt et g es clock ht hh
  obtain⟨h2,h3⟩:=U.Cg (ob:= .mapIter (some g) clock #[] clock) (o:= .var (.raw (kJ clock [] clock)) [.mp b]) fD o_.1 (by
   have Nb:b≠ay C.B.nb H:=fun e=>by have:=lN C.B.nb H;rw[<-e,hH]at this;cases this
   simp only[Ob.at,Sh.has,Sh.one,AV.ab,AV.den]
   refine⟨_,[.map (some g)],rfl,⟨by simpa[kJ]using iL w _,Il _ _ _ _⟩,⟨_,_,rfl,⟨g,?_,rfl⟩,rfl⟩,trivial⟩
   first
    |exact hg
    |(simp[aY,Nb];exact hg)
    |(simp only[aY];rw[if_neg Nb];exact hg))
  refine⟨.ob (ay C.B.nb H) 0,_,.pointer (some ⟨w.heap.size,0,none⟩),w.alloc (.mapIter (some g) clock #[] clock),_,_,⟨_,_,bI,rfl,rfl⟩,?_,?_,h2,h3⟩
  ·rw[<-fH]at aF
   simp only[execOp,Sem.run_bind,Sem.run_map,aF,Result.andThen_ok,Sem.run_pure]
  ·simp only[AV.den,aY];exact⟨_,by simp,rfl⟩
 ·rintro x H' ⟨bs,clock,U,rfl,rfl⟩
  exact h bs clock U
theorem Zb {es:Array MapEntry} {seen:List Nat} {e:MapEntry} (h:e∈(leftOf es seen.toArray).toList):e∈es.toList/\e.born∉seen:=by
 unfold leftOf at h
 simp at h
 exact⟨by simpa using h.1,h.2⟩
theorem Zc {es:Array MapEntry} {seen:List Nat} (h:(leftOf es seen.toArray).size=0):∀e∈es.toList,e.born∈seen:=fun e he=>by
 unfold leftOf at h
 have U:Array.filter (fun e=>!seen.toArray.contains e.born) es=#[]:=Array.eq_empty_of_size_eq_zero h
 rw[Array.filter_eq_empty_iff]at U
 have:=U e (by simpa using he)
 simpa using this
theorem AQ.IZ {ds:List (Nat×Nat)} {i:Nat} {d:Option Nat} {ty:TypeId} {pos:String} {af:Array Edge} {os:List Oper} {x:Operand} {b it:Nat} {ks:List Value} {cs:List AV} {bs seen:List Nat} {clock since c0:Nat}
  (ah:ba C.n ({dst:=d,op:= .next x false,type:=ty,pos:=pos,after:=af,guard:=none}::os)=true)
  (hx:ev E x=some (.ob it 0)) (hI:lk H it=some (.var (.raw (kJ since seen c0)) [.mp b])) (hH:lk H b=some (.var (.raw (lK ks bs clock)) cs)) (bI:qP ks bs clock) (X5:since=clock) (wS:c0=clock)
  (jJ:∀k∈ks,k.oneCell'=true) (cG:cs.length=bs.length)
  (h0:(∀n∈bs,n∈seen)->vq C K os (aZ d i ds) (i+1) (a7 d (.aI [.im (.v (.bool false))]) E) H)
  (U:∀(j n:Nat) (k:Value) (y:AV),bs[j]?=some n->n∉seen->ks[j]?=some k->cs[j]?=some y->vq C K os (aZ d i ds) (i+1) (a7 d (.aI [.im (.v (.bool true)),.im (.v k),y]) E) (aR H it (.var (.raw (kJ since (seen++[n]) clock)) [.mp b]))):
  AQ C ds i ({dst:=d,op:= .next x false,type:=ty,pos:=pos,after:=af,guard:=none}::os) K E H:=by
 subst X5 wS
 refine AQ.sd (fun x H'=>((∀n∈bs,n∈seen)/\x= .aI [.im (.v (.bool false))]/\H'=H)\/∃(j n:Nat) (k:Value) (y:AV),bs[j]?=some n/\n∉seen/\ks[j]?=some k/\cs[j]?=some y/\x= .aI [.im (.v (.bool true)),.im (.v k),y]/\H'=aR H it (.var (.raw (kJ c0 (seen++[n]) c0)) [.mp b])) ah rfl (fun φ I a w hs=>?_) ?_
 ·have fj:=aO hs.env hx
  simp only[AV.den]at fj
  obtain⟨r,hr,vt⟩:=fj
  have ho:=hs.st.real.own it _ _ hI hr
  simp only[Ob.at,Sh.has,Sh.one,AV.ab,AV.den]at ho
  obtain⟨r',us,vo,⟨mU,_⟩,⟨u,sn,rfl,⟨g,hg,rfl⟩,rfl⟩,_⟩:=ho
  cases vo
  have hm:=hs.st.real.own b _ _ hH hg
  simp only[Ob.at,Sh.has,Sh.one]at hm
  obtain⟨g',us,cN,⟨qf,_⟩,gA,_⟩:=hm
  cases cN
  have cS:=qR gA
  have jH:us.length=bs.length:=by omega
  have fQ:=yM ks bs us bI.len jH
  have hold:∀x∈((gn ks bs us).toArray).toList,x.born<c0:=fun x hx=>bI.lt _ (by rw[<-fQ];exact List.mem_map.2 ⟨x,by simpa using hx,rfl⟩)
  rcases run_next_at (P:=C.P) w ty r g c0 c0 seen.toArray (gn ks bs us).toArray c0 (by rw[mU];rfl) (by rw[qf];rfl) hold (Nat.le_refl _)with⟨hz,aF⟩|⟨e,he,w1,bT,aF⟩
  ·refine⟨_,H,.tuple #[.bool false],w,φ,I,.inl ⟨fun n hn=>?_,rfl,rfl⟩,?_,?_,hs.st,bE.refl w φ I⟩
   ·rw[<-fQ]at hn
    obtain⟨e,he,rfl⟩:=List.mem_map.1 hn
    exact Zc hz e (by simpa using he)
   ·rw[<-vt]at aF
    simp only[execOp,Sem.run_bind,Sem.run_map,aF,Result.andThen_ok,Sem.run_pure]
   ·simp only[AV.den,AV.ab,IV.den];exact⟨_,⟨_,_,rfl,⟨rfl,rfl⟩,rfl⟩,rfl⟩
  ·obtain⟨G0,s6⟩:=Zb he
   have G0:e∈gn ks bs us:=by simpa using G0
   obtain⟨j,hj⟩:=List.mem_iff_getElem?.1 G0
   obtain⟨hk,ei,hv⟩:=S4 bI.len jH hj
   have Nz:j<cs.length:=by
    have:=(List.getElem?_eq_some_iff.1 ei).1
    omega
   obtain⟨v,lD,bc⟩:=ig cs us j cs[j] gA (List.getElem?_eq_getElem Nz)
   rw[hv]at lD
   cases lD
   have n_:Go.ChangeMaps.setBlock w1 r (.mapIter (some g) c0 (seen.toArray.push e.born) c0)=w1.putObj r (.mapIter (some g) c0 (seen.toArray.push e.born) c0):=rfl
   have Oq:St C.B φ I H w1/\bE w φ I w1 φ I:=by
    rcases bT with rfl|rfl
    ·exact⟨hs.st,bE.refl _ φ I⟩
    ·exact hs.st.drew
   have vm:w1.heap[r]?=some (kJ c0 seen c0 [.map (some g)]):=by rcases bT with rfl|rfl<;>exact mU
   obtain⟨h2,h3⟩:=Oq.1.aaK (o':= .mapIter (some g) c0 (seen.toArray.push e.born) c0) (ob:= .var (.raw (kJ c0 (seen++[e.born]) c0)) [.mp b]) hr vm (Il _ _ _ _) hI (fun hd hh=>by
    simp only[Ob.at,Sh.has,Sh.one,AV.ab]
    refine⟨r,[.map (some g)],rfl,⟨by rw[hh,kJ];simp,Il _ _ _ _⟩,⟨_,_,rfl,hd (.mp b) _ ?_,rfl⟩,trivial⟩
    simp only[AV.den];exact⟨g,hg,rfl⟩)
   have jj:bE w φ I (w1.putObj r (.mapIter (some g) c0 (seen.toArray.push e.born) c0)) φ I:=by
    have a1:=Oq.2
    exact⟨fun g hg=>(h3.im g hg).trans (a1.im g hg),fun _ h=>h,fun _ _ h=>h,fun b g n hb cX=>h3.sh b g n hb (a1.sh b g n hb cX)⟩
   refine⟨_,_,.tuple #[.bool true,e.key,e.val],_,φ,I,.inr ⟨j,e.born,e.key,cs[j],ei,s6,hk,List.getElem?_eq_getElem Nz,rfl,rfl⟩,?_,?_,h2,jj⟩
   ·rw[<-vt,n_]at aF
    simp only[execOp,Sem.run_bind,Sem.run_map,aF,Result.andThen_ok,Sem.run_pure]
   ·simp only[AV.den,AV.ab,IV.den]
    exact⟨_,⟨_,_,rfl,⟨rfl,rfl⟩,_,_,rfl,⟨rfl,jJ _ (List.mem_of_getElem? hk)⟩,_,_,rfl,jj.den bc,rfl⟩,rfl⟩
 ·rintro x H' (⟨h2,rfl,rfl⟩|⟨j,n,k,y,h2,h3,h4,h5,rfl,rfl⟩)
  ·exact h0 h2
  ·exact U j n k y h2 h3 h4 h5
theorem AQ.IY {ds:List (Nat×Nat)} {i:Nat} {d:Option Nat} {ty:TypeId} {pos:String} {af:Array Edge} {os:List Oper} {x:Operand} {b it j n:Nat} {ks:List Value} {cs:List AV} {bs seen:List Nat} {clock since:Nat} {k:Value} {y:AV}
  (ah:ba C.n ({dst:=d,op:= .entry x,type:=ty,pos:=pos,after:=af,guard:=none}::os)=true)
  (hx:ev E x=some (.ob it 0)) (hI:lk H it=some (.var (.raw (kJ since (seen++[n]) clock)) [.mp b])) (hH:lk H b=some (.var (.raw (lK ks bs clock)) cs)) (bI:qP ks bs clock)
  (jJ:∀k∈ks,k.oneCell'=true) (cG:cs.length=bs.length) (ei:bs[j]?=some n) (hk:ks[j]?=some k) (hy:cs[j]?=some y)
  (h:vq C K os (aZ d i ds) (i+1) (a7 d (.aI [.im (.v k),y]) E) H):
  AQ C ds i ({dst:=d,op:= .entry x,type:=ty,pos:=pos,after:=af,guard:=none}::os) K E H:=by
 refine AQ.val (.aI [.im (.v k),y]) ah rfl (fun φ I a w hs=>?_) h
 have fj:=aO hs.env hx
 simp only[AV.den]at fj
 obtain⟨r,hr,vt⟩:=fj
 have ho:=hs.st.real.own it _ _ hI hr
 simp only[Ob.at,Sh.has,Sh.one,AV.ab,AV.den]at ho
 obtain⟨r',us,vo,⟨mU,_⟩,⟨u,sn,rfl,⟨g,hg,rfl⟩,rfl⟩,_⟩:=ho
 cases vo
 have hm:=hs.st.real.own b _ _ hH hg
 simp only[Ob.at,Sh.has,Sh.one]at hm
 obtain⟨g',us,cN,⟨qf,_⟩,gA,_⟩:=hm
 cases cN
 have cS:=qR gA
 have jH:us.length=bs.length:=by omega
 have fQ:=yM ks bs us bI.len jH
 obtain⟨v,lD,bc⟩:=ig cs us j y gA hy
 have Xa:j<(gn ks bs us).length:=by
  have:=congrArg List.length fQ
  rw[List.length_map]at this
  have h2:=(List.getElem?_eq_some_iff.1 ei).1
  omega
 obtain⟨e,he⟩:∃e,(gn ks bs us)[j]?=some e:=⟨_,List.getElem?_eq_getElem Xa⟩
 obtain⟨e1,e2,e3⟩:=S4 bI.len jH he
 rw[hk]at e1;cases e1
 rw[ei]at e2;cases e2
 rw[lD]at e3;cases e3
 have aF:=run_entry_at (P:=C.P) w r g since seen.toArray (gn ks bs us).toArray clock e (by rw[mU,kJ];simp) (by rw[qf];rfl) (by simpa using List.mem_of_getElem? he) (by rw[show(gn ks bs us).toArray.toList=gn ks bs us by simp,fQ];exact bI.nd)
 refine⟨.tuple #[e.key,e.val],?_,?_⟩
 ·rw[<-vt]at aF
  simp only[execOp,Sem.run_bind,Sem.run_map,aF,Result.andThen_ok,Sem.run_pure]
 ·simp only[AV.den,AV.ab,IV.den]
  exact⟨_,⟨_,_,rfl,⟨rfl,jJ _ (List.mem_of_getElem? hk)⟩,_,_,rfl,bc,rfl⟩,rfl⟩
theorem St.pz {B:Bs} {φ:al} {I:Nat->Prop} {w:World} (h:St B φ I H w) {b:Nat} {ks:List Value} {bs:List Nat} {clock:Nat} {cs:List AV} (hH:lk H b=some (.var (.raw (lK ks bs clock)) cs)) (bI:qP ks bs clock) (cG:cs.length=bs.length):St B φ I (aR H b (.var (.map ks) cs)) w:=by
 refine h.told hH fun p hp aU=>?_
 simp only[Ob.at,Sh.has,Sh.one]at aU⊢
 obtain⟨g,us,hg,⟨U,_⟩,h2,_⟩:=aU
 have cS:=qR h2
 have jH:us.length=bs.length:=by omega
 have fQ:=yM ks bs us bI.len jH
 refine⟨g,us,hg,⟨(gn ks bs us).toArray,clock,U,by simpa using Fc ks bs us bI.len jH,by simpa using Fe ks bs us bI.len jH,by rw[show(gn ks bs us).toArray.toList=gn ks bs us by simp,fQ];exact bI.nd,fun e he=>bI.lt _ (by rw[<-fQ];exact List.mem_map.2 ⟨e,by simpa using he,rfl⟩)⟩,h2,trivial⟩
theorem AQ.pz {ds:List (Nat×Nat)} {i:Nat} {rest:List Oper} (b:Nat) {ks:List Value} {bs:List Nat} {clock:Nat} {cs:List AV} (hH:lk H b=some (.var (.raw (lK ks bs clock)) cs)) (bI:qP ks bs clock) (cG:cs.length=bs.length) (h:AQ C ds i rest K E (aR H b (.var (.map ks) cs))):AQ C ds i rest K E H:=by
 unfold AQ at h⊢
 exact fun ops U h2 φ I a w hs=>h ops U h2 _ _ _ _ ⟨hs.bF,hs.bC,hs.env,hs.st.pz hH bI cG⟩
theorem AE.pz {e:Exit} (b:Nat) {ks:List Value} {bs:List Nat} {clock:Nat} {cs:List AV} (hH:lk H b=some (.var (.raw (lK ks bs clock)) cs)) (bI:qP ks bs clock) (cG:cs.length=bs.length) (h:AE C e K E (aR H b (.var (.map ks) cs))):AE C e K E H:=by
 unfold AE at h⊢
 exact fun φ I a w hs=>h _ _ _ _ ⟨hs.bF,hs.bC,hs.env,hs.st.pz hH bI cG⟩
theorem AP.pz {p:List Nat} (b:Nat) {ks:List Value} {bs:List Nat} {clock:Nat} {cs:List AV} (hH:lk H b=some (.var (.raw (lK ks bs clock)) cs)) (bI:qP ks bs clock) (cG:cs.length=bs.length) (h:AP C p K E (aR H b (.var (.map ks) cs))):AP C p K E H:=by
 unfold AP at h⊢
 exact fun φ I a w hs=>h _ _ _ _ ⟨hs.bF,hs.bC,hs.env,hs.st.pz hH bI cG⟩
end
end Go.AL
end
section
namespace Go.AL
open Go
section
variable {C:Cx} {K:List PK} {E:Env} {H:aa}
def E4 (C:Cx) (K:List PK) (E:Env) (H:aa) (ds:List (Nat×Nat)) (i:Nat) (o:Oper) (os:List Oper):Prop:=
 match iM C.P (tS E) H o.op with
 |some (sc,v)=>sc/\vq C K os (aZ o.dst i ds) (i+1) (a7 o.dst v E) H
 |none=>False
theorem AQ.E4 {ds:List (Nat×Nat)} {i:Nat} {o:Oper} {os:List Oper} (ah:ba C.n (o::os)=true) (hg:o.guard=none) (h:E4 C K E H ds i o os):AQ C ds i (o::os) K E H:=by
 unfold AL.E4 at h
 split at h
 ·rename_i sc v ha
  exact AQ.val v ah hg (fun φ I a w hs=>yX (L1 hs.env) hs.st.real ha h.1) h.2
 ·exact h.elim
end
attribute [go_sem] E4
end Go.AL
end
section
namespace Go.AL
open Go Go.MapKept
section
variable {C:Cx} {K:List PK} {E:Env} {H:aa}
end
end Go.AL
end
section
namespace Go.AL
open Go Go.Sort Go.Proofs
section
variable {α:Type} {enc:α->Value} {iv:α->IV}
structure BP (enc:α->Value) (iv:α->IV):Prop where
 to:∀{w:World} {I:Nat->Prop} {a:α} {v:Value},IV.den w I (iv a) v->v=enc a
 of:∀{w:World} {I:Nat->Prop} {a:α},IV.den w I (iv a) (enc a)
abbrev gR (iv:α->IV) (l:List α):List (List IV):=l.map fun s=>[iv s]
theorem Gf (hE:BP enc iv) {w:World} {I:Nat->Prop}:∀(l:List α) (ae:List (List Value)),IV.aM w I (gR iv l) ae->ae.flatten=l.map enc
 |[],ae,h=>by simp only[gR,List.map_nil,IV.aM]at h;subst h;rfl
 |x::l,ae,h=>by
  simp only[gR,List.map_cons,IV.aM,IV.ab]at h
  obtain⟨u,au,rfl,⟨v,vs,rfl,U,rfl⟩,h2⟩:=h
  cases hE.to U
  have:=Gf hE l au h2
  simp only[List.flatten_cons,List.map_cons,this]
  rfl
theorem MF (hE:BP enc iv) {w:World} {I:Nat->Prop}:∀(l:List α),IV.aM w I (gR iv l) (l.map fun s=>[enc s])
 |[]=>by simp only[gR,List.map_nil,IV.aM]
 |x::l=>by
  simp only[gR,List.map_cons,IV.aM,IV.ab]
  exact⟨_,_,rfl,⟨_,_,rfl,hE.of,rfl⟩,MF hE l⟩
theorem Mf:∀m:List α,(m.map fun s=>[enc s]).flatten=m.map enc
 |[]=>rfl
 |x::r=>by rw[List.map_cons,List.flatten_cons,Mf r];rfl
theorem aaF [Inhabited α] (l m:List α) (rest:List Value) (h:m.length=l.length):putCells enc 0 m.toArray (l.map enc++rest).toArray=(m.map enc++rest).toArray:=by
 apply Array.ext_getElem?
 intro k
 unfold putCells
 rw[Array.getElem?_mapIdx,List.getElem?_toArray,List.getElem?_toArray]
 rcases Nat.lt_or_ge k m.length with hk|hk
 ·rw[List.getElem?_append_left (by simp;omega),List.getElem?_append_left (by simpa using hk),List.getElem?_map,List.getElem?_map,List.getElem?_eq_getElem (by omega),List.getElem?_eq_getElem hk]
  simp[hk]
 ·rw[List.getElem?_append_right (by simp;omega),List.getElem?_append_right (by simpa using hk)]
  simp only[List.length_map,h]
  cases rest[k-l.length]? with
  |none=>rfl
  |some x=>simp;omega
theorem Nq [Inhabited α] (w:World) (g:Nat) (n:Nat) (d:Array α) (os:Array Obj) (k:Nat) (hk:k<w.heap.size):(grow (Sort.putRow enc (Sort.ahead w n) g 0 d) os).heap[k]?=if g=k then(w.heap[k]?).map (onCells (putCells enc 0 d))else w.heap[k]?:=by
 rw[heap_grow_old _ _ (by show k<(w.heap.modify g _).size;simpa using hk)]
 show(w.heap.modify g (onCells (putCells enc 0 d)))[k]?=_
 rw[Array.getElem?_modify]
theorem St.aaI [Inhabited α] (hE:BP enc iv) {w:World} {φ:al} {I:Nat->Prop} {el:TypeId} {l m:List α} (hR:Real w φ I [(0,.vec el 1 (gR iv l))]) {g:Nat} (hg:φ 0=some (some g)) (h:m.length=l.length) (n:Nat) (os:Array Obj):
  St ⟨w,cZ φ,I,φ,1⟩ φ I [(0,.vec el 1 (gR iv m))] (grow (Sort.putRow enc (Sort.ahead w n) g 0 m.toArray) os):=by
 have aU:=hR.own 0 _ (some g) rfl hg
 simp only[Ob.at]at aU
 rcases aU with⟨U,_⟩|⟨g',ae,rest,e,hh,hd,_⟩
 ·cases U
 cases e
 have ej:=Gf hE l ae hd
 rw[ej]at hh
 have bm:=hR.off 0 g hg
 have aT:w.heap.size<=(grow (Sort.putRow enc (Sort.ahead w n) g 0 m.toArray) os).heap.size:=by
  rw[size_grow]
  show w.heap.size<=(w.heap.modify g _).size+_
  simp
 have nY:∀k,k<w.heap.size->k≠g->(grow (Sort.putRow enc (Sort.ahead w n) g 0 m.toArray) os).heap[k]?=w.heap[k]?:=fun k hk aK=>by
  rw[Nq w g n _ os k hk,if_neg (fun e=>aK e.symm)]
 have mT:(grow (Sort.putRow enc (Sort.ahead w n) g 0 m.toArray) os).heap[g]?=some (.cells (m.map enc++rest).toArray el (0,0)):=by
  rw[Nq w g n _ os g bm.2,if_pos rfl,hh]
  show some (onCells (putCells enc 0 m.toArray) (.cells (l.map enc++rest).toArray el (0,0)))=_
  rw[onCells,aaF l m rest h]
 refine⟨⟨fun b=>?_,fun b o p hl hp=>?_,fun b g2 hb=>⟨(hR.off b g2 hb).1,Nat.lt_of_lt_of_le (hR.off b g2 hb).2 aT⟩,hR.inj,fun g2 hi=>Nat.lt_of_lt_of_le (hR.bN g2 hi) aT⟩,
  ⟨aT,fun k hk a_=>nY k hk fun e=>a_ ⟨0,e▸hg⟩,fun k c e fz hc=>?_,rfl,rfl,rfl⟩,fun b g2 hb=> .inl ⟨b,hb⟩,fun g2 hi=> .inl hi,fun g2 hi=>hi,fun b p o _ h0 _=>h0⟩
 ·have:=hR.bj b
  simp only[lk]at this⊢
  cases hb:Nat.beq 0 b with
  |true=>rw[hb]at this;simpa using this
  |false=>rw[hb]at this;simpa using this
 ·simp only[lk]at hl
  cases hb:Nat.beq 0 b with
  |true=>
   rw[hb]at hl
   have:=Nat.eq_of_beq_eq_true hb
   subst this
   rw[hg]at hp
   cases hp
   simp only[cond_true,Option.some.injEq]at hl
   subst hl
   simp only[Ob.at]
   refine .inr ⟨g,m.map fun s=>[enc s],rest,rfl,?_,MF hE m,fun vs hv=>?_⟩
   ·rw[mT]
    rw[Mf]
   ·obtain⟨s,_,rfl⟩:=List.mem_map.1 hv;rfl
  |false=>rw[hb]at hl;cases hl
 ·rcases Nat.lt_or_ge k w.heap.size with hk|hk
  ·by_cases Aa:k=g
   ·subst Aa
    rw[hh]at hc
    cases hc
    exact⟨_,_,mT,by simp[h]⟩
   ·exact⟨c,fz,(nY k hk Aa).trans hc,rfl⟩
  ·rw[Array.getElem?_eq_none hk]at hc;cases hc
end
end Go.AL
end
section
namespace Go.AL
open Go
section
variable {C:Cx} {K:List PK} {E:Env} {H:aa}
theorem AQ.aaO {ds:List (Nat×Nat)} {i:Nat} {d:Nat} {ty:TypeId} {pos:String} {af:Array Edge} {os:List Oper} {x y:Operand} {t e:TypeId} {b n bytes:Nat} {cs:List AV} {zv:AV} {b2:Nat} {e2:TypeId} (hnb:Nat.ble C.B.nb b=true)
  (ah:ba C.n ({dst:=some d,op:= .call {callee:= .builtin .append,args:=#[x,y],argTypes:=#[t,t]},type:=ty,pos:=pos,after:=af,guard:=none}::os)=true)
  (hx:ev E x=some (.os b 1 0 n)) (hy:ev E y=some (.os b2 1 0 1)) (rl:lk H b2=some (.var (.row e2) [zv])) (hH:lk H b=some (.var (.row e) cs)) (a_:noMen b H=true)
  (ht:tk C.P t= .slice e) (b5:sz C.P e=some 1) (hz:(ax C.P e).map List.length=some 1) (fR:aQ C.P e=some bytes)
  (hn:n=cs.length) (cM:(cs.length+1)*bytes<=140737488355328) (iw:cs.length+1<=70368744177664)
  (h:vq C K os ((i,d)::ds) (i+1) ((d,.os b 1 0 (cs.length+1))::killE b E) (aR H b (.var (.row e) (cs++[zv])))):
  AQ C ds i ({dst:=some d,op:= .call {callee:= .builtin .append,args:=#[x,y],argTypes:=#[t,t]},type:=ty,pos:=pos,after:=af,guard:=none}::os) K E H:=by
 obtain⟨hd,b7⟩:=ef ah
 have bm:=AQ.go b7 h
 unfold AQ at bm⊢
 refine AO.step fun ops φ I a w aV _ hs Kn bG=>?_
 rw[if_pos (by simp[Region.wanted])]
 obtain⟨us,iy,hlen,uP⟩:=hs.st.EC hH
 have Dj:lk (aR H b (.vec e 1 (lits us))) b=some (.vec e 1 (lits us)):=de H b _ hH
 have Xs:noMen b (aR H b (.vec e 1 (lits us)))=true:=P9 H a_
 obtain⟨pP,p9,jH,GB⟩:=hs.st.EC rl
 obtain⟨v2,rfl⟩:∃v2,pP=[v2]:=by
  cases pP with
  |nil=>simp at jH
  |cons v2 r=>cases r with
   |nil=>exact⟨v2,rfl⟩
   |cons _ _=>simp at jH
 have od:Src w I 1 [[.v v2]] (a.eval y):=by
  have:=Src.own GB.real (aO hs.env hy) (de H b2 _ rl) (by rw[vB];simp)
  simpa[lits]using this
 obtain⟨u,w',p',aF,dS,qj,dQ,e8,aX⟩:=Fq (P:=C.P) (ty:=ty) (es:=0) uP (aO hs.env hx) od Dj (by rw[vB,hlen];exact hn) ht b5 hz fR (by rw[vB,hlen];simpa using cM) (by rw[vB,hlen];unfold maxLen;simp;omega)
 have hS:=uP.move (Nat.le_of_ble_eq_true hnb) Dj Xs (fun g hg aK=>dS.cm g hg aK) dS qj dQ e8
 rw[Aq]at hS
 have hI:∀g,I g->w'.heap[g]?=w.heap[g]?:=fun g hg=>dS.cm g (hs.st.real.bN g hg) (fun e=>(hs.st.real.off b g e).1 hg)
 have xd:∀{c:Nat} {p:Option Nat},(if c=b then none else φ c)=some p->aY φ b p' c=some p:=fun{c p} hc=>by
  by_cases e1:c=b
  ·simp[e1]at hc
  ·simpa[aY,e1]using hc
 have cX:∀(c g1 m:Nat),(if c=b then none else φ c)=some (some g1)->shaped w g1 m->shaped w' g1 m:=fun c g1 m hc da=>by
  by_cases e1:c=b
  ·simp[e1]at hc
  ·exact dS.shaped (fun ho=>e1 (hs.st.real.inj c b g1 (by simpa[e1]using hc) ho)) da
 have WG:AV.ab w' (aY φ b p') I cs us:=
  AV.fA hI (fun _ h=>h) (fun c p hc=>xd hc) (fun c g1 m hc da=>cX c g1 m hc da) _ _ (AV.pB (φ':=fun c=>if c=b then none else φ c) (fun b1 cM=>by simp[cM]) cs us (vJ H a_ b _ cs hH) iy)
 have th:AV.ab w' (aY φ b p') I [zv] [v2]:=
  AV.fA hI (fun _ h=>h) (fun c p hc=>xd hc) (fun c g1 m hc da=>cX c g1 m hc da) _ _ (AV.pB (φ':=fun c=>if c=b then none else φ c) (fun b1 cM=>by simp[cM]) [zv] [v2] (vJ H a_ b2 _ [zv] rl) p9)
 have kz:=hS.SD (cs:=cs++[zv]) (de H b _ hH) (by simp) (fun ae bc=>by
  obtain⟨v,e1,hv⟩:=IG us ae bc
  rw[e1]
  simp only[IV.den]at hv
  rw[hv.1]
  simp only[AV.ab]at th
  obtain⟨w1,w2,e2,fI,rfl⟩:=th
  cases e2
  exact wB fI cs us WG)
 rw[Aq]at kz
 have uV:d<C.n:=hd d rfl
 have hex:(execOp a.eval {dst:=some d,op:= .call {callee:= .builtin .append,args:=#[x,y],argTypes:=#[t,t]},type:=ty,pos:=pos,after:=af,guard:=none}).run C.P w= .ok (.value u) w':=by
  simp only[execOp,resolve,invoke,builtin,Sem.run_bind,Sem.run_pure,Result.andThen_ok,List.map_toArray,List.map_cons,List.map_nil,aF]
 unfold Oper.wp
 rw[hex,Oper.upon_value]
 refine bG _ _ _ I _ _ bm ⟨hs.bF.mono hI (fun _ h=>h),by simpa[Act.put]using hs.bC,fun j y hj=>?_,kz⟩
 simp only[lk]at hj
 cases hb:Nat.beq d j with
 |true=>
  rw[hb]at hj
  have:=Nat.eq_of_beq_eq_true hb
  subst this
  simp only[cond_true,Option.some.injEq]at hj
  subst hj
  refine⟨u,by simp only[Act.put];rw[Array.getElem?_setIfInBounds_self_of_lt (by rw[hs.bC];exact uV)],?_⟩
  rw[vB,hlen]at aX
  exact aX
 |false=>
  rw[hb]at hj
  simp only[cond_false]at hj
  obtain⟨y',vu,iX⟩:=qu (w:=w) (φ:=φ) (φ':=fun c=>if c=b then none else φ c) (I:=I) (b:=b) (fun b' bK=>by simp[bK]) E j y hj
  obtain⟨v,hv,bc⟩:=hs.env j y' vu
  refine⟨v,?_,AV.j_ hI (fun _ h=>h) (fun c p hc=>xd hc) (fun c g1 m hc da=>cX c g1 m hc da) _ _ (iX v bc)⟩
  simp only[Act.put]
  rw[Array.getElem?_setIfInBounds_ne (by intro e;subst e;simp at hb)]
  exact hv
theorem AQ.aaP {ds:List (Nat×Nat)} {i:Nat} {d:Nat} {ty:TypeId} {pos:String} {af:Array Edge} {os:List Oper} {x y:Operand} {t e:TypeId} {b bytes:Nat} {zv:AV} {b2:Nat} {e2:TypeId} (hnb:Nat.ble C.B.nb b=true)
  (ah:ba C.n ({dst:=some d,op:= .call {callee:= .builtin .append,args:=#[x,y],argTypes:=#[t,t]},type:=ty,pos:=pos,after:=af,guard:=none}::os)=true)
  (hx:ev E x=some (.os b 1 0 0)) (hy:ev E y=some (.os b2 1 0 1)) (rl:lk H b2=some (.var (.row e2) [zv])) (hH:lk H b=some (.vec e 1 [])) (a_:noMen b H=true)
  (ht:tk C.P t= .slice e) (b5:sz C.P e=some 1) (hz:(ax C.P e).map List.length=some 1) (fR:aQ C.P e=some bytes)
  (cM:bytes<=140737488355328)
  (h:vq C K os ((i,d)::ds) (i+1) ((d,.os b 1 0 1)::killE b E) (aR H b (.var (.row e) [zv]))):
  AQ C ds i ({dst:=some d,op:= .call {callee:= .builtin .append,args:=#[x,y],argTypes:=#[t,t]},type:=ty,pos:=pos,after:=af,guard:=none}::os) K E H:=by
 obtain⟨hd,b7⟩:=ef ah
 have bm:=AQ.go b7 h
 unfold AQ at bm⊢
 refine AO.step fun ops φ I a w aV _ hs Kn bG=>?_
 rw[if_pos (by simp[Region.wanted])]
 have uP:=hs.st
 obtain⟨pP,p9,jH,GB⟩:=hs.st.EC rl
 obtain⟨v2,rfl⟩:∃v2,pP=[v2]:=by
  cases pP with
  |nil=>simp at jH
  |cons v2 r=>cases r with
   |nil=>exact⟨v2,rfl⟩
   |cons _ _=>simp at jH
 have od:Src w I 1 [[.v v2]] (a.eval y):=by
  have:=Src.own GB.real (aO hs.env hy) (de H b2 _ rl) (by rw[vB];simp)
  simpa[lits]using this
 obtain⟨u,w',p',aF,dS,qj,dQ,e8,aX⟩:=Fq (P:=C.P) (ty:=ty) (es:=0) uP (aO hs.env hx) od hH rfl ht b5 hz fR (by simpa using cM) (by unfold maxLen;simp)
 have hS:=uP.move (Nat.le_of_ble_eq_true hnb) hH a_ (fun g hg aK=>dS.cm g hg aK) dS qj dQ e8
 have hI:∀g,I g->w'.heap[g]?=w.heap[g]?:=fun g hg=>dS.cm g (hs.st.real.bN g hg) (fun e=>(hs.st.real.off b g e).1 hg)
 have xd:∀{c:Nat} {p:Option Nat},(if c=b then none else φ c)=some p->aY φ b p' c=some p:=fun{c p} hc=>by
  by_cases e1:c=b
  ·simp[e1]at hc
  ·simpa[aY,e1]using hc
 have cX:∀(c g1 m:Nat),(if c=b then none else φ c)=some (some g1)->shaped w g1 m->shaped w' g1 m:=fun c g1 m hc da=>by
  by_cases e1:c=b
  ·simp[e1]at hc
  ·exact dS.shaped (fun ho=>e1 (hs.st.real.inj c b g1 (by simpa[e1]using hc) ho)) da
 have th:AV.ab w' (aY φ b p') I [zv] [v2]:=
  AV.fA hI (fun _ h=>h) (fun c p hc=>xd hc) (fun c g1 m hc da=>cX c g1 m hc da) _ _ (AV.pB (φ':=fun c=>if c=b then none else φ c) (fun b1 cM=>by simp[cM]) [zv] [v2] (vJ H a_ b2 _ [zv] rl) p9)
 have kz:=hS.SD (cs:=[zv]) (de H b _ hH) (by simp) (fun ae bc=>by
  obtain⟨v,e1,hv⟩:=IG [] ae bc
  rw[e1]
  simp only[IV.den]at hv
  rw[hv.1]
  simp only[AV.ab]at th
  obtain⟨w1,w2,e2,fI,rfl⟩:=th
  cases e2
  exact wB fI [] [] (by simp[AV.ab]))
 rw[Aq]at kz
 have uV:d<C.n:=hd d rfl
 have hex:(execOp a.eval {dst:=some d,op:= .call {callee:= .builtin .append,args:=#[x,y],argTypes:=#[t,t]},type:=ty,pos:=pos,after:=af,guard:=none}).run C.P w= .ok (.value u) w':=by
  simp only[execOp,resolve,invoke,builtin,Sem.run_bind,Sem.run_pure,Result.andThen_ok,List.map_toArray,List.map_cons,List.map_nil,aF]
 unfold Oper.wp
 rw[hex,Oper.upon_value]
 refine bG _ _ _ I _ _ bm ⟨hs.bF.mono hI (fun _ h=>h),by simpa[Act.put]using hs.bC,fun j y hj=>?_,kz⟩
 simp only[lk]at hj
 cases hb:Nat.beq d j with
 |true=>
  rw[hb]at hj
  have:=Nat.eq_of_beq_eq_true hb
  subst this
  simp only[cond_true,Option.some.injEq]at hj
  subst hj
  refine⟨u,by simp only[Act.put];rw[Array.getElem?_setIfInBounds_self_of_lt (by rw[hs.bC];exact uV)],?_⟩
  exact aX
 |false=>
  rw[hb]at hj
  simp only[cond_false]at hj
  obtain⟨y',vu,iX⟩:=qu (w:=w) (φ:=φ) (φ':=fun c=>if c=b then none else φ c) (I:=I) (b:=b) (fun b' bK=>by simp[bK]) E j y hj
  obtain⟨v,hv,bc⟩:=hs.env j y' vu
  refine⟨v,?_,AV.j_ hI (fun _ h=>h) (fun c p hc=>xd hc) (fun c g1 m hc da=>cX c g1 m hc da) _ _ (iX v bc)⟩
  simp only[Act.put]
  rw[Array.getElem?_setIfInBounds_ne (by intro e;subst e;simp at hb)]
  exact hv
theorem AQ.Uc {ds:List (Nat×Nat)} {i:Nat} {d:Option Nat} {ty t e:TypeId} {pos:String} {af:Array Edge} {os:List Oper} {x:Operand} {k:Nat} {z:Value}
  (ah:ba C.n ({dst:=d,op:= .buildSlice t 1 #[(0,x)],type:=ty,pos:=pos,after:=af,guard:=none}::os)=true)
  (hx:ev E x=some (.ob k 0)) (ht:tk C.P t= .slice e) (b5:sz C.P e=some 1) (hz:ax C.P e=some [z])
  (h:vq C K os (aZ d i ds) (i+1) (a7 d (.os (ay C.B.nb H) 1 0 1) E) ((ay C.B.nb H,.var (.row e) [.ob k 0])::H)):
  AQ C ds i ({dst:=d,op:= .buildSlice t 1 #[(0,x)],type:=ty,pos:=pos,after:=af,guard:=none}::os) K E H:=by
 refine AQ.step1 _ _ ah rfl (fun φ I a w hs=>?_) h
 have fj:=aO hs.env hx
 simp only[AV.den]at fj
 obtain⟨g,hg,hv⟩:=fj
 obtain⟨ie,zv,f_,po,_⟩:=we hz
 obtain⟨i2,rA,aT⟩:=EV b5
 rw[f_]at rA;cases rA
 have aF:(execOp a.eval ⟨d,.buildSlice t 1 #[(0,x)],ty,pos,af,none⟩).run C.P w= .ok (.value (.slice (some ⟨w.heap.size,0,none⟩) 1 1)) (w.alloc (.cells #[a.eval x] e)):=by
  have:=run_buildSlice (P:=C.P) w t e 1 #[(0,a.eval x)] #[a.eval x] ie zv (fc ht) f_ po (by rw[aT];decide) (by rw[aT];decide) (by
   rw[aT,hv];simp only[Instr.fill,Nat.mul_one]
   simp[Value.cells]
   refine Array.ext (by simp) fun i U h2=>?_
   have h0:i=0:=by simp at h2;omega
   subst h0
   simp)
  simp only[execOp,Sem.run_bind,Sem.run_pure]
  first|rw[this]|simp[this]
 have o_:=dw C.B.nb H
 have dF:(w.alloc (.cells #[a.eval x] e)).heap[w.heap.size]?=some (.cells #[a.eval x] e (0,0)):=heap_alloc_new w _
 obtain⟨hS,hK⟩:=hs.st.uj (lN C.B.nb H) o_.1 (cs:=#[a.eval x]) (e:=e) (o:= .var (.row e) [.ob k 0]) (by
  simp only[Ob.at,Sh.has,Sh.one]
  refine⟨w.heap.size,[a.eval x],rfl,⟨[],dF⟩,?_,fun y hy=>?_⟩
  ·simp only[AV.ab,AV.den]
   refine⟨_,_,rfl,⟨g,?_,hv⟩,rfl⟩
   have U:=hs.st.real.bj k
   rw[hg]at U
   have aK:k≠ay C.B.nb H:=fun e=>by
    cases ho:lk H k with
    |none=>rw[ho]at U;simp at U
    |some o=>have:=bZ H k o ho;omega
   simp[aY,aK,hg]
  ·rw[List.mem_singleton.1 hy,hv];rfl)
 refine⟨.slice (some ⟨w.heap.size,0,none⟩) 1 1,_,_,I,aF,?_,hS,hK⟩
 simp only[AV.den]
 exact .inr ⟨w.heap.size,1,by simp[aY],by rw[Nat.zero_mul],Nat.le_refl _,by unfold maxLen;omega,⟨_,e,dF,by simp⟩⟩
theorem AQ.pne {ds:List (Nat×Nat)} {i:Nat} {d:Option Nat} {ty t t' e:TypeId} {pos:String} {af:Array Edge} {os:List Oper} {x y:Operand} {b b' o o' n:Nat} {e1 e2:TypeId} {UT sD:List AV} (aK:Nat.beq b b'=false) (cM:lk H b=some (.var (.cell e1) UT)) (iw:lk H b'=some (.var (.cell e2) sD))
  (ah:ba C.n ({dst:=d,op:= .binOp .eql t x y t',type:=ty,pos:=pos,after:=af,guard:=none}::os)=true)
  (hx:ev E x=some (.ob b o)) (hy:ev E y=some (.ob b' o')) (ht:tk C.P t= .ptr e) (aT:sz C.P e=some (n+1))
  (h:vq C K os (aZ d i ds) (i+1) (a7 d (.im (.v (.bool false))) E) H):
  AQ C ds i ({dst:=d,op:= .binOp .eql t x y t',type:=ty,pos:=pos,after:=af,guard:=none}::os) K E H:=by
 refine AQ.val (.im (.v (.bool false))) ah rfl (fun φ I a w hs=>?_) h
 have fj:=aO hs.env hx
 have od:=aO hs.env hy
 simp only[AV.den]at fj od
 obtain⟨g,hg,hv⟩:=fj
 obtain⟨g',bR,jP⟩:=od
 have cN:g≠g':=fun e=>by
  subst e
  have:=hs.st.real.inj b b' g hg bR
  subst this
  simp at aK
 have mU:=hs.st.real.own b _ _ cM hg
 have rH:=hs.st.real.own b' _ _ iw bR
 simp only[Ob.at,Sh.has]at mU rH
 obtain⟨q1,sn,XO,Dc,_⟩:=mU
 obtain⟨q2,pP,jM,Dd,_⟩:=rH
 cases XO
 cases jM
 have X1:=run_sameAddr_other (P:=C.P) (w:=w) (a:=⟨g,o,none⟩) (b:=⟨g',o',none⟩) (fun e=>cN (by cases e;rfl)) Dc Dd
 have hz:∀W,(sizeOf e).run C.P W= .ok _ W:=fun W=>run_sizeOf aT W
 have he:(Op.equal t (.pointer (some ⟨g,o,none⟩)) (.pointer (some ⟨g',o',none⟩))).run C.P w= .ok false w:=by
  have U:∀k,(Op.equalIn (k+1) t (.pointer (some ⟨g,o,none⟩)) (.pointer (some ⟨g',o',none⟩))).run C.P w= .ok false w:=fun k=>by
   simp[Op.equalIn,run_underlying (wa ht),hz,X1]
  exact U 9999
 refine⟨.bool false,?_,by simp[AV.den,IV.den,Value.oneCell']⟩
 have hb:binOp .eql t (.pointer (some ⟨g,o,none⟩)) (.pointer (some ⟨g',o',none⟩))=(do pure (.bool (<-Op.equal t (.pointer (some ⟨g,o,none⟩)) (.pointer (some ⟨g',o',none⟩)))):Sem Value):=rfl
 simp only[execOp,hv,jP,Sem.run_bind,uE _ _ _ _ (.pointer (some ⟨g,o,none⟩)) _ (by simp) (by simp),Result.andThen_ok,hb,he,Sem.run_pure]
end
end Go.AL
end
section
namespace Go.AL
open Go Go.MapKept
def A1 (n:Nat) (bs:List Nat) (clock:Nat) (us:List Value):Obj:= .map (gn (us.take n) bs (us.drop n)).toArray clock
theorem ZE (n:Nat) (bs:List Nat) (clock:Nat) (us:List Value):yO (A1 n bs clock us):= .inl ⟨_,_,rfl⟩
def lI (ob:Ob) (ks vs:List AV):Prop:=∃bs clock,ob= .var (.raw (A1 ks.length bs clock)) (ks++vs)/\ks.length=bs.length/\vs.length=bs.length/\bs.Nodup/\∀n∈bs,n<clock
structure uf (P:Program) (kt:TypeId) (w:World) (us:List Value) (u:Value):Prop where
 nd:us.Nodup
 eq:∀v∈us,∃q,(Op.equal kt u v).run P w= .ok q w/\(q=true↔u=v)
 ck:∀e,(Instr.checkKey e 10000 kt u).run P w= .ok () w
 sb:Instr.sameBits 10000 u u=true
 nk:∃d,P.underlying kt=some d/\∀v∈us,Instr.sameNow d u v=none
theorem Rb {P:Program} {kt:TypeId} {w:World} {u:Value}:∀(es:List MapEntry) (i:Nat),(∀e∈es,∃q,(Op.equal kt u e.key).run P w= .ok q w/\(q=true↔u=e.key))->
  (u∉es.map (·.key)/\(Instr.findAsking kt u es i).run P w= .ok none w)\/∃j e,es[j]?=some e/\e.key=u/\(∀j'<j,∀e',es[j']?=some e'->e'.key≠u)/\(Instr.findAsking kt u es i).run P w= .ok (some (i+j,e.val)) w
 |[],i,_=> .inl ⟨by simp,by simp[Instr.findAsking]⟩
 |e::es,i,h=>by
  obtain⟨q,U,hq⟩:=h e (by simp)
  cases q with
  |true=>
   have hk:=hq.1 rfl
   exact .inr ⟨0,e,rfl,hk.symm,fun j' hj=>by omega,by simp only[Instr.findAsking,Sem.run_bind,U,Result.andThen_ok,if_true,Sem.run_pure,Nat.add_zero]⟩
  |false=>
   have hk:¬u=e.key:=fun e=>by cases hq.2 e
   rcases Rb es (i+1) (fun x hx=>h x (by simp[hx]))with⟨h2,h3⟩|⟨j,x,h2,h3,h4,h5⟩
   ·refine .inl ⟨?_,by simp only[Instr.findAsking,Sem.run_bind,U,Result.andThen_ok,Bool.false_eq_true,if_false,h3]⟩
    simp only[List.map_cons,List.mem_cons,not_or]
    exact⟨hk,h2⟩
   ·refine .inr ⟨j+1,x,by simpa using h2,h3,fun j' hj e' he=>?_,by
     simp only[Instr.findAsking,Sem.run_bind,U,Result.andThen_ok,Bool.false_eq_true,if_false,h5]
     rw[Nat.add_assoc,Nat.add_comm 1 j]⟩
    cases j' with
    |zero=>simp at he;subst he;exact fun e=>hk e.symm
    |succ j'=>exact h4 j' (by omega) e' (by simpa using he)
theorem EG {P:Program} {kt:TypeId} {w:World} {u:Value} {us:List Value} {es:List MapEntry} (hk:uf P kt w us u) (he:es.map (·.key)=us):
  (u∉us/\(Instr.findKey kt u es).run P w= .ok none w)\/∃j e,es[j]?=some e/\e.key=u/\us[j]?=some u/\(Instr.findKey kt u es).run P w= .ok (some (j,e.val)) w:=by
 subst he
 obtain⟨d,hd,hn⟩:=hk.nk
 cases es with
 |nil=>exact .inl ⟨by simp,by simp[Instr.findKey,run_underlying hd,Instr.findNow]⟩
 |cons e es=>
  have h0:Instr.findNow d u (e::es) 0=none:=by
   simp only[Instr.findNow,hn e.key (by simp)]
  rcases Rb (P:=P) (w:=w) (kt:=kt) (u:=u) (e::es) 0 (fun x hx=>hk.eq _ (List.mem_map.2 ⟨x,hx,rfl⟩))with⟨h2,h3⟩|⟨j,x,h2,h3,_,h5⟩
  ·exact .inl ⟨h2,by simp only[Instr.findKey,Sem.run_bind,run_underlying hd,Result.andThen_ok,h0,h3]⟩
  ·exact .inr ⟨j,x,h2,h3,by rw[List.getElem?_map,h2,<-h3];rfl,by simp only[Instr.findKey,Sem.run_bind,run_underlying hd,Result.andThen_ok,h0,h5,Nat.zero_add]⟩
theorem Ly {w:World} {φ:al} {I:Nat->Prop}:∀(xs ys:List AV) (us:List Value),AV.ab w φ I (xs++ys) us->∃a b,us=a++b/\AV.ab w φ I xs a/\AV.ab w φ I ys b
 |[],ys,us,h=>⟨[],us,rfl,by simp[AV.ab],h⟩
 |x::xs,ys,us,h=>by
  simp only[List.cons_append,AV.ab]at h
  obtain⟨u,au,rfl,U,h2⟩:=h
  obtain⟨a,b,rfl,h3,h4⟩:=Ly xs ys au h2
  exact⟨u::a,b,rfl,by simp only[AV.ab];exact⟨u,a,rfl,U,h3⟩,h4⟩
theorem LA {w:World} {φ:al} {I:Nat->Prop}:∀(xs ys:List AV) (a b:List Value),AV.ab w φ I xs a->AV.ab w φ I ys b->AV.ab w φ I (xs++ys) (a++b)
 |[],ys,a,b,h,g=>by simp only[AV.ab]at h;subst h;exact g
 |x::xs,ys,a,b,h,g=>by
  simp only[AV.ab]at h
  obtain⟨u,au,rfl,U,h2⟩:=h
  simp only[List.cons_append,AV.ab]
  exact⟨u,_,rfl,U,LA xs ys au b h2 g⟩
theorem Er {w:World} {φ:al} {I:Nat->Prop} {H:aa} {b:Nat} {ob:Ob} {ks vs:List AV} (hR:Real w φ I H) (hH:lk H b=some ob) (hp:lI ob ks vs) {u:Value} (hu:AV.den w φ I (.mp b) u):
  ∃g es clock us ws,u= .map (some g)/\φ b=some (some g)/\w.heap[g]?=some (.map es clock)/\es.toList.map (·.key)=us/\es.toList.map (·.val)=ws/\AV.ab w φ I ks us/\AV.ab w φ I vs ws/\sq es clock:=by
 obtain⟨bs,clock,rfl,U,h2,h3,h4⟩:=hp
 simp only[AV.den]at hu
 obtain⟨g,hg,rfl⟩:=hu
 have:=hR.own b _ _ hH hg
 simp only[Ob.at,Sh.has,Sh.one]at this
 obtain⟨g',us,cN,⟨h5,_⟩,h6,_⟩:=this
 cases cN
 obtain⟨a,c,rfl,h7,h8⟩:=Ly ks vs us h6
 have la:=qR h7
 have lc:=qR h8
 have ea:(a++c).take ks.length=a:=by rw[<-la];simp
 have ec:(a++c).drop ks.length=c:=by rw[<-la];simp
 rw[A1,ea,ec]at h5
 have k1:=Fc a bs c (by omega) (by omega)
 have k2:=Fe a bs c (by omega) (by omega)
 have k3:=yM a bs c (by omega) (by omega)
 refine⟨g,_,_,a,c,rfl,hg,h5,by simpa using k1,by simpa using k2,h7,h8,?_,fun e he=>h4 _ ?_⟩
 ·simpa[k3]using h3
 ·rw[<-k3];exact List.mem_map.2 ⟨e,by simpa using he,rfl⟩
theorem Jt {w:World} {φ:al} {I:Nat->Prop} {g:Nat} {es:Array MapEntry} {clock:Nat} {ks vs:List AV} (hh:w.heap[g]?=some (.map es clock)) (hb:sq es clock) (hk:AV.ab w φ I ks (es.toList.map (·.key))) (hv:AV.ab w φ I vs (es.toList.map (·.val))):
  ∃ob,lI ob ks vs/\ob.at w φ I (some g)/\ob= .var (.raw (A1 ks.length (es.toList.map (·.born)) clock)) (ks++vs):=by
 have la:=qR hk
 have lc:=qR hv
 rw[List.length_map]at la lc
 refine⟨_,⟨es.toList.map (·.born),clock,rfl,by rw[List.length_map];omega,by rw[List.length_map];omega,hb.1,fun n hn=>?_⟩,?_,rfl⟩
 ·obtain⟨e,he,rfl⟩:=List.mem_map.1 hn
  exact hb.2 e he
 ·simp only[Ob.at,Sh.has,Sh.one]
  refine⟨g,es.toList.map (·.key)++es.toList.map (·.val),rfl,⟨?_,ZE _ _ _ _⟩,LA _ _ _ _ hk hv,trivial⟩
  have e1:(es.toList.map (·.key)++es.toList.map (·.val)).take ks.length=es.toList.map (·.key):=by rw[<-la];simp
  have e2:(es.toList.map (·.key)++es.toList.map (·.val)).drop ks.length=es.toList.map (·.val):=by rw[<-la];simp
  rw[A1,e1,e2,Kd,hh]
section
variable {C:Cx} {K:List PK} {E:Env} {H:aa}
theorem AQ.pm0 {ds:List (Nat×Nat)} {i:Nat} {rest:List Oper} (b:Nat) (hH:lk H b=some (.var (.map []) [])) (h:∀ob,lI ob [] []->AQ C ds i rest K E (aR H b ob)):AQ C ds i rest K E H:=by
 unfold AQ at h⊢
 intro ops U h2 φ I a w hs
 have hd:=hs.st.real.bj b
 rw[hH]at hd
 obtain⟨p,hp⟩:=Option.isSome_iff_exists.1 hd
 have ho:=hs.st.real.own b _ p hH hp
 simp only[Ob.at,Sh.has,Sh.one,AV.ab]at ho
 obtain⟨g,us,rfl,⟨es,clock,h3,h4,h5,h6⟩,rfl,_⟩:=ho
 obtain⟨ob,h7,h8,_⟩:=Jt (φ:=φ) (I:=I) (ks:=[]) (vs:=[]) h3 h6 (by simp[AV.ab,h4]) (by simp[AV.ab,h5])
 exact h ob h7 ops U h2 _ _ _ _ ⟨hs.bF,hs.bC,hs.env,hs.st.told hH fun p' bM _=>by rw[hp]at bM;cases bM;exact h8⟩
theorem AQ.Ep (j:Nat) {ds:List (Nat×Nat)} {i:Nat} {d:Option Nat} {ty t kt et:TypeId} {pos:String} {af:Array Edge} {os:List Oper} {m k:Operand} {ok:Bool} {b:Nat} {ob:Ob} {ks vs:List AV} {kx x:AV}
  (ah:ba C.n ({dst:=d,op:= .lookup t m k ok,type:=ty,pos:=pos,after:=af,guard:=none}::os)=true)
  (hm:ev E m=some (.mp b)) (hk:ev E k=some kx) (hH:lk H b=some ob) (hp:lI ob ks vs) (ht:C.P.underlying t=some (.map kt et))
  (fF:∀φ I w us u,Real w φ I H->AV.ab w φ I ks us->AV.den w φ I kx u->uf C.P kt w us u/\us[j]?=some u) (hx:vs[j]?=some x)
  (h:vq C K os (aZ d i ds) (i+1) (a7 d (bif ok then .aI [x,.im (.v (.bool true))]else x) E) H):
  AQ C ds i ({dst:=d,op:= .lookup t m k ok,type:=ty,pos:=pos,after:=af,guard:=none}::os) K E H:=by
 refine AQ.val (bif ok then .aI [x,.im (.v (.bool true))]else x) ah rfl (fun φ I a w hs=>?_) h
 obtain⟨g,es,clock,us,ws,fH,hg,hh,aC,td,rv,bc,kA⟩:=Er hs.st.real hH hp (aO hs.env hm)
 obtain⟨ly,hj⟩:=fF φ I w us _ hs.st.real rv (aO hs.env hk)
 rcases EG ly aC with⟨U,_⟩|⟨j',e,U,h2,h3,h4⟩
 ·exact absurd (List.mem_of_getElem? hj) U
 ·have G_:j'=j:=(List.getElem?_inj (List.getElem?_eq_some_iff.1 h3).1 ly.nd).1 (h3.trans hj.symm)
  subst G_
  obtain⟨v,hv,bc⟩:=ig vs _ j' x bc hx
  have Yj:v=e.val:=by rw[<-td,List.getElem?_map,U]at hv;cases hv;rfl
  subst Yj
  have aF:(Instr.lookup t (a.eval m) (a.eval k) ok).run C.P w= .ok (if ok then .tuple #[e.val,.bool true]else e.val) w:=by
   rw[fH]
   cases ok<;>simp[Instr.lookup,run_underlying ht,MapKept.run_getObj_map hh,ly.ck,h4,Result.andThen]
  refine⟨if ok then .tuple #[e.val,.bool true]else e.val,by simp only[execOp,Sem.run_bind,Sem.run_map,aF,Result.andThen_ok,Sem.run_pure],?_⟩
  cases ok with
  |true=>simp only[cond_true,if_true,AV.den,AV.ab];exact⟨_,⟨_,_,rfl,bc,_,_,rfl,by simp only[IV.den];exact⟨trivial,rfl⟩,rfl⟩,rfl⟩
  |false=>simpa using bc
theorem AQ.aaB {ds:List (Nat×Nat)} {i:Nat} {d:Option Nat} {ty t kt et:TypeId} {pos:String} {af:Array Edge} {os:List Oper} {m k:Operand} {ok:Bool} {b:Nat} {ob:Ob} {ks vs:List AV} {kx zx:AV} {z:Value}
  (ah:ba C.n ({dst:=d,op:= .lookup t m k ok,type:=ty,pos:=pos,after:=af,guard:=none}::os)=true)
  (hm:ev E m=some (.mp b)) (hk:ev E k=some kx) (hH:lk H b=some ob) (hp:lI ob ks vs) (ht:C.P.underlying t=some (.map kt et))
  (fF:∀φ I w us u,Real w φ I H->AV.ab w φ I ks us->AV.den w φ I kx u->uf C.P kt w us u/\u∉us) (hz:(C.P.info? et).bind (·.zero)=some z) (OC:∀w φ I,AV.den w φ I zx z)
  (h:vq C K os (aZ d i ds) (i+1) (a7 d (bif ok then .aI [zx,.im (.v (.bool false))]else zx) E) H):
  AQ C ds i ({dst:=d,op:= .lookup t m k ok,type:=ty,pos:=pos,after:=af,guard:=none}::os) K E H:=by
 refine AQ.val (bif ok then .aI [zx,.im (.v (.bool false))]else zx) ah rfl (fun φ I a w hs=>?_) h
 obtain⟨g,es,clock,us,ws,fH,hg,hh,aC,td,rv,bc,kA⟩:=Er hs.st.real hH hp (aO hs.env hm)
 obtain⟨ly,hj⟩:=fF φ I w us _ hs.st.real rv (aO hs.env hk)
 rcases EG ly aC with⟨_,h4⟩|⟨j',e,U,h2,h3,h4⟩
 ·have AG:(zeroValue et).run C.P w= .ok z w:=by
   cases hi:C.P.info? et with
   |none=>rw[hi]at hz;cases hz
   |some inf=>
    rw[hi]at hz
    simp only[Option.bind_some]at hz
    simp[zeroValue,typeInfo,hi,hz]
  have aF:(Instr.lookup t (a.eval m) (a.eval k) ok).run C.P w= .ok (if ok then .tuple #[z,.bool false]else z) w:=by
   rw[fH]
   cases ok<;>simp[Instr.lookup,run_underlying ht,MapKept.run_getObj_map hh,ly.ck,h4,AG,Result.andThen]
  refine⟨if ok then .tuple #[z,.bool false]else z,by simp only[execOp,Sem.run_bind,Sem.run_map,aF,Result.andThen_ok,Sem.run_pure],?_⟩
  cases ok with
  |true=>simp only[cond_true,if_true,AV.den,AV.ab];exact⟨_,⟨_,_,rfl,OC w φ I,_,_,rfl,by simp only[IV.den];exact⟨trivial,rfl⟩,rfl⟩,rfl⟩
  |false=>simpa using OC w φ I
 ·exact absurd (List.mem_of_getElem? h3) hj
theorem AQ.aaD {ds:List (Nat×Nat)} {i:Nat} {ty t kt et:TypeId} {pos:String} {af:Array Edge} {os:List Oper} {m k x:Operand} {b:Nat} {ob:Ob} {ks vs:List AV} {kx xv:AV}
  (ah:ba C.n ({dst:=none,op:= .mapUpdate t m k x,type:=ty,pos:=pos,after:=af,guard:=none}::os)=true)
  (hm:ev E m=some (.mp b)) (hk:ev E k=some kx) (hx:ev E x=some xv) (hH:lk H b=some ob) (hp:lI ob ks vs) (ht:C.P.underlying t=some (.map kt et))
  (fF:∀φ I w us u,Real w φ I H->AV.ab w φ I ks us->AV.den w φ I kx u->uf C.P kt w us u/\u∉us)
  (h:∀np,lI np (ks++[kx]) (vs++[xv])->vq C K os ds (i+1) E (aR H b np)):
  AQ C ds i ({dst:=none,op:= .mapUpdate t m k x,type:=ty,pos:=pos,after:=af,guard:=none}::os) K E H:=by
 obtain⟨fS,b7⟩:=ef ah
 have bm:=fun np bM=>AQ.go b7 (h np bM)
 unfold AQ at bm⊢
 refine AO.step fun ops φ I a w aV _ hs Kn bG=>?_
 obtain⟨g,es,clock,us,ws,fH,hg,hh,aC,td,rv,bc,kA⟩:=Er hs.st.real hH hp (aO hs.env hm)
 have gT:=aO hs.env hk
 have fj:=aO hs.env hx
 obtain⟨ly,hj⟩:=fF φ I w us _ hs.st.real rv gT
 rcases EG ly aC with⟨_,h4⟩|⟨j',e,U,h2,h3,h4⟩
 ·rw[if_pos (by simp[Region.wanted])]
  unfold Oper.wp
  have ag:g<w.heap.size:=(hs.st.real.off b g hg).2
  have aF:(Instr.mapUpdate t (a.eval m) (a.eval k) (a.eval x)).run C.P w= .ok () (w.putObj g (.map (es.push {key:=a.eval k,val:=a.eval x,born:=clock}) (clock+1))):=by
   rw[fH]
   simp[Instr.mapUpdate,run_underlying ht,MapKept.run_getObj_map hh,ly.ck,h4,MapKept.run_setObj_map _ hh,Result.andThen,World.putObj]
  have vp:(execOp a.eval {dst:=none,op:= .mapUpdate t m k x,type:=ty,pos:=pos,after:=af,guard:=none}).run C.P w= .ok .skip (w.putObj g (.map (es.push {key:=a.eval k,val:=a.eval x,born:=clock}) (clock+1))):=by
   simp only[execOp,Sem.run_bind,Sem.run_map,aF,Result.andThen_ok,Sem.run_pure]
  rw[vp,Oper.upon_skip]
  have hK:=AU (φ:=φ) (I:=I) (o':= .map (es.push {key:=a.eval k,val:=a.eval x,born:=clock}) (clock+1)) hh (hs.st.real.off b g hg).1
  obtain⟨np,bM,aU,_⟩:=Jt (φ:=φ) (I:=I) (ks:=ks++[kx]) (vs:=vs++[xv]) (World.putObj_heap_same (w:=w) (o:= .map (es.push {key:=a.eval k,val:=a.eval x,born:=clock}) (clock+1)) ag) (KS kA)
   (by simpa[aC]using AV.fA hK.im hK.I hK.phi hK.sh _ _ (wB gT ks us rv))
   (by simpa[td]using AV.fA hK.im hK.I hK.phi hK.sh _ _ (wB fj vs ws bc))
  obtain⟨hS,u7⟩:=hs.st.Ev hg hh hH aU
  exact bG _ _ φ I _ _ (bm np bM) (hs.put hS u7 fS (v:= .top) (by simp only[AV.den]))
 ·exact absurd (List.mem_of_getElem? h3) hj
theorem AQ.aaC (j:Nat) {ds:List (Nat×Nat)} {i:Nat} {ty t kt et:TypeId} {pos:String} {af:Array Edge} {os:List Oper} {m k x:Operand} {b:Nat} {ob:Ob} {ks vs:List AV} {kx xv:AV}
  (ah:ba C.n ({dst:=none,op:= .mapUpdate t m k x,type:=ty,pos:=pos,after:=af,guard:=none}::os)=true)
  (hm:ev E m=some (.mp b)) (hk:ev E k=some kx) (hx:ev E x=some xv) (hH:lk H b=some ob) (hp:lI ob ks vs) (ht:C.P.underlying t=some (.map kt et))
  (fF:∀φ I w us u,Real w φ I H->AV.ab w φ I ks us->AV.den w φ I kx u->uf C.P kt w us u/\us[j]?=some u)
  (h:∀np,lI np ks (vs.set j xv)->vq C K os ds (i+1) E (aR H b np)):
  AQ C ds i ({dst:=none,op:= .mapUpdate t m k x,type:=ty,pos:=pos,after:=af,guard:=none}::os) K E H:=by
 obtain⟨fS,b7⟩:=ef ah
 have bm:=fun np bM=>AQ.go b7 (h np bM)
 unfold AQ at bm⊢
 refine AO.step fun ops φ I a w aV _ hs Kn bG=>?_
 obtain⟨g,es,clock,us,ws,fH,hg,hh,aC,td,rv,bc,kA⟩:=Er hs.st.real hH hp (aO hs.env hm)
 have gT:=aO hs.env hk
 have fj:=aO hs.env hx
 obtain⟨ly,hj⟩:=fF φ I w us _ hs.st.real rv gT
 rcases EG ly aC with⟨U,_⟩|⟨j',e,U,h2,h3,h4⟩
 ·exact absurd (List.mem_of_getElem? hj) U
 ·have G_:j'=j:=(List.getElem?_inj (List.getElem?_eq_some_iff.1 h3).1 ly.nd).1 (h3.trans hj.symm)
  subst G_
  rw[if_pos (by simp[Region.wanted])]
  unfold Oper.wp
  have ag:g<w.heap.size:=(hs.st.real.off b g hg).2
  have iS:es[j']?=some e:=by simpa using U
  have aF:(Instr.mapUpdate t (a.eval m) (a.eval k) (a.eval x)).run C.P w= .ok () (w.putObj g (.map (es.modify j' fun e=>{e with key:=a.eval k,val:=a.eval x}) clock)):=by
   rw[fH]
   simp[Instr.mapUpdate,Instr.keyThatStays,run_underlying ht,MapKept.run_getObj_map hh,ly.ck,h4,iS,h2,ly.sb,MapKept.run_setObj_map _ hh,Result.andThen,World.putObj]
  have vp:(execOp a.eval {dst:=none,op:= .mapUpdate t m k x,type:=ty,pos:=pos,after:=af,guard:=none}).run C.P w= .ok .skip (w.putObj g (.map (es.modify j' fun e=>{e with key:=a.eval k,val:=a.eval x}) clock)):=by
   simp only[execOp,Sem.run_bind,Sem.run_map,aF,Result.andThen_ok,Sem.run_pure]
  rw[vp,Oper.upon_skip]
  have va:(es.modify j' fun e=>{e with key:=a.eval k,val:=a.eval x}).toList=es.toList.set j' {e with key:=a.eval k,val:=a.eval x}:=by
   rw[Array.toList_modify]
   exact AQ.I6.I2 U
  have hK:=AU (φ:=φ) (I:=I) (o':= .map (es.modify j' fun e=>{e with key:=a.eval k,val:=a.eval x}) clock) hh (hs.st.real.off b g hg).1
  obtain⟨np,bM,aU,_⟩:=Jt (φ:=φ) (I:=I) (ks:=ks) (vs:=vs.set j' xv) (World.putObj_heap_same (w:=w) (o:= .map (es.modify j' fun e=>{e with key:=a.eval k,val:=a.eval x}) clock) ag) (KT U va kA)
   (
    by
    have e1:(es.modify j' fun e=>{e with key:=a.eval k,val:=a.eval x}).toList.map (·.key)=us:=by
     rw[va,List.map_set,aC];exact AQ.I6.JI h3
    rw[e1]
    exact AV.fA hK.im hK.I hK.phi hK.sh _ _ rv)
   (
    by
    have e1:(es.modify j' fun e=>{e with key:=a.eval k,val:=a.eval x}).toList.map (·.val)=ws.set j' (a.eval x):=by
     rw[va,List.map_set,td]
    rw[e1]
    exact AV.fA hK.im hK.I hK.phi hK.sh _ _ (FR fj vs ws j' bc))
  obtain⟨hS,u7⟩:=hs.st.Ev hg hh hH aU
  exact bG _ _ φ I _ _ (bm np bM) (hs.put hS u7 fS (v:= .top) (by simp only[AV.den]))
end
theorem aaA {P:Program} {kt e:TypeId} {n:Nat} {w:World} {φ:al} {I:Nat->Prop} {H:aa} (ht:P.underlying kt=some (.pointer e)) (aT:sz P e=some (n+1)) {is:List Nat} {i:Nat} {us:List Value} {u:Value}
  (hR:Real w φ I H) (bX:is.Nodup) (hc:∀j∈i::is,∃e cs,lk H j=some (.var (.cell e) cs)) (dW:AV.ab w φ I (is.map fun j=> .ob j 0) us) (hu:AV.den w φ I (.ob i 0) u):
  uf P kt w us u/\(i∉is->u∉us)/\∀j:Nat,is[j]?=some i->us[j]?=some u:=by
 simp only[AV.den]at hu
 obtain⟨g,hg,rfl⟩:=hu
 have zR:∀v∈us,∃j∈is,∃g',φ j=some (some g')/\v= .pointer (some ⟨g',0,none⟩):=by
  clear bX hc
  induction is generalizing us with
  |nil=>intro v hv;simp only[List.map_nil,AV.ab]at dW;subst dW;cases hv
  |cons j is ih=>
   intro v hv
   simp only[List.map_cons,AV.ab,AV.den]at dW
   obtain⟨u0,au,rfl,⟨g',U,rfl⟩,h2⟩:=dW
   rcases List.mem_cons.1 hv with rfl|hv
   ·exact⟨j,by simp,g',U,rfl⟩
   ·obtain⟨j',h3,h4⟩:=ih h2 v hv
    exact⟨j',by simp[h3],h4⟩
 have Db:∀(j i':Nat),is[j]?=some i'->∀g',φ i'=some (some g')->us[j]?=some (.pointer (some ⟨g',0,none⟩)):=fun j i' hj g' bR=>by
  obtain⟨v,hv,hd⟩:=ig _ us j (.ob i' 0) dW (by rw[List.getElem?_map,hj];rfl)
  simp only[AV.den]at hd
  obtain⟨g2,h2,rfl⟩:=hd
  rw[bR]at h2;cases h2
  exact hv
 have Xp:us.Nodup:=by
  clear Db zR hc
  induction is generalizing us with
  |nil=>simp only[List.map_nil,AV.ab]at dW;subst dW;exact List.nodup_nil
  |cons j is ih=>
   simp only[List.map_cons,AV.ab,AV.den]at dW
   obtain⟨u0,au,rfl,⟨g',U,rfl⟩,h2⟩:=dW
   rw[List.nodup_cons]at bX⊢
   refine⟨fun hm=>bX.1 ?_,ih bX.2 h2⟩
   have:∀(l:List Nat) (us:List Value),AV.ab w φ I (l.map fun j=> .ob j 0) us-> .pointer (some ⟨g',0,none⟩)∈us->j∈l:=by
    intro l
    induction l with
    |nil=>intro us h hm;simp only[List.map_nil,AV.ab]at h;subst h;cases hm
    |cons x l ih=>
     intro us h hm
     simp only[List.map_cons,AV.ab,AV.den]at h
     obtain⟨u0,au,rfl,⟨g2,h3,rfl⟩,h4⟩:=h
     rcases List.mem_cons.1 hm with h5|h5
     ·cases h5
      exact hR.inj x j _ h3 U▸by simp
     ·exact List.mem_cons_of_mem _ (ih au h4 h5)
   exact this is au h2 hm
 have dF:∀j∈i::is,∀g',φ j=some (some g')->∃c t,w.heap[g']?=some (.cells c t (0,0)):=fun j hj g' bR=>by
  obtain⟨e,cs,U⟩:=hc j hj
  have:=hR.own j _ _ U bR
  simp only[Ob.at,Sh.has]at this
  obtain⟨q,us,hq,hh,_⟩:=this
  cases hq
  exact⟨_,_,hh⟩
 have hz:∀W,(sizeOf e).run P W= .ok _ W:=fun W=>run_sizeOf aT W
 refine⟨⟨Xp,fun v hv=>?_,fun e=>?_,?_,⟨_,ht,fun v hv=>?_⟩⟩,fun hi hu=>?_,fun j hj=>Db j i hj g hg⟩
 ·obtain⟨j,hj,g',bR,rfl⟩:=zR v hv
  obtain⟨c1,t1,U⟩:=dF i (by simp) g hg
  obtain⟨c2,t2,h2⟩:=dF j (by simp[hj]) g' bR
  by_cases cN:g=g'
  ·subst cN
   have h3:∀k,(Op.equalIn (k+1) kt (.pointer (some ⟨g,0,none⟩)) (.pointer (some ⟨g,0,none⟩))).run P w= .ok true w:=fun k=>by
    simp[Op.equalIn,run_underlying ht,hz,run_sameAddr_same]
   exact⟨true,h3 9999,by simp⟩
  ·have h3:∀k,(Op.equalIn (k+1) kt (.pointer (some ⟨g,0,none⟩)) (.pointer (some ⟨g',0,none⟩))).run P w= .ok false w:=fun k=>by
    simp[Op.equalIn,run_underlying ht,hz,run_sameAddr_other (P:=P) (w:=w) (a:=⟨g,0,none⟩) (b:=⟨g',0,none⟩) (fun e=>cN (by cases e;rfl)) U h2]
   have:¬(Value.pointer (some ⟨g,0,none⟩)= .pointer (some ⟨g',0,none⟩)):=fun e=>cN (by cases e;rfl)
   exact⟨false,h3 9999,by simp[this]⟩
 ·have h3:∀k,(Instr.checkKey e (k+1) kt (.pointer (some ⟨g,0,none⟩))).run P w= .ok () w:=fun k=>by simp[Instr.checkKey,run_underlying ht]
  exact h3 9999
 ·have h3:∀k,Instr.sameBits k (.pointer (some ⟨g,0,none⟩)) (.pointer (some ⟨g,0,none⟩))=true:=fun k=>by simp[Instr.sameBits]
  exact h3 10000
 ·obtain⟨j,hj,g',bR,rfl⟩:=zR v hv
  rfl
 ·obtain⟨j,hj,g',bR,h2⟩:=zR _ hu
  cases h2
  exact hi (hR.inj i j g hg bR▸hj)
end Go.AL
end
section
namespace Go.AL
open Go
def Ob.men (b:Nat):Ob->Bool
 | .var _ cs=>AV.mens b cs
 | .vec _ _ _=>false
 | .lp _ _ _ _ _ _ E=>menE b E
def j9:aa->aa
 |[]=>[]
 |(j,o)::r=>(j,o)::(j9 r).filter fun p=>!Nat.beq p.1 j
theorem II (j:Nat):∀(H:aa) (b:Nat),b≠j->lk (H.filter fun p=>!Nat.beq p.1 j) b=lk H b
 |[],_,_=>rfl
 |(k,o)::r,b,hb=>by
  rw[List.filter_cons]
  cases hk:Nat.beq k j with
  |true=>
   have:=Nat.eq_of_beq_eq_true hk
   subst this
   have U:Nat.beq k b=false:=by
    cases hq:Nat.beq k b with
    |false=>rfl
    |true=>exact absurd (Nat.eq_of_beq_eq_true hq).symm hb
   simp only[hk,Bool.not_true,Bool.false_eq_true,if_false,lk,U,cond_false]
   exact II k r b hb
  |false=>
   simp only[hk,Bool.not_false,if_true,lk]
   rw[II j r b hb]
theorem vE:∀(H:aa) (b:Nat),lk (j9 H) b=lk H b
 |[],_=>rfl
 |(j,o)::r,b=>by
  simp only[j9,lk]
  cases hb:Nat.beq j b with
  |true=>rfl
  |false=>
   simp only[cond_false]
   rw[II j _ b (fun e=>by subst e;simp at hb),vE r b]
theorem FJ:∀(H:aa) (p:Nat×Ob),p∈j9 H->lk H p.1=some p.2
 |[],_,h=>by cases h
 |(j,o)::r,p,h=>by
  simp only[j9,List.mem_cons,List.mem_filter]at h
  simp only[lk]
  rcases h with rfl|⟨U,h2⟩
  ·simp
  ·have:Nat.beq j p.1=false:=by
    cases hq:Nat.beq j p.1 with
    |false=>rfl
    |true=>rw[<-Nat.eq_of_beq_eq_true hq]at h2;simp at h2
   rw[this]
   simpa using FJ r p U
theorem P7 {b:Nat}:∀H:aa,(∀p∈H,p.2.men b=false)->noMen b H=true
 |[],_=>rfl
 |(j,o)::r,h=>by
  have U:=h (j,o) (by simp)
  have h2:=P7 r fun p hp=>h p (by simp[hp])
  cases o with
  |var _ _=>simp only[noMen,Bool.and_eq_true,Bool.not_eq_true'];exact⟨U,h2⟩
  |vec _ _ _=>simpa only[noMen]using h2
  |lp _ _ _ _ _ _ _=>simp only[noMen,Bool.and_eq_true,Bool.not_eq_true'];exact⟨U,h2⟩
theorem P8 {b:Nat} {H:aa} (h:∀j o,lk H j=some o->o.men b=false):noMen b (j9 H)=true:=P7 _ fun p hp=>h p.1 p.2 (FJ H p hp)
def mC (e:TypeId):List AV->Ob
 |[]=> .vec e 1 []
 |c::r=> .var (.row e) (c::r)
theorem Iu (b:Nat):∀cs:List AV,AV.mens b (iY b cs)=false
 |[]=>rfl
 |x::cs=>by
  simp only[iY]
  cases hm:x.men b with
  |true=>simp only[cond_true,AV.mens,AV.men,Bool.false_or];exact Iu b cs
  |false=>simp only[cond_false,AV.mens,hm,Bool.false_or];exact Iu b cs
theorem Iw {b:Nat}:∀{cs:List AV},AV.mens b cs=false->iY b cs=cs
 |[],_=>rfl
 |x::cs,h=>by
  simp only[AV.mens,Bool.or_eq_false_iff]at h
  simp only[iY,h.1,cond_false,Iw h.2]
theorem Ix (b:Nat):∀E:Env,menE b (killE b E)=false
 |[]=>rfl
 |(i,x)::r=>by
  simp only[killE]
  cases hm:x.men b with
  |true=>simp only[cond_true,menE,AV.men,Bool.false_or];exact Ix b r
  |false=>simp only[cond_false,menE,hm,Bool.false_or];exact Ix b r
theorem O1 {b:Nat}:∀{E:Env},menE b E=false->killE b E=E
 |[],_=>rfl
 |(i,x)::r,h=>by
  simp only[menE,Bool.or_eq_false_iff]at h
  simp only[killE,h.1,cond_false,O1 h.2]
theorem IA (b:Nat):∀o:Ob,(fl b o).men b=false
 | .var e cs=>Iu b cs
 | .vec _ _ _=>rfl
 | .lp _ _ _ _ _ _ E=>Ix b E
theorem kN {b:Nat}:∀{o:Ob},o.men b=false->fl b o=o
 | .var e cs,h=>by simp only[fl,Iw (show AV.mens b cs=false from h)]
 | .vec _ _ _,_=>rfl
 | .lp _ _ _ _ _ _ E,h=>by simp only[fl,O1 (show menE b E=false from h)]
theorem aa0 {b:Nat} {e:TypeId} {cs:List AV} (h:AV.mens b cs=false):(mC e cs).men b=false:=by
 cases cs with
 |nil=>rfl
 |cons _ _=>exact h
def kY (nb:Nat) (o:Ob):Prop:=∀x,nb<=x->o.men x=false
theorem kY.mono {nb tD:Nat} {o:Ob} (h:kY nb o) (hn:nb<=tD):kY tD o:=fun x hx=>h x (Nat.le_trans hn hx)
section
variable {C:Cx} {K:List PK} {E:Env} {H:aa}
theorem AQ.aaN {ds:List (Nat×Nat)} {i:Nat} {d:Nat} {ty:TypeId} {pos:String} {af:Array Edge} {os:List Oper} {x y:Operand} {t e:TypeId} {b n bytes:Nat} {cs:List AV} {zv:AV} {b2:Nat} {e2:TypeId} (hnb:C.B.nb<=b)
  (ah:ba C.n ({dst:=some d,op:= .call {callee:= .builtin .append,args:=#[x,y],argTypes:=#[t,t]},type:=ty,pos:=pos,after:=af,guard:=none}::os)=true)
  (hx:ev E x=some (.os b 1 0 n)) (hy:ev E y=some (.os b2 1 0 1)) (rl:lk H b2=some (.var (.row e2) [zv])) (hH:lk H b=some (mC e cs)) (hm:AV.mens b cs=false) (OA:zv.men b=false)
  (ht:tk C.P t= .slice e) (b5:sz C.P e=some 1) (hz:(ax C.P e).map List.length=some 1) (fR:aQ C.P e=some bytes)
  (hn:n=cs.length) (cM:(cs.length+1)*bytes<=140737488355328) (iw:cs.length+1<=70368744177664)
  (h:∀H',lk H' b=some (mC e (cs++[zv]))->(∀j,j≠b->lk H' j=(lk H j).map (fl b))->vq C K os ((i,d)::ds) (i+1) ((d,.os b 1 0 (cs.length+1))::killE b E) H'):
  AQ C ds i ({dst:=some d,op:= .call {callee:= .builtin .append,args:=#[x,y],argTypes:=#[t,t]},type:=ty,pos:=pos,after:=af,guard:=none}::os) K E H:=by
 refine AQ.kill b ?_
 refine AQ.dS (j9 (kM b H)) (fun b=>(vE _ b).symm) ?_
 have c_:∀j,lk (j9 (kM b H)) j=(lk H j).map (fl b):=fun j=>(vE _ j).trans (tx H j)
 have a_:noMen b (j9 (kM b H))=true:=P8 fun j o ho=>by
  rw[tx]at ho
  cases hj:lk H j with
  |none=>rw[hj]at ho;cases ho
  |some o1=>rw[hj]at ho;cases ho;exact IA b o1
 have oT:=c_ b
 rw[hH,Option.map_some,kN (aa0 hm)]at oT
 have Gv:=c_ b2
 rw[rl,Option.map_some,kN (by simp only[Ob.men,AV.mens,OA,Bool.or_false])]at Gv
 have hR:=fun o=>h (aR (j9 (kM b H)) b o)
 have qk:∀o j,j≠b->lk (aR (j9 (kM b H)) b o) j=(lk H j).map (fl b):=fun o j hj=>(cD _ b j o hj).trans (c_ j)
 have Dl:=Nat.ble_eq_true_of_le hnb
 cases cs with
 |nil=>
  subst hn
  exact AQ.aaP Dl ah hx hy Gv oT a_ ht b5 hz fR (by simpa using cM) (hR _ (de _ b _ oT) (qk _))
 |cons c r=>
  refine AQ.aaO Dl ah hx hy Gv oT a_ ht b5 hz fR hn cM iw (hR _ ?_ (qk _))
  rw[de _ b _ oT]
  rfl
end
abbrev oP (u:Value):AV:= .wr (.exact u) .top
theorem UU {w:World} {φ:al} {I:Nat->Prop} {u v:Value}:AV.den w φ I (oP u) v↔v=u:=by
 simp only[AV.den,WK.rel]
 exact⟨fun⟨_,h,_⟩=>h.1,fun h=>⟨u,⟨h,h▸rfl⟩,trivial⟩⟩
theorem FQ {w:World} {φ:al} {I:Nat->Prop}:∀(us vs:List Value),AV.ab w φ I (us.map oP) vs↔vs=us
 |[],vs=>by simp[AV.ab]
 |u::us,vs=>by
  simp only[List.map_cons,AV.ab,UU,FQ us]
  exact⟨fun⟨_,_,U,h2,h3⟩=>by subst h2;subst h3;exact U,fun h=>⟨u,us,h,rfl,rfl⟩⟩
theorem PG (b:Nat):∀us:List Value,AV.mens b (us.map oP)=false
 |[]=>rfl
 |u::us=>by simp only[List.map_cons,AV.mens,AV.men,PG b us,Bool.or_false]
section
variable {C:Cx} {K:List PK} {E:Env} {H:aa}
theorem AQ.vV {ds:List (Nat×Nat)} {i:Nat} {d:Option Nat} {ty t e e':TypeId} {pos:String} {af:Array Edge} {os:List Oper} {p:Operand} {b j:Nat} {cs:List AV} {y:AV}
  (ah:ba C.n ({dst:=d,op:= .load t p,type:=ty,pos:=pos,after:=af,guard:=none}::os)=true)
  (hp:ev E p=some (.oe b 1 j 0)) (hH:lk H b=some (mC e cs)) (hy:cs[j]?=some y) (ht:tk C.P t= .ptr e') (aT:sz C.P t=some 1)
  (h:vq C K os (aZ d i ds) (i+1) (a7 d y E) H):
  AQ C ds i ({dst:=d,op:= .load t p,type:=ty,pos:=pos,after:=af,guard:=none}::os) K E H:=by
 obtain⟨c,r,rfl⟩:∃c r,cs=c::r:=by
  cases cs with
  |nil=>simp at hy
  |cons c r=>exact⟨c,r,rfl⟩
 replace hH:lk H b=some (.var (.row e) (c::r)):=hH
 refine AQ.val y ah rfl (fun φ I a w hs=>?_) h
 obtain⟨us,iy,hlen,uP⟩:=hs.st.EC hH
 obtain⟨v,hv,bc⟩:=ig _ us j y iy hy
 have Dj:lk (aR H b (.vec e 1 (lits us))) b=some (.vec e 1 (lits us)):=de H b _ hH
 have rC:j<us.length:=by rw[hlen];exact(List.getElem?_eq_some_iff.1 hy).1
 have hl:uh C.P (aR H b (.vec e 1 (lits us))) t (.oe b 1 j 0)=some ((j<(lits us).length/\0+1<=1),.im (.v v)):=by
  unfold uh
  simp only[Dj,aT,Nat.beq_refl,cond_true,Zl hv,List.drop_zero,List.take_succ_cons,List.take_zero,tA,ht,qx,TK.agg,cond_false,List.map_cons,List.map_nil]
 obtain⟨u,aF,aX⟩:=Fm uP.real hl ⟨by rw[vB];exact rC,Nat.le_refl _⟩ (aO hs.env hp)
 simp only[AV.den,IV.den]at aX
 obtain⟨rfl,_⟩:=aX
 exact⟨u,by simp only[execOp,Sem.run_bind,Sem.run_map,aF,Result.andThen_ok,Sem.run_pure],bc⟩
end
mutual
theorem CD {b es:Nat} {rows:List (List IV)}:∀x:AV,x.men b=false->eh b es rows x=x/\eK b rows x
 | .os b' _ _ _,h=>by simp only[AV.men]at h;simp only[eh,eK,h,cond_false];exact⟨trivial,trivial⟩
 | .oe b' _ _ _,h=>by simp only[AV.men]at h;simp only[eh,eK,h,cond_false];exact⟨trivial,trivial⟩
 | .ob b' _,h=>by simp only[AV.men]at h;simp only[eh,eK,h,cond_false];exact⟨trivial,trivial⟩
 | .fn f fs aN,h=>by
  simp only[AV.men,Bool.or_eq_false_iff]at h
  have U:=sO (es:=es) (rows:=rows) fs h.1
  have h2:=sO (es:=es) (rows:=rows) aN h.2
  simp only[eh,eK,U.1,h2.1]
  exact⟨trivial,U.2,h2.2⟩
 | .agg cs,h=>by
  simp only[AV.men]at h
  have U:=sO (es:=es) (rows:=rows) cs h
  simp only[eh,eK,U.1]
  exact⟨trivial,U.2⟩
 | .aI cs,h=>by
  simp only[AV.men]at h
  have U:=sO (es:=es) (rows:=rows) cs h
  simp only[eh,eK,U.1]
  exact⟨trivial,U.2⟩
 | .opt g x,h=>by
  simp only[AV.men]at h
  have U:=CD (es:=es) (rows:=rows) x h
  simp only[eh,eK,U.1]
  exact⟨trivial,U.2⟩
 | .wr k x,h=>by
  simp only[AV.men]at h
  have U:=CD (es:=es) (rows:=rows) x h
  simp only[eh,eK,U.1]
  exact⟨trivial,U.2⟩
 | .im _,_=>⟨rfl,trivial⟩
 | .ar _,_=>⟨rfl,trivial⟩
 | .top,_=>⟨rfl,trivial⟩
 | .mp b',h=>by simp only[AV.men]at h;simp only[eh,eK,h,cond_false];exact⟨trivial,trivial⟩
theorem sO {b es:Nat} {rows:List (List IV)}:∀xs:List AV,AV.mens b xs=false->gS b es rows xs=xs/\fO b rows xs
 |[],_=>⟨rfl,trivial⟩
 |x::xs,h=>by
  simp only[AV.mens,Bool.or_eq_false_iff]at h
  have U:=CD (es:=es) (rows:=rows) x h.1
  have h2:=sO (es:=es) (rows:=rows) xs h.2
  simp only[gS,fO,U.1,h2.1]
  exact⟨trivial,U.2,h2.2⟩
end
theorem My {b es:Nat} {rows:List (List IV)}:∀E:Env,menE b E=false->k9 b es rows E=E/\k_ b rows E
 |[],_=>⟨rfl,trivial⟩
 |(i,x)::r,h=>by
  simp only[menE,Bool.or_eq_false_iff]at h
  have U:=CD (es:=es) (rows:=rows) x h.1
  have h2:=My (es:=es) (rows:=rows) r h.2
  simp only[k9,k_,U.1,h2.1]
  exact⟨trivial,U.2,h2.2⟩
def uI (b:Nat) (rows:List (List IV)):Ob->Prop
 | .var _ cs=>fO b rows cs
 | .vec _ _ _=>True
 | .lp _ _ _ _ _ _ E=>k_ b rows E
theorem Ge {b es:Nat} {rows:List (List IV)}:∀{o:Ob},o.men b=false->l_ b es rows o=o/\uI b rows o
 | .var e cs,h=>by have:=sO (es:=es) (rows:=rows) cs h;simp only[l_,this.1];exact⟨trivial,this.2⟩
 | .vec _ _ _,_=>⟨rfl,trivial⟩
 | .lp _ _ _ _ _ _ E,h=>by have:=My (es:=es) (rows:=rows) E h;simp only[l_,this.1];exact⟨trivial,this.2⟩
theorem Mz {b:Nat} {rows:List (List IV)}:∀H:aa,(∀p∈H,uI b rows p.2)->kj b rows H
 |[],_=>trivial
 |(j,o)::r,h=>by
  have U:=h (j,o) (by simp)
  have h2:=Mz r fun p hp=>h p (by simp[hp])
  cases o with
  |var _ _=>exact⟨U,h2⟩
  |vec _ _ _=>exact h2
  |lp _ _ _ _ _ _ _=>exact⟨U,h2⟩
def kO (S:List Nat) (b:Nat):aa->aa
 |[]=>[]
 |(j,o)::r=>(j,if j∈S then o else fl b o)::kO S b r
theorem xY {S:List Nat} {b:Nat}:∀(H:aa) (j:Nat),lk (kO S b H) j=(lk H j).map fun o=>if j∈S then o else fl b o
 |[],_=>rfl
 |(k,o)::r,j=>by
  simp only[kO,lk]
  cases hq:Nat.beq k j with
  |true=>have:=Nat.eq_of_beq_eq_true hq;subst this;rfl
  |false=>simpa using xY r j
theorem Y0 {w:World} {φ:al} {I:Nat->Prop} {b:Nat} {p:Option Nat}:∀{o:Ob},o.at w φ I p->(fl b o).at w φ I p
 | .var e cs,h=>by
  simp only[Ob.at,fl]at h⊢
  obtain⟨g,us,U,h2,h3,h4⟩:=h
  exact⟨g,us,U,h2,DV cs us h3,h4⟩
 | .vec _ _ _,h=>h
 | .lp l n st fn q ps E,h=>by
  simp only[Ob.at,fl]at h⊢
  obtain⟨h0,T,D,cz,U,h2,h3⟩:=h
  refine⟨h0,T,D,cz,U,h2,fun i x hx=>?_⟩
  obtain⟨y,hy,iX⟩:=qu (w:=w) (φ:=φ) (φ':=φ) (I:=I) (b:=b) (fun _ _=>rfl) E i x hx
  obtain⟨u,hu,hd⟩:=h3 i y hy
  exact⟨u,hu,iX u hd⟩
theorem St.kO {B:Bs} {φ:al} {I:Nat->Prop} {H:aa} {w:World} (h:St B φ I H w) (S:List Nat) (b:Nat):St B φ I (kO S b H) w:=by
 refine⟨⟨fun j=>?_,fun j o p hl hp=>?_,h.real.off,h.real.inj,h.real.bN⟩,h.ext,h.cf,h.dj,h.cC,fun j p o ag h0 hl=>?_⟩
 ·rw[xY,Option.isSome_map];exact h.real.bj j
 ·rw[xY]at hl
  cases hq:lk H j with
  |none=>rw[hq]at hl;cases hl
  |some o1=>
   rw[hq]at hl
   simp only[Option.map_some,Option.some.injEq]at hl
   have:=h.real.own j o1 p hq hp
   subst hl
   split
   ·exact this
   ·exact Y0 this
 ·rw[xY]at hl
  cases hq:lk H j with
  |none=>rw[hq]at hl;cases hl
  |some o1=>exact h.cP j p o1 ag h0 hq
section
variable {C:Cx} {K:List PK} {E:Env} {H:aa}
theorem AE.kO {e:Exit} (S:List Nat) (b:Nat) (h:AE C e K E (kO S b H)):AE C e K E H:=by
 unfold AE at h⊢
 exact fun φ I a w hs=>h _ _ _ _ ⟨hs.bF,hs.bC,hs.env,hs.st.kO S b⟩
theorem AQ.kO {ds:List (Nat×Nat)} {i:Nat} {rest:List Oper} (S:List Nat) (b:Nat) (h:AQ C ds i rest K E (kO S b H)):AQ C ds i rest K E H:=by
 unfold AQ at h⊢
 exact fun ops U h2 φ I a w hs=>h ops U h2 _ _ _ _ ⟨hs.bF,hs.bC,hs.env,hs.st.kO S b⟩
theorem MB {b es:Nat} {rows:List (List IV)} {el:TypeId} {S:List Nat} (hl:lk H b=some (.vec el es rows)) (hS:∀j∈S,∀o,lk H j=some o->uI b rows o):
  ∃H0:aa,(∀j,lk (kO S b H) j=lk H0 j)/\lk H0 b=some (.vec el es rows)/\kj b rows H0/\(∀j∈S,j≠b->lk (fY b es rows H0) j=(lk H j).map (l_ b es rows))/\
   (∀j o,j≠b->lk H j=some o->o.men b=false->lk (fY b es rows H0) j=some o)/\∀j,j≠b->(lk (fY b es rows H0) j).isSome=(lk H j).isSome:=by
 have c_:∀j,lk (j9 (Go.AL.kO S b H)) j=(lk H j).map fun o=>if j∈S then o else fl b o:=fun j=>(vE _ j).trans (xY H j)
 refine⟨j9 (Go.AL.kO S b H),fun j=>(vE _ j).symm,?_,Mz _ fun p hp=>?_,fun j hj aK=>?_,fun j o aK hj hm=>?_,fun j aK=>?_⟩
 ·rw[c_,hl,Option.map_some]
  split<;>rfl
 ·have U:=FJ _ p hp
  rw[xY]at U
  cases hj:lk H p.1 with
  |none=>rw[hj]at U;cases U
  |some o=>
   rw[hj]at U
   simp only[Option.map_some,Option.some.injEq]at U
   rw[<-U]
   split
   ·rename_i hm;exact hS _ hm o hj
   ·exact(Ge (es:=es) (IA b o)).2
 ·rw[om _ _ aK,c_]
  cases lk H j with
  |none=>rfl
  |some o=>simp only[Option.map_some,if_pos hj]
 ·rw[om _ _ aK,c_,hj]
  simp only[Option.map_some]
  split
  ·rw[(Ge hm).1]
  ·rw[kN hm,(Ge hm).1]
 ·rw[om _ _ aK,c_,Option.isSome_map,Option.isSome_map]
theorem AE.Gb {e:Exit} (b:Nat) (S:List Nat) {el:TypeId} {es:Nat} {rows:List (List IV)} (hl:lk H b=some (.vec el es rows)) (hS:∀j∈S,∀o,lk H j=some o->uI b rows o) (oS:k_ b rows E)
  (h:∀H',(∀j∈S,j≠b->lk H' j=(lk H j).map (l_ b es rows))->(∀j o,j≠b->lk H j=some o->o.men b=false->lk H' j=some o)->(∀j,j≠b->(lk H' j).isSome=(lk H j).isSome)->AE C e K (k9 b es rows E) H'):AE C e K E H:=by
 obtain⟨H0,U,h2,h3,h4,h5,h6⟩:=MB (es:=es) hl hS
 exact AE.kO S b (AE.dS H0 U (AE.freeze b h2 h3 oS (h _ h4 h5 h6)))
theorem AQ.Gb {ds:List (Nat×Nat)} {i:Nat} {rest:List Oper} (b:Nat) (S:List Nat) {el:TypeId} {es:Nat} {rows:List (List IV)} (hl:lk H b=some (.vec el es rows)) (hS:∀j∈S,∀o,lk H j=some o->uI b rows o) (oS:k_ b rows E)
  (h:∀H',(∀j∈S,j≠b->lk H' j=(lk H j).map (l_ b es rows))->(∀j o,j≠b->lk H j=some o->o.men b=false->lk H' j=some o)->(∀j,j≠b->(lk H' j).isSome=(lk H j).isSome)->AQ C ds i rest K (k9 b es rows E) H'):AQ C ds i rest K E H:=by
 obtain⟨H0,U,h2,h3,h4,h5,h6⟩:=MB (es:=es) hl hS
 exact AQ.kO S b (AQ.dS H0 U (AQ.freeze b h2 h3 oS (h _ h4 h5 h6)))
theorem AQ.SB {ds:List (Nat×Nat)} {i:Nat} {d:Nat} {ty:TypeId} {pos:String} {af:Array Edge} {os:List Oper} {x y:Operand} {t e:TypeId} {b n es bytes:Nat} {rows xs:List (List IV)} (hnb:C.B.nb<=b)
  (ah:ba C.n ({dst:=some d,op:= .call {callee:= .builtin .append,args:=#[x,y],argTypes:=#[t,t]},type:=ty,pos:=pos,after:=af,guard:=none}::os)=true)
  (hx:ev E x=some (.os b (es+1) 0 n)) (hy:ev E y=some (.im (.sl (es+1) xs))) (hH:lk H b=some (.vec e (es+1) rows))
  (ht:tk C.P t= .slice e) (b5:sz C.P e=some (es+1)) (hz:(ax C.P e).map List.length=some (es+1)) (fR:aQ C.P e=some bytes)
  (hn:n=rows.length) (cM:(rows.length+xs.length)*bytes<=140737488355328) (iw:rows.length+xs.length<=70368744177664)
  (h:∀H',lk H' b=some (.vec e (es+1) (rows++xs))->(∀j,j≠b->lk H' j=(lk H j).map (fl b))->vq C K os ((i,d)::ds) (i+1) ((d,.os b (es+1) 0 (rows.length+xs.length))::killE b E) H'):
  AQ C ds i ({dst:=some d,op:= .call {callee:= .builtin .append,args:=#[x,y],argTypes:=#[t,t]},type:=ty,pos:=pos,after:=af,guard:=none}::os) K E H:=by
 refine AQ.kill b ?_
 refine AQ.dS (j9 (kM b H)) (fun b=>(vE _ b).symm) ?_
 have c_:∀j,lk (j9 (kM b H)) j=(lk H j).map (fl b):=fun j=>(vE _ j).trans (tx H j)
 have a_:noMen b (j9 (kM b H))=true:=P8 fun j o ho=>by
  rw[tx]at ho
  cases hj:lk H j with
  |none=>rw[hj]at ho;cases ho
  |some o1=>rw[hj]at ho;cases ho;exact IA b o1
 have oT:=c_ b
 rw[hH,Option.map_some,kN rfl]at oT
 exact AQ.append (Nat.ble_eq_true_of_le hnb) ah hx hy oT a_ ht b5 hz fR hn cM iw (h _ (de _ b _ oT) fun j hj=>(cD _ b j _ hj).trans (c_ j))
end
section
variable {C:Cx} {K:List PK} {E:Env} {H:aa}
theorem AQ.Ud {ds:List (Nat×Nat)} {i:Nat} {d:Option Nat} {ty t e:TypeId} {pos:String} {af:Array Edge} {os:List Oper} {x y:Operand} {k k':Nat} {z:Value}
  (ah:ba C.n ({dst:=d,op:= .buildSlice t 2 #[(0,x),(1,y)],type:=ty,pos:=pos,after:=af,guard:=none}::os)=true)
  (hx:ev E x=some (.ob k 0)) (hy:ev E y=some (.ob k' 0)) (ht:tk C.P t= .slice e) (b5:sz C.P e=some 1) (hz:ax C.P e=some [z])
  (h:vq C K os (aZ d i ds) (i+1) (a7 d (.os (ay C.B.nb H) 1 0 2) E) ((ay C.B.nb H,.var (.row e) [.ob k 0,.ob k' 0])::H)):
  AQ C ds i ({dst:=d,op:= .buildSlice t 2 #[(0,x),(1,y)],type:=ty,pos:=pos,after:=af,guard:=none}::os) K E H:=by
 refine AQ.step1 _ _ ah rfl (fun φ I a w hs=>?_) h
 have fj:=aO hs.env hx
 simp only[AV.den]at fj
 obtain⟨g,hg,hv⟩:=fj
 have od:=aO hs.env hy
 simp only[AV.den]at od
 obtain⟨g',bR,jP⟩:=od
 obtain⟨ie,zv,f_,po,_⟩:=we hz
 obtain⟨i2,rA,aT⟩:=EV b5
 rw[f_]at rA;cases rA
 have aF:(execOp a.eval ⟨d,.buildSlice t 2 #[(0,x),(1,y)],ty,pos,af,none⟩).run C.P w= .ok (.value (.slice (some ⟨w.heap.size,0,none⟩) 2 2)) (w.alloc (.cells #[a.eval x,a.eval y] e)):=by
  have:=run_buildSlice (P:=C.P) w t e 2 #[(0,a.eval x),(1,a.eval y)] #[a.eval x,a.eval y] ie zv (fc ht) f_ po (by rw[aT];decide) (by rw[aT];decide) (by
   rw[aT,hv,jP];simp only[Instr.fill,Nat.mul_one]
   simp[Value.cells]
   refine Array.ext (by simp) fun i U h2=>?_
   have h0:i=0\/i=1:=by simp at h2;omega
   rcases h0 with rfl|rfl<;>simp)
  simp only[execOp,Sem.run_bind,Sem.run_pure]
  first|rw[this]|simp[this]
 have o_:=dw C.B.nb H
 have dF:(w.alloc (.cells #[a.eval x,a.eval y] e)).heap[w.heap.size]?=some (.cells #[a.eval x,a.eval y] e (0,0)):=heap_alloc_new w _
 have aK:∀k g,φ k=some (some g)->k≠ay C.B.nb H:=fun k g hg e=>by
  have U:=hs.st.real.bj k
  rw[hg]at U
  cases ho:lk H k with
  |none=>rw[ho]at U;simp at U
  |some o=>have:=bZ H k o ho;omega
 obtain⟨hS,hK⟩:=hs.st.uj (lN C.B.nb H) o_.1 (cs:=#[a.eval x,a.eval y]) (e:=e) (o:= .var (.row e) [.ob k 0,.ob k' 0]) (by
  simp only[Ob.at,Sh.has,Sh.one]
  refine⟨w.heap.size,[a.eval x,a.eval y],rfl,⟨[],dF⟩,?_,fun y hy=>?_⟩
  ·simp only[AV.ab,AV.den]
   exact⟨_,_,rfl,⟨g,by simp[aY,aK k g hg,hg],hv⟩,_,_,rfl,⟨g',by simp[aY,aK k' g' bR,bR],jP⟩,rfl⟩
  ·rcases List.mem_cons.1 hy with rfl|hy
   ·rw[hv];rfl
   ·rw[List.mem_singleton.1 hy,jP];rfl)
 refine⟨.slice (some ⟨w.heap.size,0,none⟩) 2 2,_,_,I,aF,?_,hS,hK⟩
 simp only[AV.den]
 exact .inr ⟨w.heap.size,2,by simp[aY],by rw[Nat.zero_mul],Nat.le_refl _,by unfold maxLen;omega,⟨_,e,dF,by simp⟩⟩
end
theorem QV (ρ:Nat->Nat):∀us:List Value,AV.cU ρ (us.map oP)=us.map oP
 |[]=>rfl
 |u::us=>by simp only[List.map_cons,AV.cU,AV.rn,QV ρ us]
def x5 (t:TypeId) (ks us:List Value):aa:=[(1,.var (.cell t) [.mp 0]),(0,.var (.map ks) (us.map oP))]
theorem dz.frame {P:Program} {f gf:FuncId} {nb m bx:Nat} {H:aa} {ks:List Value} {cs:List AV} {t:TypeId} {r0:AV} (hm:lk H m=some (.var (.map ks) cs)) (hb:lk H bx=some (.var (.cell t) [.mp m])) (uX:enters P f=true) (zV:r0.free=true)
  (hc:∀us:List Value,us.length=cs.length->ai P f [.fn gf [] [.ob 1 0]] (x5 t ks us) (fun r H'=>r=r0/\H'=x5 t ks us)):
  dz P nb f [.fn gf [] [.ob bx 0]] H (fun r H'=>r=r0/\H'=H):=by
 have aK:m≠bx:=fun e=>by rw[e,hb]at hm;cases hm
 refine⟨uX,fun w φ I vs hd hR hV=>?_⟩
 have wX:=hR.bj m
 rw[hm]at wX
 obtain⟨pm,jL⟩:=Option.isSome_iff_exists.1 wX
 have NV:=hR.own m _ _ hm jL
 simp only[Ob.at]at NV
 obtain⟨gm,us,rfl,Nu,uT,_⟩:=NV
 have zO:=hR.bj bx
 rw[hb]at zO
 obtain⟨pb,jK⟩:=Option.isSome_iff_exists.1 zO
 have qj:=hR.own bx _ _ hb jK
 simp only[Ob.at]at qj
 obtain⟨gb,ub,rfl,G7,Ni,jJ⟩:=qj
 have cN:gm≠gb:=fun e=>aK (hR.inj m bx gm jL (e▸jK))
 have Nj:ub=[.map (some gm)]:=by
  simp only[AV.ab,AV.den]at Ni
  obtain⟨u,au,rfl,⟨g,hg,rfl⟩,rfl⟩:=Ni
  rw[jL]at hg;cases hg;rfl
 let ao:al:=fun i=>if i=0 then φ m else if i=1 then φ bx else none
 have h0:ao 0=some (some gm):=by simp[ao,jL]
 have U:ao 1=some (some gb):=by simp[ao,jK]
 have Dr:∀g,cZ ao g->g=gm\/g=gb:=fun g ⟨b,hb⟩=>by
  by_cases e0:b=0
  ·subst e0;rw[h0]at hb;cases hb;exact .inl rfl
  ·by_cases e1:b=1
   ·subst e1;rw[U]at hb;cases hb;exact .inr rfl
   ·simp[ao,e0,e1]at hb
 have Hu:∀g,cZ ao g->cZ φ g:=fun g hg=>by
  rcases Dr g hg with rfl|rfl
  ·exact⟨m,jL⟩
  ·exact⟨bx,jK⟩
 have Wg:Real w ao I (x5 t ks us):=by
  refine⟨fun b=>?_,fun b o p hl hp=>?_,fun b g hb=>?_,fun b b' g h h'=>?_,hR.bN⟩
  ·by_cases e0:b=0
   ·subst e0;rw[h0];rfl
   ·by_cases e1:b=1
    ·subst e1;rw[U];rfl
    ·have q0:Nat.beq 0 b=false:=Bool.eq_false_iff.2 fun e=>e0 (Nat.eq_of_beq_eq_true e).symm
     have q1:Nat.beq 1 b=false:=Bool.eq_false_iff.2 fun e=>e1 (Nat.eq_of_beq_eq_true e).symm
     simp only[ao,e0,e1,if_false,x5,lk,q0,q1,cond_false];rfl
  ·by_cases e0:b=0
   ·subst e0
    rw[h0]at hp;cases hp
    have:o= .var (.map ks) (us.map oP):=(Option.some.inj (show some (Ob.var (.map ks) (us.map oP))=some o from hl)).symm
    subst this
    simp only[Ob.at]
    exact⟨gm,us,rfl,Nu,(FQ us us).2 rfl,trivial⟩
   ·by_cases e1:b=1
    ·subst e1
     rw[U]at hp;cases hp
     have:o= .var (.cell t) [.mp 0]:=(Option.some.inj (show some (Ob.var (.cell t) [.mp 0])=some o from hl)).symm
     subst this
     simp only[Ob.at]
     refine⟨gb,ub,rfl,G7,?_,jJ⟩
     rw[Nj]
     simp only[AV.ab,AV.den]
     exact⟨_,_,rfl,⟨gm,h0,rfl⟩,rfl⟩
    ·simp[ao,e0,e1]at hp
  ·rcases Dr g ⟨b,hb⟩with rfl|rfl
   ·exact hR.off m _ jL
   ·exact hR.off bx _ jK
  ·by_cases e0:b=0
   ·subst e0
    rw[h0]at h;cases h
    by_cases f0:b'=0
    ·exact f0.symm
    ·by_cases f1:b'=1
     ·subst f1;rw[U]at h';cases h';exact absurd rfl cN
     ·simp[ao,f0,f1]at h'
   ·by_cases e1:b=1
    ·subst e1
     rw[U]at h;cases h
     by_cases f0:b'=0
     ·subst f0;rw[h0]at h';cases h';exact absurd rfl cN
     ·by_cases f1:b'=1
      ·exact f1.symm
      ·simp[ao,f0,f1]at h'
    ·simp[ao,e0,e1]at h
 have hlen:=qR uT
 have oX:AV.ab w ao I [.fn gf [] [.ob 1 0]] vs:=by
  simp only[AV.ab,AV.den]at hd⊢
  obtain⟨u,au,rfl,⟨fs,vs,rfl,⟨v,wb,rfl,⟨g,hg,rfl⟩,rfl⟩,rfl⟩,rfl⟩:=hd
  rw[jK]at hg;cases hg
  exact⟨_,_,rfl,⟨[],_,rfl,⟨_,_,rfl,⟨gb,U,rfl⟩,rfl⟩,rfl⟩,rfl⟩
 refine((hc us hlen).run w ao I vs oX Wg hV).mono fun e w' ⟨r,H',φ',I',v,⟨hr,oT⟩,he,bc,hS⟩=>?_
 subst hr oT
 have ql:φ' 0=some (some gm):=hS.cP 0 _ (.var (.map ks) (us.map oP)) (show 0<2 by omega) h0 rfl
 have dQ:φ' 1=some (some gb):=hS.cP 1 _ (.var (.cell t) [.mp 0]) (show 1<2 by omega) U rfl
 have jG:∀g,I g->w'.heap[g]?=w.heap[g]?:=fun g hg=>hS.ext.cm g (hR.bN g hg) fun ho=>by
  obtain⟨b,hb⟩:=Hu g ho
  exact(hR.off b g hb).1 hg
 have NB:∀b g,φ b=some (some g)->b≠m->b≠bx->w'.heap[g]?=w.heap[g]?:=fun b g ln U h2=>hS.ext.cm g (hR.off b g ln).2 fun ho=>by
  rcases Dr g ho with rfl|rfl
  ·exact U (hR.inj b m _ ln jL)
  ·exact h2 (hR.inj b bx _ ln jK)
 have w8:=hS.real.own 0 _ _ (show lk (x5 t ks us) 0=some (.var (.map ks) (us.map oP)) from rfl) ql
 have bK:=hS.real.own 1 _ _ (show lk (x5 t ks us) 1=some (.var (.cell t) [.mp 0]) from rfl) dQ
 simp only[Ob.at]at w8 bK
 obtain⟨q,pP,hq,W4,Nk,_⟩:=w8
 cases hq
 rw[FQ]at Nk
 subst Nk
 obtain⟨q,Sk,hq,G8,Nh,Xx⟩:=bK
 cases hq
 have Oj:Sk=[.map (some gm)]:=by
  simp only[AV.ab,AV.den]at Nh
  obtain⟨u,au,rfl,⟨g,hg,rfl⟩,rfl⟩:=Nh
  rw[ql]at hg;cases hg;rfl
 have cX:∀b g n,φ b=some (some g)->shaped w g n->shaped w' g n:=fun b g n ln hs=>by
  by_cases U:b=m
  ·subst U
   rw[jL]at ln;cases ln
   obtain⟨c,e,hh,_⟩:=hs
   obtain⟨es,clock,h3,_⟩:=Nu
   rw[h3]at hh;cases hh
  ·by_cases h2:b=bx
   ·subst h2
    rw[jK]at ln;cases ln
    obtain⟨c,e,hh,hn⟩:=hs
    simp only[Sh.has]at G7 G8
    rw[G7]at hh;cases hh
    exact⟨_,t,G8,by rw[Oj];rw[Nj]at hn;exact hn⟩
   ·obtain⟨c,e,hh,hn⟩:=hs
    exact⟨c,e,(NB b g ln U h2).trans hh,hn⟩
 refine⟨r,H,φ,I',v,⟨rfl,rfl⟩,he,AV.re _ _ zV bc,⟨⟨hR.bj,fun b o p hl hp=>?_,fun b g ln=>⟨fun Gw=>?_,?_⟩,hR.inj,hS.real.bN⟩,⟨hS.ext.size,fun g hg hn=>hS.ext.cm g hg fun ho=>hn (Hu g ho),hS.ext.form,hS.ext.os,hS.ext.tape,hS.ext.output⟩,fun b g ln=> .inl ⟨b,ln⟩,fun g hg=>?_,hS.cC,fun b p o _ h _=>h⟩⟩
 ·by_cases U:b=m
  ·subst U
   rw[hm]at hl;cases hl
   rw[jL]at hp;cases hp
   simp only[Ob.at]
   exact⟨gm,_,rfl,W4,AV.fA jG hS.cC (fun _ _ h=>h) cX _ _ uT,trivial⟩
  ·by_cases h2:b=bx
   ·subst h2
    rw[hb]at hl;cases hl
    rw[jK]at hp;cases hp
    simp only[Ob.at]
    refine⟨gb,Sk,rfl,G8,?_,Xx⟩
    rw[Oj]
    simp only[AV.ab,AV.den]
    exact⟨_,_,rfl,⟨gm,jL,rfl⟩,rfl⟩
   ·exact Ob.k5 jG hS.cC (fun _ _ h=>h) cX (fun g hg=>NB b g (hg▸hp) U h2) (hR.own b o p hl hp)
 ·rcases hS.dj g Gw with U|U|U
  ·exact(hR.off b g ln).1 U
  ·rcases Dr g U with rfl|rfl
   ·exact(hS.real.off 0 _ ql).1 Gw
   ·exact(hS.real.off 1 _ dQ).1 Gw
  ·have:=(hR.off b g ln).2
   have h2:w.heap.size<=g:=U
   omega
 ·exact Nat.lt_of_lt_of_le (hR.off b g ln).2 hS.ext.size
 ·rcases hS.dj g hg with U|U|U
  ·exact .inl U
  ·exact .inr (.inl (Hu g U))
  ·exact .inr (.inr U)
end Go.AL
end
