import Derived.Test.YtpfohmboflcneaaGreatDoorAl2
import Derived.MapKept
import Derived.Laws.CopyRow
import Derived.Laws.MakeOwn
import Derived.Lib.BufferWrite
import Derived.RecoverIn
import Derived.Sort.Grow
import Derived.Sort.EncStr
import Derived.Maps.RangeRun
set_option linter.unusedSimpArgs false
set_option linter.unusedVariables false
set_option linter.unnecessarySimpa false
section
namespace Go.AL
open Go
mutual
theorem AV.yy {nb b:Nat} (h:nb<=b):∀(x:AV),x.ge nb=false->x.men b=false
 | .ob b' _,hx=>by simp only[AV.ge,AV.men]at hx⊢;exact gK (by have:=o9 hx;omega)
 | .oe b' _ _ _,hx=>by simp only[AV.ge,AV.men]at hx⊢;exact gK (by have:=o9 hx;omega)
 | .os b' _ _ _,hx=>by simp only[AV.ge,AV.men]at hx⊢;exact gK (by have:=o9 hx;omega)
 | .fn f fs aL,hx=>by simp only[AV.ge,AV.men,Bool.or_eq_false_iff]at hx⊢;exact⟨AV.uM h fs hx.1,AV.uM h aL hx.2⟩
 | .agg cs,hx=>by simp only[AV.ge,AV.men]at hx⊢;exact AV.uM h cs hx
 | .aD cs,hx=>by simp only[AV.ge,AV.men]at hx⊢;exact AV.uM h cs hx
 | .opt g x,hx=>by simp only[AV.ge,AV.men]at hx⊢;exact AV.yy h x hx
 | .im x,_=>rfl
 | .ar x,_=>rfl
 | .top,_=>rfl
 | .mp b',hx=>by simp only[AV.ge,AV.men]at hx⊢;exact gK (by have:=o9 hx;omega)
 | .wr k x,hx=>by simp only[AV.ge,AV.men]at hx⊢;exact AV.yy h x hx
theorem AV.uM {nb b:Nat} (h:nb<=b):∀(xs:List AV),AV.i_ nb xs=false->AV.mens b xs=false
 |[],_=>rfl
 |x::xs,hx=>by simp only[AV.i_,AV.mens,Bool.or_eq_false_iff]at hx⊢;exact⟨AV.yy h x hx.1,AV.uM h xs hx.2⟩
end
theorem Di {nb b:Nat} (h:nb<=b):∀(E:Env) (i:Nat) (x:AV),lk (jK nb E) i=some x->x.men b=false
 |[],i,x,hx=>by simp[jK,lk]at hx
 |(j,y)::r,i,x,hx=>by
  simp only[jK]at hx
  cases hm:y.ge nb with
  |true=>
   rw[hm]at hx
   simp only[cond_true,lk]at hx
   cases hb:Nat.beq j i with
   |true=>rw[hb]at hx;simp only[cond_true,Option.some.injEq]at hx;subst hx;rfl
   |false=>rw[hb]at hx;exact Di h r i x hx
  |false=>
   rw[hm]at hx
   simp only[cond_false,lk]at hx
   cases hb:Nat.beq j i with
   |true=>rw[hb]at hx;simp only[cond_true,Option.some.injEq]at hx;subst hx;exact AV.yy h y hm
   |false=>rw[hb]at hx;exact Di h r i x hx
theorem St.S6 {B:Bs} {φ:aq} {I:Nat->Prop} {H:aa} {w:World} {l:Nat} {r:Loop} {o':Obj} (h:St B φ I H w) (hl:w.heap[l]?=some (.loop r)) (hI:¬I l) (az:∀b,φ b≠some (some l)) (ho:B.own l\/B.w0.heap.size<=l):
  St B φ I H (w.putObj l o')/\bG w φ I (w.putObj l o') φ I:=by
 have k:bG w φ I (w.putObj l o') φ I:=zm hl hI
 refine⟨⟨⟨h.real.bB,fun b' o p aE hp=>?_,fun b' g hp=>?_,h.real.inj,fun g hg=>?_⟩,h.ext.trans (Gx (own:=fun g=>g=l) hl rfl) (fun g hg=>by subst hg;exact ho),h.cd,h.cZ,h.cz,h.cE⟩,k⟩
 ·exact Ob.jV k.im k.I k.phi k.sh (fun g hg=>World.putObj_heap_other (fun e=>by subst e;subst hg;exact az b' hp)) (h.real.own b' o p aE hp)
 ·have:=h.real.off b' g hp
  exact⟨this.1,by simpa using this.2⟩
 ·have:=h.real.bZ g hg
  simpa using this
def tw (C:Cx) (K:List PK) (E:Env) (H:aa):gZ->Prop
 | .ready=>AE C .normal K E H
 | .done .ret=>AE C .ret K E H
 | .done (.exit id)=>AE C (.exit id) K E H
 |_=>False
def D5 (C:Cx) (H:aa) (b0:Nat):Prop:=match C.rd with
 |none=>C.ds=[]
 |some l0=>match lk H b0 with
  |some (.lp l1 _ _ _ _ _ _)=>l1=l0
  |_=>False
section
variable {C:Cx} {K:List PK} {E:Env} {H:aa}
theorem AP.range (nb b0:Nat) {p:List Nat} {t:Tmp} {ps:List Tmp} {as bd:Code} {f:FuncId} {fs aL:List AV} (EL:Env) {R:Nat->AV->aa->Prop}
  (hc:b_ C.fn p= .rangeFunc (.tmp t) ps.toArray as bd) (eX:lk E t=some (.fn f fs aL)) (hnb:Nat.ble C.B.nb nb=true) (BN:Sub E EL) (fQ:D5 C H b0)
  (uV:∀l,jU C.P nb f (fs++[Yl l]++aL) ((aN nb H,.lp l C.n .ready C.fn p ps EL)::H) (R l))
  (kM:∀l r H',R l r H'->fb nb ((aN nb H,.lp l C.n .ready C.fn p ps EL)::H) H')
  (sn:∀l r H',R l r H'->∃st E',lk H' (aN nb H)=some (.lp l C.n st C.fn p ps E')/\noMen (aN nb H) (eb (aN nb H) H')=true/\tw C K (jK nb E) (eb (aN nb H) H') st):AP C p K E H:=by
 unfold AP
 rw[hc]
 intro φ I a w hs
 have P4:=Nat.le_of_ble_eq_true hnb
 obtain⟨b,hb⟩:∃b,aN nb H=b:=⟨_,rfl⟩
 rw[hb]at uV kM sn
 have Hd:lk H b=none:=hb▸k0 nb H
 have fj:nb<=b:=hb▸(gV nb H).1
 refine wpIn_rangeFunc (F:=Fw C.rd) fun cr _=>?_
 obtain⟨wD,ID,tg,D,e1,pD,kD,hM⟩:∃(wD:World) (ID:Nat->Prop) (tg:List Deferred) (D:Nat),
   (Instr.enterLoop cr a.tmps ps.toArray as bd C.rd).run C.P w= .ok (wD.heap.size,tg) (wD.alloc (.loop {state:= .ready,pending:=none,fn:=cr,tmps:=a.tmps,params:=ps.toArray,assign:=as,body:=bd,defers:=D}))/\
   St C.B φ ID H wD/\bG w φ I wD φ ID/\Marks C.ds C.B.w0.heap.size wD ID (tg++a.defers):=by
  unfold D5 at fQ
  cases hr:C.rd with
  |none=>
   obtain⟨hS,k⟩:=hs.st.Ju (w':=w.alloc (.deferred (some []))) (by simp) (fun g hg=>heap_alloc_old w _ hg) rfl rfl rfl
   refine⟨w.alloc (.deferred (some [])),_,[tf w.heap.size],w.heap.size,?_,hS,k,?_⟩
   ·rw[run_enterLoop_outer];simp[tf]
   ·obtain⟨ms,h1,h2,h3,_⟩:=hs.bI
    rw[hr]at fQ
    refine⟨w.heap.size::ms,by rw[h1];rfl,List.nodup_cons.2 ⟨fun hm=>?_,h2⟩,(fun D' ly=>?_),fun aT=>absurd fQ aT⟩
    ·have:=hs.st.real.bZ _ (h3 _ hm).1
     omega
    ·rcases List.mem_cons.1 ly with rfl|ly
     ·exact⟨.inr rfl,hs.st.ext.size,World.alloc_heap_new w _⟩
     ·obtain⟨h4,h5,h6⟩:=h3 D' ly
      exact⟨.inl h4,h5,(k.im D' h4).trans h6⟩
  |some l0=>
   rw[hr]at fQ
   simp only at fQ
   split at fQ
   ·rename_i l1 n1 WV Wr p1 WT E1 ec
    subst fQ
    have hd:=hs.st.real.bB b0
    rw[ec]at hd
    cases hp:φ b0 with
    |none=>rw[hp]at hd;cases hd
    |some p0=>
     have aZ:=hs.st.real.own b0 _ p0 ec hp
     simp only[Ob.at]at aZ
     obtain⟨rfl,T,D,Bu,h1,h2,h3⟩:=aZ
     refine⟨w,I,[],D,?_,hs.st,bG.refl _ _ _,by simpa using hs.bI⟩
     unfold Instr.enterLoop
     simp only[Sem.run_bind,run_newObj_alloc,Result.andThen,Sem.run_pure,run_getLoop h2]
   ·exact fQ.elim
 have fw:=aX hs.env (x:= .tmp t) eX
 simp only[AV.den]at fw
 obtain⟨dS,us,lC,gv,ml⟩:=fw
 obtain⟨rec,y2⟩:∃rec:Loop,rec={state:= .ready,pending:=none,fn:=cr,tmps:=a.tmps,params:=ps.toArray,assign:=as,body:=bd,defers:=D}:=⟨_,rfl⟩
 have O0:=pD.xZ (b:=b) Hd (by omega) (ob:= .loop rec) (o:= .lp wD.heap.size C.n .ready C.fn p ps EL) (by
  simp only[Ob.at]
  refine⟨trivial,a.tmps,D,cr,hs.bJ,?_,fun i x hx=>?_⟩
  ·rw[World.alloc_heap_new,y2,hc];rfl
  ·obtain⟨u,hu,hd⟩:=hs.env i x (BN i x hx)
   refine⟨u,hu,?_⟩
   have gp:=kD.den hd
   refine AV.jZ (fun g hg=>heap_alloc_old wD _ (pD.real.bZ g hg)) (fun _ h=>h) (fun b' p' cp=>?_) (fun _ g n _ dv=>(qz (fun _=>False) wD _).shaped (fun h=>h) dv) x u gp
   unfold bc
   rw[if_neg (fun e=>by subst e;rw[pD.Dt Hd]at cp;cases cp)]
   exact cp)
 obtain⟨sd,k2⟩:=O0
 have gS:br C (bc φ b (some wD.heap.size)) ID E ((b,.lp wD.heap.size C.n .ready C.fn p ps EL)::H) {a with defers:=tg++a.defers} (wD.alloc (.loop rec)):=
  ⟨hM.mono k2.im k2.I,hs.bJ,fun i x hx=>let⟨u,hu,hd⟩:=hs.env i x hx;⟨u,hu,k2.den (kD.den hd)⟩,sd⟩
 have uZ:=(uV wD.heap.size).gl
 rw[<-y2]at e1
 refine⟨wD.heap.size,tg,wD.alloc (.loop rec),{target:= .fn (.func f) us.toArray,args:=dS.toArray++#[Value.func (.yield wD.heap.size) #[] #[]]},wD.alloc (.loop rec),f,(dS++[Value.func (.yield wD.heap.size) #[] #[]]++us).toArray,wD.alloc (.loop rec),e1,?_,fun _ _=>trivial,?_,fun h=>(by cases h),?_⟩
 ·have:(resolve a.eval (rangeCall (.tmp t) wD.heap.size) 0)=Deferred.ofValue (a.eval (.tmp t)) #[Value.func (.yield wD.heap.size) #[] #[]]:=by
   simp[resolve,Act.eval]
  rw[this,ml]
  simp only[Deferred.ofValue,Sem.run_pure]
 ·simp only[invoke]
  rw[tC uZ]
  simp
 ·have bh:AV.ab (wD.alloc (.loop rec)) (bc φ b (some wD.heap.size)) ID (fs++[Yl wD.heap.size]++aL) (dS++[Value.func (.yield wD.heap.size) #[] #[]]++us):=by
   refine AQ.ma.lg _ _ _ _ (AQ.ma.lg _ _ _ _ (AV.iE k2.im k2.I k2.phi k2.sh _ _ (AV.iE kD.im kD.I kD.phi kD.sh _ _ lC)) ?_) (AV.iE k2.im k2.I k2.phi k2.sh _ _ (AV.iE kD.im kD.I kD.phi kD.sh _ _ gv))
   simp only[AV.ab,AV.den,IV.den]
   exact⟨_,_,rfl,⟨rfl,rfl⟩,rfl⟩
  refine(A4 ((uV wD.heap.size).run _ _ ID _ bh sd.real sd.vk)).mono fun e w3 ⟨r,H3,Ma,I3,v,hr,he,b9,uS⟩=>?_
  subst he
  obtain⟨st,E',fN,bj,ic⟩:=sn _ r H3 hr
  have sN:=gS.t_ P4 uS (kM _ r H3 hr)
  have hd:=uS.real.bB b
  rw[fN]at hd
  cases hp:Ma b with
  |none=>rw[hp]at hd;cases hd
  |some p0=>
   have aZ:=uS.real.own b _ p0 fN hp
   simp only[Ob.at]at aZ
   obtain⟨rfl,T,D',Bu,h1,h2,h3⟩:=aZ
   have P5:st.state≠ .busy:=by
    cases st with
    |busy=>exact ic.elim
    |ready=>simp[gZ.state]
    |done c=>simp[gZ.state]
   refine⟨_,_,run_endLoop h2 P5,?_⟩
   have kO:=uS.real.off b _ hp
   have O1:=sN.st.forget b bj
   obtain⟨yB,ko⟩:=O1.S6 (o':= .loop {state:= .exhausted,pending:=st.rv,fn:=Bu,tmps:=T,params:=ps.toArray,assign:=child 0 (b_ C.fn p),body:=child 1 (b_ C.fn p),defers:=D'}) h2 kO.1 (fun b' bP=>by
    simp only[gg]at bP
    by_cases e:b'=b
    ·simp[e]at bP
    ·rw[if_neg e]at bP
     exact e (uS.real.inj b' b _ bP hp)) (.inr pD.ext.size)
   have CL:br C (gg Ma b) I3 (jK nb E) (eb b H3) {a with defers:=tg++a.defers} (w3.putObj wD.heap.size (.loop {state:= .exhausted,pending:=st.rv,fn:=Bu,tmps:=T,params:=ps.toArray,assign:=child 0 (b_ C.fn p),body:=child 1 (b_ C.fn p),defers:=D'})):=
    ⟨sN.bI.mono ko.im ko.I,sN.bJ,fun i x hx=>by
     obtain⟨u,hu,c8⟩:=sN.env i x hx
     exact⟨u,hu,ko.den (AV.oJ (fun b' bP=>by simp[gg,bP]) x u (Di fj E i x hx) c8)⟩,yB⟩
   cases st with
   |busy=>exact ic.elim
   |ready=>
    simp only[tw]at ic
    unfold AE at ic
    exact ic _ _ _ _ CL
   |done c=>
    simp only[gZ.rv]
    cases c with
    |ret=>
     simp only[tw]at ic
     unfold AE at ic
     exact wpIn_ret (ic _ _ _ _ CL)
    |exit id=>
     simp only[tw]at ic
     unfold AE at ic
     exact wpIn_exit (ic _ _ _ _ CL)
    |_=>exact ic.elim
theorem AP.D4 (nb b0 b:Nat) {p:List Nat} {t:Tmp} {ps:List Tmp} {as bd:Code} {f:FuncId} {fs aL:List AV} (EL:Env) {R:Nat->AV->aa->Prop}
  (hc:b_ C.fn p= .rangeFunc (.tmp t) ps.toArray as bd) (eX:lk E t=some (.fn f fs aL)) (hnb:Nat.ble C.B.nb nb=true) (BN:Sub E EL) (fQ:D5 C H b0) (hb:aN nb H=b)
  (uV:∀l,jU C.P nb f (fs++[Yl l]++aL) ((b,.lp l C.n .ready C.fn p ps EL)::H) (R l))
  (sn:∀l r H',R l r H'->fb nb ((b,.lp l C.n .ready C.fn p ps EL)::H) H'/\∃st E',lk H' b=some (.lp l C.n st C.fn p ps E')/\noMen b (eb b H')=true/\tw C K (jK nb E) (eb b H') st):AP C p K E H:=by
 subst hb
 exact AP.range nb b0 EL hc eX hnb BN fQ uV (fun l r H' h=>(sn l r H' h).1) (fun l r H' h=>(sn l r H' h).2)
def RJ (nb:Nat) (H H':aa):Bool:=(List.range nb).all fun b=>(lk H' b).isSome==(lk H b).isSome
theorem fb.of (nb:Nat) (H H':aa) (h:RJ nb H H'=true):fb nb H H':=fun b hb=>by
 have:=List.all_eq_true.1 h b (List.mem_range.2 hb)
 simpa using this
end
attribute [go_sem] tw
section
variable {C:Cx} {K:List PK} {E:Env} {H:aa}
theorem AQ.skip {ds:List (Nat×Nat)} {i:Nat} {o:Oper} {os:List Oper} (al:bo C.n (o::os)=true) (hG:gd ds E o.guard=some false) (h:vq C K os (a_ o.dst i ds) (i+1) (ba o.dst (.opt false .top) E) H):AQ C ds i (o::os) K E H:=
 AQ.sa (d_ al).1 hG (AQ.go (d_ al).2 h)
end
attribute [go_sem] Bool.bne_false Bool.bne_true
def tJ:Exit->List PK->Option (Sum (List Nat) Exit×List PK)
 | .normal,.seq q::K=>some (.inl q,K)
 | .normal,.fg _::K=>some (.inr .normal,K)
 | .normal,.sc::K=>some (.inr .normal,K)
 | .exit id,.seq _::K=>some (.inr (.exit id),K)
 | .exit id,.fg kR::K=>bif id==kR then some (.inr .normal,K)else some (.inr (.exit id),K)
 | .exit id,.sc::K=>some (.inr (.exit id),K)
 | .exit id,.lp _::K=>some (.inr (.exit id),K)
 | .ret,.seq _::K=>some (.inr .ret,K)
 | .ret,.fg _::K=>some (.inr .ret,K)
 | .ret,.sc::K=>some (.inr .ret,K)
 | .ret,.lp _::K=>some (.inr .ret,K)
 |_,_=>none
def oT (fn:Func) (p:List Nat) (K:List PK):Option (Sum (List Nat) Exit×List PK):=
 match b_ fn p with
 | .seq _ _=>some (.inl (0::p),.seq (1::p)::K)
 | .block id _=>some (.inl (0::p),.fg id::K)
 | .scope _=>some (.inl (0::p),.sc::K)
 | .skip=>some (.inr .normal,K)
 | .ret=>some (.inr .ret,K)
 | .exit id=>some (.inr (.exit id),K)
 | .label _=>some (.inr .normal,K)
 |_=>none
def rl (fn:Func):Nat->Sum (List Nat) Exit->List PK->Sum (List Nat) Exit×List PK
 |0,s,K=>(s,K)
 |n+1,.inl p,K=>match oT fn p K with
  |some (s,K')=>rl fn n s K'
  |none=>(.inl p,K)
 |n+1,.inr e,K=>match tJ e K with
  |some (s,K')=>rl fn n s K'
  |none=>(.inr e,K)
def tr (fn:Func) (p:List Nat) (K:List PK):Option (Sum (List Nat) Exit×List PK):=
 match oT fn p K with
 |some (s,K')=>some (rl fn 99 s K')
 |none=>none
def tq (fn:Func) (e:Exit) (K:List PK):Option (Sum (List Nat) Exit×List PK):=
 match tJ e K with
 |some (s,K')=>some (rl fn 99 s K')
 |none=>none
def AS (C:Cx) (s:Sum (List Nat) Exit) (K:List PK) (E:Env) (H:aa):Prop:=match s with
 | .inl p=>AP C p K E H
 | .inr e=>AE C e K E H
section
variable {C:Cx} {K K':List PK} {E:Env} {H:aa}
theorem K7 {e:Exit} {s:Sum (List Nat) Exit} (hs:tJ e K=some (s,K')) (h:AS C s K' E H):AE C e K E H:=by
 unfold tJ at hs
 split at hs
 all_goals first
  |(cases hs;done)
  |(cases hs;first|exact AE.seq h|exact AE.fg h|exact AE.sc h|exact AE.KL h|exact AE.KH h|exact AE.I9 h|exact AE.KM h|exact AE.Fy h|exact AE.KJ h|exact AE.I_ h)
  |skip
 rename_i id kR K0
 cases hb:(id==kR)with
 |true=>
  rw[hb]at hs
  cases hs
  have:id=kR:=by simpa using hb
  subst this
  exact AE.AY h
 |false=>
  rw[hb]at hs
  cases hs
  exact AE.AZ hb h
theorem K8 {p:List Nat} {s:Sum (List Nat) Exit} (hs:oT C.fn p K=some (s,K')) (h:AS C s K' E H):AP C p K E H:=by
 unfold oT at hs
 split at hs
 all_goals first
  |(cases hs;done)
  |(cases hs;rename_i hc;first|exact AP.seq hc h|exact AP.block hc h|exact AP.scope hc h|exact AP.skip hc h|exact AP.ret hc h|exact AP.exit hc h|exact AP.label hc h)
theorem zG:∀(n:Nat) (s s':Sum (List Nat) Exit) (K K':List PK),rl C.fn n s K=(s',K')->AS C s' K' E H->AS C s K E H
 |0,s,s',K,K',hs,h=>by cases hs;exact h
 |n+1,.inl p,s',K,K',hs,h=>by
  simp only[rl]at hs
  cases h1:oT C.fn p K with
  |none=>rw[h1]at hs;cases hs;exact h
  |some q=>
   obtain⟨s1,K1⟩:=q
   rw[h1]at hs
   exact K8 h1 (zG n s1 s' K1 K' hs h)
 |n+1,.inr e,s',K,K',hs,h=>by
  simp only[rl]at hs
  cases h1:tJ e K with
  |none=>rw[h1]at hs;cases hs;exact h
  |some q=>
   obtain⟨s1,K1⟩:=q
   rw[h1]at hs
   exact K7 h1 (zG n s1 s' K1 K' hs h)
theorem JK {p:List Nat} {s:Sum (List Nat) Exit} (hs:tr C.fn p K=some (s,K')) (h:AS C s K' E H):AP C p K E H:=by
 unfold tr at hs
 cases h1:oT C.fn p K with
 |none=>rw[h1]at hs;cases hs
 |some q=>
  obtain⟨s1,K1⟩:=q
  rw[h1]at hs
  exact K8 h1 (zG 99 s1 s K1 K' (Option.some.inj hs) h)
theorem JJ {e:Exit} {s:Sum (List Nat) Exit} (hs:tq C.fn e K=some (s,K')) (h:AS C s K' E H):AE C e K E H:=by
 unfold tq at hs
 cases h1:tJ e K with
 |none=>rw[h1]at hs;cases hs
 |some q=>
  obtain⟨s1,K1⟩:=q
  rw[h1]at hs
  exact K7 h1 (zG 99 s1 s K1 K' (Option.some.inj hs) h)
theorem U1 {p p':List Nat} (hs:tr C.fn p K=some (.inl p',K')) (h:AP C p' K' E H):AP C p K E H:=JK hs h
theorem U0 {p:List Nat} {e:Exit} (hs:tr C.fn p K=some (.inr e,K')) (h:AE C e K' E H):AP C p K E H:=JK hs h
theorem UZ {p':List Nat} {e:Exit} (hs:tq C.fn e K=some (.inl p',K')) (h:AP C p' K' E H):AE C e K E H:=JJ hs h
theorem UY {e e':Exit} (hs:tq C.fn e K=some (.inr e',K')) (h:AE C e' K' E H):AE C e K E H:=JJ hs h
end
attribute [go_sem] List.all_cons List.all_nil Value.oneCell'
def Kb (o:Oper):Bool:=match o.op with
 | .move _| .assign _| .pick _ _ _| .build _ _| .load _ _| .nilCheck _| .binOp _ _ _ _ _| .unOp _ _ _| .convert _ _ _| .slice _ _ _ _ _| .fieldAddr _ _ _| .field _ _ _| .indexAddr _ _ _| .index _ _ _| .extract _ _=>true
 | .call {callee:= .builtin b,.. }=>match b with
  | .len| .min| .max=>true
  |_=>false
 |_=>false
section
variable {C:Cx} {K:List PK} {E:Env} {H:aa} {p:List Nat}
end
def j6:List Nat->aa->aa
 |[],H=>H
 |b::l,H=>j6 l (eb b H)
def dK:List Nat->AV->aa->Bool
 |[],_,_=>true
 |b::l,r,H=>noMen b (eb b H)&&!(AV.men b r)&&dK l r (eb b H)
theorem uA {B:Bs} {I:Nat->Prop} {w:World} {r:AV} {v:Value}:∀(l:List Nat) (φ:aq) (H:aa),dK l r H=true->AV.den w φ I r v->St B φ I H w->∃φ',AV.den w φ' I r v/\St B φ' I (j6 l H) w
 |[],φ,H,_,hd,hS=>⟨φ,hd,hS⟩
 |b::l,φ,H,hk,hd,hS=>by
  simp only[dK,Bool.and_eq_true,Bool.not_eq_true']at hk
  exact uA l (gg φ b) (eb b H) hk.2 (AV.oJ (fun b' hb=>by simp[gg,hb]) r v hk.1.2 hd) (hS.forget b hk.1.1)
section
variable {C:Cx} {E:Env} {H:aa}
theorem AE.aV (l:List Nat) {sc:Prop} {xs:List AV} (h:jg C.P E H C.fn.results.toList=some (sc,xs)) (aB:sc) (hk:dK l (dN xs) H=true) (hR:C.R (dN xs) (j6 l H)):AE C .ret [] E H:=by
 unfold AE
 intro φ I a w hs
 refine hs.leave fun w' hS hE=>?_
 obtain⟨v,hv,hd⟩:=tx hE hS.real h aB
 obtain⟨φ',eM,qG⟩:=uA l φ H hk hd hS
 exact⟨v,hv,dN xs,j6 l H,φ',I,v,hR,rfl,eM,qG⟩
theorem AE.ew {e:Exit} {K:List PK}:∀(l:List Nat) {E:Env} {H:aa},dK l .top H=true->AE C e K (l.foldl (fun E b=>killE b E) E) (j6 l H)->AE C e K E H
 |[],_,_,_,h=>h
 |b::l,E,H,hk,h=>by
  simp only[dK,Bool.and_eq_true,Bool.not_eq_true']at hk
  exact AE.forget b hk.1.1 (AE.ew l hk.2 h)
end
attribute [go_sem] j6 dK List.foldl_cons List.foldl_nil
theorem AQ.nx {C Cn:Cx} {K:List PK} {ops:List Oper} {n:Nat} {R P es:List Nat} {ts:List Tree} {ds iF:List (Nat×Nat)} {i:Nat} {E:Env} {H:aa} (hC:Cn=C.nr)
  (
   h:vR C ops H R iF E/\vP C ops H (fun ds E=>match es with
   |[]=>vq C K (ops.drop n) [] n E H
   |_::_=>lY C K ops n es ts ds E H) P iF E):
  AQ Cn ds i [] [.lp (tS C (vd C K ops n (.node R P es ts) iF)),.bot (oP C K ops)] E H:=by
 subst hC
 exact AQ.next (bA h)
def eI (rows iw:List (List IV)):Prop:=∀(w:World) (I:Nat->Prop) (ag:List (List Value)),IV.aQ w I rows ag->IV.aQ w I iw ag
theorem St.rD {B:Bs} {φ:aq} {I:Nat->Prop} {H:aa} {w:World} (h:St B φ I H w) {b:Nat} {el:TypeId} {es:Nat} {rows iw:List (List IV)} (hr:eI rows iw) (hl:lk H b=some (.vec el es rows)):St B φ I (bK H b (.vec el es iw)) w:=by
 have aZ:∀p,φ b=some p->(Ob.vec el es iw).at w φ I p:=fun p hp=>by
  have:=h.real.own b _ p hl hp
  simp only[Ob.at]at this⊢
  rcases this with⟨h1,h2⟩|⟨g,ag,rest,h1,h2,h3,h4⟩
  ·refine .inl ⟨h1,?_⟩
   have:=hr w I [] (by subst h2;simp[IV.aQ])
   cases iw with
   |nil=>rfl
   |cons x r=>simp[IV.aQ]at this
  ·exact .inr ⟨g,ag,rest,h1,h2,hr w I ag h3,h4⟩
 refine⟨⟨fun b'=>?_,fun b' o p aE hp=>?_,h.real.off,h.real.inj,h.real.bZ⟩,h.ext,h.cd,h.cZ,h.cz,fun b' p o ah h0 aE=>?_⟩
 ·by_cases ao:b'=b
  ·subst ao;rw[gU H b' _ hl,h.real.bB b',hl];rfl
  ·rw[ei H b b' _ ao];exact h.real.bB b'
 ·by_cases ao:b'=b
  ·subst ao;rw[gU H b' _ hl]at aE;cases aE;exact aZ p hp
  ·rw[ei H b b' _ ao]at aE;exact h.real.own b' o p aE hp
 ·by_cases ao:b'=b
  ·subst ao;exact h.cE b' p _ ah h0 hl
  ·rw[ei H b b' _ ao]at aE;exact h.cE b' p o ah h0 aE
section
variable {C:Cx} {K:List PK} {E:Env} {H:aa}
theorem AE.rD {e:Exit} (b:Nat) (iw:List (List IV)) {el:TypeId} {es:Nat} {rows:List (List IV)} (hl:lk H b=some (.vec el es rows)) (hr:eI rows iw) (h:AE C e K E (bK H b (.vec el es iw))):AE C e K E H:=by
 unfold AE at h⊢
 exact fun φ I a w hs=>h _ _ _ _ ⟨hs.bI,hs.bJ,hs.env,hs.st.rD hr hl⟩
theorem AP.rD {p:List Nat} (b:Nat) (iw:List (List IV)) {el:TypeId} {es:Nat} {rows:List (List IV)} (hl:lk H b=some (.vec el es rows)) (hr:eI rows iw) (h:AP C p K E (bK H b (.vec el es iw))):AP C p K E H:=by
 unfold AP at h⊢
 exact fun φ I a w hs=>h _ _ _ _ ⟨hs.bI,hs.bJ,hs.env,hs.st.rD hr hl⟩
theorem AQ.rD {ds:List (Nat×Nat)} {i:Nat} {rest:List Oper} (b:Nat) (iw:List (List IV)) {el:TypeId} {es:Nat} {rows:List (List IV)} (hl:lk H b=some (.vec el es rows)) (hr:eI rows iw) (h:AQ C ds i rest K E (bK H b (.vec el es iw))):AQ C ds i rest K E H:=by
 unfold AQ at h⊢
 exact fun ops h1 h2 φ I a w hs=>h ops h1 h2 _ _ _ _ ⟨hs.bI,hs.bJ,hs.env,hs.st.rD hr hl⟩
end
theorem DF {w:World} {I:Nat->Prop} {es:Nat} {u:Value} (h:IV.den w I (.v (.slice none 0 0)) u):IV.den w I (.sl es []) u:=by
 simp only[IV.den]at h⊢
 obtain⟨rfl,_⟩:=h
 exact⟨none,0,[],rfl,Nat.le_refl _,by simp[IV.aQ],(fun vs h=>absurd h (List.not_mem_nil)),fun h=>absurd rfl h⟩
def vg (C:Cx) (H:aa) (k:List (Nat×Nat)->Env->Prop):List Oper->List (Nat×Nat)->Nat->Env->Prop
 |[],ds,_,E=>k ds E
 |o::os,ds,i,E=>match gd ds E o.guard with
  |none=>False
  |some G=>match qo C.P E H o.op G with
   |none=>False
   |some (sc,v)=>(G=true->sc)/\vg C H k os (a_ o.dst i ds) (i+1) (ba o.dst (wrap o.guard G v) E)
theorem LC {C:Cx} {ops:List Oper} {H:aa} {k:List (Nat×Nat)->Env->Prop}:∀(rest:List Oper) (ds:List (Nat×Nat)) (i:Nat) (E:Env),(∀j,rest[j]?=ops[i+j]?)->vg C H k rest ds i E->vP C ops H k (List.range' i rest.length) ds E
 |[],ds,i,E,_,h=>by simpa[vP,vg]using h
 |o::os,ds,i,E,hr,h=>by
  have h0:ops[i]?=some o:=by have:=hr 0;simpa using this.symm
  simp only[List.length_cons,List.range'_succ,vP,h0]
  simp only[vg]at h
  revert h
  cases gd ds E o.guard with
  |none=>exact fun h=>h
  |some G=>
   simp only
   cases qo C.P E H o.op G with
   |none=>exact fun h=>h
   |some q=>
    obtain⟨sc,v⟩:=q
    simp only
    exact fun h=>⟨h.1,LC os _ _ _ (fun j=>by have:=hr (j+1);rw[show i+1+j=i+(j+1) by omega];simpa using this) h.2⟩
def Bk (n:Nat):Tree:= .node [] (List.range' 0 n) [] []
section
variable {C:Cx} {K:List PK} {E:Env} {H:aa} {p:List Nat}
theorem AP.NX {id:Nat} {ops:List Oper} (hc:b_ C.fn p= .region id ops.toArray true) (HQ:ops.all Kb=true) (hq:(bo C.n ops&&ym ops ops.length (Bk ops.length)&&C.P.follows .mixedOrders)=true)
  (h:vg C H (fun _ En=>AQ C [] ops.length [] K En H) ops [] 0 E):AP C p K E H:=by
 simp only[Bool.and_eq_true]at hq
 refine AP.bC ops.length (Bk ops.length) hq.2 hc hq.1.1 hq.1.2 ?_
 refine bA ⟨trivial,?_⟩
 refine LC ops [] 0 E (fun j=>by rw[Nat.zero_add]) ?_
 simp only[List.drop_length,vq]
 exact h
end
attribute [go_sem] vg
section
variable {C:Cx} {E:Env} {H:aa}
section
variable {K:List PK}
end
end
def reorder:List Nat->aa->aa
 |[],_=>[]
 |b::l,H=>match lk H b with
  |some o=>(b,o)::reorder l H
  |none=>reorder l H
def qt (ids:List Nat):aa->Bool
 |[]=>true
 |(b,_)::r=>bU ids b&&qt ids r
theorem vV:∀(l:List Nat) (b:Nat),bU l b=true->∀H:aa,lk (reorder l H) b=lk H b
 |[],b,h,H=>by simp[bU]at h
 |c::l,b,h,H=>by
  simp only[bU]at h
  simp only[reorder]
  cases hb:Nat.beq c b with
  |true=>
   have:=Nat.eq_of_beq_eq_true hb
   subst this
   cases hl:lk H c with
   |some o=>simp[lk]
   |none=>
    simp only
    cases hi:bU l c with
    |true=>rw[vV l c hi H,hl]
    |false=>exact zu l c hi H
  |false=>
   rw[hb]at h
   simp only[cond_false]at h
   cases hl:lk H c with
   |some o=>simp only[lk,hb,cond_false];exact vV l b h H
   |none=>simp only;exact vV l b h H
where
 zu:∀(l:List Nat) (b:Nat),bU l b=false->∀H:aa,lk (reorder l H) b=none
  |[],b,_,H=>rfl
  |c::l,b,h,H=>by
   simp only[bU]at h
   cases hb:Nat.beq c b with
   |true=>rw[hb]at h;simp at h
   |false=>
    rw[hb]at h
    simp only[cond_false]at h
    simp only[reorder]
    cases hl:lk H c with
    |some o=>simp only[lk,hb,cond_false];exact zu l b h H
    |none=>simp only;exact zu l b h H
theorem FU (ids:List Nat):∀(H:aa) (b:Nat),qt ids H=true->bU ids b=false->lk H b=none
 |[],b,_,_=>rfl
 |(c,o)::r,b,h,hb=>by
  simp only[qt,Bool.and_eq_true]at h
  simp only[lk]
  cases hc:Nat.beq c b with
  |true=>
   have:=Nat.eq_of_beq_eq_true hc
   subst this
   rw[h.1]at hb;cases hb
  |false=>simp only[cond_false];exact FU ids r b h.2 hb
theorem D7 {ids:List Nat} {H:aa} (h:qt ids H=true) (b:Nat):lk H b=lk (reorder ids H) b:=by
 cases hb:bU ids b with
 |true=>exact(vV ids b hb H).symm
 |false=>rw[FU ids H b h hb,vV.zu ids b hb H]
section
variable {C:Cx} {K:List PK} {E:Env} {H:aa}
theorem AE.order {e:Exit} (ids:List Nat) (hc:qt ids H=true) (h:AE C e K E (reorder ids H)):AE C e K E H:=AE.perm _ (D7 hc) h
theorem AP.order {p:List Nat} (ids:List Nat) (hc:qt ids H=true) (h:AP C p K E (reorder ids H)):AP C p K E H:=AP.perm _ (D7 hc) h
theorem AQ.order {ds:List (Nat×Nat)} {i:Nat} {rest:List Oper} (ids:List Nat) (hc:qt ids H=true) (h:AQ C ds i rest K E (reorder ids H)):AQ C ds i rest K E H:=AQ.perm _ (D7 hc) h
end
attribute [go_sem] reorder Sh.lit
end Go.AL
end
section
namespace Go.AL
open Go Go.MapKept
def rQ (d:TypeDesc) (ks:List Value):Prop:=∀k∈ks,IsKey d k
theorem AJ {w:World} {φ:aq} {I:Nat->Prop} {cs:List AV} {us:List Value} (h:AV.ab w φ I cs us):us.length=cs.length:=iC cs us h
section
variable {P:Program} {w:World} {φ:aq} {I:Nat->Prop} {H:aa} {b:Nat} {ks:List Value} {cs:List AV}
theorem td (hR:Real w φ I H) (hH:lk H b=some (.var (.map ks) cs)) {u:Value} (hu:AV.den w φ I (.mp b) u):
  ∃g es clock,u= .map (some g)/\φ b=some (some g)/\w.heap[g]?=some (.map es clock)/\es.toList.map (·.key)=ks/\AV.ab w φ I cs (es.toList.map (·.val))/\rO es clock:=by
 simp only[AV.den]at hu
 obtain⟨g,hg,rfl⟩:=hu
 have:=hR.own b _ _ hH hg
 simp only[Ob.at,Sh.has]at this
 obtain⟨g',us,dh,⟨es,clock,h1,h2,h3,h5⟩,h4,_⟩:=this
 cases dh
 subst h3
 exact⟨g,es,clock,rfl,hg,h1,h2,h4,h5⟩
end
section
variable {C:Cx} {K:List PK} {E:Env} {H:aa}
theorem zz {d:TypeDesc} {es:Array MapEntry} {ks:List Value} {kv:Value} (cH:es.toList.map (·.key)=ks) (og:rQ d ks) (hk:IsKey d kv):
  (Instr.findNow d kv es.toList 0=some none/\kv∉ks)\/∃j e,Instr.findNow d kv es.toList 0=some (some (j,e.val))/\es.toList[j]?=some e/\e.key=kv/\ks[j]?=some kv:=by
 subst cH
 rcases findNow_spec hk es.toList 0 (fun x hx=>og _ (List.mem_map.2 ⟨x,hx,rfl⟩))with⟨h1,h2⟩|⟨j,e,h1,h2,h3⟩
 ·exact .inl ⟨h1,fun h=>by obtain⟨x,hx,e⟩:=List.mem_map.1 h;exact h2 x hx e⟩
 ·exact .inr ⟨j,e,by rw[Nat.zero_add]at h1;exact h1,h2,h3,by rw[List.getElem?_map,h2,<-h3];rfl⟩
theorem AQ.Dw (j:Nat) {ds:List (Nat×Nat)} {i:Nat} {d:Option Nat} {ty t kt et:TypeId} {pos:String} {af:Array Edge} {os:List Oper} {m k:Operand} {ok:Bool} {b:Nat} {ks:List Value} {cs:List AV} {kv:Value} {x:AV} {dk:TypeDesc}
  (al:bo C.n ({dst:=d,op:= .lookup t m k ok,type:=ty,pos:=pos,after:=af,guard:=none}::os)=true)
  (hm:ev E m=some (.mp b)) (hk:ev E k=some (.im (.v kv))) (hH:lk H b=some (.var (.map ks) cs)) (ht:C.P.underlying t=some (.map kt et)) (hd:C.P.underlying kt=some dk)
  (og:rQ dk ks) (iL:IsKey dk kv) (du:kv∈ks) (hj:∀i,ks[i]?=some kv->i=j) (hx:cs[j]?=some x)
  (h:vq C K os (a_ d i ds) (i+1) (ba d (bif ok then .aD [x,.im (.v (.bool true))]else x) E) H):
  AQ C ds i ({dst:=d,op:= .lookup t m k ok,type:=ty,pos:=pos,after:=af,guard:=none}::os) K E H:=by
 refine AQ.val (bif ok then .aD [x,.im (.v (.bool true))]else x) al rfl (fun φ I a w hs=>?_) h
 obtain⟨g,es,clock,kN,hg,hh,aG,kG,n8⟩:=td hs.st.real hH (aX hs.env hm)
 have mr:=aX hs.env hk
 simp only[AV.den,IV.den]at mr
 rcases zz aG og iL with⟨_,h2⟩|⟨j',e,h1,h2,h3,h4⟩
 ·exact absurd du h2
 ·have:=hj j' h4
  subst this
  obtain⟨v,hv,b9⟩:=iB cs _ j' x kG hx
  have QJ:v=e.val:=by rw[List.getElem?_map,h2]at hv;cases hv;rfl
  subst QJ
  have aK:(Instr.lookup t (a.eval m) (a.eval k) ok).run C.P w= .ok (if ok then .tuple #[e.val,.bool true]else e.val) w:=by
   rw[kN,mr.1]
   cases ok<;>simp[Instr.lookup,run_underlying ht,MapKept.run_getObj_map hh,run_checkKey hd iL,run_findKey hd h1,Result.andThen]
  refine⟨if ok then .tuple #[e.val,.bool true]else e.val,by simp only[execOp,Sem.run_bind,Sem.run_map,aK,Result.andThen_ok,Sem.run_pure],?_⟩
  cases ok with
  |true=>simp only[cond_true,if_true,AV.den,AV.ab];exact⟨_,⟨_,_,rfl,b9,_,_,rfl,by simp only[IV.den];exact⟨trivial,rfl⟩,rfl⟩,rfl⟩
  |false=>simpa using b9
theorem AQ.Dx {ds:List (Nat×Nat)} {i:Nat} {d:Option Nat} {ty t kt et:TypeId} {pos:String} {af:Array Edge} {os:List Oper} {m k:Operand} {ok:Bool} {b:Nat} {ks:List Value} {cs:List AV} {kv z:Value} {dk:TypeDesc}
  (al:bo C.n ({dst:=d,op:= .lookup t m k ok,type:=ty,pos:=pos,after:=af,guard:=none}::os)=true)
  (hm:ev E m=some (.mp b)) (hk:ev E k=some (.im (.v kv))) (hH:lk H b=some (.var (.map ks) cs)) (ht:C.P.underlying t=some (.map kt et)) (hd:C.P.underlying kt=some dk)
  (og:rQ dk ks) (iL:IsKey dk kv) (du:kv∉ks) (hz:(C.P.info? et).bind (·.zero)=some z) (lN:z.oneCell'=true)
  (h:vq C K os (a_ d i ds) (i+1) (ba d (bif ok then .aD [.im (.v z),.im (.v (.bool false))]else .im (.v z)) E) H):
  AQ C ds i ({dst:=d,op:= .lookup t m k ok,type:=ty,pos:=pos,after:=af,guard:=none}::os) K E H:=by
 refine AQ.val (bif ok then .aD [.im (.v z),.im (.v (.bool false))]else .im (.v z)) al rfl (fun φ I a w hs=>?_) h
 obtain⟨g,es,clock,kN,hg,hh,aG,kG,n8⟩:=td hs.st.real hH (aX hs.env hm)
 have mr:=aX hs.env hk
 simp only[AV.den,IV.den]at mr
 rcases zz aG og iL with⟨h1,_⟩|⟨j',e,h1,h2,h3,h4⟩
 ·have Q4:(zeroValue et).run C.P w= .ok z w:=by
   cases hi:C.P.info? et with
   |none=>rw[hi]at hz;cases hz
   |some inf=>
    rw[hi]at hz
    simp only[Option.bind_some]at hz
    simp[zeroValue,typeInfo,hi,hz]
  have aK:(Instr.lookup t (a.eval m) (a.eval k) ok).run C.P w= .ok (if ok then .tuple #[z,.bool false]else z) w:=by
   rw[kN,mr.1]
   cases ok<;>simp[Instr.lookup,run_underlying ht,MapKept.run_getObj_map hh,run_checkKey hd iL,run_findKey hd h1,Q4,Result.andThen]
  refine⟨if ok then .tuple #[z,.bool false]else z,by simp only[execOp,Sem.run_bind,Sem.run_map,aK,Result.andThen_ok,Sem.run_pure],?_⟩
  cases ok with
  |true=>simp only[cond_true,if_true,AV.den,AV.ab,IV.den];exact⟨_,⟨_,_,rfl,⟨rfl,lN⟩,_,_,rfl,⟨rfl,rfl⟩,rfl⟩,rfl⟩
  |false=>simp only[cond_false,Bool.false_eq_true,if_false,AV.den,IV.den];exact⟨trivial,lN⟩
 ·exact absurd (List.mem_of_getElem? h4) du
theorem AQ.R9 {ds:List (Nat×Nat)} {i:Nat} {d:Option Nat} {ty t kt et:TypeId} {pos:String} {af:Array Edge} {os:List Oper} {m:Operand} {b:Nat} {ks:List Value} {cs:List AV}
  (al:bo C.n ({dst:=d,op:= .call {callee:= .builtin .len,args:=#[m],argTypes:=#[t]},type:=ty,pos:=pos,after:=af,guard:=none}::os)=true)
  (hm:ev E m=some (.mp b)) (hH:lk H b=some (.var (.map ks) cs)) (ht:C.P.underlying t=some (.map kt et))
  (h:vq C K os (a_ d i ds) (i+1) (ba d (.im (.v (.int .i64 ks.length))) E) H):
  AQ C ds i ({dst:=d,op:= .call {callee:= .builtin .len,args:=#[m],argTypes:=#[t]},type:=ty,pos:=pos,after:=af,guard:=none}::os) K E H:=by
 refine AQ.val (.im (.v (.int .i64 ks.length))) al rfl (fun φ I a w hs=>?_) h
 obtain⟨g,es,clock,kN,hg,hh,aG,kG,n8⟩:=td hs.st.real hH (aX hs.env hm)
 have a7:es.size=ks.length:=by rw[<-aG];simp
 have aK:(Builtin.len_ #[t] ty #[a.eval m]).run C.P w= .ok (.int .i64 es.size) w:=by
  rw[kN]
  simp[Builtin.len_,run_underlying ht,MapKept.run_getObj_map hh,Result.andThen,goInt]
 refine⟨.int .i64 es.size,by simp only[execOp,resolve,invoke,builtin,Sem.run_bind,Sem.run_pure,Result.andThen_ok,List.map_toArray,List.map_cons,List.map_nil,aK],?_⟩
 simp only[AV.den,IV.den,a7]
 exact⟨trivial,rfl⟩
end
theorem M8 {es:Array MapEntry} {clock:Nat} {k v:Value} (h:rO es clock):rO (es.push {key:=k,val:=v,born:=clock}) (clock+1):=by
 refine⟨?_,fun e he=>?_⟩
 ·rw[Array.toList_push,List.map_append,List.nodup_append]
  refine⟨h.1,by simp,fun a ha b hb=>?_⟩
  obtain⟨e,he,rfl⟩:=List.mem_map.1 ha
  have:=h.2 e he
  have hb:b=clock:=by simpa using hb
  omega
 ·rw[Array.toList_push,List.mem_append]at he
  rcases he with he|he
  ·have:=h.2 e he;omega
  ·have:e={key:=k,val:=v,born:=clock}:=by simpa using he
   rw[this];exact Nat.lt_succ_self _
theorem M9 {es dL:Array MapEntry} {clock j:Nat} {e:MapEntry} {k v:Value} (hj:es.toList[j]?=some e) (hs:dL.toList=es.toList.set j {e with key:=k,val:=v}) (h:rO es clock):rO dL clock:=by
 have hb:dL.toList.map (·.born)=es.toList.map (·.born):=by
  rw[hs,List.map_set]
  refine List.ext_getElem? fun i=>?_
  rw[List.getElem?_set]
  split
  ·rename_i ig
   subst ig
   split
   ·rw[List.getElem?_map,hj];rfl
   ·rename_i hl
    rw[List.length_map]at hl
    rw[List.getElem?_eq_none (by rw[List.length_map];omega)]
  ·rfl
 refine⟨by rw[hb];exact h.1,fun x hx=>?_⟩
 have:x.born∈dL.toList.map (·.born):=List.mem_map.2 ⟨x,hx,rfl⟩
 rw[hb]at this
 obtain⟨y,hy,e2⟩:=List.mem_map.1 this
 rw[<-e2];exact h.2 y hy
section
variable {w:World} {φ:aq} {I:Nat->Prop} {l:Nat} {es:Array MapEntry} {clock:Nat} {o':Obj}
theorem TI (hl:w.heap[l]?=some (.map es clock)) (g n:Nat) (h:shaped w g n):shaped (w.putObj l o') g n:=by
 obtain⟨c,e,hc,hn⟩:=h
 have hg:g≠l:=fun h=>by subst h;rw[hl]at hc;cases hc
 exact⟨c,e,(World.putObj_heap_other hg).trans hc,hn⟩
theorem Dd (hl:w.heap[l]?=some (.map es clock)) (hI:¬I l):bG w φ I (w.putObj l o') φ I:=
 ⟨fun g hg=>World.putObj_heap_other (fun e=>hI (e▸hg)),fun _ h=>h,fun _ _ h=>h,fun _ g n _=>TI hl g n⟩
theorem N6 {own:Nat->Prop} (hl:w.heap[l]?=some (.map es clock)) (ho:own l):Ext own w (w.putObj l o'):=
 ⟨by simp,fun g _ hn=>World.putObj_heap_other (fun e=>hn (e▸ho)),fun g c e fz hc=>⟨c,fz,(World.putObj_heap_other (fun e=>by subst e;rw[hl]at hc;cases hc)).trans hc,rfl⟩,rfl,rfl,rfl⟩
theorem St.J_ {B:Bs} {H:aa} (h:St B φ I H w) {b:Nat} (hb:φ b=some (some l)) (hl:w.heap[l]?=some (.map es clock)) {nw ob:Ob} (fN:lk H b=some nw) (aZ:ob.at (w.putObj l o') φ I (some l)):
  St B φ I (bK H b ob) (w.putObj l o')/\bG w φ I (w.putObj l o') φ I:=by
 have hI:¬I l:=(h.real.off b l hb).1
 have k:bG w φ I (w.putObj l o') φ I:=Dd hl hI
 refine⟨⟨⟨fun b'=>?_,fun b' o p aE hp=>?_,fun b' g hp=>?_,h.real.inj,fun g hg=>?_⟩,h.ext.trans (N6 (own:=fun g=>g=l) hl rfl) (fun g hg=>by subst hg;exact h.cd b _ hb),h.cd,h.cZ,h.cz,fun b' p o ah h0 aE=>?_⟩,k⟩
 ·by_cases ao:b'=b
  ·subst ao;rw[gU H b' _ fN,hb];rfl
  ·rw[ei H b b' _ ao];exact h.real.bB b'
 ·by_cases ao:b'=b
  ·subst ao
   rw[gU H b' _ fN]at aE;cases aE
   rw[hb]at hp;cases hp
   exact aZ
  ·rw[ei H b b' _ ao]at aE
   exact Ob.jV k.im k.I k.phi k.sh (fun g hg=>World.putObj_heap_other (fun e=>by subst e;subst hg;exact ao (h.real.inj b' b g hp hb))) (h.real.own b' o p aE hp)
 ·have:=h.real.off b' g hp
  exact⟨this.1,by simpa using this.2⟩
 ·have:=h.real.bZ g hg
  simpa using this
 ·by_cases ao:b'=b
  ·subst ao;exact h.cE b' p nw ah h0 fN
  ·rw[ei H b b' _ ao]at aE;exact h.cE b' p o ah h0 aE
end
theorem F5 {w:World} {φ:aq} {I:Nat->Prop} {x:AV} {u:Value} (hx:AV.den w φ I x u):∀(cs:List AV) (us:List Value),AV.ab w φ I cs us->AV.ab w φ I (cs++[x]) (us++[u])
 |[],us,h=>by simp only[AV.ab]at h;subst h;simp only[List.nil_append,AV.ab];exact⟨u,[],rfl,hx,rfl⟩
 |y::cs,us,h=>by
  simp only[AV.ab]at h
  obtain⟨v,vs,rfl,h1,h2⟩:=h
  simp only[List.cons_append,AV.ab]
  exact⟨v,_,rfl,h1,F5 hx cs vs h2⟩
theorem F3 {w:World} {φ:aq} {I:Nat->Prop} {x:AV} {u:Value} (hx:AV.den w φ I x u):∀(cs:List AV) (us:List Value) (j:Nat),AV.ab w φ I cs us->AV.ab w φ I (cs.set j x) (us.set j u)
 |[],us,j,h=>by simp only[AV.ab]at h;subst h;simp[AV.ab]
 |y::cs,us,0,h=>by
  simp only[AV.ab]at h
  obtain⟨v,vs,rfl,h1,h2⟩:=h
  simp only[List.set_cons_zero,AV.ab]
  exact⟨u,vs,rfl,hx,h2⟩
 |y::cs,us,j+1,h=>by
  simp only[AV.ab]at h
  obtain⟨v,vs,rfl,h1,h2⟩:=h
  simp only[List.set_cons_succ,AV.ab]
  exact⟨v,_,rfl,h1,F3 hx cs vs j h2⟩
section
variable {C:Cx} {K:List PK} {E:Env} {H:aa}
theorem AQ.Ji {ds:List (Nat×Nat)} {i:Nat} {d:Option Nat} {ty t:TypeId} {pos:String} {af:Array Edge} {os:List Oper}
  (al:bo C.n ({dst:=d,op:= .makeMap t none,type:=ty,pos:=pos,after:=af,guard:=none}::os)=true)
  (h:vq C K os (a_ d i ds) (i+1) (ba d (.mp (aN C.B.nb H)) E) ((aN C.B.nb H,.var (.map []) [])::H)):
  AQ C ds i ({dst:=d,op:= .makeMap t none,type:=ty,pos:=pos,after:=af,guard:=none}::os) K E H:=by
 obtain⟨hd,ct⟩:=d_ al
 have bT:=AQ.go ct h
 unfold AQ at bT⊢
 refine AO.step fun ops φ I a w aU _ hs Kn bS=>?_
 have qU:=gV C.B.nb H
 obtain⟨h1,h2⟩:=hs.st.xZ (ob:= .map #[] 0) (o:= .var (.map []) []) (k0 C.B.nb H) qU.1 (by
  simp only[Ob.at,Sh.has,Sh.one,AV.ab]
  exact⟨_,[],rfl,⟨#[],0,by simpa using gI w _,rfl,rfl,List.nodup_nil,fun _ h=>by cases h⟩,rfl,trivial⟩)
 rw[if_pos (by simp[Region.wanted])]
 unfold Oper.wp
 have aK:(execOp a.eval {dst:=d,op:= .makeMap t none,type:=ty,pos:=pos,after:=af,guard:=none}).run C.P w= .ok (.value (.map (some w.heap.size))) (w.alloc (.map #[] 0)):=by
  have P0:(Instr.makeMap t none).run C.P w= .ok (.map (some w.heap.size)) (w.alloc (.map #[] 0)):=rfl
  simp only[execOp,Option.map_none,Sem.run_bind,Sem.run_map,P0,Result.andThen_ok,Sem.run_pure]
 rw[aK,Oper.upon_value]
 exact bS _ _ _ I _ _ bT (hs.put h1 h2 hd (by simp only[AV.den,bc];exact⟨_,by simp,rfl⟩))
theorem AQ.Jm {ds:List (Nat×Nat)} {i:Nat} {ty t kt et:TypeId} {pos:String} {af:Array Edge} {os:List Oper} {m k x:Operand} {b:Nat} {ks:List Value} {cs:List AV} {kv:Value} {xv:AV} {dk:TypeDesc}
  (al:bo C.n ({dst:=none,op:= .mapUpdate t m k x,type:=ty,pos:=pos,after:=af,guard:=none}::os)=true)
  (hm:ev E m=some (.mp b)) (hk:ev E k=some (.im (.v kv))) (hx:ev E x=some xv) (hH:lk H b=some (.var (.map ks) cs)) (ht:C.P.underlying t=some (.map kt et)) (hd:C.P.underlying kt=some dk)
  (og:rQ dk ks) (iL:IsKey dk kv) (du:kv∉ks)
  (h:vq C K os ds (i+1) E (bK H b (.var (.map (ks++[kv])) (cs++[xv])))):
  AQ C ds i ({dst:=none,op:= .mapUpdate t m k x,type:=ty,pos:=pos,after:=af,guard:=none}::os) K E H:=by
 obtain⟨gq,ct⟩:=d_ al
 have bT:=AQ.go ct h
 unfold AQ at bT⊢
 refine AO.step fun ops φ I a w aU _ hs Kn bS=>?_
 obtain⟨g,es,clock,kN,hg,hh,aG,kG,n8⟩:=td hs.st.real hH (aX hs.env hm)
 have mr:=aX hs.env hk
 simp only[AV.den,IV.den]at mr
 have kf:=aX hs.env hx
 rcases zz aG og iL with⟨h1,_⟩|⟨j',e,h1,h2,h3,h4⟩
 ·rw[if_pos (by simp[Region.wanted])]
  unfold Oper.wp
  have ah:g<w.heap.size:=(hs.st.real.off b g hg).2
  have aK:(Instr.mapUpdate t (a.eval m) (a.eval k) (a.eval x)).run C.P w= .ok () (w.putObj g (.map (es.push {key:=kv,val:=a.eval x,born:=clock}) (clock+1))):=by
   rw[kN,mr.1]
   simp[Instr.mapUpdate,run_underlying ht,MapKept.run_getObj_map hh,run_checkKey hd iL,run_findKey hd h1,MapKept.run_setObj_map _ hh,Result.andThen,World.putObj]
  have CJ:(execOp a.eval {dst:=none,op:= .mapUpdate t m k x,type:=ty,pos:=pos,after:=af,guard:=none}).run C.P w= .ok .skip (w.putObj g (.map (es.push {key:=kv,val:=a.eval x,born:=clock}) (clock+1))):=by
   simp only[execOp,Sem.run_bind,Sem.run_map,aK,Result.andThen_ok,Sem.run_pure]
  rw[CJ,Oper.upon_skip]
  obtain⟨hS,Cm⟩:=hs.st.J_ (o':= .map (es.push {key:=kv,val:=a.eval x,born:=clock}) (clock+1)) (ob:= .var (.map (ks++[kv])) (cs++[xv])) hg hh hH (by
   simp only[Ob.at,Sh.has,Sh.one]
   refine⟨g,es.toList.map (·.val)++[a.eval x],rfl,⟨_,_,World.putObj_heap_same ah,by simp[aG],by simp,M8 n8⟩,?_,trivial⟩
   have hK:=Dd (φ:=φ) (o':= .map (es.push {key:=kv,val:=a.eval x,born:=clock}) (clock+1)) hh (hs.st.real.off b g hg).1
   exact AV.iE hK.im hK.I hK.phi hK.sh _ _ (F5 kf cs _ kG))
  exact bS _ _ φ I _ _ bT (hs.put hS Cm gq (v:= .top) (by simp only[AV.den]))
 ·exact absurd (List.mem_of_getElem? h4) du
theorem AQ.Sb (j:Nat) {ds:List (Nat×Nat)} {i:Nat} {ty t kt et:TypeId} {pos:String} {af:Array Edge} {os:List Oper} {m k x:Operand} {b:Nat} {ks:List Value} {cs:List AV} {kv:Value} {xv:AV} {dk:TypeDesc}
  (al:bo C.n ({dst:=none,op:= .mapUpdate t m k x,type:=ty,pos:=pos,after:=af,guard:=none}::os)=true)
  (hm:ev E m=some (.mp b)) (hk:ev E k=some (.im (.v kv))) (hx:ev E x=some xv) (hH:lk H b=some (.var (.map ks) cs)) (ht:C.P.underlying t=some (.map kt et)) (hd:C.P.underlying kt=some dk)
  (og:rQ dk ks) (iL:IsKey dk kv) (du:kv∈ks) (hj:∀i,ks[i]?=some kv->i=j)
  (h:vq C K os ds (i+1) E (bK H b (.var (.map ks) (cs.set j xv)))):
  AQ C ds i ({dst:=none,op:= .mapUpdate t m k x,type:=ty,pos:=pos,after:=af,guard:=none}::os) K E H:=by
 obtain⟨gq,ct⟩:=d_ al
 have bT:=AQ.go ct h
 unfold AQ at bT⊢
 refine AO.step fun ops φ I a w aU _ hs Kn bS=>?_
 obtain⟨g,es,clock,kN,hg,hh,aG,kG,n8⟩:=td hs.st.real hH (aX hs.env hm)
 have mr:=aX hs.env hk
 simp only[AV.den,IV.den]at mr
 have kf:=aX hs.env hx
 rcases zz aG og iL with⟨_,h2⟩|⟨j',e,h1,h2,h3,h4⟩
 ·exact absurd du h2
 ·have:=hj j' h4
  subst this
  rw[if_pos (by simp[Region.wanted])]
  unfold Oper.wp
  have ah:g<w.heap.size:=(hs.st.real.off b g hg).2
  have cY:es[j']?=some e:=by simpa using h2
  have aK:(Instr.mapUpdate t (a.eval m) (a.eval k) (a.eval x)).run C.P w= .ok () (w.putObj g (.map (es.modify j' fun e=>{e with key:=kv,val:=a.eval x}) clock)):=by
   rw[kN,mr.1]
   simp[Instr.mapUpdate,run_underlying ht,MapKept.run_getObj_map hh,run_checkKey hd iL,run_findKey hd h1,cY,h3,run_keyThatStays iL,MapKept.run_setObj_map _ hh,Result.andThen,World.putObj]
  have CJ:(execOp a.eval {dst:=none,op:= .mapUpdate t m k x,type:=ty,pos:=pos,after:=af,guard:=none}).run C.P w= .ok .skip (w.putObj g (.map (es.modify j' fun e=>{e with key:=kv,val:=a.eval x}) clock)):=by
   simp only[execOp,Sem.run_bind,Sem.run_map,aK,Result.andThen_ok,Sem.run_pure]
  rw[CJ,Oper.upon_skip]
  have Cw:(es.modify j' fun e=>{e with key:=kv,val:=a.eval x}).toList=es.toList.set j' {e with key:=kv,val:=a.eval x}:=by
   rw[Array.toList_modify]
   exact Jj h2
  obtain⟨hS,Cm⟩:=hs.st.J_ (o':= .map (es.modify j' fun e=>{e with key:=kv,val:=a.eval x}) clock) (ob:= .var (.map ks) (cs.set j' xv)) hg hh hH (by
   simp only[Ob.at,Sh.has,Sh.one]
   refine⟨g,(es.toList.map (·.val)).set j' (a.eval x),rfl,⟨_,_,World.putObj_heap_same ah,?_,?_,M9 h2 Cw n8⟩,?_,trivial⟩
   ·rw[Cw,List.map_set,aG]
    exact KO h4
   ·rw[Cw,List.map_set]
   ·have hK:=Dd (φ:=φ) (o':= .map (es.modify j' fun e=>{e with key:=kv,val:=a.eval x}) clock) hh (hs.st.real.off b g hg).1
    exact AV.iE hK.im hK.I hK.phi hK.sh _ _ (F3 kf cs _ j' kG))
  exact bS _ _ φ I _ _ bT (hs.put hS Cm gq (v:= .top) (by simp only[AV.den]))
where
 Jj {α:Type} {f:α->α} {x:α}:∀{l:List α} {j:Nat},l[j]?=some x->l.modify j f=l.set j (f x)
  |[],_,h=>by simp at h
  |y::l,0,h=>by simp at h;subst h;rfl
  |y::l,j+1,h=>by simp only[List.getElem?_cons_succ]at h;simp only[List.modify_succ_cons,List.set_cons_succ];rw[Jj h]
 KO {α:Type} {x:α}:∀{l:List α} {j:Nat},l[j]?=some x->l.set j x=l
  |[],_,h=>by simp at h
  |y::l,0,h=>by simp at h;subst h;rfl
  |y::l,j+1,h=>by simp only[List.getElem?_cons_succ]at h;simp only[List.set_cons_succ];rw[KO h]
end
section
variable {C:Cx} {K:List PK} {E:Env} {H:aa}
end
end Go.AL
end
section
namespace Go.AL
open Go
theorem St.Te {B:Bs} {φ:aq} {I:Nat->Prop} {H:aa} {w:World} (h:St B φ I H w) {b:Nat} {o o':Ob} (hl:lk H b=some o) (hd:∀p,φ b=some p->o.at w φ I p->o'.at w φ I p):
  St B φ I (bK H b o') w:=by
 refine⟨⟨fun b'=>?_,fun b' o2 p aE hp=>?_,h.real.off,h.real.inj,h.real.bZ⟩,h.ext,h.cd,h.cZ,h.cz,fun b' p o2 ah h0 aE=>?_⟩
 ·by_cases ao:b'=b
  ·subst ao;rw[gU H b' _ hl,h.real.bB b',hl];rfl
  ·rw[ei H b b' _ ao];exact h.real.bB b'
 ·by_cases ao:b'=b
  ·subst ao
   rw[gU H b' _ hl]at aE
   cases aE
   exact hd p hp (h.real.own b' _ p hl hp)
  ·rw[ei H b b' _ ao]at aE;exact h.real.own b' o2 p aE hp
 ·by_cases ao:b'=b
  ·subst ao;exact h.cE b' p _ ah h0 hl
  ·rw[ei H b b' _ ao]at aE;exact h.cE b' p o2 ah h0 aE
theorem St.gN {B:Bs} {φ:aq} {I:Nat->Prop} {H H':aa} {w:World} (h:St B φ I H w) (he:∀b,lk H b=lk H' b):St B φ I H' w:=
 ⟨⟨fun b=>by rw[h.real.bB b,he b],fun b o p hl hp=>h.real.own b o p ((he b).trans hl) hp,h.real.off,h.real.inj,h.real.bZ⟩,h.ext,h.cd,h.cZ,h.cz,fun b p o ah h0 hl=>h.cE b p o ah h0 ((he b).trans hl)⟩
section
variable {C:Cx} {K:List PK} {E:Env} {H:aa}
theorem AE.gN {e:Exit} (H':aa) (he:∀b,lk H b=lk H' b) (h:AE C e K E H'):AE C e K E H:=by
 unfold AE at h⊢
 exact fun φ I a w hs=>h _ _ _ _ ⟨hs.bI,hs.bJ,hs.env,hs.st.gN he⟩
theorem AP.gN {p:List Nat} (H':aa) (he:∀b,lk H b=lk H' b) (h:AP C p K E H'):AP C p K E H:=by
 unfold AP at h⊢
 exact fun φ I a w hs=>h _ _ _ _ ⟨hs.bI,hs.bJ,hs.env,hs.st.gN he⟩
theorem AQ.gN {ds:List (Nat×Nat)} {i:Nat} {rest:List Oper} (H':aa) (he:∀b,lk H b=lk H' b) (h:AQ C ds i rest K E H'):AQ C ds i rest K E H:=by
 unfold AQ at h⊢
 exact fun ops h1 h2 φ I a w hs=>h ops h1 h2 _ _ _ _ ⟨hs.bI,hs.bJ,hs.env,hs.st.gN he⟩
end
section
variable {C:Cx} {K:List PK} {E:Env} {H:aa}
end
end Go.AL
end
section
namespace Go.AL
open Go
variable {es:Nat} {el:TypeId}
section
variable {C:Cx} {K:List PK} {E:Env}
end
end Go.AL
end
section
namespace Go.AL
open Go
section
variable {C:Cx} {K:List PK} {E:Env} {H:aa}
theorem FV {Hc:aa}:∀(m:List (Nat×Nat)),(∀b c,(b,c)∈m->(lk Hc b).isSome=true)->cP Hc m=[]
 |[],_=>rfl
 |(b,c)::r,h=>by
  have h1:=h b c (by simp)
  obtain⟨o,ho⟩:=Option.isSome_iff_exists.1 h1
  simp only[cP,ho]
  exact FV r fun b' c' hb=>h b' c' (by simp[hb])
theorem IN:∀(m:List (Nat×Nat)) (b c:Nat),(b,c)∈m->(lk m b).isSome=true
 |[],_,_,h=>by cases h
 |(b',c')::r,b,c,h=>by
  simp only[lk]
  cases hb:Nat.beq b' b with
  |true=>rfl
  |false=>
   rcases List.mem_cons.1 h with h|h
   ·cases h;simp at hb
   ·simpa using IN r b c h
theorem AQ.nQ (m:List (Nat×Nat)) {ds:List (Nat×Nat)} {i:Nat} {d:Option Nat} {ty:TypeId} {pos:String} {af:Array Edge} {os:List Oper} {bn:Operand} {f:FuncId} {fs aL:List AV} {xs:List Operand} {aY:Array TypeId} {l gj:List AV} {Hc:aa} {r:AV}
  (al:bo C.n ({dst:=d,op:= .call {callee:= .value bn,args:=xs.toArray,argTypes:=aY},type:=ty,pos:=pos,after:=af,guard:=none}::os)=true)
  (eX:ev E bn=some (.fn f fs aL)) (hl:dD E xs=some l) (di:gs l=true)
  (j9:eP m=lO Hc) (jb:fS (eP m)=true) (ka:fS (jm m)=true) (kb:∀k,jP (bp m k) H Hc)
  (cU:∀k,AV.dJ (bp m k) gj=fs++l.map AV.st++aL) (hr:∀k,AV.rn (bp m k) r=r) (hc:ak C.P f gj Hc (fun r' H'=>H'=Hc/\r'=r))
  (h:vq C K os (a_ d i ds) (i+1) (ba d r E) H):
  AQ C ds i ({dst:=d,op:= .call {callee:= .value bn,args:=xs.toArray,argTypes:=aY},type:=ty,pos:=pos,after:=af,guard:=none}::os) K E H:=by
 have hH:Hand m (aN C.B.nb H) H Hc:=⟨j9,jb,ka,kb _,fun b o hb=>by have:=oL H b o hb;have:=(gV C.B.nb H).2;omega⟩
 refine AQ.ma m al eX hl di j9 jb ka (kb _) (cU _) hc fun r' H1 ⟨e1,e2⟩=>?_
 subst e1;subst e2
 have Pm:cP H1 m=[]:=FV m fun b c hb=>by rw[<-hH.bB];exact IN m b c hb
 rw[Pm,hr]
 refine⟨rfl,AQ.gN H (fun c=>?_) (AQ.go (d_ al).2 h)⟩
 rcases Nat.lt_or_ge c (aN C.B.nb H)with ah|fM
 ·rw[hH.zt ah]
  cases hi:dj m c with
  |none=>rfl
  |some b=>
   obtain⟨o,h1,h2⟩:=hH.get (hH.sZ hi)
   simp only[h1,h2,Option.map_some]
 ·obtain⟨b,rfl⟩:=Nat.exists_eq_add_of_le fM
  rw[hH.Dl b]
  have hn:lk H (aN C.B.nb H+b)=none:=by
   cases hq:lk H (aN C.B.nb H+b)with
   |none=>rfl
   |some o=>have:=hH.fresh _ _ hq;omega
  rw[hn]
  cases hm:lk m b with
  |some c=>rfl
  |none=>
   have:=hH.bB b
   rw[hm]at this
   cases hq:lk H1 b with
   |none=>rfl
   |some o=>rw[hq]at this;cases this
end
section
variable {C:Cx} {K:List PK} {E:Env} {H:aa}
theorem AP.cut {p:List Nat} {α:Type} (LE:α->Env) (LH:α->aa) (ok:α->Prop) (h:AP C p (.lp (rR C LE LH ok (fun _=>0) 1)::K) E H) (h':∀q,ok q->AE C .normal K (LE q) (LH q)):AP C p K E H:=by
 unfold AP at h⊢
 unfold AE at h'
 intro φ I a w hs
 refine wpIn_mono (h φ I a w hs) (fun e a w hq=>?_)
 cases e with
 |normal=>
  obtain⟨q,h1,_,bf,I1,h2⟩:=hq
  exact h' q h1 bf I1 a w h2
 |_=>exact hq
theorem AE.meet {α:Type} {LE:α->Env} {LH:α->aa} {ok:α->Prop} (q:α) (al:ok q) (hE:Sub E (LE q)) (hH:H=LH q):
  AE C .normal (.lp (rR C LE LH ok (fun _=>0) 1)::K) E H:=AE.round q al (Nat.lt_succ_self 0) hE hH
def bO (cs cs':List AV):Prop:=∀(w:World) (φ:aq) (I:Nat->Prop) (us:List Value),AV.ab w φ I cs us->AV.ab w φ I cs' us
theorem bO.refl (cs:List AV):bO cs cs:=fun _ _ _ _ h=>h
theorem bO.cons {x:AV} {cs cs':List AV} (h:bO cs cs'):bO (x::cs) (x::cs'):=fun w φ I us hd=>by
 simp only[AV.ab]at hd⊢
 obtain⟨u,au,e,h1,h2⟩:=hd
 exact⟨u,au,e,h1,h w φ I au h2⟩
theorem bO.nil {es:Nat} {cs cs':List AV} (h:bO cs cs'):bO (.im (.v (.slice none 0 0))::cs) (.im (.sl es [])::cs'):=fun w φ I us hd=>by
 simp only[AV.ab]at hd⊢
 obtain⟨u,au,e,h1,h2⟩:=hd
 exact⟨u,au,e,by simp only[AV.den]at h1⊢;exact DF h1,h w φ I au h2⟩
theorem St.fu {B:Bs} {φ:aq} {I:Nat->Prop} {H:aa} {w:World} (h:St B φ I H w) {b:Nat} {e:Sh} {cs cs':List AV} (hl:lk H b=some (.var e cs)) (hc:bO cs cs'):St B φ I (bK H b (.var e cs')) w:=
 h.Te hl fun p _ ho=>by
  simp only[Ob.at]at ho⊢
  obtain⟨g,us,h1,h2,h3,h4⟩:=ho
  exact⟨g,us,h1,h2,hc w φ I us h3,h4⟩
theorem AE.fu {e:Exit} (b:Nat) (cs':List AV) {s:Sh} {cs:List AV} (hl:lk H b=some (.var s cs)) (hc:bO cs cs') (h:AE C e K E (bK H b (.var s cs'))):AE C e K E H:=by
 unfold AE at h⊢
 exact fun φ I a w hs=>h _ _ _ _ ⟨hs.bI,hs.bJ,hs.env,hs.st.fu hl hc⟩
theorem AP.fu {p:List Nat} (b:Nat) (cs':List AV) {s:Sh} {cs:List AV} (hl:lk H b=some (.var s cs)) (hc:bO cs cs') (h:AP C p K E (bK H b (.var s cs'))):AP C p K E H:=by
 unfold AP at h⊢
 exact fun φ I a w hs=>h _ _ _ _ ⟨hs.bI,hs.bJ,hs.env,hs.st.fu hl hc⟩
end
section
variable {C:Cx} {K:List PK} {E:Env} {H:aa}
theorem AQ.step1 (x:AV) (H':aa) {ds:List (Nat×Nat)} {i:Nat} {o:Oper} {os:List Oper} (al:bo C.n (o::os)=true) (hg:o.guard=none)
  (hex:∀φ I a w,br C φ I E H a w->∃u w' φ' I',(execOp a.eval o).run C.P w= .ok (.value u) w'/\AV.den w' φ' I' x u/\St C.B φ' I' H' w'/\bG w φ I w' φ' I')
  (h:vq C K os (a_ o.dst i ds) (i+1) (ba o.dst x E) H'):AQ C ds i (o::os) K E H:=by
 obtain⟨hd,ct⟩:=d_ al
 have bT:=AQ.go ct h
 unfold AQ at bT⊢
 refine AO.step (o:=o) fun ops φ I a w aU _ hs Kn bS=>?_
 have hw:Region.wanted o (yielded ops a.tmps)=true:=by simp[Region.wanted,hg]
 rw[if_pos hw]
 obtain⟨u,w',φ',I',aK,bh,hS,hK⟩:=hex φ I a w hs
 unfold Oper.wp
 rw[aK,Oper.upon_value]
 exact bS _ _ φ' I' _ _ bT (hs.put hS hK hd bh)
def EK (C:Cx) (K:List PK):Nat->List Oper->List (Nat×Nat)->Nat->Env->aa->Prop
 |0,os,ds,i,E,H=>AQ C ds i os K E H
 |_+1,[],ds,i,E,H=>AQ C ds i [] K E H
 |n+1,o::os,ds,i,E,H=>match gd ds E o.guard with
  |none=>AQ C ds i (o::os) K E H
  |some G=>match gJ C.P E H o.op with
   |some (sc,v)=>(G=true->sc)/\EK C K n os (a_ o.dst i ds) (i+1) (ba o.dst (wrap o.guard G v) E) H
   |none=>match o.guard with
    |some _=>AQ C ds i (o::os) K E H
    |none=>match nO C.P C.B.nb C.ob E H o with
     |some (sc,v,H')=>sc/\EK C K n os (a_ o.dst i ds) (i+1) (ba o.dst v E) H'
     |none=>AQ C ds i (o::os) K E H
end
attribute [go_sem] EK
def s7 (φ:aq) (I:Nat->Prop) (g:Nat):Prop:=I g\/∃b,φ b=some (some g)
def ld (H:aa) (x:AV) (y:IV):Prop:=∀(w:World) (φ:aq) (I:Nat->Prop),Real w φ I H->∀u,AV.den w φ I x u->IV.den w (s7 φ I) y u
def qj (H:aa) (xs:List AV) (ys:List IV):Prop:=∀(w:World) (φ:aq) (I:Nat->Prop),Real w φ I H->∀us,AV.ab w φ I xs us->IV.ab w (s7 φ I) ys us
def mN (H:aa) (x y:AV):Prop:=∀(w:World) (φ:aq) (I:Nat->Prop),Real w φ I H->∀u,AV.den w φ I x u->AV.den w (fun _=>none) (s7 φ I) y u
def o6 (H:aa) (xs ys:List AV):Prop:=∀(w:World) (φ:aq) (I:Nat->Prop),Real w φ I H->∀us,AV.ab w φ I xs us->AV.ab w (fun _=>none) (s7 φ I) ys us
theorem qj.nil {H:aa}:qj H [] []:=fun _ _ _ _ us h=>by simpa only[AV.ab,IV.ab]using h
theorem qj.cons {H:aa} {x:AV} {y:IV} {xs:List AV} {ys:List IV} (h:ld H x y) (h':qj H xs ys):qj H (x::xs) (y::ys):=fun w φ I hR us hd=>by
 simp only[AV.ab]at hd
 obtain⟨u,au,rfl,h1,h2⟩:=hd
 simp only[IV.ab]
 exact⟨u,au,rfl,h w φ I hR u h1,h' w φ I hR au h2⟩
theorem o6.nil {H:aa}:o6 H [] []:=fun _ _ _ _ us h=>by simpa only[AV.ab]using h
theorem o6.cons {H:aa} {x y:AV} {xs ys:List AV} (h:mN H x y) (h':o6 H xs ys):o6 H (x::xs) (y::ys):=fun w φ I hR us hd=>by
 simp only[AV.ab]at hd⊢
 obtain⟨u,au,rfl,h1,h2⟩:=hd
 exact⟨u,au,rfl,h w φ I hR u h1,h' w φ I hR au h2⟩
theorem ld.im {H:aa} (x:IV):ld H (.im x) x:=fun w φ I hR u hd=>by
 simp only[AV.den]at hd
 exact IV.mS (fun _ _ _ _ h=>h) (fun g hg=> .inl hg) x u hd
theorem mN.of {H:aa} {x:AV} {y:IV} (h:ld H x y):mN H x (.im y):=fun w φ I hR u hd=>by
 simp only[AV.den];exact h w φ I hR u hd
theorem mN.im {H:aa} (x:IV):mN H (.im x) (.im x):=mN.of (ld.im x)
theorem mN.agg {H:aa} {xs ys:List AV} (h:o6 H xs ys):mN H (.agg xs) (.agg ys):=fun w φ I hR u hd=>by
 simp only[AV.den]at hd⊢
 obtain⟨us,h1,h2⟩:=hd
 exact⟨us,h w φ I hR us h1,h2⟩
theorem mN.fn {H:aa} {f:FuncId} {xs ys as bs:List AV} (h:o6 H xs ys) (h':o6 H as bs):mN H (.fn f xs as) (.fn f ys bs):=fun w φ I hR u hd=>by
 simp only[AV.den]at hd⊢
 obtain⟨us,vs,h1,h2,h3⟩:=hd
 exact⟨us,vs,h w φ I hR us h1,h' w φ I hR vs h2,h3⟩
theorem ld.os {H:aa} {b es i n:Nat} {el:TypeId} {rows:List (List IV)} (hl:lk H b=some (.vec el es rows)) (hn:i+n<=rows.length):ld H (.os b es i n) (.sl es ((rows.drop i).take n)):=fun w φ I hR u hd=>by
 obtain⟨p,hp⟩:∃p,φ b=some p:=by
  have:=hR.bB b
  rw[hl]at this
  cases hq:φ b with
  |none=>rw[hq]at this;cases this
  |some p=>exact⟨p,rfl⟩
 have aZ:=hR.own b _ p hl hp
 simp only[Ob.at]at aZ
 have hb:(φ b=some none/\rows=[])\/∃g ag,φ b=some (some g)/\s7 φ I g/\IV.aQ w I rows ag/\(∀vs∈ag,vs.length=es)/\cI w g 0 ag.flatten:=by
  rcases aZ with⟨rfl,hr⟩|⟨g,ag,rest,rfl,cn,hd,vl⟩
  ·exact .inl ⟨hp,hr⟩
  ·refine .inr ⟨g,ag,hp,.inr ⟨b,hp⟩,hd,vl,fun j u hu=>?_⟩
   have ah:j<ag.flatten.length:=by
    rcases Nat.lt_or_ge j ag.flatten.length with h|h
    ·exact h
    ·rw[List.getElem?_eq_none h]at hu;cases hu
   simp only[World.cell?,cn,Option.isSome_none,Bool.false_eq_true,if_false,List.getElem?_toArray,Nat.zero_add]
   rw[List.getElem?_append_left ah];exact hu
 have:=r9 (φ':=φ) (I':=s7 φ I) (b:=b) (es:=es) (rows:=rows) (fun _ _=>rfl) (fun g hg=> .inl hg) hb (.os b es i n) u (by simpa[ia]using hn) hd
 simpa[fY,AV.den]using this
theorem ld.ob {H:aa} {b:Nat} {e:TypeId} {cs:List AV} {ys:List IV} (o:Nat) (hl:lk H b=some (.var (.cell e) cs)) (hc:qj H cs ys):ld H (.ob b o) (.pt (ys.drop o)):=fun w φ I hR u hd=>by
 simp only[AV.den]at hd
 obtain⟨g,hg,rfl⟩:=hd
 have aZ:=hR.own b _ _ hl hg
 simp only[Ob.at,Sh.has]at aZ
 obtain⟨g',us,dh,cn,aU,_⟩:=aZ
 cases dh
 simp only[IV.den]
 refine⟨g,o,us.drop o,rfl,.inr ⟨b,hg⟩,sW o _ _ (hc w φ I hR us aU),fun j u hj=>?_⟩
 rw[List.getElem?_drop]at hj
 simp only[World.cell?,cn,Option.isSome_none,Bool.false_eq_true,if_false,List.getElem?_toArray]
 exact hj
theorem ld.nw {H:aa} {b:Nat} {e:TypeId} {cs:List AV} {ys:List IV} (hl:lk H b=some (.var (.cell e) cs)) (hc:qj H cs ys):ld H (.ob b 0) (.pt ys):=ld.ob 0 hl hc
def IV.plain:IV->Bool
 | .v _=>true
 | .sl _ []=>true
 |_=>false
def IV.zO:List IV->Bool
 |[]=>true
 |x::xs=>x.plain&&IV.zO xs
def Tu (rows:List (List IV)):Prop:=∀r∈rows,IV.zO r=true
mutual
def AV.plain:AV->Bool
 | .im x=>x.plain
 | .ar xs=>IV.zO xs
 | .agg xs=>AV.ry xs
 | .aD xs=>AV.ry xs
 | .fn _ xs ys=>AV.ry xs&&AV.ry ys
 | .opt _ x=>AV.plain x
 | .wr _ x=>AV.plain x
 |_=>true
def AV.ry:List AV->Bool
 |[]=>true
 |x::xs=>AV.plain x&&AV.ry xs
end
def Ob.plain:Ob->Prop
 | .var _ cs=>AV.ry cs=true
 | .vec _ _ rows=>Tu rows
 | .lp .. =>False
def E9 (k:Nat):aa->aa->aa
 |[],H=>H
 |(b,o)::r,H=>(k+b,fo (fun c=>k+c) o)::E9 k r H
attribute [go_sem] E9 AV.plain AV.ry IV.plain IV.zO
section
variable {C:Cx} {K:List PK} {E:Env} {H:aa}
end
section
variable {C:Cx} {K:List PK} {E:Env} {H:aa}
theorem AQ.jN {ds:List (Nat×Nat)} {i:Nat} {rest:List Oper} (b off:Nat) (el:TypeId) (es:Nat) {e:Sh} {cs:List AV} (hl:lk H b=some (.var e cs)) (hc:cs[off]?=some (.im (.v (.slice none 0 0))))
  (h:AQ C ds i rest K E ((aN C.B.nb H,.vec el es [])::bK H b (.var e (cs.set off (.os (aN C.B.nb H) es 0 0))))):AQ C ds i rest K E H:=by
 unfold AQ at h⊢
 exact fun ops h1 h2 φ I a w hs=>by
  obtain⟨φ',eB⟩:=hs.jN hl hc el es
  exact h ops h1 h2 _ _ _ _ eB
end
section
variable {C:Cx} {K K':List PK} {E:Env} {H:aa} {p p':List Nat} {e e':Exit} {ds:List (Nat×Nat)} {i:Nat} {os:List Oper}
theorem xA (h:AP C p' K' E H) (hs:tr C.fn p K=some (.inl p',K'):=by exact rfl):AP C p K E H:=U1 hs h
theorem xB (h:AE C e K' E H) (hs:tr C.fn p K=some (.inr e,K'):=by exact rfl):AP C p K E H:=U0 hs h
theorem xC (h:AP C p' K' E H) (hs:tq C.fn e K=some (.inl p',K'):=by exact rfl):AE C e K E H:=UZ hs h
theorem xE (h:AE C e' K' E H) (hs:tq C.fn e K=some (.inr e',K'):=by exact rfl):AE C e K E H:=UY hs h
theorem xD (h:AE C .normal K (kU C.kp E) H):AQ C ds i [] K E H:=AQ.done h
theorem xK {o:Oper} (h:vq C K os (a_ o.dst i ds) (i+1) (ba o.dst (.opt false .top) E) H) (al:bo C.n (o::os)=true:=by kernel_rfl) (hG:gd ds E o.guard=some false:=by exact rfl):AQ C ds i (o::os) K E H:=AQ.skip al hG h
theorem xS {d:Option Nat} {ty s dt e:TypeId} {x:Operand} {pos:String} {af:Array Edge} {l:List UInt8}
  (h:vq C K os (a_ d i ds) (i+1) (ba d (.im (.sl 1 (de l))) E) H) (al:bo C.n ({dst:=d,op:= .convert s dt x,type:=ty,pos:=pos,after:=af,guard:=none}::os)=true:=by kernel_rfl)
  (
   hx:ev E x=some (Sv l):=by exact rfl) (hs:(C.P.underlying s).isSome=true:=by exact rfl) (hd:tk C.P dt= .slice e:=by exact rfl) (he:tk C.P e= .int .u8:=by exact rfl)
   :
  AQ C ds i ({dst:=d,op:= .convert s dt x,type:=ty,pos:=pos,after:=af,guard:=none}::os) K E H:=AQ.Ty al hx hs hd he h
theorem xM {d:Option Nat} {ty t e:TypeId} {x:Operand} {pos:String} {af:Array Edge} {b es n:Nat} {el:TypeId} {rows:List (List IV)}
  (h:vq C K os (a_ d i ds) (i+1) (ba d (.im (.sl es rows)) (killE b E)) (eb b H)) (al:bo C.n ({dst:=d,op:= .convert t t x,type:=ty,pos:=pos,after:=af,guard:=none}::os)=true:=by kernel_rfl)
  (
   hx:ev E x=some (.os b es 0 n):=by exact rfl) (hl:lk H b=some (.vec el es rows):=by exact rfl) (hn:n=rows.length:=by exact rfl) (aT:Nat.beq n 0=false:=by exact rfl) (bj:noMen b (eb b H)=true:=by exact rfl) (hd:tk C.P t= .slice e:=by exact rfl) (he:tk C.P e= .int .u8:=by exact rfl)
   :
  AQ C ds i ({dst:=d,op:= .convert t t x,type:=ty,pos:=pos,after:=af,guard:=none}::os) K E H:=AQ.mark al hx hl hn aT bj hd he h
theorem xT {t:Tmp} {x y:Code} (ht:AP C (0::p) K E H) (hc:b_ C.fn p= .cond (.tmp t) x y:=by exact rfl) (hb:lk E t=some (.im (.v (.bool true))):=by exact rfl):AP C p K E H:=AP.cond_true hc hb ht
theorem xF {t:Tmp} {x y:Code} (hf:AP C (1::p) K E H) (hc:b_ C.fn p= .cond (.tmp t) x y:=by exact rfl) (hb:lk E t=some (.im (.v (.bool false))):=by exact rfl):AP C p K E H:=AP.cond_false hc hb hf
theorem xR {id:Nat} {ops:List Oper} (h:vq C K ops [] 0 E H) (hc:b_ C.fn p= .region id ops.toArray false:=by exact rfl) (al:bo C.n ops=true:=by kernel_rfl):AP C p K E H:=AP.region hc al h
theorem xW {id:Nat} {ops:List Oper} (h:vg C H (fun _ En=>AQ C [] ops.length [] K En H) ops [] 0 E) (hc:b_ C.fn p= .region id ops.toArray true:=by exact rfl) (HQ:ops.all Kb=true:=by exact rfl) (hq:(bo C.n ops&&ym ops ops.length (Bk ops.length)&&C.P.follows .mixedOrders)=true:=by kernel_rfl)
   :AP C p K E H:=AP.NX hc HQ hq h
end
end Go.AL
end
section
namespace Go.AL
open Go Go.RowKit Go.Lib
section
variable {P:Program} {w:World}
end
section
variable {C:Cx} {K:List KI} {E:Env} {H:aa}
end
section
variable {C:Cx} {K:List PK} {E:Env} {H:aa}
end
section
variable {C:Cx} {K:List PK} {E:Env} {H:aa}
end
end Go.AL
end
section
namespace Go.AL
open Go
section
variable {C:Cx} {K:List PK} {E:Env} {H:aa}
theorem Gm {w:World} {φ:aq} {I:Nat->Prop} {a:Act} (he:dB w φ I E a):dB w φ I (qd E) a:=fun j x hx=>by
 obtain⟨y,hy,rfl⟩:=KY E j x hx
 obtain⟨u,hu,hd⟩:=he j y hy
 exact⟨u,hu,TU hd⟩
def yn (C:Cx) (K:List PK) (E:Env) (H:aa) (ds:List (Nat×Nat)) (i:Nat) (o:Oper) (os:List Oper):Prop:=
 match nO C.P C.B.nb C.ob (qd E) H o with
 |some (sc,v,H')=>sc/\vq C K os (a_ o.dst i ds) (i+1) (ba o.dst v E) H'
 |none=>False
theorem AQ.yn {ds:List (Nat×Nat)} {i:Nat} {o:Oper} {os:List Oper} (al:bo C.n (o::os)=true) (hg:o.guard=none) (h:yn C K E H ds i o os):AQ C ds i (o::os) K E H:=by
 unfold AL.yn at h
 split at h
 ·rename_i sc v H' he
  obtain⟨aB,qT⟩:=h
  obtain⟨hd,ct⟩:=d_ al
  have fL:=AQ.go ct qT
  unfold AQ at fL⊢
  refine AO.step (o:=o) fun ops φ I a w aU _ hs Kn bS=>?_
  have hw:Region.wanted o (yielded ops a.tmps)=true:=by simp[Region.wanted,hg]
  rw[if_pos hw]
  obtain⟨nx,w',φ',I',aK,qU,hS,hk⟩:=Fa (P:=C.P) (Gm hs.env) hs.st he aB
  unfold Oper.wp
  rw[aK]
  rcases qU with⟨u,rfl,bh⟩|⟨rfl,bh⟩
  ·rw[Oper.upon_value]
   exact bS _ _ φ' I' _ _ fL (hs.put hS hk hd bh)
  ·rw[Oper.upon_skip]
   exact bS _ _ φ' I' _ _ fL (hs.put hS hk hd bh)
 ·exact h.elim
end
attribute [go_sem] yn
section
variable {C:Cx} {K:List PK} {E:Env} {H:aa}
theorem Kd (l:List Value):∀(n i:Nat),i<n*l.length->(List.replicate n l).flatten[i]?=l[i%l.length]?
 |0,i,h=>by simp at h
 |n+1,i,h=>by
  rw[List.replicate_succ,List.flatten_cons]
  rcases Nat.lt_or_ge i l.length with hi|hi
  ·rw[List.getElem?_append_left hi,Nat.mod_eq_of_lt hi]
  ·rw[List.getElem?_append_right hi,Kd l n (i-l.length) (by rw[Nat.add_mul]at h;omega),<-Nat.mod_eq_sub_mod hi]
theorem U2 (z:Array Value) (n:Nat):(Builtin.zeroCells z n).toList=(List.replicate n z.toList).flatten:=by
 refine List.ext_getElem? fun i=>?_
 rcases Nat.lt_or_ge i (n*z.size)with h|h
 ·have hz:0<z.size:=by
   rcases Nat.eq_zero_or_pos z.size with h0|h0
   ·rw[h0]at h;simp at h
   ·exact h0
  rw[Kd _ _ _ (by simpa using h)]
  have hm:i%z.size<z.size:=Nat.mod_lt _ hz
  simp[Builtin.zeroCells,h,hm]
 ·rw[List.getElem?_eq_none (by simp[Builtin.zeroCells];exact h),List.getElem?_eq_none (by simp;exact h)]
theorem St.S8 {B:Bs} {φ:aq} {I:Nat->Prop} {w:World} (hS:St B φ I H w) {b g j es:Nat} {e:TypeId} {rows xs:List (List IV)} {ag ws:List (List Value)} {rest:List Value}
  (hH:lk H b=some (.vec e es rows)) (hb:φ b=some (some g)) (ez:w.heap[g]?=some (.cells (ag.flatten++rest).toArray e (0,0))) (hd:IV.aQ w I rows ag) (gw:∀v∈ag,v.length=es)
  (hx:IV.aQ w I xs ws) (a8:∀v∈ws,v.length=es) (hj:j+xs.length<=rows.length):
  St B φ I (bK H b (.vec e es (rows.take j++xs++rows.drop (j+xs.length)))) (w.setRow g ((ag.flatten++rest).toArray.toList.take (j*es)++ws.flatten++(ag.flatten++rest).toArray.toList.drop (j*es+ws.flatten.length)).toArray)/\
   bG w φ I (w.setRow g ((ag.flatten++rest).toArray.toList.take (j*es)++ws.flatten++(ag.flatten++rest).toArray.toList.drop (j*es+ws.flatten.length)).toArray) φ I:=by
 have hlen:=j0 rows ag hd
 have jH:=j0 xs ws hx
 have eN:=nX ag es gw
 have yM:=nX ws es a8
 have hle:j*es+ws.length*es<=ag.length*es:=by rw[<-Nat.add_mul];exact Nat.mul_le_mul_right _ (by omega)
 have n_:(ag.flatten++rest).toArray.toList.take (j*es)++ws.flatten++(ag.flatten++rest).toArray.toList.drop (j*es+ws.flatten.length)=(ag.take j++ws++ag.drop (j+ws.length)).flatten++rest:=by
  have e1:(ag.take j).flatten=ag.flatten.take (j*es):=r6 j ag es gw (by omega)
  have e2:(ag.drop (j+ws.length)).flatten=ag.flatten.drop ((j+ws.length)*es):=r5 (j+ws.length) ag es gw (by omega)
  rw[List.flatten_append,List.flatten_append,e1,e2,yM,Nat.add_mul]
  simp only[List.toList_toArray]
  rw[List.take_append_of_le_length (by omega),List.drop_append_of_le_length (by omega)]
  simp
 have a7:((ag.flatten++rest).toArray.toList.take (j*es)++ws.flatten++(ag.flatten++rest).toArray.toList.drop (j*es+ws.flatten.length)).toArray.size=(ag.flatten++rest).toArray.size:=by
  simp only[List.size_toArray,List.toList_toArray,List.length_append,List.length_take,List.length_drop]
  omega
 refine hS.write (o':= .vec e es (rows.take j++xs++rows.drop (j+xs.length))) hH hb ez a7 (fun _ _ e=>by cases e) ?_
 rw[n_]
 simp only[Ob.at]
 refine .inr ⟨g,_,rest,rfl,setRow_heap w g _ _ e (0,0) ez,?_,fun vs c_=>?_⟩
 ·have hI:∀g',I g'->(w.setRow g ((ag.take j++ws++ag.drop (j+ws.length)).flatten++rest).toArray).heap[g']?=w.heap[g']?:=fun g' cC=>setRow_other w g g' _ (fun e=>by subst e;exact(hS.real.off b g' hb).1 cC)
  refine IV.gM hI (fun _ h=>h) _ _ ?_
  rw[jH]
  exact qu _ _ _ _ (qu _ _ _ _ (yj j _ _ hd) hx) (yg _ _ _ hd)
 ·simp only[List.mem_append]at c_
  rcases c_ with(c_|c_)|c_
  ·exact gw vs (List.mem_of_mem_take c_)
  ·exact a8 vs c_
  ·exact gw vs (List.mem_of_mem_drop c_)
theorem F8 {w:World} {I:Nat->Prop}:∀(zs:List Value),(∀z∈zs,z.oneCell'=true)->IV.ab w I (zs.map IV.v) zs
 |[],_=>by simp[IV.ab]
 |z::zs,h=>by
  simp only[List.map_cons,IV.ab,IV.den]
  exact⟨z,zs,rfl,⟨rfl,h z (by simp)⟩,F8 zs fun y hy=>h y (by simp[hy])⟩
theorem F9 {w:World} {I:Nat->Prop} {zs:List Value} (hz:∀z∈zs,z.oneCell'=true):∀n,IV.aQ w I (List.replicate n (zs.map IV.v)) (List.replicate n zs)
 |0=>by simp[IV.aQ]
 |n+1=>by
  simp only[List.replicate_succ,IV.aQ]
  exact⟨_,_,rfl,F8 zs hz,F9 hz n⟩
theorem AQ.clear {ds:List (Nat×Nat)} {i:Nat} {d:Option Nat} {ty t e e':TypeId} {x:Operand} {pos:String} {af:Array Edge} {os:List Oper} {b j n es:Nat} {rows:List (List IV)} {zs:List Value}
  (al:bo C.n ({dst:=d,op:= .call {callee:= .builtin .clear,args:=#[x],argTypes:=#[t]},type:=ty,pos:=pos,after:=af,guard:=none}::os)=true)
  (hx:ev E x=some (.os b es j n)) (hH:lk H b=some (.vec e es rows)) (ht:tk C.P t= .slice e') (hz:aC C.P e'=some zs) (cH:zs.length=es) (lN:(zs.all Value.oneCell')=true)
  (h:(0<n/\j+n<=rows.length)/\vq C K os (a_ d i ds) (i+1) (ba d .top E) (bK H b (.vec e es (rows.take j++List.replicate n (zs.map IV.v)++rows.drop (j+n))))):
  AQ C ds i ({dst:=d,op:= .call {callee:= .builtin .clear,args:=#[x],argTypes:=#[t]},type:=ty,pos:=pos,after:=af,guard:=none}::os) K E H:=by
 obtain⟨⟨h1,h2⟩,h⟩:=h
 refine AQ.step1 _ _ al rfl (fun φ I a w hs=>?_) h
 have kf:=aX hs.env hx
 simp only[AV.den]at kf
 rcases kf with⟨_,_,jC,_⟩|⟨g,c,hb,hu,h4,h5,h6⟩
 ·omega
 have bE:=hs.st.real.own b _ _ hH hb
 simp only[Ob.at]at bE
 rcases bE with⟨hn,_⟩|⟨g',ag,rest,hg,ez,hd,gw⟩
 ·cases hn
 cases hg
 obtain⟨iz,zv,hi,PN,Q2⟩:=xi hz
 have ou:=List.all_eq_true.1 lN
 have hlen:=j0 rows ag hd
 have eN:=nX ag es gw
 obtain⟨hS,hK⟩:=hs.st.S8 (j:=j) (xs:=List.replicate n (zs.map IV.v)) hH hb ez hd gw (F9 ou n) (fun v hv=>by rw[List.eq_of_mem_replicate hv,cH]) (by rw[List.length_replicate];exact h2)
 have Q3:(Builtin.zeroCells zv.cells n).toList=(List.replicate n zs).flatten:=by rw[U2,Q2]
 have pO:(List.replicate n zs).flatten.length=n*es:=by rw[nX _ es (fun v hv=>by rw[List.eq_of_mem_replicate hv,cH]),List.length_replicate]
 have u5:j*es+n*es<=(ag.flatten++rest).toArray.size:=by
  have e:(ag.flatten++rest).toArray.size=ag.flatten.length+rest.length:=by simp only[List.size_toArray,List.length_append]
  have:j*es+n*es<=ag.length*es:=by rw[<-Nat.add_mul];exact Nat.mul_le_mul_right _ (by omega)
  omega
 have ca:=run_storeCells_at C.P g (j*es) e (List.replicate n zs).flatten 0 (ag.flatten++rest).toArray w ez (by rw[pO];omega) (fun v hv=>by
  obtain⟨l,hl,eC⟩:=List.mem_flatten.1 hv
  rw[List.eq_of_mem_replicate hl]at eC
  exact ou v eC)
 rw[Nat.add_zero]at ca
 rw[List.length_replicate]at hS
 refine⟨.tuple #[],_,φ,I,?_,?_,hS,hK⟩
 ·have jC:n≠0:=by omega
  obtain⟨n',rfl⟩:∃n',n=n'+1:=⟨n-1,by omega⟩
  simp[execOp,resolve,invoke,builtin,Builtin.clear_,hu,run_underlying (eV ht),zeroValue,typeInfo,hi,PN,Q3,ca]
 ·simp only[AV.den]
end
section
variable {C:Cx} {K:List PK} {E:Env} {H:aa}
theorem AQ.fu {ds:List (Nat×Nat)} {i:Nat} {rest:List Oper} (b:Nat) (cs':List AV) {s:Sh} {cs:List AV} (hl:lk H b=some (.var s cs)) (hc:bO cs cs') (h:AQ C ds i rest K E (bK H b (.var s cs'))):AQ C ds i rest K E H:=by
 unfold AQ at h⊢
 exact fun ops h1 h2 φ I a w hs=>h ops h1 h2 _ _ _ _ ⟨hs.bI,hs.bJ,hs.env,hs.st.fu hl hc⟩
end
section
variable {C:Cx} {K:List PK} {E:Env} {H:aa}
def cX (C:Cx) (r:AV) (K:List PK) (E:Env) (H:aa):Prop:=
 ∀φ I a w v,br C φ I E H a w->AV.den w φ I r v->dq C (K.map (PK.ki C.fn)) (.panic [{v:=v,recovered:=false}]) a w
def mF:List PK->Bool
 |[]=>true
 | .bot _::_=>false
 | .seq _::K=>mF K
 | .fg _::K=>mF K
 | .lp _::K=>mF K
 | .sc::K=>mF K
theorem rY:∀(K:List PK),mF K=true->∀c a w,x5 C (.panic c) a w->dq C (K.map (PK.ki C.fn)) (.panic c) a w
 |[],_,_,_,_,h=>h
 | .seq _::K,hK,c,a,w,h=>rY K hK c a w h
 | .fg _::K,hK,c,a,w,h=>rY K hK c a w h
 | .lp _::K,hK,c,a,w,h=>rY K hK c a w h
 | .sc::K,hK,c,a,w,h=>rY K hK c a w h
 | .bot _::_,hK,_,_,_,_=>by cases hK
theorem JY (l:List Nat) {r:AV} {v:Value} {φ:aq} {I:Nat->Prop} {a:Act} {w:World} (mV:Marks C.ds C.B.w0.heap.size w I a.defers) (ca:St C.B φ I H w) (b9:AV.den w φ I r v) (hk:dK l r H=true) (hX:C.X r (j6 l H)):x5 C (.panic [{v:=v,recovered:=false}]) a w:=by
 intro aU
 obtain⟨ms,h1,h2,h3,_⟩:=mV
 rw[h1,aU,List.filterMap_nil,List.append_nil]
 have key:∀(ms:List Nat) (w:World),ms.Nodup->(∀D∈ms,C.B.w0.heap.size<=D/\w.heap[D]?=some (.deferred (some [])))->St C.B φ I H w->AV.den w φ I r v->
   LeavesInM Fence.wide 3 C.P C.fn a.tmps (jn C) (ms.map tf) (.panicking [{v:=v,recovered:=false}]) w:=by
  intro ms
  induction ms with
  |nil=>
   intro w _ _ hS hd
   simp only[List.map_nil,LeavesInM,LeavesIn]
   obtain⟨φ',eM,qG⟩:=uA l φ H hk hd hS
   exact .inr ⟨r,j6 l H,φ',I,v,hX,rfl,eM,qG⟩
  |cons D ms ih=>
   intro w hn hd hS b9
   simp only[List.map_cons,LeavesInM]
   obtain⟨h1,h2⟩:=hd D (by simp)
   rw[List.nodup_cons]at hn
   refine⟨by simp,.inl ⟨D,_,rfl,run_takeDeferred h2,ih _ hn.2 (fun D' ly=>?_) (hS.D1 h1 h2) (ye h2 r v b9)⟩⟩
   obtain⟨h3,h4⟩:=hd D' (by simp[ly])
   exact⟨h3,(World.putObj_heap_other (fun e=>hn.1 (by rw[<-e];exact ly))).trans h4⟩
 exact key ms w h2 (fun D hD=>(h3 D hD).2) ca b9
theorem cX.out (l:List Nat) {r:AV} (hK:mF K=true) (hk:dK l r H=true) (hX:C.X r (j6 l H)):cX C r K E H:=fun φ I a w v hs hd=>
 rY K hK _ a w (JY l hs.bI hs.st hd hk hX)
theorem cX.JU (l:List Nat) {r:AV} {Cn:Cx} {J:Act->World->Prop} {ops:List Oper} (hC:Cn=C.nr) (hK:mF K=true) (hk:dK l r H=true) (hX:C.X r (j6 l H)):cX Cn r [.lp J,.bot (oP C K ops)] E H:=fun φ I a w v hs hd=>by
 subst hC
 show oP C K ops (.panic _) a w
 intro a' BU _ _
 exact rY K hK _ a' w (JY (C:=C) (a:=a') l (by rw[BU];exact hs.bI) hs.st hd hk hX)
theorem Dc:∀(l:List Nat) (E:Env) (i:Nat) (x:AV),lk (kU l E) i=some x->i∈l
 |[],E,i,x,h=>by simp[kU,lk]at h
 |j::r,E,i,x,h=>by
  rw[kU]at h
  cases hj:lk E j with
  |none=>rw[hj]at h;exact List.mem_cons_of_mem _ (Dc r E i x h)
  |some y=>
   rw[hj]at h
   simp only[lk]at h
   cases hb:Nat.beq j i with
   |true=>have:=Nat.eq_of_beq_eq_true hb;subst this;exact List.mem_cons_self ..
   |false=>rw[hb]at h;exact List.mem_cons_of_mem _ (Dc r E i x h)
theorem cX.draw (ids:List Nat) {r:AV} {Cn:Cx} {J:Act->World->Prop} {ops:List Oper} (hC:Cn=C.nr) (hi:(ids.all fun i=>ops.all fun o=>o.dst !=some i)=true) (h:cX C r K (kU ids E) H):cX Cn r [.lp J,.bot (oP C K ops)] E H:=fun φ I a w v hs hd=>by
 subst hC
 show oP C K ops (.panic _) a w
 intro a' h1 h2 h3
 refine h φ I a' w v ⟨by rw[h1];exact hs.bI,by rw[h2];exact hs.bJ,fun i x hx=>?_,hs.st⟩ hd
 obtain⟨u,hu,c8⟩:=hs.env i x (zl ids E i x hx)
 refine⟨u,(h3 i fun o ho e=>?_).trans hu,c8⟩
 have:=List.all_eq_true.1 (List.all_eq_true.1 hi i (Dc ids E i x hx)) o ho
 rw[e]at this
 simp at this
theorem c7.walk {P:Program} {f:FuncId} {fn:Func} {c:Code} {n nb:Nat} {args:List AV} {H:aa} {R X:AV->aa->Prop} (kp ob:List Nat) (hf:P.funcs[f]?=some fn) (hb:fn.body=some c) (hn:fn.ntmps=n)
  (jD:enters P f=true) (cU:Nat.ble args.length n=true) (hnb:cW H=nb)
  (h:∀(w:World) (own I0:Nat->Prop) (ax:aq) (lay:Lay P ⟨w,own,I0,ax,nb⟩),AP ⟨P,fn,n,⟨w,own,I0,ax,nb⟩,kp,ob,R,none,X,[],lay⟩ [] [] (enum 0 args) H):c7 P f args H R X:=
 c7.intro kp ob hf hb hn jD cU hnb fun w own I0 ax lay=>by
  have:=h w own I0 ax lay
  unfold AP at this
  simp only[b_,hb,Option.getD_some]at this
  exact this
theorem c7.mono {P:Program} {f:FuncId} {args:List AV} {H:aa} {R R' X X':AV->aa->Prop} (h:c7 P f args H R X) (hr:∀r H',R r H'->R' r H') (hx:∀r H',X r H'->X' r H'):c7 P f args H R' X':=
 ⟨h.gl,fun w φ I vs hd hR hV=>(h.run w φ I vs hd hR hV).mono fun _ _ h=>by
  rcases h with⟨r,H',φ',I',v,h1,h2⟩|⟨r,H',φ',I',v,h1,h2⟩
  ·exact .inl ⟨r,H',φ',I',v,hr _ _ h1,h2⟩
  ·exact .inr ⟨r,H',φ',I',v,hx _ _ h1,h2⟩⟩
theorem AQ.mb (m:List (Nat×Nat)) {ds:List (Nat×Nat)} {i:Nat} {d:Option Nat} {ty:TypeId} {pos:String} {af:Array Edge} {os:List Oper} {bn:Operand} {f:FuncId} {fs aL:List AV} {xs:List Operand} {aY:Array TypeId} {l gj:List AV} {Hc:aa} {R X:AV->aa->Prop}
  (al:bo C.n ({dst:=d,op:= .call {callee:= .value bn,args:=xs.toArray,argTypes:=aY},type:=ty,pos:=pos,after:=af,guard:=none}::os)=true)
  (eX:ev E bn=some (.fn f fs aL)) (hl:dD E xs=some l) (di:gs l=true)
  (j9:eP m=lO Hc) (jb:fS (eP m)=true) (ka:fS (jm m)=true) (kb:jP (bp m (aN C.B.nb H)) H Hc)
  (cU:AV.dJ (bp m (aN C.B.nb H)) gj=fs++l.map AV.st++aL) (hc:c7 C.P f gj Hc R X)
  (hx:∀r H1,X r H1->jM (cP H1 m) (eh m H)=true/\cX C (AV.rn (bp m (aN C.B.nb H)) r) K (jJ (cP H1 m) E) (ir m (aN C.B.nb H) H H1))
  (h:∀r H1,R r H1->jM (cP H1 m) (eh m H)=true/\AQ C (a_ d i ds) (i+1) os K (ba d (AV.rn (bp m (aN C.B.nb H)) r) (jJ (cP H1 m) E)) (ir m (aN C.B.nb H) H H1)):
  AQ C ds i ({dst:=d,op:= .call {callee:= .value bn,args:=xs.toArray,argTypes:=aY},type:=ty,pos:=pos,after:=af,guard:=none}::os) K E H:=by
 obtain⟨hd,ct⟩:=d_ al
 generalize hk:aN C.B.nb H=k at*
 have hH:Hand m k H Hc:=⟨j9,jb,ka,kb,fun b o hb=>by have:=oL H b o hb;have:=(gV C.B.nb H).2;omega⟩
 have bT:=h
 unfold AQ at bT⊢
 refine AO.step (o:={dst:=d,op:= .call {callee:= .value bn,args:=xs.toArray,argTypes:=aY},type:=ty,pos:=pos,after:=af,guard:=none}) fun ops φ I a w aU _ hs Kn bS=>?_
 have hw:Region.wanted {dst:=d,op:= .call {callee:= .value bn,args:=xs.toArray,argTypes:=aY},type:=ty,pos:=pos,after:=af,guard:=none} (yielded ops a.tmps)=true:=by simp[Region.wanted]
 rw[if_pos hw]
 have fw:=aX hs.env eX
 simp only[AV.den]at fw
 obtain⟨dS,us,lC,gv,ml⟩:=fw
 have bh:AV.ab w φ I (fs++l.map AV.st++aL) (dS++xs.map a.eval++us):=AQ.ma.lg _ _ _ _ (AQ.ma.lg _ _ _ _ lC (lr hs.env _ _ hl di)) gv
 rw[<-cU]at bh
 have uX:=AV.oS (ρ:=bp m k) (φ:=fun b=>φ (bp m k b)) (fun _=>rfl) _ _ bh
 have aK:(execOp a.eval {dst:=d,op:= .call {callee:= .value bn,args:=xs.toArray,argTypes:=aY},type:=ty,pos:=pos,after:=af,guard:=none}).run C.P w= .ok (.enter f (dS++xs.map a.eval++us).toArray) w:=by
  have:execOp a.eval {dst:=d,op:= .call {callee:= .value bn,args:=xs.toArray,argTypes:=aY},type:=ty,pos:=pos,after:=af,guard:=none}=(do let d<-Deferred.ofValue (a.eval bn) (xs.toArray.map a.eval);invoke d.target d.args):=rfl
  rw[this,ml,zJ (t:=ty) hc.gl]
  simp
 unfold Oper.wp
 rw[aK,Oper.upon_enter]
 have jF:∀r H1 bf I1 v w',jM (cP H1 m) (eh m H)=true->AV.den w' bf I1 r v->St ⟨w,c6 fun b=>φ (bp m k b),I,fun b=>φ (bp m k b),cW Hc⟩ bf I1 H1 w'->
   br C (gH m k φ bf) I1 (jJ (cP H1 m) E) (ir m k H H1) a w'/\AV.den w' (gH m k φ bf) I1 (AV.rn (bp m k) r) v:=fun r H1 bf I1 v w' oq b9 hS=>by
  obtain⟨j4,hf,j8,hI,dv⟩:=hH.after (by have:=(gV C.B.nb H).1;omega) hs.st hS oq
  refine⟨⟨hs.bI.mono j8 hI,hs.bJ,fun j x hx=>?_,j4⟩,AV.rC (φ':=gH m k φ bf) (fun b p hb=>hH.fwd (φ:=φ) hb) r v b9⟩
  obtain⟨y,hy,kQ⟩:=zn (w:=w) (I:=I) _ φ E j x hx
  obtain⟨u,hu,hd⟩:=hs.env j y hy
  exact⟨u,hu,AV.jZ j8 hI hf dv x u (kQ u hd)⟩
 refine(hc.run w (fun b=>φ (bp m k b)) I _ uX (hH.real hs.st) hs.st.vk).mono fun e w' he=>?_
 rcases he with⟨r,H1,bf,I1,v,hr,he,b9,hS⟩|⟨r,H1,bf,I1,v,hr,he,b9,hS⟩
 ·subst he
  obtain⟨oq,ic⟩:=bT r H1 hr
  obtain⟨gS,fQ⟩:=jF r H1 bf I1 v w' oq b9 hS
  exact bS _ _ (gH m k φ bf) I1 _ _ ic (gS.put gS.st (bG.refl w' (gH m k φ bf) I1) hd fQ)
 ·subst he
  obtain⟨oq,ic⟩:=hx r H1 hr
  obtain⟨gS,fQ⟩:=jF r H1 bf I1 v w' oq b9 hS
  exact ic _ _ _ _ _ gS fQ
theorem AQ.panic {ds:List (Nat×Nat)} {i:Nat} {d:Option Nat} {ty:TypeId} {pos:String} {af:Array Edge} {os:List Oper} {x:Operand} {t:TypeId} {y:AV}
  (hx:ev E x=some (.wr (.iface t) y)) (h:cX C (.wr (.iface t) y) K E H):
  AQ C ds i ({dst:=d,op:= .panic x,type:=ty,pos:=pos,after:=af,guard:=none}::os) K E H:=by
 unfold AQ
 refine AO.step (o:={dst:=d,op:= .panic x,type:=ty,pos:=pos,after:=af,guard:=none}) fun ops φ I a w aU _ hs Kn bS=>?_
 rw[if_pos (by simp[Region.wanted])]
 have hv:=aX hs.env hx
 have q5:=hv
 simp only[AV.den,WK.rel]at hv
 obtain⟨v,hu,_⟩:=hv
 have aK:(execOp a.eval {dst:=d,op:= .panic x,type:=ty,pos:=pos,after:=af,guard:=none}).run C.P w= .halt (.panic (a.eval x)) w:=by
  have e:execOp a.eval {dst:=d,op:= .panic x,type:=ty,pos:=pos,after:=af,guard:=none}=(do pure (.value (<-Instr.panic (a.eval x))):Sem Next):=rfl
  rw[e,hu]
  rfl
 unfold Oper.wp
 rw[aK]
 exact h φ I a w _ hs q5
end
def nU:Value->Deferred
 | .func fn dS us=>{target:= .fn fn us,args:=dS}
 |_=>{target:= .nil,args:=#[]}
def l_ (C:Cx):Exit->Act->World->Prop
 | .normal,a,w| .ret,a,w=>LeavesInM Fence.wide 3 C.P C.fn a.tmps (jn C) a.defers .returning w
 | .panic c,a,w=>LeavesInM Fence.wide 3 C.P C.fn a.tmps (jn C) a.defers (.panicking c) w
 |_,_,_=>False
def tj:Option AV->Value->FrameMode
 |none,_=> .returning
 |some _,v=> .panicking [{v:=v,recovered:=false}]
structure l5 (P:Program) (f:FuncId) (args:List AV) (H:aa) (r:Option AV) (R:aa->Prop):Prop where
 gl:enters P f=true
 run:∀(w:World) (φ:aq) (I:Nat->Prop) (vs:List Value) (v:Value),AV.ab w φ I args vs->Real w φ I H->VK P w I->(∀r0,r=some r0->AV.den w φ I r0 v)->
  CallsDIn Fence.wide 2 P f vs.toArray (tj r v) w (fun e u' w'=>∃H' φ' I' x,R H'/\e= .returned x/\settle u'= .returning/\St ⟨w,c6 φ,I,φ,cW H⟩ φ' I' H' w')
section
variable {C:Cx} {K:List PK} {E:Env} {H:aa}
theorem uz (D:List (Option Deferred)):∀(K:List PK),mF K=false->dq {C with ds:=D} (K.map (PK.ki C.fn))=dq C (K.map (PK.ki C.fn))
 |[],h=>by cases h
 | .bot _::_,_=>rfl
 | .seq q::K,h=>by
  have ih:=uz D K h
  funext e a w
  simp only[List.map_cons,PK.ki,dq,ih]
 | .fg _::K,h=>by
  have ih:=uz D K h
  funext e a w
  simp only[List.map_cons,PK.ki,dq,ih]
 | .lp _::K,h=>by
  have ih:=uz D K h
  funext e a w
  simp only[List.map_cons,PK.ki,dq,ih]
 | .sc::K,h=>by
  have ih:=uz D K h
  funext e a w
  simp only[List.map_cons,PK.ki,dq,ih]
theorem AQ.defer {ds:List (Nat×Nat)} {i:Nat} {ty:TypeId} {pos:String} {af:Array Edge} {os:List Oper} {t:Tmp} {aY:Array TypeId} {f:FuncId} {fs aL:List AV}
  (hK:mF K=false) (aU:C.ds=[none]) (hl:lk E t=some (.fn f fs aL))
  (h:∀u,AQ {C with ds:=[some (nU u)]} (a_ none i ds) (i+1) os K ((t,.wr (.exact u) (.fn f fs aL))::E) H):
  AQ C ds i ({dst:=none,op:= .defer {callee:= .value (.tmp t),args:=#[],argTypes:=aY},type:=ty,pos:=pos,after:=af,guard:=none}::os) K E H:=by
 unfold AQ AO at h⊢
 intro ops h1 h2 φ I a w hs
 have hv:=aX hs.env (x:= .tmp t) hl
 obtain⟨v,sS⟩:∃v,a.eval (.tmp t)=v:=⟨_,rfl⟩
 rw[sS]at hv
 have q5:=hv
 simp only[AV.den]at q5
 obtain⟨dS,us,lC,gv,so⟩:=q5
 unfold gh
 rw[if_pos (by simp[Region.wanted])]
 refine .inl ?_
 have aK:(execOp a.eval {dst:=none,op:= .defer {callee:= .value (.tmp t),args:=#[],argTypes:=aY},type:=ty,pos:=pos,after:=af,guard:=none}).run C.P w= .ok (.defer (nU v)) w:=by
  have e:execOp a.eval {dst:=none,op:= .defer {callee:= .value (.tmp t),args:=#[],argTypes:=aY},type:=ty,pos:=pos,after:=af,guard:=none}=(do let d<-Deferred.ofValue (a.eval (.tmp t)) ((#[]:Array Operand).map a.eval);pure (.defer d):Sem Next):=rfl
  rw[e,sS,so]
  simp[Deferred.ofValue,Sem.run_bind,nU]
 unfold Oper.wp
 rw[aK,Oper.upon_defer]
 have hh:=h v ops (fun j d hj=>h1 j d (by simpa[a_]using hj)) (fun j o hj=>by
  have:=h2 (j+1) o (by simpa using hj)
  rwa [show i+1+j=i+(j+1) by omega]) φ I ({a with defers:=nU v::a.defers}) w
 rw[uz _ K hK]at hh
 obtain⟨ms,g1,g2,g3,g4⟩:=hs.bI
 have qQ:=g4 (by rw[aU];simp)
 have qH:a.defers=[]:=by rw[g1,qQ,aU];rfl
 refine hh ⟨?_,hs.bJ,fun j x hx=>?_,hs.st⟩
 ·refine⟨[],?_,List.nodup_nil,(fun D hD=>by cases hD),fun _=>rfl⟩
  show nU v::a.defers=_
  rw[qH];rfl
 ·simp only[lk]at hx
  cases hb:Nat.beq t j with
  |true=>
   rw[hb]at hx
   have:=Nat.eq_of_beq_eq_true hb
   subst this
   simp only[cond_true,Option.some.injEq]at hx
   subst hx
   obtain⟨u,hu,_⟩:=hs.env t _ hl
   refine⟨u,hu,?_⟩
   have vz:a.eval (.tmp t)=u:=by simp[Act.eval,hu]
   rw[sS]at vz
   subst vz
   rw[AV.den]
   exact⟨v,⟨rfl,rfl⟩,hv⟩
  |false=>
   rw[hb]at hx
   exact hs.env j x hx
def LV (C:Cx) (E:Env) (H:aa):Prop:=∀φ I a w,St C.B φ I H w->dB w φ I E a->LeavesInM Fence.wide 3 C.P C.fn a.tmps (jn C) [] .returning w
theorem LV.aV (l:List Nat) {sc:Prop} {xs:List AV} (h:jg C.P E H C.fn.results.toList=some (sc,xs)) (aB:sc) (hk:dK l (dN xs) H=true) (hR:C.R (dN xs) (j6 l H)):LV C E H:=fun φ I a w hS hE=>by
 simp only[LeavesInM,LeavesIn]
 obtain⟨v,hv,hd⟩:=tx hE hS.real h aB
 obtain⟨φ',eM,qG⟩:=uA l φ H hk hd hS
 exact⟨v,hv,.inl ⟨dN xs,j6 l H,φ',I,v,hR,rfl,eM,qG⟩⟩
theorem Tx {P:Program} {f:FuncId} {dS us:Array Value} {w:World} (uZ:enters P f=true):(invoke (.fn (.func f) us) dS).run P w= .ok (.enter f (dS++us)) w:=by
 simp only[invoke]
 exact tC uZ _ w
theorem IG (m:List (Nat×Nat)) {t:Tmp} {u:Value} {f:FuncId} {fs aL gj:List AV} {Hc:aa} {r:Option AV} {RD:aa->Prop}
  (aU:C.ds=[some (nU u)]) (hl:lk E t=some (.wr (.exact u) (.fn f fs aL)))
  (j9:eP m=lO Hc) (jb:fS (eP m)=true) (ka:fS (jm m)=true) (kb:jP (bp m (aN C.B.nb H)) H Hc)
  (cU:AV.dJ (bp m (aN C.B.nb H)) gj=fs++aL) (hc:l5 C.P f gj Hc r RD)
  (h:∀H1,RD H1->jM (cP H1 m) (eh m H)=true/\LV C (jJ (cP H1 m) E) (ir m (aN C.B.nb H) H H1))
  {φ:aq} {I:Nat->Prop} {a:Act} {w:World} (hs:br C φ I E H a w) (v:Value) (hr:∀r0,r=some r0->AV.den w φ I (AV.rn (bp m (aN C.B.nb H)) r0) v):
  LeavesInM Fence.wide 3 C.P C.fn a.tmps (jn C) a.defers (tj r v) w:=by
 obtain⟨ms,g1,g2,g3,g4⟩:=hs.bI
 have qQ:=g4 (by rw[aU];simp)
 have qH:a.defers=[nU u]:=by rw[g1,qQ,aU];rfl
 rw[qH]
 generalize hk:aN C.B.nb H=k at*
 have hH:Hand m k H Hc:=⟨j9,jb,ka,kb,fun b o hb=>by have:=oL H b o hb;have:=(gV C.B.nb H).2;omega⟩
 obtain⟨u',WL,eM⟩:=hs.env t _ hl
 simp only[AV.den,WK.rel]at eM
 obtain⟨v',⟨rfl,rfl⟩,dS,us,lC,gv,so⟩:=eM
 have bh:AV.ab w φ I (fs++aL) (dS++us):=AQ.ma.lg _ _ _ _ lC gv
 rw[<-cU]at bh
 have uX:=AV.oS (ρ:=bp m k) (φ:=fun b=>φ (bp m k b)) (fun _=>rfl) _ _ bh
 subst so
 simp only[LeavesInM]
 refine⟨by cases r<;>simp[tj],.inr ⟨fun h=>(by cases h),.func f,us.toArray,f,(dS++us).toArray,rfl,?_,fun _ _=>trivial,?_⟩⟩
 ·show(invoke (.fn (.func f) us.toArray) dS.toArray).run C.P w=_
  rw[Tx hc.gl,List.append_toArray]
 ·refine(hc.run w (fun b=>φ (bp m k b)) I (dS++us) v uX (hH.real hs.st) hs.st.vk (fun r0 ow=>AV.wF (ρ:=bp m k) (φ:=fun b=>φ (bp m k b)) (fun _=>rfl) _ _ (hr r0 ow))).mono fun e u' w' he=>?_
  obtain⟨H1,bf,I1,x,uR,rfl,bK,hS⟩:=he
  show LeavesInM Fence.wide 3 C.P C.fn a.tmps (jn C) [] (settle u') w'
  rw[bK]
  obtain⟨oq,vl⟩:=h H1 uR
  obtain⟨j4,hf,j8,hI,dv⟩:=hH.after (by have:=(gV C.B.nb H).1;omega) hs.st hS oq
  refine vl _ _ a w' j4 fun j y hy=>?_
  obtain⟨z,hz,CY⟩:=zn (w:=w) (I:=I) _ φ E j y hy
  obtain⟨q,hq,Qo⟩:=hs.env j z hz
  exact⟨q,hq,AV.jZ j8 hI hf dv y q (CY q Qo)⟩
theorem AE.s6 (m:List (Nat×Nat)) {C0:Cx} {e:Exit} {t:Tmp} {u:Value} {f:FuncId} {fs aL gj:List AV} {Hc:aa} {RD:aa->Prop}
  (he:e= .ret\/e= .normal) (aU:C.ds=[some (nU u)]) (hl:lk E t=some (.wr (.exact u) (.fn f fs aL)))
  (j9:eP m=lO Hc) (jb:fS (eP m)=true) (ka:fS (jm m)=true) (kb:jP (bp m (aN C.B.nb H)) H Hc)
  (cU:AV.dJ (bp m (aN C.B.nb H)) gj=fs++aL) (hc:l5 C.P f gj Hc none RD)
  (h:∀H1,RD H1->jM (cP H1 m) (eh m H)=true/\LV C (jJ (cP H1 m) E) (ir m (aN C.B.nb H) H H1)) (hC:l_ C0=l_ C:=by rfl):AE C e [.bot (l_ C0)] E H:=by
 unfold AE
 intro φ I a w hs
 have:=IG m aU hl j9 jb ka kb cU hc h hs undef (fun _ h=>by cases h)
 rw[hC]
 rcases he with rfl|rfl<;>exact this
theorem cX.s6 (m:List (Nat×Nat)) {C0:Cx} {K':List PK} {r:AV} {t:Tmp} {u:Value} {f:FuncId} {fs aL gj:List AV} {Hc:aa} {RD:aa->Prop}
  (aU:C.ds=[some (nU u)]) (hl:lk E t=some (.wr (.exact u) (.fn f fs aL)))
  (j9:eP m=lO Hc) (jb:fS (eP m)=true) (ka:fS (jm m)=true) (kb:jP (bp m (aN C.B.nb H)) H Hc)
  (cU:AV.dJ (bp m (aN C.B.nb H)) gj=fs++aL) (hc:l5 C.P f gj Hc (some r) RD) (iO:AV.rn (bp m (aN C.B.nb H)) r=r)
  (h:∀H1,RD H1->jM (cP H1 m) (eh m H)=true/\LV C (jJ (cP H1 m) E) (ir m (aN C.B.nb H) H H1)) (hK:mF K'=true) (hC:l_ C0=l_ C:=by rfl):cX C r (K'++[.bot (l_ C0)]) E H:=by
 intro φ I a w v hs hd
 have h0:=IG m aU hl j9 jb ka kb cU hc h hs v (fun r0 h=>by cases h;rw[iO];exact hd)
 have key:∀(K':List PK),mF K'=true->dq C ((K'++[PK.bot (l_ C0)]).map (PK.ki C.fn)) (.panic [{v:=v,recovered:=false}]) a w:=fun K'=>by
  induction K' with
  |nil=>intro _;rw[hC];exact h0
  |cons x K' ih=>
   intro hK
   cases x with
   |bot Q=>cases hK
   |_=>exact ih hK
 exact key K' hK
theorem c7.UN {P:Program} {f:FuncId} {fn:Func} {c:Code} {n nb:Nat} {args:List AV} {H:aa} {R X:AV->aa->Prop} (kp ob:List Nat) (hf:P.funcs[f]?=some fn) (hb:fn.body=some c) (hn:fn.ntmps=n)
  (jD:enters P f=true) (cU:Nat.ble args.length n=true) (hnb:cW H=nb)
  (h:∀(w:World) (own I0:Nat->Prop) (ax:aq) (lay:Lay P ⟨w,own,I0,ax,nb⟩),AP ⟨P,fn,n,⟨w,own,I0,ax,nb⟩,kp,ob,R,none,X,[none],lay⟩ [] [.bot (l_ ⟨P,fn,n,⟨w,own,I0,ax,nb⟩,kp,ob,R,none,X,[none],lay⟩)] (enum 0 args) H):c7 P f args H R X:=by
 refine⟨jD,fun w φ I vs hd hR hV=>?_⟩
 subst hnb
 have hl:=iC args vs hd
 have qI:=Nat.le_of_ble_eq_true cU
 have h0:=h w (c6 φ) I φ (hR.lay hV _)
 unfold AP at h0
 simp only[b_,hb,Option.getD_some]at h0
 have h1:=h0 φ I {tmps:=vs.toArray++Array.replicate (fn.ntmps-vs.toArray.size) undef,defers:=[]} w ⟨Marks.nil,?_,fun i x hx=>?_,rA hR _⟩
 ·refine callsIn_wide.1 (callsIn_of_wp_marks (F:=Fence.wide) (n:=3) hf hb trivial (Go.wpIn_mono (F:=Fence.wide) h1 fun e a w he=>?_))
  cases e with
  |normal=>exact he
  |ret=>exact he
  |panic c=>exact he
  |_=>exact he.elim
 ·simp only[Array.size_append,List.size_toArray,Array.size_replicate,hn];omega
 ·obtain⟨j,rfl,hj⟩:=qx args 0 i x hx
  obtain⟨u,hu,c8⟩:=iB args vs j x hd hj
  refine⟨u,?_,c8⟩
  have ah:j<vs.length:=by
   rcases Nat.lt_or_ge j vs.length with h|h
   ·exact h
   ·rw[List.getElem?_eq_none h]at hu;cases hu
  rw[Nat.zero_add,Array.getElem?_append_left (by simpa using ah)]
  simpa using hu
end
def uj (C:Cx):Exit->Act->World->Prop
 | .normal,a,w| .ret,a,w=>a.defers=[]/\∃v,(results C.fn a.tmps).run C.P w= .ok v w/\k_ C.B C.R (.returned v) w
 |_,_,_=>False
def p_:Option AV->AV
 |none=> .im (.v .nilIface)
 |some r=>r
section
variable {C:Cx} {K:List PK} {E:Env} {H:aa}
theorem AE.Ke (l:List Nat) {e:Exit} {C0:Cx} {sc:Prop} {xs:List AV} (he:e= .ret\/e= .normal) (aU:C.ds=[none]) (h:jg C.P E H C.fn.results.toList=some (sc,xs)) (aB:sc) (hk:dK l (dN xs) H=true) (hR:C.R (dN xs) (j6 l H)) (hC:uj C0=uj C:=by rfl):AE C e [.bot (uj C0)] E H:=by
 unfold AE
 intro φ I a w hs
 obtain⟨ms,g1,g2,g3,g4⟩:=hs.bI
 have qQ:=g4 (by rw[aU];simp)
 have qH:a.defers=[]:=by rw[g1,qQ,aU];rfl
 obtain⟨v,hv,hd⟩:=tx hs.env hs.st.real h aB
 obtain⟨φ',eM,qG⟩:=uA l φ H hk hd hs.st
 rw[hC]
 have:a.defers=[]/\∃v,(results C.fn a.tmps).run C.P w= .ok v w/\k_ C.B C.R (.returned v) w:=⟨qH,v,hv,dN xs,j6 l H,φ',I,v,hR,rfl,eM,qG⟩
 rcases he with rfl|rfl<;>exact this
theorem LZ {P:Program} {c:Code} {Q:Exit->Act->World->Prop} {a:Act} {w:World} (h:c.wpIn Fence.wide 3 P Q a w):c.wpIn Fence.wide 2 P Q a w:=wpIn_wide.2 (wpIn_wide.1 h)
theorem l5.walk {P:Program} {f:FuncId} {fn:Func} {c2:Code} {n nb id d0 d1:Nat} {o0 o1:Oper} {args:List AV} {H:aa} {r:Option AV} {RD:aa->Prop} (kp ob:List Nat) (hf:P.funcs[f]?=some fn)
  (hb:fn.body=some (.seq (.region id #[o0,o1] false) c2)) (hn:fn.ntmps=n)
  (yW:(match o0.op with| .call c=>(match c.callee with| .builtin .recover=>c.args.size==0|_=>false)|_=>false)=true/\o0.dst=some d0/\o0.guard=none)
  (m_:o1.op= .assign (.tmp d0)/\o1.dst=some d1/\o1.guard=none) (hd:(Nat.blt d0 n&&Nat.blt d1 n)=true)
  (jD:enters P f=true) (cU:Nat.ble args.length n=true) (hnb:cW H=nb)
  (h:∀(w:World) (own I0:Nat->Prop) (ax:aq) (lay:Lay P ⟨w,own,I0,ax,nb⟩),AP ⟨P,fn,n,⟨w,own,I0,ax,nb⟩,kp,ob,fun _ H'=>RD H',none,fun _ _=>False,[none],lay⟩ [1] [.bot (uj ⟨P,fn,n,⟨w,own,I0,ax,nb⟩,kp,ob,fun _ H'=>RD H',none,fun _ _=>False,[none],lay⟩)] ((d1,p_ r)::(d0,p_ r)::enum 0 args) H):l5 P f args H r RD:=by
 refine⟨jD,fun w φ I vs v bh hR hV hr=>?_⟩
 subst hnb
 have hl:=iC args vs bh
 have qI:=Nat.le_of_ble_eq_true cU
 simp only[Bool.and_eq_true,Nat.blt_eq]at hd
 obtain⟨⟨vo,Pq,yN⟩,HG,Pr,iK⟩:=And.intro yW m_
 have h0:=h w (c6 φ) I φ (hR.lay hV _)
 unfold AP at h0
 obtain⟨x,hx⟩:∃x,x=(match r with|none=>Value.nilIface|some _=>v):=⟨_,rfl⟩
 obtain⟨T,hT⟩:∃T:Array Value,T=vs.toArray++Array.replicate (fn.ntmps-vs.toArray.size) undef:=⟨_,rfl⟩
 have yC:T.size=n:=by rw[hT];simp only[Array.size_append,List.size_toArray,Array.size_replicate,hn];omega
 have y_:AV.den w φ I (p_ r) x:=by
  cases r with
  |none=>rw[hx];simp[p_,AV.den,IV.den,Value.oneCell']
  |some r0=>rw[hx];exact hr r0 rfl
 have jF:br ⟨P,fn,n,⟨w,c6 φ,I,φ,cW H⟩,kp,ob,fun _ H'=>RD H',none,fun _ _=>False,[none],hR.lay hV _⟩ φ I ((d1,p_ r)::(d0,p_ r)::enum 0 args) H {tmps:=(T.setIfInBounds d0 x).setIfInBounds d1 x,defers:=[]} w:=by
  refine⟨Marks.nil,by simpa using yC,fun i y hy=>?_,rA hR _⟩
  simp only[lk]at hy
  cases cQ:Nat.beq d1 i with
  |true=>
   rw[cQ]at hy
   have:=Nat.eq_of_beq_eq_true cQ
   subst this
   simp only[cond_true,Option.some.injEq]at hy
   subst hy
   exact⟨x,by simp[yC,hd.2],y_⟩
  |false=>
   rw[cQ]at hy
   have HB:d1≠i:=fun e=>by subst e;simp at cQ
   simp only[cond_false]at hy
   cases eL:Nat.beq d0 i with
   |true=>
    rw[eL]at hy
    have:=Nat.eq_of_beq_eq_true eL
    subst this
    simp only[cond_true,Option.some.injEq]at hy
    subst hy
    exact⟨x,by rw[Array.getElem?_setIfInBounds_ne HB];simp[yC,hd.1],y_⟩
   |false=>
    rw[eL]at hy
    have P7:d0≠i:=fun e=>by subst e;simp at eL
    simp only[cond_false]at hy
    obtain⟨j,rfl,hj⟩:=qx args 0 i y hy
    obtain⟨u,hu,c8⟩:=iB args vs j y bh hj
    refine⟨u,?_,c8⟩
    have ah:j<vs.length:=by
     rcases Nat.lt_or_ge j vs.length with h|h
     ·exact h
     ·rw[List.getElem?_eq_none h]at hu;cases hu
    rw[Array.getElem?_setIfInBounds_ne HB,Array.getElem?_setIfInBounds_ne P7,hT,Nat.zero_add,Array.getElem?_append_left (by simpa using ah)]
    simpa using hu
 have qK:b_ fn [1]=c2:=by simp[b_,hb,child]
 have sT:=h0 φ I _ w jF
 rw[qK]at sT
 refine callsDIn_of_wpSIn hf hb trivial fun ll cs sF=>?_
 rw[<-hT]
 refine wpSIn_seq (wpSIn_region ?_)
 obtain⟨rX,sg⟩:∃rX:List Frame,rX=(match r with|none=>ll::cs|some _=>{ll with mode:= .panicking [{v:=v,recovered:=true}]}::cs):=⟨_,rfl⟩
 have bK:∃u',rX={ll with mode:=u'}::cs/\settle u'= .returning:=by
  cases r with
  |none=>exact⟨.returning,by rw[sg];simp only[tj]at sF;rw[<-sF],rfl⟩
  |some r0=>exact⟨_,sg,rfl⟩
 have j7:c2.wpSIn Fence.wide 2 P (bodyPostS P fn ll cs fun e u' w'=>∃H' φ' I' x,RD H'/\e= .returned x/\settle u'= .returning/\St ⟨w,c6 φ,I,φ,cW H⟩ φ' I' H' w') {tmps:=(T.setIfInBounds d0 x).setIfInBounds d1 x,defers:=[]} rX w:=by
  refine wpSIn_of_wpIn rfl (Go.wpIn_mono (LZ sT) fun e a' w' he=>?_)
  obtain⟨u',lH,kd⟩:=bK
  cases e with
  |normal=>
   obtain⟨oa,v',oB,rr,H',φ',I',vv,qF,_,_,hS⟩:=he
   exact⟨oa,u',lH,v',oB,H',φ',I',v',qF,rfl,kd,hS⟩
  |ret=>
   obtain⟨oa,v',oB,rr,H',φ',I',vv,qF,_,_,hS⟩:=he
   exact⟨oa,u',lH,v',oB,H',φ',I',v',qF,rfl,kd,hS⟩
  |_=>exact he.elim
 have y2:(execOp ({tmps:=T,defers:=[]}:Act).eval o0).run P w= .ok .recover w:=by
  obtain⟨dst,op,ty,pos,af,g⟩:=o0
  cases op with
  |call cc=>
   obtain⟨callee,as,aY⟩:=cc
   simp only at vo
   cases callee with
   |builtin bb=>
    cases bb<;>first|(simp only at vo;exact absurd vo (by decide))|rfl
   |_=>simp at vo
  |_=>simp at vo
 have Pe:∀a:Act,(execOp a.eval o1).run P w= .ok (.value (a.eval (.tmp d0))) w:=fun a=>by
  obtain⟨dst,op,ty,pos,af,g⟩:=o1
  simp only at HG
  subst HG
  rfl
 have e0:({tmps:=T,defers:=[]}:Act).put o0.dst x={tmps:=T.setIfInBounds d0 x,defers:=[]}:=by rw[Pq];rfl
 have e1:({tmps:=T.setIfInBounds d0 x,defers:=[]}:Act).put o1.dst x={tmps:=(T.setIfInBounds d0 x).setIfInBounds d1 x,defers:=[]}:=by rw[Pr];rfl
 have N2:({tmps:=T.setIfInBounds d0 x,defers:=[]}:Act).eval (.tmp d0)=x:=by simp[Act.eval,yC,hd.1]
 have HW:wpOpsSIn Fence.wide 2 P #[o0,o1] (Exit.thenS (c2.wpSIn Fence.wide 2 P (bodyPostS P fn ll cs fun e u' w'=>∃H' φ' I' x,RD H'/\e= .returned x/\settle u'= .returning/\St ⟨w,c6 φ,I,φ,cW H⟩ φ' I' H' w')) (bodyPostS P fn ll cs fun e u' w'=>∃H' φ' I' x,RD H'/\e= .returned x/\settle u'= .returning/\St ⟨w,c6 φ,I,φ,cW H⟩ φ' I' H' w')) [1] (({tmps:=T,defers:=[]}:Act).put o0.dst x) rX w:=by
  simp only[wpOpsSIn,List.getElem?_toArray,List.getElem?_cons_zero,List.getElem?_cons_succ]
  refine⟨fun _ _=>trivial,?_⟩
  rw[if_pos (by simp[Region.wanted,iK]),Pe,e0,N2]
  show Exit.thenS _ _ Exit.normal (({tmps:=T.setIfInBounds d0 x,defers:=[]}:Act).put o1.dst x) rX w
  rw[e1]
  exact j7
 show wpOpsSIn Fence.wide 2 P #[o0,o1] _ [0,1] _ (ll::cs) w
 rw[wpOpsSIn]
 have PH:(#[o0,o1]:Array Oper)[0]?=some o0:=rfl
 rw[PH]
 refine⟨fun _ _=>trivial,?_⟩
 rw[if_pos (by simp[Region.wanted,yN]),y2]
 cases r with
 |none=>
  simp only[tj]at sF
  have fQ:recoverD (ll::cs)=none:=by simp[recoverD,sF]
  simp only at hx sg
  subst hx
  subst sg
  show(match recoverD (ll::cs)with|some (v,cs')=>_|none=>_)
  rw[fQ]
  exact HW
 |some r0=>
  simp only[tj]at sF
  have fQ:recoverD (ll::cs)=some (v,{ll with mode:= .panicking [{v:=v,recovered:=true}]}::cs):=by simp[recoverD,sF]
  simp only at hx sg
  subst hx
  subst sg
  show(match recoverD (ll::cs)with|some (v,cs')=>_|none=>_)
  rw[fQ]
  exact HW
end
def Aj:TK->Bool
 | .iface=>false
 | .other=>false
 |_=>true
theorem Lr {P:Program} {t:TypeId} (h:Aj (tk P t)=true):∃u,P.underlying t=some u/\∀m,u≠ .interface m:=by
 unfold tk at h
 cases hu:P.underlying t with
 |none=>rw[hu]at h;cases h
 |some u=>
  refine⟨u,rfl,fun m e=>?_⟩
  subst e
  rw[hu]at h
  cases h
section
variable {C:Cx} {K:List PK} {E:Env} {H:aa}
theorem AQ.iface {ds:List (Nat×Nat)} {i:Nat} {d:Option Nat} {ty t:TypeId} {pos:String} {af:Array Edge} {os:List Oper} {x:Operand} {y:AV}
  (al:bo C.n ({dst:=d,op:= .makeInterface t x,type:=ty,pos:=pos,after:=af,guard:=none}::os)=true)
  (hx:ev E x=some y) (hg:y.g=true) (ht:Aj (tk C.P t)=true)
  (h:vq C K os (a_ d i ds) (i+1) (ba d (.wr (.iface t) y.st) E) H):
  AQ C ds i ({dst:=d,op:= .makeInterface t x,type:=ty,pos:=pos,after:=af,guard:=none}::os) K E H:=by
 obtain⟨hd,ct⟩:=d_ al
 have bT:=AQ.go ct h
 unfold AQ at bT⊢
 refine AO.step (o:={dst:=d,op:= .makeInterface t x,type:=ty,pos:=pos,after:=af,guard:=none}) fun ops φ I a w aU _ hs Kn bS=>?_
 rw[if_pos (by simp[Region.wanted])]
 have hv:=lr hs.env [x] [y] (by simp[dD,hx]) (by simp[gs,hg])
 simp only[List.map_cons,List.map_nil,AV.ab]at hv
 obtain⟨v0,EC,h0,hv,_⟩:=hv
 cases h0
 obtain⟨u,hu,Cz⟩:=Lr ht
 have aK:(execOp a.eval {dst:=d,op:= .makeInterface t x,type:=ty,pos:=pos,after:=af,guard:=none}).run C.P w= .ok (.value (.iface t (a.eval x))) w:=by
  have e:execOp a.eval {dst:=d,op:= .makeInterface t x,type:=ty,pos:=pos,after:=af,guard:=none}=(do pure (.value (<-Instr.makeInterface t (a.eval x))):Sem Next):=rfl
  rw[e]
  unfold Instr.makeInterface
  cases u<;>first|exact absurd rfl (Cz _)|simp[run_underlying hu]
 unfold Oper.wp
 rw[aK,Oper.upon_value]
 exact bS _ _ φ I _ _ bT (hs.put hs.st (bG.refl w φ I) hd ⟨_,rfl,hv⟩)
theorem xI {ds:List (Nat×Nat)} {i:Nat} {d:Option Nat} {ty t:TypeId} {pos:String} {af:Array Edge} {os:List Oper} {x:Operand} {y:AV}
  (h:vq C K os (a_ d i ds) (i+1) (ba d (.wr (.iface t) y.st) E) H)
  (al:bo C.n ({dst:=d,op:= .makeInterface t x,type:=ty,pos:=pos,after:=af,guard:=none}::os)=true:=by kernel_rfl)
  (hx:ev E x=some y:=by exact rfl) (hg:y.g=true:=by exact rfl) (ht:Aj (tk C.P t)=true:=by exact rfl):
  AQ C ds i ({dst:=d,op:= .makeInterface t x,type:=ty,pos:=pos,after:=af,guard:=none}::os) K E H:=AQ.iface al hx hg ht h
theorem AQ.MQ {ds:List (Nat×Nat)} {i:Nat} {d:Option Nat} {ty t xt:TypeId} {pos:String} {af:Array Edge} {os:List Oper} {x:Operand} {y:AV}
  (al:bo C.n ({dst:=d,op:= .typeAssert x xt t true,type:=ty,pos:=pos,after:=af,guard:=none}::os)=true)
  (hx:ev E x=some (.wr (.iface t) y)) (ht:Aj (tk C.P t)=true)
  (h:vq C K os (a_ d i ds) (i+1) (ba d (.aD [y,.im (.v (.bool true))]) E) H):
  AQ C ds i ({dst:=d,op:= .typeAssert x xt t true,type:=ty,pos:=pos,after:=af,guard:=none}::os) K E H:=
 AQ.val (.aD [y,.im (.v (.bool true))]) al rfl (fun φ I a w hs=>by
  have hv:=aX hs.env hx
  simp only[AV.den,WK.rel]at hv
  obtain⟨v,hu,hv⟩:=hv
  obtain⟨u,QG,Cz⟩:=Lr ht
  refine⟨.tuple #[v,.bool true],?_,?_⟩
  ·have e:execOp a.eval {dst:=d,op:= .typeAssert x xt t true,type:=ty,pos:=pos,after:=af,guard:=none}=(do pure (.value (<-Instr.typeAssert (a.eval x) xt t true)):Sem Next):=rfl
   rw[e,hu]
   unfold Instr.typeAssert
   cases u<;>first|exact absurd rfl (Cz _)|simp[run_underlying QG]
  ·exact⟨_,⟨v,[.bool true],rfl,hv,.bool true,[],rfl,(by simp only[AV.den,IV.den];exact⟨trivial,rfl⟩),rfl⟩,rfl⟩) h
end
section
variable {P:Program} {Q:Exit->Act->World->Prop} {a:Act} {w:World}
theorem SD {o:Oper} {K:Act->World->Prop} (h:nu P o a w K Q):o.wpIn (Fw none) 3 P a w K Q:=by
 refine⟨fun _ _=>trivial,?_⟩
 have hs:o.semAt (Fw none).round a.eval=execOp a.eval o:=Oper.semAt_none _ _
 rw[hs]
 rcases h with h|⟨l,f,tmps,as,bd,hr,h⟩
 ·unfold Oper.wp at h
  generalize(execOp a.eval o).run P w=q at*
  cases q with
  |ok x w'=>
   cases x<;>simp only[Oper.upon,Oper.uponIn]at h⊢<;>first
    |exact h
    |exact⟨fun h=>(by cases h),A4 h⟩
    |exact⟨fun h=>(by cases h),Kv h⟩
    |exact h.elim
  |halt x w'=>cases x<;>simp only[Oper.upon,Oper.uponIn]at h⊢<;>first|exact h|exact h.elim
 ·rw[hr,Oper.uponIn_round]
  exact⟨fun h=>(by cases h),Ko h⟩
theorem L3 {ops:Array Oper}:∀(l:List Oper) (k:Nat),(∀j,l[j]?=ops[k+j]?)->∀(a:Act) (w:World),gh P ops Q l a w->wpOpsIn (Fw none) 3 P ops Q (List.range' k l.length) a w
 |[],_,_,_,_,h=>h
 |o::l,k,hl,a,w,h=>by
  have h0:ops[k]?=some o:=by simpa using(hl 0).symm
  have ih:=L3 l (k+1) (fun j=>by have:=hl (j+1);simpa[Nat.add_assoc,Nat.add_comm 1 j]using this)
  rw[List.length_cons,List.range'_succ]
  simp only[wpOpsIn,h0]
  simp only[gh]at h
  split
  ·rename_i hw
   rw[if_pos hw]at h
   exact Oper.wpIn_mono (fun a' w' h'=>ih a' w' h') (SD h)
  ·rename_i hw
   rw[if_neg hw]at h
   exact⟨fun _ _=>trivial,ih _ _ h⟩
theorem UR {id:Nat} {ops:Array Oper} (h:gh P ops Q ops.toList a w):lZ none P (.region id ops false) Q a w:=by
 refine wpIn_region ?_
 have:=L3 (ops:=ops) ops.toList 0 (by simp) a w h
 rwa [Array.length_toList,<-List.range_eq_range']at this
end
section
variable {C:Cx} {K:List PK} {E:Env} {H:aa}
theorem AP.Td {p:List Nat} {id:Nat} {ops:List Oper} (fQ:C.rd=none) (hc:b_ C.fn p= .region id ops.toArray false) (h:AQ C [] 0 ops K E H):AP C p K E H:=by
 unfold AP
 rw[hc]
 intro φ I a w hs
 unfold AQ at h
 rw[fQ]
 refine UR (h ops.toArray (fun j d hj=>by simp[lk]at hj) (fun j o hj=>?_) φ I a w hs)
 rw[Nat.zero_add]
 simp[hj]
theorem AQ.OC {ds:List (Nat×Nat)} {i:Nat} {o:Oper} {os:List Oper} {sc:Prop} {v:AV} (al:bo C.n [o]=true) (hg:o.guard=none) (hv:gJ C.P E H o.op=some (sc,v)) (aB:sc)
  (h:AQ C (a_ o.dst i ds) (i+1) os K (ba o.dst v E) H):AQ C ds i (o::os) K E H:=by
 obtain⟨hd,_⟩:=d_ al
 have fL:=h
 unfold AQ at fL⊢
 refine AO.step fun ops φ I a w aU _ hs Kn bS=>?_
 rw[if_pos (by simp[Region.wanted,hg])]
 obtain⟨u,hu,bh⟩:=ug hs.env hs.st.real hv aB
 unfold Oper.wp
 rw[hu,Oper.upon_value]
 exact bS _ _ φ I _ _ fL (hs.put hs.st (bG.refl _ _ _) hd bh)
end
section
variable {C:Cx} {K:List PK} {E:Env} {H:aa}
end
section
variable {C:Cx} {K:List PK} {E:Env} {H:aa}
end
section
variable {C:Cx} {K:List PK} {E:Env} {H:aa}
theorem AE.IF {C0:Cx} {e:Exit} (he:e= .ret\/e= .normal) (aU:C.ds=[none]) (h:LV C E H) (hC:l_ C0=l_ C:=by rfl):AE C e [.bot (l_ C0)] E H:=by
 unfold AE
 intro φ I a w hs
 obtain⟨ms,g1,g2,g3,g4⟩:=hs.bI
 have qQ:=g4 (by rw[aU];simp)
 have qH:a.defers=[]:=by rw[g1,qQ,aU];rfl
 rw[hC]
 have:=h φ I a w hs.st hs.env
 rw[<-qH]at this
 rcases he with rfl|rfl<;>exact this
end
theorem an {a b:Prop} (x:a) (y:b):a/\b:=⟨x,y⟩
theorem gO {p q:Prop} (hq:q) (h:q->p:=by
 intro hq
 repeat(first|refine xA ?_|refine xB ?_|refine xC ?_|refine xE ?_|refine xD ?_|refine xK ?_|refine xS ?_|refine xM ?_|refine xT ?_|refine xF ?_|((first|refine xR ?_|refine xW ?_|refine fE ?_);simp only[go_sem,Nat.reduceAdd,Nat.reduceLeDiff,Nat.reduceSub,Int.reduceToNat,reduceCtorEq])|(refine⟨by clear hq;first|omega|(intros;simp_all;done)|(intros;simp_all;omega),?_⟩;try simp only[go_sem,Nat.reduceAdd,Nat.reduceLeDiff,Nat.reduceSub,Int.reduceToNat,reduceCtorEq]))
 exact hq):p:=h hq
theorem gE {e p q:Prop} (he:e) (hq:q) (h:e->q->p:=by
 intro he hq
 repeat(first|refine xA ?_|refine xB ?_|refine xC ?_|refine xE ?_|refine xD ?_|refine xK ?_|refine xS ?_|refine xM ?_|refine xT ?_|refine xF ?_|((first|refine xR ?_|refine xW ?_|refine fE ?_);simp only[go_sem,Nat.reduceAdd,Nat.reduceLeDiff,Nat.reduceSub,Int.reduceToNat,reduceCtorEq,he])|(refine⟨by clear hq;first|omega|(intros;simp_all;done)|(intros;simp_all;omega),?_⟩;try simp only[go_sem,Nat.reduceAdd,Nat.reduceLeDiff,Nat.reduceSub,Int.reduceToNat,reduceCtorEq,he]))
 exact hq):p:=h he hq
theorem sI {p q:Prop} (hq:q) (h:q->p:=by
 intro hq
 simp only[go_sem,Nat.reduceAdd,Nat.reduceLeDiff,Nat.reduceSub,Int.reduceToNat,reduceCtorEq]
 exact hq):p:=h hq
theorem sE {e p q:Prop} (he:e) (hq:q) (h:e->q->p:=by
 intro he hq
 simp only[go_sem,Nat.reduceAdd,Nat.reduceLeDiff,Nat.reduceSub,Int.reduceToNat,reduceCtorEq,he]
 exact hq):p:=h he hq
theorem sH {p q:Prop} (hq:q) (h:q->p:=by
 intro hq
 simp only[go_sem,Nat.reduceAdd,Nat.reduceLeDiff,Nat.reduceSub,Int.reduceToNat,reduceCtorEq,eh,ir,cP,jJ]
 exact hq):p:=h hq
section
variable {C:Cx} {K:List PK} {E:Env} {H:aa} {p:List Nat}
theorem cT {t:Tmp} {x y:Code} (ht:AP C (0::p) K E H) (hc:b_ C.fn p= .cond (.tmp t) x y:=by exact rfl) (hb:lk E t=some (.im (.v (.bool true))):=by
 simp only[go_sem,Nat.reduceAdd,Nat.reduceLeDiff,Nat.reduceSub,Int.reduceToNat,reduceCtorEq]
 refine congrArg (fun b=>some (AV.im (IV.v (Value.bool b)))) ?_
 (first|(simp only[Bool.or_eq_true,Bool.and_eq_true,Bool.not_eq_true',Bool.not_eq_false',Bool.and_eq_false_iff,Bool.or_eq_false_iff,decide_eq_true_eq,decide_eq_false_iff_not,beq_iff_eq,bne_iff_ne,beq_eq_false_iff_ne,bne_eq_false_iff_eq,ne_eq];omega)|(simp;done)|(simp;omega)|(simp_all;done)|(simp_all;omega))):AP C p K E H:=AP.cond_true hc hb ht
theorem cF {t:Tmp} {x y:Code} (hf:AP C (1::p) K E H) (hc:b_ C.fn p= .cond (.tmp t) x y:=by exact rfl) (hb:lk E t=some (.im (.v (.bool false))):=by
 simp only[go_sem,Nat.reduceAdd,Nat.reduceLeDiff,Nat.reduceSub,Int.reduceToNat,reduceCtorEq]
 refine congrArg (fun b=>some (AV.im (IV.v (Value.bool b)))) ?_
 (first|(simp only[Bool.or_eq_true,Bool.and_eq_true,Bool.not_eq_true',Bool.not_eq_false',Bool.and_eq_false_iff,Bool.or_eq_false_iff,decide_eq_true_eq,decide_eq_false_iff_not,beq_iff_eq,bne_iff_ne,beq_eq_false_iff_ne,bne_eq_false_iff_eq,ne_eq];omega)|(simp;done)|(simp;omega)|(simp_all;done)|(simp_all;omega))):AP C p K E H:=AP.cond_false hc hb hf
end
theorem sU {E E':Env} (h:Sub E E':=by repeat(first|exact Sub.nil _|refine Sub.cons rfl ?_)):Sub E E':=h
theorem l5.plain {P:Program} {f:FuncId} {fn:Func} {c:Code} {n nb:Nat} {args:List AV} {H:aa} {RD:aa->Prop} (kp ob:List Nat) (hf:P.funcs[f]?=some fn) (hb:fn.body=some c) (hn:fn.ntmps=n)
  (jD:enters P f=true) (cU:Nat.ble args.length n=true) (hnb:cW H=nb)
  (h:∀(w:World) (own I0:Nat->Prop) (ax:aq) (lay:Lay P ⟨w,own,I0,ax,nb⟩),AP ⟨P,fn,n,⟨w,own,I0,ax,nb⟩,kp,ob,fun _ H'=>RD H',none,fun _ _=>False,[none],lay⟩ [] [.bot (uj ⟨P,fn,n,⟨w,own,I0,ax,nb⟩,kp,ob,fun _ H'=>RD H',none,fun _ _=>False,[none],lay⟩)] (enum 0 args) H):l5 P f args H none RD:=by
 refine⟨jD,fun w φ I vs v bh hR hV _=>?_⟩
 subst hnb
 have hl:=iC args vs bh
 have qI:=Nat.le_of_ble_eq_true cU
 have h0:=h w (c6 φ) I φ (hR.lay hV _)
 unfold AP at h0
 simp only[b_,hb,Option.getD_some]at h0
 have sT:=h0 φ I {tmps:=vs.toArray++Array.replicate (fn.ntmps-vs.toArray.size) undef,defers:=[]} w ⟨Marks.nil,by
  simp only[Array.size_append,List.size_toArray,Array.size_replicate,hn];omega,fun i x hx=>by
  obtain⟨j,rfl,hj⟩:=qx args 0 i x hx
  obtain⟨u,hu,c8⟩:=iB args vs j x bh hj
  refine⟨u,?_,c8⟩
  have ah:j<vs.length:=by
   rcases Nat.lt_or_ge j vs.length with h|h
   ·exact h
   ·rw[List.getElem?_eq_none h]at hu;cases hu
  rw[Nat.zero_add,Array.getElem?_append_left (by simpa using ah)]
  simpa using hu,rA hR _⟩
 refine(callsDIn_of_wp (R:=fun e w'=>∃H' φ' I' x,RD H'/\e= .returned x/\St ⟨w,c6 φ,I,φ,cW H⟩ φ' I' H' w') hf hb trivial (Go.wpIn_mono (LZ sT) fun e a' w' he=>?_)).mono fun e u' w' ⟨hu,H',φ',I',x,h1,h2,h3⟩=>⟨H',φ',I',x,h1,h2,by rw[hu];rfl,h3⟩
 cases e with
 |normal=>
  obtain⟨oa,v',oB,rr,H',φ',I',vv,qF,_,_,hS⟩:=he
  exact⟨oa,v',oB,H',φ',I',v',qF,rfl,hS⟩
 |ret=>
  obtain⟨oa,v',oB,rr,H',φ',I',vv,qF,_,_,hS⟩:=he
  exact⟨oa,v',oB,H',φ',I',v',qF,rfl,hS⟩
 |_=>exact he.elim
def da (a b:IV):Prop:=∀(w:World) (I:Nat->Prop) (u:Value),IV.den w I a u->IV.den w I b u
def fp (a b:List IV):Prop:=∀(w:World) (I:Nat->Prop) (us:List Value),IV.ab w I a us->IV.ab w I b us
def bX (a b:AV):Prop:=∀(w:World) (φ:aq) (I:Nat->Prop) (u:Value),AV.den w φ I a u->AV.den w φ I b u
theorem da.refl (a:IV):da a a:=fun _ _ _ h=>h
theorem bX.refl (a:AV):bX a a:=fun _ _ _ _ h=>h
theorem fp.refl (a:List IV):fp a a:=fun _ _ _ h=>h
theorem eI.refl (a:List (List IV)):eI a a:=fun _ _ _ h=>h
theorem da.nil (es:Nat):da (.v (.slice none 0 0)) (.sl es []):=fun w I u h=>DF h
theorem fp.cons {x y:IV} {l m:List IV} (h:da x y) (h':fp l m):fp (x::l) (y::m):=fun w I us hd=>by
 simp only[IV.ab]at hd⊢
 obtain⟨u,au,e,h1,h2⟩:=hd
 exact⟨u,au,e,h w I u h1,h' w I au h2⟩
theorem eI.cons {x y:List IV} {l m:List (List IV)} (h:fp x y) (h':eI l m):eI (x::l) (y::m):=fun w I us hd=>by
 simp only[IV.aQ]at hd⊢
 obtain⟨u,au,e,h1,h2⟩:=hd
 exact⟨u,au,e,h w I u h1,h' w I au h2⟩
theorem Bh {w:World} {I:Nat->Prop}:∀(l:List (List IV)) (us:List (List Value)),IV.aQ w I l us->us.length=l.length
 |[],us,h=>by simp only[IV.aQ]at h;subst h;rfl
 |x::l,us,h=>by
  simp only[IV.aQ]at h
  obtain⟨u,au,rfl,_,h2⟩:=h
  simp[Bh l au h2]
theorem da.sl {es:Nat} {l m:List (List IV)} (h:eI l m):da (.sl es l) (.sl es m):=fun w I u hd=>by
 simp only[IV.den]at hd⊢
 obtain⟨p,c,ag,e,hc,h1,h2,h3⟩:=hd
 have hm:=h w I ag h1
 have hl:l.length=m.length:=by rw[<-Bh l ag h1,<-Bh m ag hm]
 refine⟨p,c,ag,by rw[<-hl];exact e,by omega,hm,h2,fun aT=>h3 fun oh=>aT ?_⟩
 subst oh
 exact List.eq_nil_of_length_eq_zero hl.symm
theorem bX.im {a b:IV} (h:da a b):bX (.im a) (.im b):=fun w φ I u hd=>by
 simp only[AV.den]at hd⊢;exact h w I u hd
theorem bO.lj {x y:AV} {l m:List AV} (h:bX x y) (h':bO l m):bO (x::l) (y::m):=fun w φ I us hd=>by
 simp only[AV.ab]at hd⊢
 obtain⟨u,au,e,h1,h2⟩:=hd
 exact⟨u,au,e,h w φ I u h1,h' w φ I au h2⟩
theorem bX.agg {l m:List AV} (h:bO l m):bX (.agg l) (.agg m):=fun w φ I u hd=>by
 simp only[AV.den]at hd⊢
 obtain⟨us,h1,h2⟩:=hd
 exact⟨us,h w φ I us h1,h2⟩
theorem bX.aD {l m:List AV} (h:bO l m):bX (.aD l) (.aD m):=fun w φ I u hd=>by
 simp only[AV.den]at hd⊢
 obtain⟨us,h1,h2⟩:=hd
 exact⟨us,h w φ I us h1,h2⟩
theorem ak.uf {P:Program} {f:FuncId} {xs ys:List AV} {H:aa} {R:AV->aa->Prop} (h:ak P f ys H R) (hl:bO xs ys):ak P f xs H R:=
 ⟨h.gl,fun w φ I vs hd hR hV=>h.run w φ I vs (hl w φ I vs hd) hR hV⟩
theorem c7.uf {P:Program} {f:FuncId} {xs ys:List AV} {H:aa} {R X:AV->aa->Prop} (h:c7 P f ys H R X) (hl:bO xs ys):c7 P f xs H R X:=
 ⟨h.gl,fun w φ I vs hd hR hV=>h.run w φ I vs (hl w φ I vs hd) hR hV⟩
theorem aI.uf {P:Program} {f:FuncId} {xs ys:List AV} {r:AV} (h:aI P f ys r) (hl:bO xs ys):aI P f xs r:=ak.uf h hl
theorem Q8 {w:World} {I:Nat->Prop}:∀{x:IV} {u:Value},IV.den w I x u->u.oneCell'=true
 | .v x,u,h=>by simp only[IV.den]at h;rw[h.1];exact h.2
 | .sl es rows,u,h=>by
  simp only[IV.den]at h
  obtain⟨p,c,ag,rfl,_⟩:=h
  rfl
 | .pt cs,u,h=>by
  simp only[IV.den]at h
  obtain⟨g,off,us,rfl,_⟩:=h
  rfl
 | .fn f fs aL,u,h=>by
  simp only[IV.den]at h
  obtain⟨us,vs,_,_,rfl⟩:=h
  rfl
theorem Ig {w:World} {I:Nat->Prop}:∀(cs:List IV) (us:List Value),IV.ab w I cs us->∀x∈us,x.oneCell'=true
 |[],us,h,x,hx=>by simp only[IV.ab]at h;subst h;cases hx
 |c::cs,us,h,x,hx=>by
  simp only[IV.ab]at h
  obtain⟨u,au,rfl,h1,h2⟩:=h
  rcases List.mem_cons.1 hx with rfl|hx
  ·exact Q8 h1
  ·exact Ig cs au h2 x hx
theorem Ie {w:World} {φ:aq} {I:Nat->Prop}:∀(cs:List IV) (us:List Value),IV.ab w I cs us->AV.ab w φ I (cs.map .im) us
 |[],us,h=>by simp only[IV.ab]at h;subst h;rfl
 |c::cs,us,h=>by
  simp only[IV.ab]at h
  obtain⟨u,au,rfl,h1,h2⟩:=h
  exact⟨u,au,rfl,by simp only[AV.den];exact h1,Ie cs au h2⟩
theorem bX.ar (cs:List IV):bX (.ar cs) (.agg (cs.map .im)):=fun w φ I u hd=>by
 simp only[AV.den]at hd⊢
 obtain⟨us,h1,h2⟩:=hd
 exact⟨us,Ie cs us h1,h2,Ig cs us h1⟩
end Go.AL
end
section
namespace Go.AL
open Go Go.Sort Go.Proofs

end Go.AL
end
section
namespace Go.AL
open Go
section
variable {C:Cx} {K:List PK} {E:Env} {H:aa}
theorem AQ.ER {ds:List (Nat×Nat)} {i:Nat} {os:List Oper} {E':Env} (h:AQ C ds i os K E' H) (hE:Sub E E'):AQ C ds i os K E H:=by
 unfold AQ at h⊢
 intro ops h1 h2 φ I a w hs
 exact h ops h1 h2 φ I a w (hs.sub hE)
end
section
variable {C:Cx} {K:List PK} {E:Env} {H:aa}
theorem AQ.opt (t:Nat) {ds:List (Nat×Nat)} {i:Nat} {os:List Oper} {x:AV} (hl:lk E t=some (.opt true x)) (h:AQ C ds i os K ((t,x)::E) H):AQ C ds i os K E H:=
 AQ.imp (E':=(t,x)::E) (fun w φ I a he j y hj=>by
  by_cases mo:j=t
  ·subst mo
   rw[lk,Nat.beq_refl,cond_true]at hj
   obtain⟨u,hu,hd⟩:=he j _ hl
   simp only[AV.den]at hd
   cases hj
   exact⟨u,hu,hd.1 trivial⟩
  ·have:Nat.beq t j=false:=by
    cases hb:Nat.beq t j with
    |false=>rfl
    |true=>exact absurd (Nat.eq_of_beq_eq_true hb).symm mo
   have mX:lk E j=some y:=by
    rw[lk]at hj
    first|(rw[this]at hj;exact hj)|(have t2:Nat.beq j t=false:=by(cases hb:Nat.beq j t with|false=>rfl|true=>exact absurd (Nat.eq_of_beq_eq_true hb) mo);rw[t2]at hj;exact hj)
   exact he j y mX) h
end
end Go.AL
end
section
namespace Go.AL
open Go Go.MapKept
def fU:List Value->List Nat->List Value->List MapEntry
 |k::ks,b::bs,u::us=>{key:=k,val:=u,born:=b}::fU ks bs us
 |_,_,_=>[]
theorem L8:∀l:List MapEntry,fU (l.map (·.key)) (l.map (·.born)) (l.map (·.val))=l
 |[]=>rfl
 |e::l=>by simp only[List.map_cons,fU,L8 l]
theorem xf:∀(ks:List Value) (bs:List Nat) (us:List Value),ks.length=bs.length->us.length=bs.length->(fU ks bs us).map (·.born)=bs
 |[],[],[],_,_=>rfl
 |k::ks,b::bs,u::us,h1,h2=>by
  simp only[List.length_cons]at h1 h2
  simp only[fU,List.map_cons,xf ks bs us (by omega) (by omega)]
theorem EW:∀(ks:List Value) (bs:List Nat) (us:List Value),ks.length=bs.length->us.length=bs.length->(fU ks bs us).map (·.key)=ks
 |[],[],[],_,_=>rfl
 |k::ks,b::bs,u::us,h1,h2=>by
  simp only[List.length_cons]at h1 h2
  simp only[fU,List.map_cons,EW ks bs us (by omega) (by omega)]
theorem EX:∀(ks:List Value) (bs:List Nat) (us:List Value),ks.length=bs.length->us.length=bs.length->(fU ks bs us).map (·.val)=us
 |[],[],[],_,_=>rfl
 |k::ks,b::bs,u::us,h1,h2=>by
  simp only[List.length_cons]at h1 h2
  simp only[fU,List.map_cons,EX ks bs us (by omega) (by omega)]
theorem L9 {ks:List Value} {bs:List Nat} {us:List Value} (h1:ks.length=bs.length) (h2:us.length=bs.length) {j:Nat} {e:MapEntry} (h:(fU ks bs us)[j]?=some e):ks[j]?=some e.key/\bs[j]?=some e.born/\us[j]?=some e.val:=by
 refine⟨?_,?_,?_⟩
 ·rw[<-EW ks bs us h1 h2,List.getElem?_map,h];rfl
 ·rw[<-xf ks bs us h1 h2,List.getElem?_map,h];rfl
 ·conv=>lhs;rw[<-EX ks bs us h1 h2]
  rw[List.getElem?_map,h];rfl
def kX (ks:List Value) (bs:List Nat) (clock:Nat) (us:List Value):Obj:= .map (fU ks bs us).toArray clock
def kg (since:Nat) (seen:List Nat) (c:Nat) (us:List Value):Obj:= .mapIter (match us with|[.map m]=>m|_=>none) since seen.toArray c
theorem RV (ks:List Value) (bs:List Nat) (clock:Nat) (us:List Value):xl (kX ks bs clock us):= .inl ⟨_,_,rfl⟩
theorem C8 (since:Nat) (seen:List Nat) (c:Nat) (us:List Value):xl (kg since seen c us):= .inr ⟨_,_,_,_,rfl⟩
structure nN (ks:List Value) (bs:List Nat) (clock:Nat):Prop where
 len:ks.length=bs.length
 nd:bs.Nodup
 lt:∀n∈bs,n<clock
section
variable {C:Cx} {K:List PK} {E:Env} {H:aa}
theorem AQ.oT (R:AV->aa->Prop) {ds:List (Nat×Nat)} {i:Nat} {o:Oper} {os:List Oper} (al:bo C.n (o::os)=true) (hg:o.guard=none)
  (hex:∀φ I a w,br C φ I E H a w->∃x H' u w' φ' I',R x H'/\(execOp a.eval o).run C.P w= .ok (.value u) w'/\AV.den w' φ' I' x u/\St C.B φ' I' H' w'/\bG w φ I w' φ' I')
  (h:∀x H',R x H'->vq C K os (a_ o.dst i ds) (i+1) (ba o.dst x E) H'):AQ C ds i (o::os) K E H:=by
 obtain⟨hd,ct⟩:=d_ al
 have bT:=fun x H' hx=>AQ.go ct (h x H' hx)
 unfold AQ at bT⊢
 refine AO.step (o:=o) fun ops φ I a w aU _ hs Kn bS=>?_
 have hw:Region.wanted o (yielded ops a.tmps)=true:=by simp[Region.wanted,hg]
 rw[if_pos hw]
 obtain⟨x,H',u,w',φ',I',hx,aK,bh,hS,hK⟩:=hex φ I a w hs
 unfold Oper.wp
 rw[aK,Oper.upon_value]
 exact bS _ _ φ' I' _ _ (bT x H' hx) (hs.put hS hK hd bh)
theorem St.drew {B:Bs} {φ:aq} {I:Nat->Prop} {w:World} (h:St B φ I H w):St B φ I H w.drew/\bG w φ I w.drew φ I:=by
 have hx:Ext (fun _=>False) w w.drew:=⟨Nat.le_refl _,fun _ _ _=>rfl,fun _ c _ fz h=>⟨c,fz,h,rfl⟩,rfl,rfl,rfl⟩
 have k:bG w φ I w.drew φ I:=⟨fun _ _=>rfl,fun _ h=>h,fun _ _ h=>h,fun _ g n _ hs=>hx.shaped (fun h=>h) hs⟩
 refine⟨⟨⟨h.real.bB,fun b' o' p hl hp=>?_,fun b' g hp=>h.real.off b' g hp,h.real.inj,h.real.bZ⟩,h.ext.trans hx (fun g hf=>hf.elim),h.cd,h.cZ,h.cz,h.cE⟩,k⟩
 exact Ob.jV k.im k.I k.phi k.sh (fun g hg=>rfl) (h.real.own b' o' p hl hp)
theorem St.S7 {B:Bs} {φ:aq} {I:Nat->Prop} {w:World} {l:Nat} {o0 o':Obj} (h:St B φ I H w) {b:Nat} (hb:φ b=some (some l)) (hl:w.heap[l]?=some o0) (hm:xl o0) {nw ob:Ob} (fN:lk H b=some nw)
  (aZ:(∀x u,AV.den w φ I x u->AV.den (w.putObj l o') φ I x u)->(w.putObj l o').heap[l]?=some o'->ob.at (w.putObj l o') φ I (some l)):
  St B φ I (bK H b ob) (w.putObj l o')/\bG w φ I (w.putObj l o') φ I:=by
 have hI:¬I l:=(h.real.off b l hb).1
 have ah:l<w.heap.size:=(h.real.off b l hb).2
 have pK:∀c e fz,o0≠ .cells c e fz:=fun c e fz=>by rcases hm with⟨_,_,rfl⟩|⟨_,_,_,_,rfl⟩<;>exact fun h=>by cases h
 have hx:Ext (fun g=>g=l) w (w.putObj l o'):=
  ⟨by simp,fun g _ hn=>World.putObj_heap_other hn,fun g c e fz hc=>⟨c,fz,(World.putObj_heap_other (fun e2=>by subst e2;rw[hl]at hc;cases hc;exact pK _ _ _ rfl)).trans hc,rfl⟩,rfl,rfl,rfl⟩
 have k:bG w φ I (w.putObj l o') φ I:=by
  refine⟨fun g hg=>World.putObj_heap_other (fun e=>hI (e▸hg)),fun _ h=>h,fun _ _ h=>h,fun _ g n _ hs=>?_⟩
  obtain⟨c,e,hc,hn⟩:=hs
  have hg:g≠l:=fun e2=>by subst e2;rw[hl]at hc;cases hc;exact pK _ _ _ rfl
  exact⟨c,e,(World.putObj_heap_other hg).trans hc,hn⟩
 refine⟨⟨⟨fun b'=>?_,fun b' o p aE hp=>?_,fun b' g hp=>?_,h.real.inj,fun g hg=>?_⟩,h.ext.trans hx (fun g hg=>by subst hg;exact h.cd b _ hb),h.cd,h.cZ,h.cz,fun b' p o j_ h0 aE=>?_⟩,k⟩
 ·by_cases ao:b'=b
  ·subst ao;rw[gU H b' _ fN,hb];rfl
  ·rw[ei H b b' _ ao];exact h.real.bB b'
 ·by_cases ao:b'=b
  ·subst ao
   rw[gU H b' _ fN]at aE;cases aE
   rw[hb]at hp;cases hp
   exact aZ (fun x u hx=>k.den hx) (World.putObj_heap_same ah)
  ·rw[ei H b b' _ ao]at aE
   exact Ob.jV k.im k.I k.phi k.sh (fun g hg=>World.putObj_heap_other (fun e=>by subst e;subst hg;exact ao (h.real.inj b' b g hp hb))) (h.real.own b' o p aE hp)
 ·have:=h.real.off b' g hp
  exact⟨this.1,by simpa using this.2⟩
 ·have:=h.real.bZ g hg
  simpa using this
 ·by_cases ao:b'=b
  ·subst ao;exact h.cE b' p nw j_ h0 fN
  ·rw[ei H b b' _ ao]at aE;exact h.cE b' p o j_ h0 aE
theorem St.told {B:Bs} {φ:aq} {I:Nat->Prop} {w:World} (h:St B φ I H w) {b:Nat} {nw ob:Ob} (fN:lk H b=some nw) (aZ:∀p,φ b=some p->nw.at w φ I p->ob.at w φ I p):St B φ I (bK H b ob) w:=by
 refine⟨⟨fun b'=>?_,fun b' o p aE hp=>?_,h.real.off,h.real.inj,h.real.bZ⟩,h.ext,h.cd,h.cZ,h.cz,fun b' p o j_ h0 aE=>?_⟩
 ·by_cases ao:b'=b
  ·subst ao
   rw[gU H b' _ fN]
   have:=h.real.bB b'
   rw[fN]at this
   exact this
  ·rw[ei H b b' _ ao];exact h.real.bB b'
 ·by_cases ao:b'=b
  ·subst ao
   rw[gU H b' _ fN]at aE;cases aE
   exact aZ p hp (h.real.own b' _ p fN hp)
  ·rw[ei H b b' _ ao]at aE;exact h.real.own b' o p aE hp
 ·by_cases ao:b'=b
  ·subst ao;exact h.cE b' p nw j_ h0 fN
  ·rw[ei H b b' _ ao]at aE;exact h.cE b' p o j_ h0 aE
theorem AQ.Sa {ds:List (Nat×Nat)} {i:Nat} {d:Option Nat} {ty t kt et:TypeId} {pos:String} {af:Array Edge} {os:List Oper} {x:Operand} {b:Nat} {ks:List Value} {cs:List AV}
  (al:bo C.n ({dst:=d,op:= .range t x,type:=ty,pos:=pos,after:=af,guard:=none}::os)=true)
  (hx:ev E x=some (.mp b)) (hH:lk H b=some (.var (.map ks) cs)) (ht:C.P.underlying t=some (.map kt et))
  (h:∀bs clock,nN ks bs clock->vq C K os (a_ d i ds) (i+1) (ba d (.ob (aN C.B.nb H) 0) E) ((aN C.B.nb H,.var (.raw (kg clock [] clock)) [.mp b])::bK H b (.var (.raw (kX ks bs clock)) cs))):
  AQ C ds i ({dst:=d,op:= .range t x,type:=ty,pos:=pos,after:=af,guard:=none}::os) K E H:=by
 refine AQ.oT (fun x H'=>∃bs clock,nN ks bs clock/\x= .ob (aN C.B.nb H) 0/\H'=(aN C.B.nb H,.var (.raw (kg clock [] clock)) [.mp b])::bK H b (.var (.raw (kX ks bs clock)) cs)) al rfl (fun φ I a w hs=>?_) ?_
 ·obtain⟨g,es,clock,kN,hg,hh,aG,kG,n8⟩:=td hs.st.real hH (aX hs.env hx)
  have ca:nN ks (es.toList.map (·.born)) clock:=⟨by rw[<-aG];simp,n8.1,fun n hn=>by
   obtain⟨e,he,rfl⟩:=List.mem_map.1 hn
   exact n8.2 e he⟩
  have h1:=hs.st.told (ob:= .var (.raw (kX ks (es.toList.map (·.born)) clock)) cs) hH (fun p hp aZ=>by
   rw[hg]at hp;cases hp
   simp only[Ob.at,Sh.has,Sh.one]
   exact⟨g,es.toList.map (·.val),rfl,⟨by rw[hh,kX,<-aG,L8],RV _ _ _ _⟩,kG,trivial⟩)
  have qU:=gV C.B.nb H
  have eZ:lk (bK H b (.var (.raw (kX ks (es.toList.map (·.born)) clock)) cs)) (aN C.B.nb H)=none:=by
   have hn:=k0 C.B.nb H
   have aT:aN C.B.nb H≠b:=fun e=>by rw[e,hH]at hn;cases hn
   rw[ei H b _ _ aT];exact hn
  have aK:=run_range_map (P:=C.P) w t kt et g es clock ht hh
  obtain⟨h2,h3⟩:=h1.xZ (ob:= .mapIter (some g) clock #[] clock) (o:= .var (.raw (kg clock [] clock)) [.mp b]) eZ qU.1 (by
   have He:b≠aN C.B.nb H:=fun e=>by have:=k0 C.B.nb H;rw[<-e,hH]at this;cases this
   simp only[Ob.at,Sh.has,Sh.one,AV.ab,AV.den]
   refine⟨_,[.map (some g)],rfl,⟨by simpa[kg]using gI w _,C8 _ _ _ _⟩,⟨_,_,rfl,⟨g,?_,rfl⟩,rfl⟩,trivial⟩
   first
    |exact hg
    |(simp[bc,He];exact hg)
    |(simp only[bc];rw[if_neg He];exact hg))
  refine⟨.ob (aN C.B.nb H) 0,_,.pointer (some ⟨w.heap.size,0,none⟩),w.alloc (.mapIter (some g) clock #[] clock),_,_,⟨_,_,ca,rfl,rfl⟩,?_,?_,h2,h3⟩
  ·rw[<-kN]at aK
   simp only[execOp,Sem.run_bind,Sem.run_map,aK,Result.andThen_ok,Sem.run_pure]
  ·simp only[AV.den,bc];exact⟨_,by simp,rfl⟩
 ·rintro x H' ⟨bs,clock,h1,rfl,rfl⟩
  exact h bs clock h1
theorem Ru {es:Array MapEntry} {seen:List Nat} {e:MapEntry} (h:e∈(leftOf es seen.toArray).toList):e∈es.toList/\e.born∉seen:=by
 unfold leftOf at h
 simp at h
 exact⟨by simpa using h.1,h.2⟩
theorem Rv {es:Array MapEntry} {seen:List Nat} (h:(leftOf es seen.toArray).size=0):∀e∈es.toList,e.born∈seen:=fun e he=>by
 unfold leftOf at h
 have h1:Array.filter (fun e=>!seen.toArray.contains e.born) es=#[]:=Array.eq_empty_of_size_eq_zero h
 rw[Array.filter_eq_empty_iff]at h1
 have:=h1 e (by simpa using he)
 simpa using this
theorem AQ.R_ {ds:List (Nat×Nat)} {i:Nat} {d:Option Nat} {ty:TypeId} {pos:String} {af:Array Edge} {os:List Oper} {x:Operand} {b it:Nat} {ks:List Value} {cs:List AV} {bs seen:List Nat} {clock since c0:Nat}
  (al:bo C.n ({dst:=d,op:= .next x false,type:=ty,pos:=pos,after:=af,guard:=none}::os)=true)
  (hx:ev E x=some (.ob it 0)) (hI:lk H it=some (.var (.raw (kg since seen c0)) [.mp b])) (hH:lk H b=some (.var (.raw (kX ks bs clock)) cs)) (ca:nN ks bs clock) (Qy:since=clock) (se:c0=clock)
  (ou:∀k∈ks,k.oneCell'=true) (cB:cs.length=bs.length)
  (h0:(∀n∈bs,n∈seen)->vq C K os (a_ d i ds) (i+1) (ba d (.aD [.im (.v (.bool false))]) E) H)
  (h1:∀(j n:Nat) (k:Value) (y:AV),bs[j]?=some n->n∉seen->ks[j]?=some k->cs[j]?=some y->vq C K os (a_ d i ds) (i+1) (ba d (.aD [.im (.v (.bool true)),.im (.v k),y]) E) (bK H it (.var (.raw (kg since (seen++[n]) clock)) [.mp b]))):
  AQ C ds i ({dst:=d,op:= .next x false,type:=ty,pos:=pos,after:=af,guard:=none}::os) K E H:=by
 subst Qy se
 refine AQ.oT (fun x H'=>((∀n∈bs,n∈seen)/\x= .aD [.im (.v (.bool false))]/\H'=H)\/∃(j n:Nat) (k:Value) (y:AV),bs[j]?=some n/\n∉seen/\ks[j]?=some k/\cs[j]?=some y/\x= .aD [.im (.v (.bool true)),.im (.v k),y]/\H'=bK H it (.var (.raw (kg c0 (seen++[n]) c0)) [.mp b])) al rfl (fun φ I a w hs=>?_) ?_
 ·have kf:=aX hs.env hx
  simp only[AV.den]at kf
  obtain⟨r,hr,q9⟩:=kf
  have ho:=hs.st.real.own it _ _ hI hr
  simp only[Ob.at,Sh.has,Sh.one,AV.ab,AV.den]at ho
  obtain⟨r',us,iO,⟨m_,_⟩,⟨u,qg,rfl,⟨g,hg,rfl⟩,rfl⟩,_⟩:=ho
  cases iO
  have hm:=hs.st.real.own b _ _ hH hg
  simp only[Ob.at,Sh.has,Sh.one]at hm
  obtain⟨g',us,dh,⟨mY,_⟩,fO,_⟩:=hm
  cases dh
  have bM:=AJ fO
  have om:us.length=bs.length:=by omega
  have eL:=xf ks bs us ca.len om
  have hold:∀x∈((fU ks bs us).toArray).toList,x.born<c0:=fun x hx=>ca.lt _ (by rw[<-eL];exact List.mem_map.2 ⟨x,by simpa using hx,rfl⟩)
  rcases run_next_at (P:=C.P) w ty r g c0 c0 seen.toArray (fU ks bs us).toArray c0 (by rw[m_];rfl) (by rw[mY];rfl) hold (Nat.le_refl _)with⟨hz,aK⟩|⟨e,he,w1,a8,aK⟩
  ·refine⟨_,H,.tuple #[.bool false],w,φ,I,.inl ⟨fun n hn=>?_,rfl,rfl⟩,?_,?_,hs.st,bG.refl w φ I⟩
   ·rw[<-eL]at hn
    obtain⟨e,he,rfl⟩:=List.mem_map.1 hn
    exact Rv hz e (by simpa using he)
   ·rw[<-q9]at aK
    simp only[execOp,Sem.run_bind,Sem.run_map,aK,Result.andThen_ok,Sem.run_pure]
   ·simp only[AV.den,AV.ab,IV.den];exact⟨_,⟨_,_,rfl,⟨rfl,rfl⟩,rfl⟩,rfl⟩
  ·obtain⟨Cc,sK⟩:=Ru he
   have Cc:e∈fU ks bs us:=by simpa using Cc
   obtain⟨j,hj⟩:=List.mem_iff_getElem?.1 Cc
   obtain⟨hk,fj,hv⟩:=L9 ca.len om hj
   have Hr:j<cs.length:=by
    have:=(List.getElem?_eq_some_iff.1 fj).1
    omega
   obtain⟨v,mz,b9⟩:=iB cs us j cs[j] fO (List.getElem?_eq_getElem Hr)
   rw[hv]at mz
   cases mz
   have lF:Go.ChangeMaps.setBlock w1 r (.mapIter (some g) c0 (seen.toArray.push e.born) c0)=w1.putObj r (.mapIter (some g) c0 (seen.toArray.push e.born) c0):=rfl
   have H4:St C.B φ I H w1/\bG w φ I w1 φ I:=by
    rcases a8 with rfl|rfl
    ·exact⟨hs.st,bG.refl _ φ I⟩
    ·exact hs.st.drew
   have sM:w1.heap[r]?=some (kg c0 seen c0 [.map (some g)]):=by rcases a8 with rfl|rfl<;>exact m_
   obtain⟨h2,h3⟩:=H4.1.S7 (o':= .mapIter (some g) c0 (seen.toArray.push e.born) c0) (ob:= .var (.raw (kg c0 (seen++[e.born]) c0)) [.mp b]) hr sM (C8 _ _ _ _) hI (fun hd hh=>by
    simp only[Ob.at,Sh.has,Sh.one,AV.ab]
    refine⟨r,[.map (some g)],rfl,⟨by rw[hh,kg];simp,C8 _ _ _ _⟩,⟨_,_,rfl,hd (.mp b) _ ?_,rfl⟩,trivial⟩
    simp only[AV.den];exact⟨g,hg,rfl⟩)
   have iL:bG w φ I (w1.putObj r (.mapIter (some g) c0 (seen.toArray.push e.born) c0)) φ I:=by
    have a1:=H4.2
    exact⟨fun g hg=>(h3.im g hg).trans (a1.im g hg),fun _ h=>h,fun _ _ h=>h,fun b g n hb dv=>h3.sh b g n hb (a1.sh b g n hb dv)⟩
   refine⟨_,_,.tuple #[.bool true,e.key,e.val],_,φ,I,.inr ⟨j,e.born,e.key,cs[j],fj,sK,hk,List.getElem?_eq_getElem Hr,rfl,rfl⟩,?_,?_,h2,iL⟩
   ·rw[<-q9,lF]at aK
    simp only[execOp,Sem.run_bind,Sem.run_map,aK,Result.andThen_ok,Sem.run_pure]
   ·simp only[AV.den,AV.ab,IV.den]
    exact⟨_,⟨_,_,rfl,⟨rfl,rfl⟩,_,_,rfl,⟨rfl,ou _ (List.mem_of_getElem? hk)⟩,_,_,rfl,iL.den b9,rfl⟩,rfl⟩
 ·rintro x H' (⟨h2,rfl,rfl⟩|⟨j,n,k,y,h2,h3,h4,h5,rfl,rfl⟩)
  ·exact h0 h2
  ·exact h1 j n k y h2 h3 h4 h5
theorem AQ.R4 {ds:List (Nat×Nat)} {i:Nat} {d:Option Nat} {ty:TypeId} {pos:String} {af:Array Edge} {os:List Oper} {x:Operand} {b it j n:Nat} {ks:List Value} {cs:List AV} {bs seen:List Nat} {clock since:Nat} {k:Value} {y:AV}
  (al:bo C.n ({dst:=d,op:= .entry x,type:=ty,pos:=pos,after:=af,guard:=none}::os)=true)
  (hx:ev E x=some (.ob it 0)) (hI:lk H it=some (.var (.raw (kg since (seen++[n]) clock)) [.mp b])) (hH:lk H b=some (.var (.raw (kX ks bs clock)) cs)) (ca:nN ks bs clock)
  (ou:∀k∈ks,k.oneCell'=true) (cB:cs.length=bs.length) (fj:bs[j]?=some n) (hk:ks[j]?=some k) (hy:cs[j]?=some y)
  (h:vq C K os (a_ d i ds) (i+1) (ba d (.aD [.im (.v k),y]) E) H):
  AQ C ds i ({dst:=d,op:= .entry x,type:=ty,pos:=pos,after:=af,guard:=none}::os) K E H:=by
 refine AQ.val (.aD [.im (.v k),y]) al rfl (fun φ I a w hs=>?_) h
 have kf:=aX hs.env hx
 simp only[AV.den]at kf
 obtain⟨r,hr,q9⟩:=kf
 have ho:=hs.st.real.own it _ _ hI hr
 simp only[Ob.at,Sh.has,Sh.one,AV.ab,AV.den]at ho
 obtain⟨r',us,iO,⟨m_,_⟩,⟨u,qg,rfl,⟨g,hg,rfl⟩,rfl⟩,_⟩:=ho
 cases iO
 have hm:=hs.st.real.own b _ _ hH hg
 simp only[Ob.at,Sh.has,Sh.one]at hm
 obtain⟨g',us,dh,⟨mY,_⟩,fO,_⟩:=hm
 cases dh
 have bM:=AJ fO
 have om:us.length=bs.length:=by omega
 have eL:=xf ks bs us ca.len om
 obtain⟨v,mz,b9⟩:=iB cs us j y fO hy
 have PT:j<(fU ks bs us).length:=by
  have:=congrArg List.length eL
  rw[List.length_map]at this
  have h2:=(List.getElem?_eq_some_iff.1 fj).1
  omega
 obtain⟨e,he⟩:∃e,(fU ks bs us)[j]?=some e:=⟨_,List.getElem?_eq_getElem PT⟩
 obtain⟨e1,e2,e3⟩:=L9 ca.len om he
 rw[hk]at e1;cases e1
 rw[fj]at e2;cases e2
 rw[mz]at e3;cases e3
 have aK:=run_entry_at (P:=C.P) w r g since seen.toArray (fU ks bs us).toArray clock e (by rw[m_,kg];simp) (by rw[mY];rfl) (by simpa using List.mem_of_getElem? he) (by rw[show(fU ks bs us).toArray.toList=fU ks bs us by simp,eL];exact ca.nd)
 refine⟨.tuple #[e.key,e.val],?_,?_⟩
 ·rw[<-q9]at aK
  simp only[execOp,Sem.run_bind,Sem.run_map,aK,Result.andThen_ok,Sem.run_pure]
 ·simp only[AV.den,AV.ab,IV.den]
  exact⟨_,⟨_,_,rfl,⟨rfl,ou _ (List.mem_of_getElem? hk)⟩,_,_,rfl,b9,rfl⟩,rfl⟩
theorem St.oI {B:Bs} {φ:aq} {I:Nat->Prop} {w:World} (h:St B φ I H w) {b:Nat} {ks:List Value} {bs:List Nat} {clock:Nat} {cs:List AV} (hH:lk H b=some (.var (.raw (kX ks bs clock)) cs)) (ca:nN ks bs clock) (cB:cs.length=bs.length):St B φ I (bK H b (.var (.map ks) cs)) w:=by
 refine h.told hH fun p hp aZ=>?_
 simp only[Ob.at,Sh.has,Sh.one]at aZ⊢
 obtain⟨g,us,hg,⟨h1,_⟩,h2,_⟩:=aZ
 have bM:=AJ h2
 have om:us.length=bs.length:=by omega
 have eL:=xf ks bs us ca.len om
 refine⟨g,us,hg,⟨(fU ks bs us).toArray,clock,h1,by simpa using EW ks bs us ca.len om,by simpa using EX ks bs us ca.len om,by rw[show(fU ks bs us).toArray.toList=fU ks bs us by simp,eL];exact ca.nd,fun e he=>ca.lt _ (by rw[<-eL];exact List.mem_map.2 ⟨e,by simpa using he,rfl⟩)⟩,h2,trivial⟩
theorem AQ.oI {ds:List (Nat×Nat)} {i:Nat} {rest:List Oper} (b:Nat) {ks:List Value} {bs:List Nat} {clock:Nat} {cs:List AV} (hH:lk H b=some (.var (.raw (kX ks bs clock)) cs)) (ca:nN ks bs clock) (cB:cs.length=bs.length) (h:AQ C ds i rest K E (bK H b (.var (.map ks) cs))):AQ C ds i rest K E H:=by
 unfold AQ at h⊢
 exact fun ops h1 h2 φ I a w hs=>h ops h1 h2 _ _ _ _ ⟨hs.bI,hs.bJ,hs.env,hs.st.oI hH ca cB⟩
theorem AE.oI {e:Exit} (b:Nat) {ks:List Value} {bs:List Nat} {clock:Nat} {cs:List AV} (hH:lk H b=some (.var (.raw (kX ks bs clock)) cs)) (ca:nN ks bs clock) (cB:cs.length=bs.length) (h:AE C e K E (bK H b (.var (.map ks) cs))):AE C e K E H:=by
 unfold AE at h⊢
 exact fun φ I a w hs=>h _ _ _ _ ⟨hs.bI,hs.bJ,hs.env,hs.st.oI hH ca cB⟩
theorem AP.oI {p:List Nat} (b:Nat) {ks:List Value} {bs:List Nat} {clock:Nat} {cs:List AV} (hH:lk H b=some (.var (.raw (kX ks bs clock)) cs)) (ca:nN ks bs clock) (cB:cs.length=bs.length) (h:AP C p K E (bK H b (.var (.map ks) cs))):AP C p K E H:=by
 unfold AP at h⊢
 exact fun φ I a w hs=>h _ _ _ _ ⟨hs.bI,hs.bJ,hs.env,hs.st.oI hH ca cB⟩
end
end Go.AL
end
section
namespace Go.AL
open Go
section
variable {C:Cx} {K:List PK} {E:Env} {H:aa}
def o3 (C:Cx) (K:List PK) (E:Env) (H:aa) (ds:List (Nat×Nat)) (i:Nat) (o:Oper) (os:List Oper):Prop:=
 match gJ C.P (qd E) H o.op with
 |some (sc,v)=>sc/\vq C K os (a_ o.dst i ds) (i+1) (ba o.dst v E) H
 |none=>False
theorem AQ.o3 {ds:List (Nat×Nat)} {i:Nat} {o:Oper} {os:List Oper} (al:bo C.n (o::os)=true) (hg:o.guard=none) (h:o3 C K E H ds i o os):AQ C ds i (o::os) K E H:=by
 unfold AL.o3 at h
 split at h
 ·rename_i sc v ha
  exact AQ.val v al hg (fun φ I a w hs=>ug (Gm hs.env) hs.st.real ha h.1) h.2
 ·exact h.elim
end
attribute [go_sem] o3
end Go.AL
end
section
namespace Go.AL
open Go Go.MapKept
section
variable {C:Cx} {K:List PK} {E:Env} {H:aa}
end
end Go.AL
end
section
namespace Go.AL
open Go Go.Sort Go.Proofs
section
variable {α:Type} {enc:α->Value} {iv:α->IV}
structure U6 (enc:α->Value) (iv:α->IV):Prop where
 to:∀{w:World} {I:Nat->Prop} {a:α} {v:Value},IV.den w I (iv a) v->v=enc a
 of:∀{w:World} {I:Nat->Prop} {a:α},IV.den w I (iv a) (enc a)
end
end Go.AL
end
