import Derived.WalkKit
import Derived.Scope
import Derived.StillTail
import Derived.TacticsIn
import Derived.OrdersIn
import Derived.RangeFuncCalls
import Derived.RangeFuncRecord
import Derived.ChangeKeysEq
import Derived.Laws.StructEq
import Derived.Laws.BytesString
import Derived.Great.BuildSlice
import Derived.Maps.AppendAt
set_option linter.unusedSimpArgs false
set_option linter.unusedVariables false
set_option linter.unnecessarySimpa false
section
namespace Go.AL
open Go
abbrev Fw (r:Option Nat):Fence:={Fence.wide with round:=r}
abbrev lZ (r:Option Nat) (P:Program) (c:Code) (Q:Exit->Act->World->Prop) (a:Act) (w:World):Prop:=c.wpIn (Fw r) 3 P Q a w
section
variable {r:Option Nat} {P:Program} {Q:Exit->Act->World->Prop} {a:Act} {w:World}
theorem A4 {n:Nat} {f:FuncId} {args:Array Value} {R:Ending->World->Prop} (h:Calls P f args w R):CallsIn (Fw r) n P f args w R:=by
 have h1:CallsIn Fence.wide n P f args w R:=callsIn_wide.2 h
 exact h1
theorem Kv {n:Nat} {row:String} {args:Array Value} {R:Value->World->Prop} (h:Rows P row args w R):RowsIn (Fw r) n P row args w R:=by
 intro c cs _
 obtain⟨v,w',h1,h2⟩:=h c cs
 exact⟨v,w',h1,stepsIn_wide.2 h2⟩
def mG (o:Oper):Bool:=match o.op with
 | .defer _=>false
 |_=>true
theorem SO {o:Oper} {K:Act->World->Prop} (hd:mG o=true) (h:o.wp P a w K Q):o.wpIn (Fw r) 3 P a w K Q:=by
 refine⟨fun _ _=>trivial,?_⟩
 have hs:o.semAt (Fw r).round a.eval=execOp a.eval o:=Oper.semAt_eq _ _ _ fun c hc=>by simp[mG,hc]at hd
 rw[hs]
 unfold Oper.wp at h
 generalize(execOp a.eval o).run P w=q at*
 cases q with
 |ok x w'=>
  cases x<;>simp only[Oper.upon,Oper.uponIn]at h⊢<;>first
   |exact h
   |exact⟨fun h=>(by cases h),A4 h⟩
   |exact⟨fun h=>(by cases h),Kv h⟩
   |exact h.elim
 |halt x w'=>cases x<;>simp only[Oper.upon,Oper.uponIn]at h⊢<;>first|exact h|exact h.elim
def nu (P:Program) (o:Oper) (a:Act) (w:World) (K:Act->World->Prop) (Q:Exit->Act->World->Prop):Prop:=
 o.wp P a w K Q\/∃(l:Nat) (f:FuncId) (tmps:Array Value) (as bd:Code),(execOp a.eval o).run P w= .ok (.round l f tmps as bd) w/\
  RoundIn Fence.wide 3 P l f tmps as bd w fun
   | .returned v,o4=>K (a.put o.dst v) o4
   | .panicked c,o4=>Q (.panic c) a o4
   | .outgrown,_=>LetsOut Q
theorem Ko {n m:Nat} {l:Nat} {f:FuncId} {tmps:Array Value} {as bd:Code} {R:Ending->World->Prop} (h:RoundIn Fence.wide n P l f tmps as bd w R):RoundIn (Fw r) m P l f tmps as bd w R:=
 ⟨trivial,fun c cs _=>h.2 c cs (fun d hd=>by cases hd)⟩
theorem JN {o:Oper} {K:Act->World->Prop} (hd:mG o=true) (h:nu P o a w K Q):o.wpIn (Fw r) 3 P a w K Q:=by
 rcases h with h|⟨l,f,tmps,as,bd,hr,h⟩
 ·exact SO hd h
 ·refine⟨fun _ _=>trivial,?_⟩
  have hs:o.semAt (Fw r).round a.eval=execOp a.eval o:=Oper.semAt_eq _ _ _ fun c hc=>by simp[mG,hc]at hd
  rw[hs,hr,Oper.uponIn_round]
  exact⟨fun h=>(by cases h),Ko h⟩
theorem SC {o:Oper} {K K':Act->World->Prop} (h:∀a w,K a w->K' a w) (hh:nu P o a w K Q):nu P o a w K' Q:=by
 rcases hh with hh|⟨l,f,tmps,as,bd,hr,hh⟩
 ·exact .inl (Oper.wp_mono h hh)
 ·refine .inr ⟨l,f,tmps,as,bd,hr,hh.mono fun e w' he=>?_⟩
  cases e with
  |returned v=>exact h _ _ he
  |panicked c=>exact he
  |outgrown=>exact he
def gh (P:Program) (ops:Array Oper) (Q:Exit->Act->World->Prop):List Oper->Act->World->Prop
 |[],a,w=>Q .normal a w
 |o::rest,a,w=>if Region.wanted o (yielded ops a.tmps)then nu P o a w (gh P ops Q rest) Q else gh P ops Q rest (a.put o.dst undef) w
theorem UO {ops:Array Oper} (h:Q .normal a w):gh P ops Q [] a w:=h
theorem UP {ops:Array Oper} {o:Oper} {rest:List Oper}
  (h:∀K:Act->World->Prop,(∀a w,gh P ops Q rest a w->K a w)->if Region.wanted o (yielded ops a.tmps)then o.wp P a w K Q else K (a.put o.dst undef) w):gh P ops Q (o::rest) a w:=by
 have:=h _ (fun _ _ h=>h)
 simp only[gh]
 split
 ·rename_i hw;rw[if_pos hw]at this;exact .inl this
 ·rename_i hw;rw[if_neg hw]at this;exact this
theorem UQ {ops:Array Oper} {o:Oper} {rest:List Oper}
  (h:∀K:Act->World->Prop,(∀a w,gh P ops Q rest a w->K a w)->if Region.wanted o (yielded ops a.tmps)then nu P o a w K Q else K (a.put o.dst undef) w):gh P ops Q (o::rest) a w:=h _ (fun _ _ h=>h)
theorem L0 {ops:Array Oper}:∀(l:List Oper) (k:Nat),(∀j,l[j]?=ops[k+j]?)->l.all mG=true->∀(a:Act) (w:World),gh P ops Q l a w->wpOpsIn (Fw r) 3 P ops Q (List.range' k l.length) a w
 |[],_,_,_,_,_,h=>h
 |o::l,k,hl,hd,a,w,h=>by
  have h0:ops[k]?=some o:=by simpa using(hl 0).symm
  simp only[List.all_cons,Bool.and_eq_true]at hd
  have ih:=L0 l (k+1) (fun j=>by have:=hl (j+1);simpa[Nat.add_assoc,Nat.add_comm 1 j]using this) hd.2
  rw[List.length_cons,List.range'_succ]
  simp only[wpOpsIn,h0]
  simp only[gh]at h
  split
  ·rename_i hw
   rw[if_pos hw]at h
   exact Oper.wpIn_mono (fun a' w' h'=>ih a' w' h') (JN hd.1 h)
  ·rename_i hw
   rw[if_neg hw]at h
   exact⟨fun _ _=>trivial,ih _ _ h⟩
theorem UT {id:Nat} {ops:Array Oper} (hd:ops.toList.all mG=true) (h:gh P ops Q ops.toList a w):lZ r P (.region id ops false) Q a w:=by
 refine wpIn_region ?_
 have:=L0 (r:=r) (ops:=ops) ops.toList 0 (by simp) hd a w h
 rwa [Array.length_toList,<-List.range_eq_range']at this
def mJ (P:Program) (ops:Array Oper) (Q:Exit->Act->World->Prop) (i:Nat) (K:Act->World->Prop) (a:Act) (w:World):Prop:=
 match ops[i]? with
 |none=>K a w
 |some o=>if Region.wanted o (yielded ops a.tmps)then nu P o a w K Q else K (a.put o.dst undef) w
theorem SJ {ops:Array Oper} {i:Nat} {K K':Act->World->Prop} (h:∀a w,K a w->K' a w) (hh:mJ P ops Q i K a w):mJ P ops Q i K' a w:=by
 unfold mJ at*
 split
 ·exact h _ _ (by simpa[*]using hh)
 ·rename_i o ho
  simp only[ho]at hh
  split
  ·rename_i hw;simp only[hw,if_true]at hh;exact SC h hh
  ·rename_i hw;simp only[hw]at hh;exact h _ _ hh
def nI (P:Program) (md:Region.Mode) (ops:Array Oper) (Q:Exit->Act->World->Prop):Nat->Array Bool->Act->World->Prop
 |0,listed,a,w=>Region.ready md ops listed=[]/\Q .normal a w
 |fuel+1,listed,a,w=>(Region.ready md ops listed=[]->Q .normal a w)/\∀i∈Region.ready md ops listed,mJ P ops Q i (nI P md ops Q fuel (listed.setIfInBounds i true)) a w
theorem Au {md:Region.Mode} {ops:Array Oper} (hd:ops.toList.all mG=true):∀(fuel:Nat) (listed:Array Bool) (a:Act) (w:World),nI P md ops Q fuel listed a w->wpAnyIn (Fw r) 3 P md ops Q fuel listed a w
 |0,_,_,_,h=>h
 |fuel+1,listed,a,w,h=>by
  refine⟨h.1,fun i hi=>?_⟩
  have hi:=h.2 i hi
  unfold mJ at hi
  unfold wpOpIn
  split
  ·rename_i hn;simp only[hn]at hi;exact Au hd fuel _ _ _ hi
  ·rename_i o ho
   simp only[ho]at hi
   have Po:mG o=true:=List.all_eq_true.1 hd o (by rw[Array.mem_toList_iff];exact Array.mem_of_getElem? ho)
   split
   ·rename_i hw;rw[if_pos hw]at hi;exact Oper.wpIn_mono (fun a' w' h'=>Au hd fuel _ _ _ h') (JN Po hi)
   ·rename_i hw;rw[if_neg hw]at hi;exact⟨fun _ _=>trivial,Au hd fuel _ _ _ hi⟩
theorem L4 {id:Nat} {ops:Array Oper} (hm:P.follows .mixedOrders=true) (hd:ops.toList.all mG=true)
  (h:nI P .any ops Q ops.size (Array.replicate ops.size false) a {w with drawn:=w.drawn+1}):lZ r P (.region id ops true) Q a w:=wpIn_region_any hm (Au hd _ _ _ _ h)
theorem ES {md:Region.Mode} {ops:Array Oper}:∀(l:List Oper) (k:Nat) (listed:Array Bool) (a:Act) (w:World),(∀j,l[j]?=ops[k+j]?)->
  Region.seqB md ops l.length k listed=true->gh P ops Q l a w->nI P md ops Q l.length listed a w
 |[],_,_,_,_,_,hB,h=>⟨by simpa[Region.seqB]using hB,h⟩
 |o::l,k,listed,a,w,hl,hB,h=>by
  have h0:ops[k]?=some o:=by simpa using(hl 0).symm
  simp only[List.length_cons,Region.seqB,Bool.and_eq_true,decide_eq_true_eq]at hB
  refine⟨fun h1=>(by rw[hB.1]at h1;cases h1),fun i hi=>?_⟩
  rw[hB.1]at hi
  have vb:i=k:=by simpa using hi
  subst vb
  have hw:mJ P ops Q i (gh P ops Q l) a w:=by unfold mJ;simp only[h0];exact h
  exact SJ (fun a' w' h'=>ES l (i+1) _ a' w' (fun j=>by have:=hl (j+1);simpa[Nat.add_assoc,Nat.add_comm 1 j]using this) hB.2 h') hw
theorem tK {b:Frame} {k:List Item} {cs:List Frame} {c:Code}:step P (lone (b.atR a (.code (.scope c)::k)) cs w)= .next (lone (b.atR a (.code c:: .inScope c::k)) cs w):=
 step_lone_go (by simp[stepG,stepG.exec,Frame.atR])
theorem T0 {b:Frame} {k:List Item} {cs:List Frame} {c:Code}:step P (lone (b.atR a (.inScope c::k)) cs w)= .next (lone (b.atR a k) cs w):=
 step_lone_go (by simp[stepG,stepG.exec,Frame.atR])
theorem UU {c:Code} (h:lZ r P c (Exit.noGoto Q) a w):lZ r P (.scope c) Q a w:=by
 intro b k cs vt hb hr
 have h0:(lone (b.atR a (.code (.scope c)::k)) cs w).fenced P (Fw r):=fenced_calm hb hr rfl
 obtain⟨e,jW,kr,hq,jx⟩:=h b (.inScope c::k) cs vt hb hr
 have hx:∀id,exitTo id (.inScope c::k)=exitTo id k:=fun id=>by simp[exitTo]
 cases e with
 |normal=>exact⟨.normal,jW,kr,hq,.head h0 tK (StepsIn.trans jx (.one (fenced_calm hb hr rfl) T0))⟩
 |exit id=>
  exact⟨.exit id,jW,kr,hq,fun k' hk=> .head h0 tK (jx.1 k' (by rw[hx];exact hk)),fun ov hk=>let⟨k₁,h1,h2⟩:=jx.2 ov (by rw[hx];exact hk);⟨k₁,h1,.head h0 tK h2⟩⟩
 |goto l=>exact hq.elim
 |ret=>exact⟨_,jW,kr,hq,.of_steps (.one h0 tK) jx⟩
 |panic ch=>exact⟨_,jW,kr,hq,.of_steps (.one h0 tK) jx⟩
 |outgrown=>exact⟨_,jW,kr,hq,.of_steps (.one h0 tK) jx⟩
theorem US {c:Code} {α:Type} (J:α->Act->World->Prop) (μ:α->Nat)
  (round:∀p a w,J p a w->lZ r P c (Exit.then (fun a' w'=>∃p',μ p'<μ p/\J p' a' w') Q) a w) (p0:α) (a:Act) (w:World) (h0:J p0 a w):lZ r P (.loop c) Q a w:=by
 intro b k cs vt hb hr
 have key:∀n p a w,μ p=n->J p a w->∃e a' w',Q e a' w'/\ArrivesIn (Machine.fenced P (Fw r)) P (lone (b.atR a (.code c:: .inLoop c::k)) cs w) b k cs e a' w':=by
  intro n
  induction n using Nat.strongRecOn with
  |_ n ih=>
   intro p a w hn hI
   obtain⟨e,jW,kr,hq,jx⟩:=round p a w hI b (.inLoop c::k) cs vt hb hr
   cases e with
   |normal=>
    obtain⟨p',ah,OU⟩:=hq
    obtain⟨N7,M3,Aw,Qr,Pc⟩:=ih (μ p') (hn▸ah) p' jW kr rfl OU
    exact⟨N7,M3,Aw,Qr,.of_steps (StepsIn.trans jx (.one (fenced_calm hb hr rfl) stepR_inLoop)) Pc⟩
   |exit id=>exact⟨_,jW,kr,hq,.pass (x:= .inLoop c) rfl (fun _ _=> .inl (by simp)) jx⟩
   |goto l=>exact⟨_,jW,kr,hq,.pass (x:= .inLoop c) rfl (fun _ _=> .inl (by simp)) jx⟩
   |ret=>exact⟨_,jW,kr,hq,.pass (x:= .inLoop c) rfl (fun _ _=> .inl (by simp)) jx⟩
   |panic ch=>exact⟨_,jW,kr,hq,.pass (x:= .inLoop c) rfl (fun _ _=> .inl (by simp)) jx⟩
   |outgrown=>exact⟨_,jW,kr,hq,.pass (x:= .inLoop c) rfl (fun _ _=> .inl (by simp)) jx⟩
 obtain⟨e,a',w',hq,jx⟩:=key _ p0 a w rfl h0
 exact⟨e,a',w',hq,.of_steps (.one (fenced_calm hb hr rfl) stepR_loop) jx⟩
end
inductive IV where
 |v (x:Value)
 |sl (es:Nat) (rows:List (List IV))
 |pt (cs:List IV)
 |fn (f:FuncId) (fs aL:List IV)
def cI (w:World) (g off:Nat) (us:List Value):Prop:=∀j u,us[j]?=some u->w.cell? ⟨g,off+j,none⟩=some u
mutual
def IV.den (w:World) (I:Nat->Prop):IV->Value->Prop
 | .v x,u=>u=x/\x.oneCell'=true
 | .sl es rows,u=>∃p c ag,u= .slice p rows.length c/\rows.length<=c/\IV.aQ w I rows ag/\(∀vs∈ag,vs.length=es)/\
   (rows≠[]->∃g off,p=some ⟨g,off,none⟩/\I g/\cI w g off ag.flatten)
 | .pt cs,u=>∃g off us,u= .pointer (some ⟨g,off,none⟩)/\I g/\IV.ab w I cs us/\cI w g off us
 | .fn f fs aL,u=>∃us vs,IV.ab w I fs us/\IV.ab w I aL vs/\u= .func (.func f) us.toArray vs.toArray
def IV.ab (w:World) (I:Nat->Prop):List IV->List Value->Prop
 |[],us=>us=[]
 |x::xs,us=>∃u au,us=u::au/\IV.den w I x u/\IV.ab w I xs au
def IV.aQ (w:World) (I:Nat->Prop):List (List IV)->List (List Value)->Prop
 |[],us=>us=[]
 |x::xs,us=>∃u au,us=u::au/\IV.ab w I x u/\IV.aQ w I xs au
end
inductive Sh where
 |cell (t:TypeId)
 |map (ks:List Value)
 |row (t:TypeId)
 |raw (o:List Value->Obj)
instance (n:Nat):OfNat Sh n:=⟨.cell n⟩
instance:Coe TypeId Sh:=⟨.cell⟩
theorem Sh.lit (n:Nat):(OfNat.ofNat n:Sh)= .cell n:=rfl
def xl (o:Obj):Prop:=(∃es c,o= .map es c)\/∃m s seen c,o= .mapIter m s seen c
def rO (es:Array MapEntry) (clock:Nat):Prop:=(es.toList.map (·.born)).Nodup/\∀e∈es.toList,e.born<clock
def Sh.has (w:World) (g:Nat) (us:List Value):Sh->Prop
 | .cell e=>w.heap[g]?=some (.cells us.toArray e (0,0))
 | .map ks=>∃es clock,w.heap[g]?=some (.map es clock)/\es.toList.map (·.key)=ks/\es.toList.map (·.val)=us/\rO es clock
 | .row e=>∃rest:List Value,w.heap[g]?=some (.cells (us++rest).toArray e (0,0))
 | .raw o=>w.heap[g]?=some (o us)/\xl (o us)
def Sh.one (us:List Value):Sh->Prop
 | .cell _=>∀x∈us,x.oneCell'=true
 | .map _=>True
 | .row _=>∀x∈us,x.oneCell'=true
 | .raw _=>True
theorem Sh.has.dH {w w':World} {g:Nat} {us:List Value} {s:Sh} (h:s.has w g us) (hg:w'.heap[g]?=w.heap[g]?):s.has w' g us:=by
 cases s with
 |cell e=>exact hg.trans h
 |map ks=>obtain⟨es,c,h1,h2⟩:=h;exact⟨es,c,hg.trans h1,h2⟩
 |row e=>obtain⟨r,h1⟩:=h;exact⟨r,hg.trans h1⟩
 |raw o=>exact⟨hg.trans h.1,h.2⟩
theorem Sh.has.Sf {w:World} {g:Nat} {us:List Value} {s:Sh} (h:s.has w g us) {x:Option (List Deferred)} (hd:w.heap[g]?=some (.deferred x)):False:=by
 cases s with
 |cell e=>simp only[Sh.has]at h;rw[h]at hd;cases hd
 |map ks=>obtain⟨es,c,h1,_⟩:=h;rw[h1]at hd;cases hd
 |row e=>obtain⟨r,h1⟩:=h;rw[h1]at hd;cases hd
 |raw o=>
  obtain⟨h1,h2⟩:=h
  rw[h1]at hd
  rcases h2 with⟨_,_,h2⟩|⟨_,_,_,_,h2⟩<;>rw[h2]at hd<;>cases hd
theorem Sh.has.fz {w:World} {g:Nat} {us:List Value} {s:Sh} (h:s.has w g us) {c:Array Value} {e:TypeId} {fz:Nat×Nat} (hd:w.heap[g]?=some (.cells c e fz)):fz=(0,0):=by
 cases s with
 |cell e=>simp only[Sh.has]at h;rw[h]at hd;cases hd;rfl
 |map ks=>obtain⟨es,c,h1,_⟩:=h;rw[h1]at hd;cases hd
 |row e=>obtain⟨r,h1⟩:=h;rw[h1]at hd;cases hd;rfl
 |raw o=>
  obtain⟨h1,h2⟩:=h
  rw[h1]at hd
  rcases h2 with⟨_,_,h2⟩|⟨_,_,_,_,h2⟩<;>rw[h2]at hd<;>cases hd
inductive WK where
 |iface (t:TypeId)
 |exact(u:Value)
def WK.rel:WK->Value->Value->Prop
 | .iface t,v,u=>u= .iface t v
 | .exact u0,v,u=>u=u0/\v=u
inductive AV where
 |im (x:IV)
 |mp (b:Nat)
 |wr (k:WK) (x:AV)
 |ob (b off:Nat)
 |oe (b es i j:Nat)
 |os (b es i n:Nat)
 |fn (f:FuncId) (fs aL:List AV)
 |agg (cs:List AV)
 |ar (cs:List IV)
 |aD (vs:List AV)
 |opt (g:Bool) (x:AV)
 |top
abbrev aq:=Nat->Option (Option Nat)
def shaped (w:World) (g n:Nat):Prop:=∃c e,w.heap[g]?=some (.cells c e (0,0))/\n<=c.size
mutual
def AV.den (w:World) (φ:aq) (I:Nat->Prop):AV->Value->Prop
 | .im x,u=>IV.den w I x u
 | .ob b off,u=>∃g,φ b=some (some g)/\u= .pointer (some ⟨g,off,none⟩)
 | .oe b es i j,u=>∃g,φ b=some (some g)/\u= .pointer (some ⟨g,i*es+j,none⟩)
 | .os b es i n,u=>(φ b=some none/\i=0/\n=0/\u= .slice none 0 0)\/
   ∃g c,φ b=some (some g)/\u= .slice (some ⟨g,i*es,none⟩) n c/\n<=c/\c<=maxLen/\shaped w g ((i+c)*es)
 | .fn f fs aL,u=>∃us vs,AV.ab w φ I fs us/\AV.ab w φ I aL vs/\u= .func (.func f) us.toArray vs.toArray
 | .agg cs,u=>∃us,AV.ab w φ I cs us/\u= .agg us.toArray/\∀x∈us,x.oneCell'=true
 | .ar cs,u=>∃us,IV.ab w I cs us/\u= .agg us.toArray
 | .aD vs,u=>∃us,AV.ab w φ I vs us/\u= .tuple us.toArray
 | .opt g x,u=>(g=true->AV.den w φ I x u)/\(g=false->u=undef)
 | .top,_=>True
 | .mp b,u=>∃g,φ b=some (some g)/\u= .map (some g)
 | .wr k x,u=>∃v,k.rel v u/\AV.den w φ I x v
def AV.ab (w:World) (φ:aq) (I:Nat->Prop):List AV->List Value->Prop
 |[],us=>us=[]
 |x::xs,us=>∃u au,us=u::au/\AV.den w φ I x u/\AV.ab w φ I xs au
end
def child:Nat->Code->Code
 |0,.seq a _=>a
 |1,.seq _ b=>b
 |0,.cond _ a _=>a
 |1,.cond _ _ b=>b
 |0,.block _ c=>c
 |0,.loop c=>c
 |0,.scope c=>c
 |0,.rangeFunc _ _ a _=>a
 |1,.rangeFunc _ _ _ b=>b
 |_,_=> .skip
def b_ (fn:Func):List Nat->Code
 |[]=>fn.body.getD .skip
 |i::p=>child i (b_ fn p)
inductive gZ where
 |ready|busy
 |done (c:Code)
def gZ.state:gZ->LoopState
 | .ready=> .ready
 | .busy=> .busy
 | .done _=> .done
def gZ.rv:gZ->Option Code
 | .done c=>some c
 |_=>none
inductive Ob where
 |var (elem:Sh) (cs:List AV)
 |vec (elem:TypeId) (es:Nat) (rows:List (List IV))
 |lp (l n:Nat) (st:gZ) (fn:Func) (p:List Nat) (ps:List Tmp) (E:List (Nat×AV))
def lk {α:Type}:List (Nat×α)->Nat->Option α
 |[],_=>none
 |(j,x)::r,i=>bif Nat.beq j i then some x else lk r i
abbrev Env:=List (Nat×AV)
abbrev aa:=List (Nat×Ob)
def Ob.at (w:World) (φ:aq) (I:Nat->Prop):Ob->Option Nat->Prop
 | .var elem cs,p=>∃g us,p=some g/\elem.has w g us/\AV.ab w φ I cs us/\elem.one us
 | .vec elem es rows,p=>(p=none/\rows=[])\/
   ∃g ag rest,p=some g/\w.heap[g]?=some (.cells (ag.flatten++rest).toArray elem (0,0))/\IV.aQ w I rows ag/\(∀vs∈ag,vs.length=es)
 | .lp l n st fn q ps E,p=>p=some l/\∃(T:Array Value) (D:Nat) (cr:FuncId),T.size=n/\
   w.heap[l]?=some (.loop {state:=st.state,pending:=st.rv,fn:=cr,tmps:=T,params:=ps.toArray,assign:=child 0 (b_ fn q),body:=child 1 (b_ fn q),defers:=D})/\
   ∀i x,lk E i=some x->∃u,T[i]?=some u/\AV.den w φ I x u
structure Real (w:World) (φ:aq) (I:Nat->Prop) (H:aa):Prop where
 bB:∀b,(φ b).isSome=(lk H b).isSome
 own:∀b o p,lk H b=some o->φ b=some p->o.at w φ I p
 off:∀b g,φ b=some (some g)->¬I g/\g<w.heap.size
 inj:∀b b' g,φ b=some (some g)->φ b'=some (some g)->b=b'
 bZ:∀g,I g->g<w.heap.size
structure Ext (own:Nat->Prop) (w w':World):Prop where
 size:w.heap.size<=w'.heap.size
 dH:∀g,g<w.heap.size->¬own g->w'.heap[g]?=w.heap[g]?
 form:∀(g:Nat) (c:Array Value) (e:TypeId) (fz:Nat×Nat),w.heap[g]?=some (Obj.cells c e fz)->∃(c':Array Value) (iZ:Nat×Nat),w'.heap[g]?=some (Obj.cells c' e iZ)/\c'.size=c.size
 os:w'.os=w.os
 tape:w'.os=w.os
 output:w'.output=w.output
theorem Ext.refl (own:Nat->Prop) (w:World):Ext own w w:=⟨Nat.le_refl _,fun _ _ _=>rfl,fun _ c _ fz h=>⟨c,fz,h,rfl⟩,rfl,rfl,rfl⟩
theorem Ext.trans {own wA:Nat->Prop} {w w' o4:World} (h:Ext own w w') (h':Ext wA w' o4) (hs:∀g,wA g->own g\/w.heap.size<=g):Ext own w o4:=by
 refine⟨Nat.le_trans h.size h'.size,fun g hg hn=>?_,fun g c e fz hc=>?_,h'.os.trans h.os,h'.tape.trans h.tape,h'.output.trans h.output⟩
 ·rw[h'.dH g (Nat.lt_of_lt_of_le hg h.size) (fun ho=>(hs g ho).elim hn (by omega)),h.dH g hg hn]
 ·obtain⟨c1,f1,h1,e1⟩:=h.form g c e fz hc
  obtain⟨c2,f2,h2,e2⟩:=h'.form g c1 e f1 h1
  exact⟨c2,f2,h2,e2.trans e1⟩
theorem A6 {w w':World} {g:Nat} (h:w'.heap[g]?=w.heap[g]?) (off:Nat):w'.cell? ⟨g,off,none⟩=w.cell? ⟨g,off,none⟩:=by simp[World.cell?,h]
theorem cI.dH {w w':World} {g off:Nat} {us:List Value} (h:cI w g off us) (hg:w'.heap[g]?=w.heap[g]?):cI w' g off us:=
 fun j u hu=>(A6 hg _).trans (h j u hu)
section
variable {w w':World} {I I':Nat->Prop}
mutual
theorem IV.mS (hw:∀g off us,I g->cI w g off us->cI w' g off us) (hI:∀g,I g->I' g):∀(x:IV) (u:Value),IV.den w I x u->IV.den w' I' x u
 | .v _,_,h=>h
 | .sl es rows,u,h=>by
  simp only[IV.den]at h⊢
  obtain⟨p,c,ag,e,hc,hr,hl,ha⟩:=h
  refine⟨p,c,ag,e,hc,IV.yi hw hI rows ag hr,hl,fun hn=>?_⟩
  obtain⟨g,off,ep,hg,ez⟩:=ha hn
  exact⟨g,off,ep,hI g hg,hw g _ _ hg ez⟩
 | .pt cs,u,h=>by
  simp only[IV.den]at h⊢
  obtain⟨g,off,us,e,hg,hd,ez⟩:=h
  exact⟨g,off,us,e,hI g hg,IV.ju hw hI cs us hd,hw g _ _ hg ez⟩
 | .fn f fs aL,u,h=>by
  simp only[IV.den]at h⊢
  obtain⟨us,vs,h1,h2,e⟩:=h
  exact⟨us,vs,IV.ju hw hI fs us h1,IV.ju hw hI aL vs h2,e⟩
theorem IV.ju (hw:∀g off us,I g->cI w g off us->cI w' g off us) (hI:∀g,I g->I' g):∀(xs:List IV) (us:List Value),IV.ab w I xs us->IV.ab w' I' xs us
 |[],_,h=>h
 |x::xs,us,h=>by
  simp only[IV.ab]at h⊢
  obtain⟨u,au,e,h1,h2⟩:=h
  exact⟨u,au,e,IV.mS hw hI x u h1,IV.ju hw hI xs au h2⟩
theorem IV.yi (hw:∀g off us,I g->cI w g off us->cI w' g off us) (hI:∀g,I g->I' g):∀(xs:List (List IV)) (us:List (List Value)),IV.aQ w I xs us->IV.aQ w' I' xs us
 |[],_,h=>h
 |x::xs,us,h=>by
  simp only[IV.aQ]at h⊢
  obtain⟨u,au,e,h1,h2⟩:=h
  exact⟨u,au,e,IV.ju hw hI x u h1,IV.yi hw hI xs au h2⟩
end
theorem IV.jZ (hw:∀g,I g->w'.heap[g]?=w.heap[g]?) (hI:∀g,I g->I' g) (x:IV) (u:Value) (h:IV.den w I x u):IV.den w' I' x u:=IV.mS (fun g _ _ hg hc=>hc.dH (hw g hg)) hI x u h
theorem IV.iE (hw:∀g,I g->w'.heap[g]?=w.heap[g]?) (hI:∀g,I g->I' g) (x:List IV) (u:List Value) (h:IV.ab w I x u):IV.ab w' I' x u:=IV.ju (fun g _ _ hg hc=>hc.dH (hw g hg)) hI x u h
theorem IV.gM (hw:∀g,I g->w'.heap[g]?=w.heap[g]?) (hI:∀g,I g->I' g) (x:List (List IV)) (u:List (List Value)) (h:IV.aQ w I x u):IV.aQ w' I' x u:=IV.yi (fun g _ _ hg hc=>hc.dH (hw g hg)) hI x u h
mutual
theorem AV.mS {φ φ':aq} (hw:∀g off us,I g->cI w g off us->cI w' g off us) (hI:∀g,I g->I' g) (az:∀b p,φ b=some p->φ' b=some p)
  (hs:∀b g n,φ b=some (some g)->shaped w g n->shaped w' g n):∀(x:AV) (u:Value),AV.den w φ I x u->AV.den w' φ' I' x u
 | .im x,u,h=>by simp only[AV.den]at h⊢;exact IV.mS hw hI x u h
 | .ob b off,u,h=>by simp only[AV.den]at h⊢;obtain⟨g,h1,h2⟩:=h;exact⟨g,az _ _ h1,h2⟩
 | .oe b es i j,u,h=>by simp only[AV.den]at h⊢;obtain⟨g,h1,h2⟩:=h;exact⟨g,az _ _ h1,h2⟩
 | .os b es i n,u,h=>by
  simp only[AV.den]at h⊢
  rcases h with⟨h1,h2⟩|⟨g,c,h1,h2,h3,h4,h5⟩
  ·exact .inl ⟨az _ _ h1,h2⟩
  ·exact .inr ⟨g,c,az _ _ h1,h2,h3,h4,hs _ _ _ h1 h5⟩
 | .fn f fs aL,u,h=>by simp only[AV.den]at h⊢;obtain⟨us,vs,h1,h2,h3⟩:=h;exact⟨us,vs,AV.ju hw hI az hs fs us h1,AV.ju hw hI az hs aL vs h2,h3⟩
 | .agg cs,u,h=>by simp only[AV.den]at h⊢;obtain⟨us,h1,h2⟩:=h;exact⟨us,AV.ju hw hI az hs cs us h1,h2⟩
 | .ar cs,u,h=>by simp only[AV.den]at h⊢;obtain⟨us,h1,h2⟩:=h;exact⟨us,IV.ju hw hI cs us h1,h2⟩
 | .aD cs,u,h=>by simp only[AV.den]at h⊢;obtain⟨us,h1,h2⟩:=h;exact⟨us,AV.ju hw hI az hs cs us h1,h2⟩
 | .opt g x,u,h=>by simp only[AV.den]at h⊢;exact⟨fun hg=>AV.mS hw hI az hs x u (h.1 hg),h.2⟩
 | .top,_,_=>by simp only[AV.den]
 | .mp b,u,h=>by simp only[AV.den]at h⊢;obtain⟨g,h1,h2⟩:=h;exact⟨g,az _ _ h1,h2⟩
 | .wr k x,u,h=>by simp only[AV.den]at h⊢;obtain⟨v,h1,h2⟩:=h;exact⟨v,h1,AV.mS hw hI az hs x v h2⟩
theorem AV.ju {φ φ':aq} (hw:∀g off us,I g->cI w g off us->cI w' g off us) (hI:∀g,I g->I' g) (az:∀b p,φ b=some p->φ' b=some p)
  (hs:∀b g n,φ b=some (some g)->shaped w g n->shaped w' g n):∀(xs:List AV) (us:List Value),AV.ab w φ I xs us->AV.ab w' φ' I' xs us
 |[],_,h=>h
 |x::xs,us,h=>by
  simp only[AV.ab]at h⊢
  obtain⟨u,au,e,h1,h2⟩:=h
  exact⟨u,au,e,AV.mS hw hI az hs x u h1,AV.ju hw hI az hs xs au h2⟩
end
theorem AV.jZ {φ φ':aq} (hw:∀g,I g->w'.heap[g]?=w.heap[g]?) (hI:∀g,I g->I' g) (az:∀b p,φ b=some p->φ' b=some p)
  (hs:∀b g n,φ b=some (some g)->shaped w g n->shaped w' g n) (x:AV) (u:Value) (h:AV.den w φ I x u):AV.den w' φ' I' x u:=AV.mS (fun g _ _ hg hc=>hc.dH (hw g hg)) hI az hs x u h
theorem AV.iE {φ φ':aq} (hw:∀g,I g->w'.heap[g]?=w.heap[g]?) (hI:∀g,I g->I' g) (az:∀b p,φ b=some p->φ' b=some p)
  (hs:∀b g n,φ b=some (some g)->shaped w g n->shaped w' g n) (x:List AV) (u:List Value) (h:AV.ab w φ I x u):AV.ab w' φ' I' x u:=AV.ju (fun g _ _ hg hc=>hc.dH (hw g hg)) hI az hs x u h
end
theorem Ext.shaped {own:Nat->Prop} {w w':World} (h:Ext own w w') {g n:Nat} (ho:¬own g) (hs:shaped w g n):shaped w' g n:=by
 obtain⟨c,e,hc,hn⟩:=hs
 have hg:g<w.heap.size:=by
  rcases Nat.lt_or_ge g w.heap.size with h|h
  ·exact h
  ·rw[Array.getElem?_eq_none h]at hc;cases hc
 exact⟨c,e,(h.dH g hg ho).trans hc,hn⟩
structure Bs where
 w0:World
 own:Nat->Prop
 I0:Nat->Prop
 ax:aq
 nb:Nat
def ri:List (String×(Obj->Prop)):=
 [("strconv.ErrSyntax",fun o=>∃tp p T fz,o= .cells #[.iface tp p] T fz),("strconv.ErrRange",fun o=>∃tp p T fz,o= .cells #[.iface tp p] T fz),
  ("internal/strconv.uint64pow10",fun o=>∃T fz,o= .cells (([1,10,100,1000,10000,100000,1000000,10000000,100000000,1000000000,10000000000,100000000000,1000000000000,10000000000000,100000000000000,1000000000000000,10000000000000000,100000000000000000,1000000000000000000,10000000000000000000]:List Int).map fun z=>Value.int .u64 z).toArray T fz),
  ("internal/bytealg.MaxLen",fun o=>∃m cs T fz,o= .cells cs T fz/\cs[0]?=some (Value.int .i64 m))]
def VK (P:Program) (w:World) (I:Nat->Prop):Prop:=∀x∈ri,∀g,P.globalNamed x.1=some g->I g/\∃o,w.heap[g]?=some o/\x.2 o
theorem VK.mono {P:Program} {w w':World} {I I':Nat->Prop} (h:VK P w I) (hw:∀g,I g->w'.heap[g]?=w.heap[g]?) (hI:∀g,I g->I' g):VK P w' I':=fun x hx g hg=>
 let⟨h1,o,h2,h3⟩:=h x hx g hg
 ⟨hI g h1,o,(hw g h1).trans h2,h3⟩
theorem VK.none {P:Program} {w:World} {I:Nat->Prop} (h:(ri.all fun x=>(P.globalNamed x.1).isNone)=true):VK P w I:=fun x hx g hg=>by
 have:=List.all_eq_true.1 h x hx
 rw[hg]at this
 cases this
structure Lay (P:Program) (B:Bs):Prop where
 vk:VK P B.w0 B.I0
 io:∀g,B.I0 g->g<B.w0.heap.size/\¬B.own g
structure Cx where
 P:Program
 fn:Func
 n:Nat
 B:Bs
 kp:List Nat
 ob:List Nat
 R:AV->aa->Prop
 rd:Option Nat
 X:AV->aa->Prop
 ds:List (Option Deferred)
 lay:Lay P B
structure St (B:Bs) (φ:aq) (I:Nat->Prop) (H:aa) (w:World):Prop where
 real:Real w φ I H
 ext:Ext B.own B.w0 w
 cd:∀b g,φ b=some (some g)->B.own g\/B.w0.heap.size<=g
 cZ:∀g,I g->B.I0 g\/B.own g\/B.w0.heap.size<=g
 cz:∀g,B.I0 g->I g
 cE:∀b p o,b<B.nb->B.ax b=some p->lk H b=some o->φ b=some p
theorem St.vk {C:Cx} {φ:aq} {I:Nat->Prop} {H:aa} {w:World} (hs:St C.B φ I H w):VK C.P w I:=fun x hx g hg=>
 let⟨h1,o,h2,h3⟩:=C.lay.vk x hx g hg
 ⟨hs.cz g h1,o,(hs.ext.dH g (C.lay.io g h1).1 (C.lay.io g h1).2).trans h2,h3⟩
theorem Real.lay {P:Program} {w:World} {φ:aq} {I:Nat->Prop} {H:aa} (hR:Real w φ I H) (hV:VK P w I) (nb:Nat):Lay P ⟨w,fun g=>∃b,φ b=some (some g),I,φ,nb⟩:=
 ⟨hV,fun g hg=>⟨hR.bZ g hg,fun⟨b,hb⟩=>(hR.off b g hb).1 hg⟩⟩
def dB (w:World) (φ:aq) (I:Nat->Prop) (E:Env) (a:Act):Prop:=∀i x,lk E i=some x->∃u,a.tmps[i]?=some u/\AV.den w φ I x u
def tf (D:Nat):Deferred:={target:= .collected D,args:=#[]}
def Marks (base:List (Option Deferred)) (sz:Nat) (w:World) (I:Nat->Prop) (ds:List Deferred):Prop:=
 ∃ms:List Nat,ds=ms.map tf++base.filterMap id/\ms.Nodup/\(∀D∈ms,I D/\sz<=D/\w.heap[D]?=some (.deferred (some [])))/\(base≠[]->ms=[])
theorem Marks.nil {base:List (Option Deferred)} {sz:Nat} {w:World} {I:Nat->Prop}:Marks base sz w I (base.filterMap id):=⟨[],rfl,List.nodup_nil,(fun _ h=>by cases h),fun _=>rfl⟩
theorem Marks.mono {base:List (Option Deferred)} {sz:Nat} {w w':World} {I I':Nat->Prop} {ds:List Deferred} (h:Marks base sz w I ds) (hw:∀g,I g->w'.heap[g]?=w.heap[g]?) (hI:∀g,I g->I' g):Marks base sz w' I' ds:=by
 obtain⟨ms,h1,h2,h3,h4⟩:=h
 exact⟨ms,h1,h2,(fun D hD=>let⟨a,b,c⟩:=h3 D hD;⟨hI D a,b,(hw D a).trans c⟩),h4⟩
structure br (C:Cx) (φ:aq) (I:Nat->Prop) (E:Env) (H:aa) (a:Act) (w:World):Prop where
 bI:Marks C.ds C.B.w0.heap.size w I a.defers
 bJ:a.tmps.size=C.n
 env:dB w φ I E a
 st:St C.B φ I H w
def k_ (B:Bs) (R:AV->aa->Prop) (e:Ending) (w':World):Prop:=
 ∃r H' φ' I' v,R r H'/\e= .returned v/\AV.den w' φ' I' r v/\St B φ' I' H' w'
def E2 (B:Bs) (X:AV->aa->Prop) (e:Ending) (w':World):Prop:=
 ∃r H' φ' I' v,X r H'/\e= .panicked [{v:=v,recovered:=false}]/\AV.den w' φ' I' r v/\St B φ' I' H' w'
def jn (C:Cx) (e:Ending) (w':World):Prop:=k_ C.B C.R e w'\/E2 C.B C.X e w'
inductive KI where
 |seq (c:Code)
 |fg (id:Nat)
 |lp (J:Act->World->Prop)
 |sc
 |bot (Q:Exit->Act->World->Prop)
def x5 (C:Cx):Exit->Act->World->Prop
 | .normal,a,w| .ret,a,w=>C.ds=[]->LeavesInM Fence.wide 3 C.P C.fn a.tmps (jn C) a.defers .returning w
 | .panic c,a,w=>C.ds=[]->LeavesInM Fence.wide 3 C.P C.fn a.tmps (jn C) a.defers (.panicking c) w
 |_,_,_=>False
def dq (C:Cx):List KI->Exit->Act->World->Prop
 |[],e,a,w=>x5 C e a w
 | .seq c::K,e,a,w=>Exit.then (lZ C.rd C.P c (dq C K)) (dq C K) e a w
 | .fg id::K,e,a,w=>Exit.inBlock id (dq C K) e a w
 | .lp J::K,e,a,w=>Exit.then J (dq C K) e a w
 | .sc::K,e,a,w=>Exit.noGoto (dq C K) e a w
 | .bot Q::_,e,a,w=>Q e a w
def AR (C:Cx) (c:Code) (K:List KI) (E:Env) (H:aa):Prop:=∀φ I a w,br C φ I E H a w->lZ C.rd C.P c (dq C K) a w
def AX (C:Cx) (e:Exit) (K:List KI) (E:Env) (H:aa):Prop:=∀φ I a w,br C φ I E H a w->dq C K e a w
section
variable {C:Cx} {K:List KI} {E:Env} {H:aa}
theorem AR.seq {x y:Code} (h:AR C x (.seq y::K) E H):AR C (.seq x y) K E H:=fun φ I a w hs=>by
 refine wpIn_seq ?_
 have:=h φ I a w hs
 exact this
theorem AR.skip (h:AX C .normal K E H):AR C .skip K E H:=fun φ I a w hs=>wpIn_skip (h φ I a w hs)
theorem AR.ret (h:AX C .ret K E H):AR C .ret K E H:=fun φ I a w hs=>wpIn_ret (h φ I a w hs)
theorem AR.exit {id:Nat} (h:AX C (.exit id) K E H):AR C (.exit id) K E H:=fun φ I a w hs=>wpIn_exit (h φ I a w hs)
theorem AR.label {id:Nat} (h:AX C .normal K E H):AR C (.label id) K E H:=fun φ I a w hs=>wpIn_label (h φ I a w hs)
theorem AR.block {id:Nat} {c:Code} (h:AR C c (.fg id::K) E H):AR C (.block id c) K E H:=fun φ I a w hs=>wpIn_block (h φ I a w hs)
theorem AR.scope {c:Code} (h:AR C c (.sc::K) E H):AR C (.scope c) K E H:=fun φ I a w hs=>UU (h φ I a w hs)
theorem AX.sc (h:AX C .normal K E H):AX C .normal (.sc::K) E H:=h
theorem AX.KH {id:Nat} (h:AX C (.exit id) K E H):AX C (.exit id) (.sc::K) E H:=h
theorem AX.KJ (h:AX C .ret K E H):AX C .ret (.sc::K) E H:=h
theorem AX.seq {c:Code} (h:AR C c K E H):AX C .normal (.seq c::K) E H:=h
theorem AX.KL {c:Code} {id:Nat} (h:AX C (.exit id) K E H):AX C (.exit id) (.seq c::K) E H:=h
theorem AX.KM {c:Code} (h:AX C .ret K E H):AX C .ret (.seq c::K) E H:=h
theorem AX.fg {id:Nat} (h:AX C .normal K E H):AX C .normal (.fg id::K) E H:=h
theorem AX.AY {id:Nat} (h:AX C .normal K E H):AX C (.exit id) (.fg id::K) E H:=fun φ I a w hs=>by
 show Exit.inBlock id _ _ _ _
 simp only[Exit.inBlock,if_true]
 exact h φ I a w hs
theorem AX.AZ {id kR:Nat} (aT:(kR==id)=false) (h:AX C (.exit kR) K E H):AX C (.exit kR) (.fg id::K) E H:=fun φ I a w hs=>by
 show Exit.inBlock id _ _ _ _
 simp only[Exit.inBlock,if_neg (by simpa using aT:¬kR=id)]
 exact h φ I a w hs
theorem AX.Fy {id:Nat} (h:AX C .ret K E H):AX C .ret (.fg id::K) E H:=h
theorem AX.I9 {J:Act->World->Prop} {id:Nat} (h:AX C (.exit id) K E H):AX C (.exit id) (.lp J::K) E H:=h
theorem AX.I_ {J:Act->World->Prop} (h:AX C .ret K E H):AX C .ret (.lp J::K) E H:=h
def Sub (E E':Env):Prop:=∀i x,lk E' i=some x->lk E i=some x
theorem br.sub {φ:aq} {I:Nat->Prop} {a:Act} {w:World} {E':Env} (h:br C φ I E H a w) (hs:Sub E E'):br C φ I E' H a w:=
 ⟨h.bI,h.bJ,fun i x hx=>h.env i x (hs i x hx),h.st⟩
def rR (C:Cx) {α:Type} (LE:α->Env) (LH:α->aa) (ok:α->Prop) (μ:α->Nat) (m:Nat) (a:Act) (w:World):Prop:=
 ∃p,ok p/\μ p<m/\∃φ I,br C φ I (LE p) (LH p) a w
theorem AR.loop {α:Type} {c:Code} (LE:α->Env) (LH:α->aa) (ok:α->Prop) (μ:α->Nat) (p0:α) (h0:ok p0) (hE:Sub E (LE p0)) (hH:H=LH p0)
  (round:∀p,ok p->AR C c (.lp (rR C LE LH ok μ (μ p))::K) (LE p) (LH p)):AR C (.loop c) K E H:=by
 intro φ I a w hs
 subst hH
 refine US (fun p a w=>ok p/\∃φ I,br C φ I (LE p) (LH p) a w) μ (fun p a w hJ=>?_) p0 a w ⟨h0,φ,I,hs.sub hE⟩
 obtain⟨al,φ,I,hs⟩:=hJ
 refine wpIn_mono (round p al φ I a w hs) (fun e a w hq=>?_)
 cases e with
 |normal=>obtain⟨p',h1,h2,h3⟩:=hq;exact⟨p',h2,h1,h3⟩
 |_=>exact hq
theorem AX.round {α:Type} {LE:α->Env} {LH:α->aa} {ok:α->Prop} {μ:α->Nat} {m:Nat} (p:α) (al:ok p) (CZ:μ p<m) (hE:Sub E (LE p)) (hH:H=LH p):
  AX C .normal (.lp (rR C LE LH ok μ m)::K) E H:=fun φ I a w hs=>by
 subst hH
 exact⟨p,al,CZ,φ,I,hs.sub hE⟩
theorem AR.weaken {c:Code} {E':Env} (h:AR C c K E' H) (hE:Sub E E'):AR C c K E H:=fun φ I a w hs=>h φ I a w (hs.sub hE)
theorem AX.weaken {e:Exit} {E':Env} (h:AX C e K E' H) (hE:Sub E E'):AX C e K E H:=fun φ I a w hs=>h φ I a w (hs.sub hE)
theorem AR.cond {c:Operand} {t:Tmp} {x y:Code} {b:Bool} (hc:c= .tmp t) (hb:lk E t=some (.im (.v (.bool b)))) (ht:b=true->AR C x K E H) (hf:b=false->AR C y K E H):
  AR C (.cond c x y) K E H:=fun φ I a w hs=>by
 subst hc
 obtain⟨u,hu,hd⟩:=hs.env t _ hb
 simp only[AV.den,IV.den]at hd
 obtain⟨rfl,_⟩:=hd
 refine wpIn_cond_split (t:=b) ?_ (fun h=>ht h φ I a w hs) (fun h=>hf h φ I a w hs)
 have ah:t<a.tmps.size:=by
  rcases Nat.lt_or_ge t a.tmps.size with h|h
  ·exact h
  ·rw[Array.getElem?_eq_none h]at hu;cases hu
 simp only[Act.eval,Array.getD_eq_getD_getElem?,hu,Option.getD_some]
end
inductive TK where
 |bool|int (k:IntKind)|str|ptr (e:TypeId)|slice (e:TypeId)|arr (n:Nat) (e:TypeId)|struct (fs:List (Nat×TypeId))|map (k e:TypeId)|func|iface|other
def TK.of:TypeDesc->TK
 | .bool=> .bool
 | .int k=> .int k
 | .string=> .str
 | .pointer e=> .ptr e
 | .slice e=> .slice e
 | .array n e=> .arr n e
 | .struct fs=> .struct (fs.toList.map fun f=>(f.offset,f.type))
 | .map k e=> .map k e
 | .func _ _ _=> .func
 | .interface _=> .iface
 |_=> .other
def tk (P:Program) (t:TypeId):TK:=((P.underlying t).map TK.of).getD .other
def sz (P:Program) (t:TypeId):Option Nat:=(P.underlying t).bind fun _=>(P.info? t).map (·.size)
def aW (P:Program) (t:TypeId):Option Nat:=(P.info? t).map (·.bytes)
def aC (P:Program) (t:TypeId):Option (List Value):=(P.info? t).bind fun i=>i.zero.map fun z=>z.cells.toList
def TK.agg:TK->Bool
 | .struct _=>true
 | .arr _ _=>true
 |_=>false
def bH:Value->AV
 | .agg cs=>bif cs.toList.all Value.oneCell' then .agg (cs.toList.map fun c=> .im (.v c))else .top
 | .tuple _=> .top
 |x=> .im (.v x)
def ev (E:Env):Operand->Option AV
 | .tmp t=>lk E t
 | .const v=>some (bH v)
 | .func f=>some (.fn f [] [])
 | .global _=>none
def AV.g:AV->Bool
 | .opt g _=>g
 |_=>true
def AV.st:AV->AV
 | .opt _ x=>x
 |x=>x
def un (f:AV->Option (Prop×AV)):Option AV->Option (Prop×AV)
 |some a=>match f a.st with
  |some (sc,v)=>some (a.g=true/\sc,v)
  |none=>none
 |none=>none
def bi (f:AV->AV->Option (Prop×AV)):Option AV->Option AV->Option (Prop×AV)
 |some a,some b=>match f a.st b.st with
  |some (sc,v)=>some (a.g=true/\b.g=true/\sc,v)
  |none=>none
 |_,_=>none
def AV.i (k:IntKind) (n:Int):AV:= .im (.v (.int k n))
def AV.b (x:Bool):AV:= .im (.v (.bool x))
def AV.s (x:ByteArray):AV:= .im (.v (.string x))
def Fs (k:IntKind) (a b:Int):Int:=k.wrap (BitVec.ofInt k.bits a&&&BitVec.ofInt k.bits b).toNat
def Ft (k:IntKind) (a b:Int):Int:=k.wrap (BitVec.ofInt k.bits a|||BitVec.ofInt k.bits b).toNat
def Fu (k:IntKind) (a b:Int):Int:=k.wrap (BitVec.ofInt k.bits a^^^BitVec.ofInt k.bits b).toNat
def xG (op:BinOp) (k:IntKind) (a b:Int):Option (Prop×AV):=
 match op with
 | .add=>some (True,.im (.v (.int k (k.wrap (a+b)))))
 | .sub=>some (True,.im (.v (.int k (k.wrap (a-b)))))
 | .mul=>some (True,.im (.v (.int k (k.wrap (a*b)))))
 | .quo=>some (b≠0,.im (.v (.int k (k.wrap (a.tdiv b)))))
 | .rem=>some (b≠0,.im (.v (.int k (a.tmod b))))
 | .and=>some (True,.im (.v (.int k (Fs k a b))))
 | .or=>some (True,.im (.v (.int k (Ft k a b))))
 | .xor=>some (True,.im (.v (.int k (Fu k a b))))
 | .eql=>some (True,.im (.v (.bool (a==b))))
 | .neq=>some (True,.im (.v (.bool (a !=b))))
 | .lss=>some (True,.im (.v (.bool (decide (a<b)))))
 | .leq=>some (True,.im (.v (.bool (decide (a<=b)))))
 | .gtr=>some (True,.im (.v (.bool (decide (b<a)))))
 | .geq=>some (True,.im (.v (.bool (decide (b<=a)))))
 | .shl=>some (0<=b,.im (.v (.int k (k.wrap (a*2^(min b.toNat k.bits))))))
 | .shr=>some (0<=b,.im (.v (.int k (a.fdiv (2^(min b.toNat k.bits))))))
 |_=>none
def xP (op:BinOp) (a b:ByteArray):Option (Prop×AV):=
 match op with
 | .add=>some (a.size+b.size<=9223372036854775807,.im (.v (.string (a++b))))
 | .eql=>some (True,.im (.v (.bool (a.toList==b.toList))))
 | .neq=>some (True,.im (.v (.bool (!(a.toList==b.toList)))))
 | .lss=>some (True,.im (.v (.bool (Op.bytesLess a.toList b.toList))))
 | .geq=>some (True,.im (.v (.bool (!(Op.bytesLess a.toList b.toList)))))
 | .leq=>some (True,.im (.v (.bool (Op.bytesLess a.toList b.toList||a.toList==b.toList))))
 | .gtr=>some (True,.im (.v (.bool (!(Op.bytesLess a.toList b.toList||a.toList==b.toList)))))
 |_=>none
def v7:BinOp->Bool
 | .shl| .shr=>true
 |_=>false
def uG (k:TK):AV->AV->Option Bool
 | .im (.v (.int a x)),.im (.v (.int b y))=>match k with
  | .int _=>bif decide (a=b)then some (x==y)else none
  |_=>none
 | .im (.v (.string x)),.im (.v (.string y))=>match k with
  | .str=>some (x.toList==y.toList)
  |_=>none
 | .im (.v (.bool x)),.im (.v (.bool y))=>match k with
  | .bool=>some (x==y)
  |_=>none
 |_,_=>none
def mT (P:Program) (xs ys:List AV):List (Nat×TypeId)->Option Bool
 |[]=>some true
 |(off,ty)::r=>match xs[off]?,ys[off]? with
  |some x,some y=>match uG (tk P ty) x y,mT P xs ys r with
   |some b,some c=>some (b&&c)
   |_,_=>none
  |_,_=>none
def ua:AV->Option (List AV)
 | .agg cs=>some cs
 | .ar cs=>some (cs.map .im)
 |_=>none
def DC (P:Program) (t:TypeId):Bool:=match P.underlying t with
 |some (.struct fs)=>fs.toList.all (fun f=>f.name != "_")&&!P.stoodInHeld t
 |_=>false
def qy (P:Program) (xs ys:List AV):List (Nat×TypeId)->Option Bool
 |[]=>some true
 |(off,ty)::r=>match tk P ty with
  | .struct fs=>match sz P ty,DC P ty with
   |some n,true=>match mT P ((xs.drop off).take n) ((ys.drop off).take n) fs,qy P xs ys r with
    |some b,some c=>bif decide (off+n<=xs.length)&&decide (off+n<=ys.length)then some (b&&c)else none
    |_,_=>none
   |_,_=>none
  |k=>match xs[off]?,ys[off]? with
   |some x,some y=>match uG k x y,qy P xs ys r with
    |some b,some c=>some (b&&c)
    |_,_=>none
   |_,_=>none
def kB (P:Program) (t:TypeId):Bool:=!(P.eqGuardType P.depth t)&&match P.underlying t with
 |some (.struct fs)=>fs.toList.all (fun f=>f.name != "_")&&!P.stoodInHeld t
 |some (.array _ _)=>true
 |_=>false
def tV (P:Program) (t:TypeId) (x y:AV):Option Bool:=match ua x,ua y,kB P t with
 |some xs,some ys,true=>match tk P t with
  | .struct fs=>qy P xs ys fs
  | .arr n e=>match sz P e with
   |some 1=>mT P xs ys ((List.range n).map fun i=>(i,e))
   |_=>none
  |_=>none
 |_,_,_=>none
def xo (P:Program) (op:BinOp) (t:TypeId):AV->AV->Option (Prop×AV)
 | .im (.v (.int k a)),.im (.v (.int k' b))=>bif v7 op||decide (k=k')then xG op k a b else none
 | .im (.v (.string a)),.im (.v (.string b))=>xP op a b
 | .im (.v (.bool a)),.im (.v (.bool b))=>match op,tk P t with
  | .eql,.bool=>some (True,.im (.v (.bool (a==b))))
  | .neq,.bool=>some (True,.im (.v (.bool (a !=b))))
  |_,_=>none
 |x,y=>match op with
  | .eql=>match tV P t x y with
   |some b=>some (True,.im (.v (.bool b)))
   |none=>none
  | .neq=>match tV P t x y with
   |some b=>some (True,.im (.v (.bool (!b))))
   |none=>none
  |_=>none
def xQ (op:UnOp):AV->Option (Prop×AV)
 | .im (.v (.bool b))=>match op with
  | .not=>some (True,.im (.v (.bool (!b))))
  |_=>none
 | .im (.v (.int k n))=>match op with
  | .neg=>some (True,.im (.v (.int k (k.wrap (0-n)))))
  |_=>none
 |_=>none
def pk (c x y:Bool):Bool:=bif c then x else y
theorem S4 (c y:Bool):pk c true y=(c||y):=by cases c<;>rfl
theorem S3 (c x:Bool):pk c x false=(c&&x):=by cases c<;>rfl
theorem OD (x:Bool):(x=false->(!x)=true)=True:=by cases x<;>simp
theorem OE (x:Bool):(x=true->x=true)=True:=by simp
def xO (c a b:AV):Option (Prop×AV):=match c.st with
 | .im (.v (.bool cv))=>match a.st,b.st with
  | .im (.v (.bool x)),.im (.v (.bool y))=>some (c.g=true/\(cv=true->a.g=true)/\(cv=false->b.g=true),.im (.v (.bool (pk cv x y))))
  |_,_=>match cv with
   |true=>some (c.g=true/\a.g=true,a.st)
   |false=>some (c.g=true/\b.g=true,b.st)
 |_=>none
def xp (P:Program) (src dst:TypeId):AV->Option (Prop×AV)
 | .im (.v (.int _ n))=>match tk P dst with
  | .int k=>some (True,.im (.v (.int k (k.wrap n))))
  |_=>none
 | .im (.v (.string s))=>match tk P dst with
  | .str=>some (True,.im (.v (.string s)))
  |_=>none
 |_=>none
def xH (P:Program) (t:TypeId):AV->Option (Prop×AV)
 | .im (.v (.string s))=>match tk P t with
  | .str=>some (True,.im (.v (.int .i64 s.size)))
  |_=>none
 | .im (.v (.slice none n _))=>match tk P t with
  | .slice _=>some (True,.im (.v (.int .i64 n)))
  |_=>none
 | .im (.sl _ rows)=>match tk P t with
  | .slice _=>some (True,.im (.v (.int .i64 rows.length)))
  |_=>none
 | .os _ _ _ n=>match tk P t with
  | .slice _=>some (True,.im (.v (.int .i64 n)))
  |_=>none
 |_=>none
def xx (P:Program) (t:TypeId):AV->AV->Option (Prop×AV)
 | .ar cs,.im (.v (.int _ i))=>match tk P t with
  | .arr n e=>match tk P e,sz P e with
   | .int _,some 1=>some (0<=i/\i<n/\n<=cs.length,.im (cs.getD i.toNat (.v (.bool false))))
   | .str,some 1=>some (0<=i/\i<n/\n<=cs.length,.im (cs.getD i.toNat (.v (.bool false))))
   |_,_=>none
  |_=>none
 | .im (.v (.string s)),.im (.v (.int _ i))=>match tk P t with
  | .str=>some (0<=i/\i<s.size,.im (.v (.int .u8 (s.data.toList.getD i.toNat 0).toNat)))
  |_=>none
 |_,_=>none
def xz (P:Program) (t:TypeId):AV->AV->Option (Prop×AV)
 | .im (.sl es rows),.im (.v (.int _ i))=>match tk P t with
  | .slice e=>bif decide (sz P e=some es)then some (0<=i/\i<rows.length,.im (.pt (rows.getD i.toNat [])))else none
  |_=>none
 | .os b es i0 n,.im (.v (.int _ i))=>match tk P t with
  | .slice e=>bif decide (sz P e=some es)then some (0<=i/\i<n,.oe b es (i0+i.toNat) 0)else none
  |_=>none
 | .ob b off,.im (.v (.int _ i))=>match tk P t with
  | .arr n e=>bif decide (2<=n)then match sz P e with
   |some es=>bif decide (off=0)then some (0<=i/\i<n,.oe b es i.toNat 0)else none
   |none=>none
   else none
  |_=>none
 |_,_=>none
def r4 (P:Program) (t:TypeId) (f:Nat):Option Nat:=
 match tk P t with
 | .struct fs=>match fs[f]? with
  |some (off,ty)=>match sz P ty with
   |some (n+1)=>some off
   |_=>none
  |none=>none
 |_=>none
def xw (P:Program) (t:TypeId) (f:Nat):AV->Option (Prop×AV)
 | .im (.pt cs)=>match r4 P t f with
  |some off=>some (True,.im (.pt (cs.drop off)))
  |none=>none
 | .ob b o=>match r4 P t f with
  |some off=>some (True,.ob b (o+off))
  |none=>none
 | .oe b es i j=>match r4 P t f with
  |some off=>some (True,.oe b es i (j+off))
  |none=>none
 |_=>none
def xN:AV->Option (Prop×AV)
 | .im (.pt cs)=>some (True,.im (.pt cs))
 | .ob b o=>some (True,.ob b o)
 | .oe b es i j=>some (True,.oe b es i j)
 |_=>none
def oK (P:Program) (t:TypeId) (cs:List AV):Option AV:=
 bif (tk P t).agg then some (.agg cs)else match cs with
 |[x]=>some x
 |_=>none
def rk (P:Program) (t:TypeId) (cs:List IV):Option AV:=
 match tk P t with
 | .arr _ _=>some (.ar cs)
 | .func=>match cs with
  |[.fn f fs aL]=>some (.fn f (fs.map .im) (aL.map .im))
  |_=>oK P t (cs.map .im)
 |_=>oK P t (cs.map .im)
def tX (P:Program) (H:aa) (t:TypeId):AV->Option (Prop×AV)
 | .im (.pt cs)=>match sz P t with
  |some n=>match rk P t (cs.take n)with
   |some v=>some (n<=cs.length,v)
   |none=>none
  |none=>none
 | .ob b o=>match lk H b,sz P t with
  |some (.var (.cell _) cs),some n=>match oK P t ((cs.drop o).take n)with
   |some v=>some (o+n<=cs.length,v)
   |none=>none
  |some (.vec _ _ rows),some n=>bif Nat.beq o 0 then match tk P t with
   | .arr _ _=>some (rows.flatten.length=n,.ar rows.flatten)
   |_=>none
   else none
  |_,_=>none
 | .oe b es i j=>match lk H b,sz P t with
  |some (.vec _ dL rows),some n=>bif Nat.beq es dL then match rk P t (((rows.getD i []).drop j).take n)with
   |some v=>some (i<rows.length/\j+n<=es,v)
   |none=>none
   else none
  |some (.var (.cell _) cs),some n=>match oK P t ((cs.drop (i*es+j)).take n)with
   |some v=>some (i*es+j+n<=cs.length,v)
   |none=>none
  |_,_=>none
 |_=>none
def xu (P:Program) (t:TypeId) (f:Nat):AV->Option (Prop×AV)
 | .agg cs=>match tk P t with
  | .struct fs=>match fs[f]? with
   |some (off,ty)=>match sz P ty with
    |some n=>match oK P ty ((cs.drop off).take n)with
     |some v=>some (off+n<=cs.length,v)
     |none=>none
    |none=>none
   |none=>none
  |_=>none
 |_=>none
def xr (i:Nat):AV->Option (Prop×AV)
 | .aD vs=>match vs[i]? with
  |some v=>some (True,v)
  |none=>none
 |_=>none
def rT (P:Program) (t:TypeId) (lo hi:Option AV):AV->Option (Prop×AV)
 | .im (.v (.string s))=>match tk P t,lo,hi with
  | .str,some (.im (.v (.int _ l))),some (.im (.v (.int _ h)))=>some (0<=l/\l<=h/\h<=s.size,.im (.v (.string (s.extract l.toNat h.toNat))))
  | .str,some (.im (.v (.int _ l))),none=>some (0<=l/\l<=s.size,.im (.v (.string (s.extract l.toNat s.size))))
  | .str,none,some (.im (.v (.int _ h)))=>some (0<=h/\h<=s.size,.im (.v (.string (s.extract 0 h.toNat))))
  |_,_,_=>none
 | .im (.sl es rows)=>match tk P t,lo,hi with
  | .slice e,some (.im (.v (.int _ l))),some (.im (.v (.int _ h)))=>bif decide (sz P e=some es)then some (0<=l/\l<=h/\h<=rows.length,.im (.sl es ((rows.take h.toNat).drop l.toNat)))else none
  | .slice e,some (.im (.v (.int _ l))),none=>bif decide (sz P e=some es)then some (0<=l/\l<=rows.length,.im (.sl es (rows.drop l.toNat)))else none
  | .slice e,none,some (.im (.v (.int _ h)))=>bif decide (sz P e=some es)then some (0<=h/\h<=rows.length,.im (.sl es (rows.take h.toNat)))else none
  |_,_,_=>none
 |_=>none
def xL:AV->AV->Option (Prop×AV)
 | .im (.v (.int k a)),.im (.v (.int _ b))=>some (True,.im (.v (.int k (if b<a then b else a))))
 |_,_=>none
def xJ:AV->AV->Option (Prop×AV)
 | .im (.v (.int k a)),.im (.v (.int _ b))=>some (True,.im (.v (.int k (if a<b then b else a))))
 |_,_=>none
def qp:AV->Option (List AV)
 | .agg cs=>some cs
 | .im x=>some [.im x]
 | .ob b o=>some [.ob b o]
 | .os b es i n=>some [.os b es i n]
 | .oe b es i j=>some [.oe b es i j]
 | .fn f fs aL=>some [.fn f fs aL]
 | .mp b=>some [.mp b]
 | .wr (.iface t) x=>some [.wr (.iface t) x]
 | .ar cs=>some (cs.map .im)
 |_=>none
def setAt (cs:List AV) (off:Nat):List AV->List AV
 |[]=>cs
 |x::xs=>setAt (cs.set off x) (off+1) xs
def fillParts (place:Nat->Option (Nat×Nat)) (E:Env) (cs:List AV):List (Nat×Operand)->Option (List AV)
 |[]=>some cs
 |(i,x)::rest=>match place i,ev E x with
  |some (off,n),some a=>match qp a with
   |some ys=>bif Nat.beq ys.length n&&decide (off+n<=cs.length)then fillParts place E (setAt cs off ys) rest else none
   |none=>none
  |_,_=>none
def placesOf (P:Program):List (Nat×TypeId)->Option (List (Nat×Nat))
 |[]=>some []
 |(off,ty)::r=>match sz P ty,placesOf P r with
  |some n,some l=>some ((off,n)::l)
  |_,_=>none
def aBuild (P:Program) (t:TypeId) (parts:List (Nat×Operand)) (E:Env):Option (Prop×AV):=
 match tk P t,aC P t with
 | .struct fs,some z=>match placesOf P fs with
  |some pl=>match fillParts (fun i=>pl[i]?) E (z.map fun c=> .im (.v c)) parts with
   |some cs=>bif z.all Value.oneCell' then some (True,.agg cs)else none
   |none=>none
  |none=>none
 | .arr _ e,some z=>match sz P e with
  |some n=>match fillParts (fun i=>some (i*n,n)) E (z.map fun c=> .im (.v c)) parts with
   |some cs=>bif z.all Value.oneCell' then some (True,.agg cs)else none
   |none=>none
  |none=>none
 |_,_=>none
def eJ (P:Program) (E:Env) (H:aa):Op->Option (Prop×AV)
 | .move x=>match ev E x with
  |some a=>some (True,a)
  |none=>none
 | .assign x=>match ev E x with
  |some a=>some (True,a)
  |none=>none
 | .pick c a b=>match ev E c,ev E a,ev E b with
  |some c,some a,some b=>xO c a b
  |_,_,_=>none
 | .binOp op t x y _=>bi (xo P op t) (ev E x) (ev E y)
 | .unOp op _ x=>un (xQ op) (ev E x)
 | .convert s d x=>un (fun a=>match(P.underlying s).isSome with
  |true=>xp P s d a
  |false=>none) (ev E x)
 | .nilCheck x=>un xN (ev E x)
 | .index t x i=>bi (xx P t) (ev E x) (ev E i)
 | .indexAddr t x i=>bi (xz P t) (ev E x) (ev E i)
 | .fieldAddr t x f=>un (xw P t f) (ev E x)
 | .field t x f=>un (xu P t f) (ev E x)
 | .load t x=>un (tX P H t) (ev E x)
 | .extract x i=>un (xr i) (ev E x)
 | .build t parts=>aBuild P t parts.toList E
 | .call {callee:= .builtin .len,args:=args,argTypes:=ts}=>match args.toList,ts.toList with
  |[x],[t]=>un (xH P t) (ev E x)
  |_,_=>none
 | .call {callee:= .builtin .min,args:=args,.. }=>match args.toList with
  |[x,y]=>bi xL (ev E x) (ev E y)
  |_=>none
 | .call {callee:= .builtin .max,args:=args,.. }=>match args.toList with
  |[x,y]=>bi xJ (ev E x) (ev E y)
  |_=>none
 | .slice t x lo hi none=>match lo,hi with
  |some l,some h=>match ev E l,ev E h with
   |some l,some h=>un (rT P t (some l) (some h)) (ev E x)
   |_,_=>none
  |some l,none=>match ev E l with
   |some l=>un (rT P t (some l) none) (ev E x)
   |none=>none
  |none,some h=>match ev E h with
   |some h=>un (rT P t none (some h)) (ev E x)
   |none=>none
  |none,none=>none
 |_=>none
section
variable {P:Program} {w:World} {φ:aq} {I:Nat->Prop}
def dY (P:Program) (w:World) (s:Sem Value) (φ:aq) (I:Nat->Prop) (v:AV):Prop:=∃u,s.run P w= .ok u w/\AV.den w φ I v u
theorem oX {t:TypeId} {d:TK} (h:tk P t=d) (hd:d≠ .other):∃u,P.underlying t=some u/\TK.of u=d:=by
 unfold tk at h
 cases hu:P.underlying t with
 |none=>rw[hu]at h;exact absurd h.symm hd
 |some u=>rw[hu]at h;exact⟨u,rfl,h⟩
theorem rK {t:TypeId} {k:IntKind} (h:tk P t= .int k):P.underlying t=some (.int k):=by
 obtain⟨u,hu,hk⟩:=oX h (by simp)
 cases u<;>simp[TK.of]at hk
 subst hk;exact hu
theorem EA {t:TypeId} (h:tk P t= .bool):P.underlying t=some .bool:=by
 obtain⟨u,hu,hk⟩:=oX h (by simp)
 cases u<;>simp[TK.of]at hk
 exact hu
theorem k9 {t:TypeId} (h:tk P t= .str):P.underlying t=some .string:=by
 obtain⟨u,hu,hk⟩:=oX h (by simp)
 cases u<;>simp[TK.of]at hk
 exact hu
theorem eV {t e:TypeId} (h:tk P t= .slice e):P.underlying t=some (.slice e):=by
 obtain⟨u,hu,hk⟩:=oX h (by simp)
 cases u<;>simp[TK.of]at hk
 subst hk;exact hu
theorem rJ {t e:TypeId} {n:Nat} (h:tk P t= .arr n e):P.underlying t=some (.array n e):=by
 obtain⟨u,hu,hk⟩:=oX h (by simp)
 cases u<;>simp[TK.of]at hk
 obtain⟨rfl,rfl⟩:=hk;exact hu
theorem w8 {t:TypeId} {fs:List (Nat×TypeId)} (h:tk P t= .struct fs):∃F:Array Field,P.underlying t=some (.struct F)/\F.toList.map (fun f=>(f.offset,f.type))=fs:=by
 obtain⟨u,hu,hk⟩:=oX h (by simp)
 cases u<;>simp[TK.of]at hk
 exact⟨_,hu,hk⟩
theorem lW {t:TypeId} {n:Nat} (h:sz P t=some n):(∃u,P.underlying t=some u)/\∃i,P.info? t=some i/\i.size=n:=by
 unfold sz at h
 cases hu:P.underlying t with
 |none=>rw[hu]at h;cases h
 |some u=>
  rw[hu]at h
  simp only[Option.bind_some]at h
  cases hi:P.info? t with
  |none=>rw[hi]at h;cases h
  |some i=>rw[hi]at h;exact⟨⟨u,rfl⟩,i,rfl,by simpa using h⟩
theorem La {t:TypeId} {n:Nat} (h:sz P t=some n):∃i,P.info? t=some i/\i.size=n:=(lW h).2
theorem run_sizeOf {t:TypeId} {n:Nat} (h:sz P t=some n) (w:World):(sizeOf t).run P w= .ok n w:=by
 obtain⟨i,hi,rfl⟩:=La h
 simp[sizeOf,typeInfo,hi]
theorem pf {x:Bool} {u:Value}:AV.den w φ I (.im (.v (.bool x))) u↔u= .bool x:=by simp[AV.den,IV.den,Value.oneCell']
theorem fF {k:IntKind} {n:Int} {u:Value}:AV.den w φ I (.im (.v (.int k n))) u↔u= .int k n:=by simp[AV.den,IV.den,Value.oneCell']
theorem kA {s:ByteArray} {u:Value}:AV.den w φ I (.im (.v (.string s))) u↔u= .string s:=by simp[AV.den,IV.den,Value.oneCell']
theorem Mt {op:BinOp} {k k':IntKind} {t:TypeId} {a b:Int} {sc:Prop} {v:AV} (h:xG op k a b=some (sc,v)) (aB:sc) (hk:v7 op=true\/k=k'):
  dY P w (binOp op t (.int k a) (.int k' b)) φ I v:=by
 cases op<;>simp only[xG,Option.some.injEq,Prod.mk.injEq,reduceCtorEq]at h<;>obtain⟨rfl,rfl⟩:=h
 all_goals first
  |(
    have mq:k=k':=hk.resolve_left (by simp[v7])
    subst mq
    refine⟨_,?_,(by simp only[AV.den,IV.den];exact⟨rfl,rfl⟩)⟩
    simp[binOp,Op.intArith,Op.intDiv,Op.intBits,Op.intCmp,Fs,Ft,Fu,aB]
    done)
  |(
    refine⟨_,?_,(by simp only[AV.den,IV.den];exact⟨rfl,rfl⟩)⟩
    have hn:¬b<0:=by omega
    simp[binOp,Op.shift,hn])
end
theorem addr_add (g o j:Nat):(⟨g,o,none⟩:Addr).add j=⟨g,o+j,none⟩:=by unfold Addr.add;split<;>simp_all
theorem RE {a:Act} {t:Tmp} {u:Value} (h:a.tmps[t]?=some u):a.eval (.tmp t)=u:=by
 simp only[Act.eval,Array.getD_eq_getD_getElem?,h,Option.getD_some]
section
variable {P:Program} {w:World} {φ:aq} {I:Nat->Prop} {E:Env} {H:aa} {a:Act}
theorem uC:∀(l:List Value),l.all Value.oneCell'=true->AV.ab w φ I (l.map fun c=> .im (.v c)) l
 |[],_=>by simp[AV.ab]
 |x::l,h=>by
  simp only[List.all_cons,Bool.and_eq_true]at h
  simp only[List.map_cons,AV.ab]
  exact⟨x,l,rfl,by simp only[AV.den,IV.den];exact⟨by simp,h.1⟩,uC l h.2⟩
theorem NN (x:Value):AV.den w φ I (bH x) x:=by
 cases x with
 |agg cs=>
  simp only[bH]
  cases h:cs.toList.all Value.oneCell' with
  |true=>
   simp only[cond_true,AV.den]
   exact⟨cs.toList,uC _ h,by simp,List.all_eq_true.1 h⟩
  |false=>simp[AV.den]
 |tuple _=>simp[bH,AV.den]
 |_=>simp[bH,AV.den,IV.den,Value.oneCell']
theorem aX (hE:dB w φ I E a) {x:Operand} {v:AV} (h:ev E x=some v):AV.den w φ I v (a.eval x):=by
 cases x with
 |tmp t=>
  obtain⟨u,hu,hd⟩:=hE t v h
  rw[RE hu];exact hd
 |const c=>simp only[ev,Option.some.injEq]at h;subst h;exact NN c
 |func f=>simp only[ev,Option.some.injEq]at h;subst h;simp only[AV.den,AV.ab,Act.eval];exact⟨[],[],rfl,rfl,rfl⟩
 |global g=>simp[ev]at h
theorem ck {v:AV} {u:Value} (h:AV.den w φ I v u) (hg:v.g=true):AV.den w φ I v.st u:=by
 cases v<;>first|exact h|(simp only[AV.den,AV.g]at h hg;exact h.1 hg)
theorem iU {f:AV->Option (Prop×AV)} {x:Option AV} {sc:Prop} {v:AV} (h:un f x=some (sc,v)) (aB:sc):∃a cM,x=some a/\f a.st=some (cM,v)/\cM/\a.g=true:=by
 unfold un at h
 split at h
 ·split at h
  ·rename_i a cM v' hf
   simp only[Option.some.injEq,Prod.mk.injEq]at h
   obtain⟨rfl,rfl⟩:=h
   exact⟨_,cM,rfl,hf,aB.2,aB.1⟩
  ·cases h
 ·cases h
theorem mP {f:AV->AV->Option (Prop×AV)} {x y:Option AV} {sc:Prop} {v:AV} (h:bi f x y=some (sc,v)) (aB:sc):
  ∃a b cM,x=some a/\y=some b/\f a.st b.st=some (cM,v)/\cM/\a.g=true/\b.g=true:=by
 unfold bi at h
 split at h
 ·split at h
  ·rename_i a b cM v' hf
   simp only[Option.some.injEq,Prod.mk.injEq]at h
   obtain⟨rfl,rfl⟩:=h
   exact⟨_,_,cM,rfl,rfl,hf,aB.2.2,aB.1,aB.2.1⟩
  ·cases h
 ·cases h
theorem nV {x:Bool}:AV.den w φ I (.im (.v (.bool x))) (.bool x):=by simp[AV.den,IV.den,Value.oneCell']
theorem mR {k:IntKind} {n:Int}:AV.den w φ I (.im (.v (.int k n))) (.int k n):=by simp[AV.den,IV.den,Value.oneCell']
theorem nW {s:ByteArray}:AV.den w φ I (.im (.v (.string s))) (.string s):=by simp[AV.den,IV.den,Value.oneCell']
theorem MB {op:BinOp} {t:TypeId} {a b:ByteArray} {sc:Prop} {v:AV} (h:xP op a b=some (sc,v)) (aB:sc):
  dY P w (binOp op t (.string a) (.string b)) φ I v:=by
 cases op<;>simp only[xP,Option.some.injEq,Prod.mk.injEq,reduceCtorEq]at h<;>obtain⟨rfl,rfl⟩:=h
 all_goals first
  |(refine⟨_,?_,nV⟩;simp[binOp,Op.stringOp];done)
  |(
    refine⟨_,?_,nW⟩
    have hn:¬((a.size+b.size:Nat):Int)>IntKind.i64.max:=by simp only[IntKind.max,IntKind.signed,IntKind.bits];simp;omega
    simp[binOp,Op.stringOp]at hn⊢
    omega)
theorem rZ (op:BinOp) (t:TypeId) (x y:Operand) (p q:Value) (h1:∀c,p≠ .agg c) (h2:p≠ .nilIface) (w:World):(eqGuard op t x y p q).run P w= .ok () w:=by
 unfold eqGuard
 cases op<;>first|rfl|(cases p<;>first|rfl|exact absurd rfl (h1 _)|exact absurd rfl h2)
theorem run_equalIn_bool (d:Nat) {t:TypeId} (a b:Bool) (ht:P.underlying t=some .bool):(Op.equalIn (d+1) t (.bool a) (.bool b)).run P w= .ok (a==b) w:=by
 simp[Op.equalIn,run_underlying ht]
theorem run_equal_bool {t:TypeId} (a b:Bool) (ht:P.underlying t=some .bool):(Op.equal t (.bool a) (.bool b)).run P w= .ok (a==b) w:=run_equalIn_bool 9999 a b ht
theorem iB:∀(xs:List AV) (us:List Value) (i:Nat) (x:AV),AV.ab w φ I xs us->xs[i]?=some x->∃u,us[i]?=some u/\AV.den w φ I x u
 |[],_,_,_,_,h=>by simp at h
 |y::ys,us,i,x,hd,h=>by
  simp only[AV.ab]at hd
  obtain⟨u,au,rfl,h1,h2⟩:=hd
  cases i with
  |zero=>simp at h;subst h;exact⟨u,by simp,h1⟩
  |succ i=>simpa using iB ys au i x h2 (by simpa using h)
theorem Bn {t:TypeId} {x y:AV} {p q:Value} {b:Bool} (h:uG (tk P t) x y=some b) (hx:AV.den w φ I x p) (hy:AV.den w φ I y q) (d:Nat):
  P.plainKey t=true/\(Op.equalIn (d+1) t p q).run P w= .ok b w:=by
 unfold uG at h
 split at h
 ·rw[fF]at hx hy
  subst hx;subst hy
  split at h
  ·rename_i ht
   have hu:=rK ht
   rename_i k x1 a y1 _ _
   cases hk:decide (k=a)with
   |false=>rw[hk]at h;simp at h
   |true=>
    rw[hk]at h
    simp only[cond_true,Option.some.injEq]at h
    have:=of_decide_eq_true hk
    subst this;subst h
    exact⟨by simp[Program.plainKey,hu],by simp[Op.equalIn,run_underlying hu]⟩
  ·cases h
 ·rw[kA]at hx hy
  subst hx;subst hy
  split at h
  ·rename_i ht
   have hu:=k9 ht
   simp only[Option.some.injEq]at h
   subst h
   refine⟨by simp[Program.plainKey,hu],?_⟩
   simp only[Op.equalIn,Sem.run_bind,run_underlying hu,Result.andThen_ok,Sem.run_pure,beq_toListBytes]
  ·cases h
 ·rw[pf]at hx hy
  subst hx;subst hy
  split at h
  ·rename_i ht
   have hu:=EA ht
   simp only[Option.some.injEq]at h
   subst h
   exact⟨by simp[Program.plainKey,hu],run_equalIn_bool d _ _ hu⟩
  ·cases h
 ·cases h
theorem Gn {xs ys:List AV} {us vs:List Value} (hx:AV.ab w φ I xs us) (hy:AV.ab w φ I ys vs) (d:Nat):∀(F:List Field) (b:Bool),mT P xs ys (F.map fun f=>(f.offset,f.type))=some b->(∀f∈F,f.name≠ "_")->
  (Op.eqFields (d+1) us.toArray vs.toArray F).run P w= .ok b w
 |[],b,h,_=>by
  simp only[List.map_nil,mT,Option.some.injEq]at h
  subst h;simp[Op.eqFields]
 |f::F,b,h,hn=>by
  simp only[List.map_cons,mT]at h
  split at h
  ·rename_i x y ex ey
   split at h
   ·rename_i b1 b2 h1 h2
    simp only[Option.some.injEq]at h
    subst h
    obtain⟨u,hu,c8⟩:=iB _ _ _ _ hx ex
    obtain⟨v,hv,b9⟩:=iB _ _ _ _ hy ey
    obtain⟨hp,he⟩:=Bn (P:=P) h1 c8 b9 d
    have hr:=Gn hx hy d F b2 h2 (fun g hg=>hn g (by simp[hg]))
    have p1:=run_part_plain w hp (xs:=us.toArray) (off:=f.offset) (v:=u) (by simpa using hu)
    have p2:=run_part_plain w hp (xs:=vs.toArray) (off:=f.offset) (v:=v) (by simpa using hv)
    have yV:=hn f (by simp)
    simp only[Op.eqFields,yV,ne_eq,not_false_eq_true,if_true,Sem.run_bind,p1,p2,he,Result.andThen_ok]
    cases b1<;>simp[hr]
   ·cases h
  ·cases h
theorem F7 {xs:List AV} {us:List Value}:∀n,AV.ab w φ I xs us->AV.ab w φ I (xs.take n) (us.take n):=by
 induction xs generalizing us with
 |nil=>intro n h;simp only[AV.ab]at h;subst h;simp[AV.ab]
 |cons x xs ih=>
  intro n h
  simp only[AV.ab]at h
  obtain⟨u,au,rfl,h1,h2⟩:=h
  cases n with
  |zero=>simp[AV.ab]
  |succ n=>simp only[List.take_succ_cons,AV.ab];exact⟨u,_,rfl,h1,ih n h2⟩
theorem F1 {xs:List AV} {us:List Value}:∀n,AV.ab w φ I xs us->AV.ab w φ I (xs.drop n) (us.drop n):=by
 induction xs generalizing us with
 |nil=>intro n h;simp only[AV.ab]at h;subst h;simp[AV.ab]
 |cons x xs ih=>
  intro n h
  have h0:=h
  simp only[AV.ab]at h
  obtain⟨u,au,rfl,h1,h2⟩:=h
  cases n with
  |zero=>exact h0
  |succ n=>simp only[List.drop_succ_cons];exact ih n h2
theorem KB {t:TypeId} {n off:Nat} {us:List Value} (ht:(tk P t).agg=true) (hs:sz P t=some n):(part t us.toArray off).run P w= .ok (.agg ((us.drop off).take n).toArray) w:=by
 obtain⟨⟨u,hu⟩,i,hi,a7⟩:=lW hs
 have ha:(isAgg t).run P w= .ok true w:=by
  unfold tk at ht
  rw[hu]at ht
  simp only[isAgg,Sem.run_bind,run_underlying hu,Result.andThen_ok]
  cases u<;>simp_all [TK.of,TK.agg]
 simp only[part,Sem.run_bind,ha,Result.andThen_ok,if_true,run_sizeOf hs,Sem.run_pure]
 have:(us.toArray.extract off (off+n))=((us.drop off).take n).toArray:=by simp
 rw[this]
theorem Bo {xs ys:List AV} {us vs:List Value} (hx:AV.ab w φ I xs us) (hy:AV.ab w φ I ys vs) (d:Nat):∀(F:List Field) (b:Bool),qy P xs ys (F.map fun f=>(f.offset,f.type))=some b->(∀f∈F,f.name≠ "_")->
  (Op.eqFields (d+2) us.toArray vs.toArray F).run P w= .ok b w
 |[],b,h,_=>by
  simp only[List.map_nil,qy,Option.some.injEq]at h
  subst h;simp[Op.eqFields]
 |f::F,b,h,hn=>by
  simp only[List.map_cons,qy]at h
  have yV:=hn f (by simp)
  split at h
  ·rename_i fs ht
   split at h
   ·rename_i n a7 al
    split at h
    ·rename_i b1 b2 h1 h2
     cases hq:(decide (f.offset+n<=xs.length)&&decide (f.offset+n<=ys.length))with
     |false=>rw[hq]at h;simp at h
     |true=>
      rw[hq]at h
      simp only[cond_true,Option.some.injEq]at h
      subst h
      have hr:=Bo hx hy d F b2 h2 (fun g hg=>hn g (by simp[hg]))
      obtain⟨F',hu,hF⟩:=w8 ht
      unfold DC at al
      rw[hu]at al
      simp only[Bool.and_eq_true,Bool.not_eq_true',List.all_eq_true,bne_iff_ne,ne_eq]at al
      have lB:P.fieldsOf f.type=F':=by simp[Program.fieldsOf,hu]
      have p1:=KB (w:=w) (us:=us) (off:=f.offset) (by rw[ht];rfl) a7
      have p2:=KB (w:=w) (us:=vs) (off:=f.offset) (by rw[ht];rfl) a7
      have he:=Gn (P:=P) (F7 n (F1 f.offset hx)) (F7 n (F1 f.offset hy)) d F'.toList b1 (by rw[hF];exact h1) al.1
      have yJ:=run_equalIn_struct w (d+1) f.type ((us.drop f.offset).take n).toArray ((vs.drop f.offset).take n).toArray (by rw[lB];exact hu) al.2
      rw[lB,he]at yJ
      simp only[Op.eqFields,yV,ne_eq,not_false_eq_true,if_true,Sem.run_bind,p1,p2,yJ,Result.andThen_ok]
      cases b1<;>simp[hr]
    ·cases h
   ·cases h
  ·split at h
   ·rename_i x y ex ey
    split at h
    ·rename_i b1 b2 h1 h2
     simp only[Option.some.injEq]at h
     subst h
     obtain⟨u,hu,c8⟩:=iB _ _ _ _ hx ex
     obtain⟨v,hv,b9⟩:=iB _ _ _ _ hy ey
     obtain⟨hp,he⟩:=Bn (P:=P) h1 c8 b9 (d+1)
     have hr:=Bo hx hy d F b2 h2 (fun g hg=>hn g (by simp[hg]))
     have p1:=run_part_plain w hp (xs:=us.toArray) (off:=f.offset) (v:=u) (by simpa using hu)
     have p2:=run_part_plain w hp (xs:=vs.toArray) (off:=f.offset) (v:=v) (by simpa using hv)
     simp only[Op.eqFields,yV,ne_eq,not_false_eq_true,if_true,Sem.run_bind,p1,p2,he,Result.andThen_ok]
     cases b1<;>simp[hr]
    ·cases h
   ·cases h
theorem Gp {xs ys:List AV} {us vs:List Value} (hx:AV.ab w φ I xs us) (hy:AV.ab w φ I ys vs) (d:Nat) (e:TypeId):∀(is:List Nat) (b:Bool),mT P xs ys (is.map fun i=>(i,e))=some b->
  (Op.eqItems (d+1) e 1 us.toArray vs.toArray is).run P w= .ok b w
 |[],b,h=>by
  simp only[List.map_nil,mT,Option.some.injEq]at h
  subst h;simp[Op.eqItems]
 |i::is,b,h=>by
  simp only[List.map_cons,mT]at h
  split at h
  ·rename_i x y ex ey
   split at h
   ·rename_i b1 b2 h1 h2
    simp only[Option.some.injEq]at h
    subst h
    obtain⟨u,hu,c8⟩:=iB _ _ _ _ hx ex
    obtain⟨v,hv,b9⟩:=iB _ _ _ _ hy ey
    obtain⟨hp,he⟩:=Bn (P:=P) h1 c8 b9 d
    have hr:=Gp hx hy d e is b2 h2
    have p1:=run_part_plain w hp (xs:=us.toArray) (off:=i) (v:=u) (by simpa using hu)
    have p2:=run_part_plain w hp (xs:=vs.toArray) (off:=i) (v:=v) (by simpa using hv)
    simp only[Op.eqItems,Nat.mul_one,Sem.run_bind,p1,p2,he,Result.andThen_ok]
    cases b1<;>simp[hr]
   ·cases h
  ·cases h
theorem Fe {x:AV} {xs:List AV} {p:Value} (h:ua x=some xs) (hx:AV.den w φ I x p):∃us:List Value,p= .agg us.toArray/\AV.ab w φ I xs us:=by
 unfold ua at h
 split at h
 ·simp only[Option.some.injEq]at h
  subst h
  simp only[AV.den]at hx
  obtain⟨us,h1,h2,_⟩:=hx
  exact⟨us,h2,h1⟩
 ·simp only[Option.some.injEq]at h
  subst h
  simp only[AV.den]at hx
  obtain⟨us,h1,h2⟩:=hx
  refine⟨us,h2,?_⟩
  have:∀(cs:List IV) (us:List Value),IV.ab w I cs us->AV.ab w φ I (cs.map .im) us:=by
   intro cs
   induction cs with
   |nil=>intro us h;simpa only[IV.ab,AV.ab,List.map_nil]using h
   |cons c cs ih=>
    intro us h
    simp only[IV.ab]at h
    obtain⟨u,au,rfl,h1,h2⟩:=h
    simp only[List.map_cons,AV.ab]
    exact⟨u,au,rfl,by simpa only[AV.den]using h1,ih au h2⟩
  exact this _ _ h1
 ·cases h
theorem E4 {t:TypeId} {x y:AV} {p q:Value} {b:Bool} (h:tV P t x y=some b) (hx:AV.den w φ I x p) (hy:AV.den w φ I y q):
  ∃us vs:Array Value,p= .agg us/\q= .agg vs/\P.eqGuardType P.depth t=false/\(Op.equalIn 10000 t (.agg us) (.agg vs)).run P w= .ok b w:=by
 unfold tV at h
 split at h
 ·rename_i xs ys ex ey al
  obtain⟨us,rfl,lL⟩:=Fe ex hx
  obtain⟨vs,rfl,za⟩:=Fe ey hy
  unfold kB at al
  simp only[Bool.and_eq_true,Bool.not_eq_true']at al
  refine⟨_,_,rfl,rfl,al.1,?_⟩
  split at h
  ·rename_i fs ht
   obtain⟨F,hu,hF⟩:=w8 ht
   have h2:=al.2
   rw[hu]at h2
   simp only[Bool.and_eq_true,Bool.not_eq_true',List.all_eq_true,bne_iff_ne,ne_eq]at h2
   have lB:P.fieldsOf t=F:=by simp[Program.fieldsOf,hu]
   rw[run_equalIn_struct w 9999 t _ _ (by rw[lB];exact hu) h2.2,lB]
   exact Bo lL za 9997 F.toList b (by rw[hF];exact h) h2.1
  ·rename_i n e ht
   have hu:=rJ ht
   split at h
   ·rename_i hs
    obtain⟨i,hi,a7⟩:=La hs
    have hc:P.cellsOf e=1:=by simp[Program.cellsOf,hi,a7]
    rw[run_equalIn_array w 9999 _ _ hu hi,hc]
    exact Gp lL za 9998 e _ b h
   ·cases h
  ·cases h
 ·cases h
theorem Mi {op:BinOp} {t:TypeId} {x y:AV} {p q:Value} {ox oy:Operand} {sc:Prop} {v:AV} (h:xo P op t x y=some (sc,v)) (aB:sc) (hx:AV.den w φ I x p) (hy:AV.den w φ I y q):
  dY P w (do eqGuard op t ox oy p q;binOp op t p q) φ I v:=by
 unfold xo at h
 split at h
 ·rename_i k a k' b
  rw[fF]at hx hy
  subst hx;subst hy
  cases hc:(v7 op||decide (k=k'))with
  |false=>rw[hc]at h;simp at h
  |true=>
   rw[hc]at h
   simp only[cond_true]at h
   obtain⟨u,hu,hd⟩:=Mt (P:=P) (w:=w) (φ:=φ) (I:=I) (t:=t) h aB (by simpa using hc)
   refine⟨u,?_,hd⟩
   simp[rZ,hu]
 ·rename_i a b
  rw[kA]at hx hy
  subst hx;subst hy
  obtain⟨u,hu,hd⟩:=MB (P:=P) (w:=w) (φ:=φ) (I:=I) (t:=t) h aB
  refine⟨u,?_,hd⟩
  simp[rZ,hu]
 ·rename_i a b
  rw[pf]at hx hy
  subst hx;subst hy
  split at h
  ·rename_i ht
   simp only[Option.some.injEq,Prod.mk.injEq]at h
   obtain⟨_,rfl⟩:=h
   refine⟨_,?_,nV⟩
   simp only[Sem.run_bind,rZ _ _ _ _ (.bool a) _ (by simp) (by simp),Result.andThen_ok,binOp,run_equal_bool a b (EA ht),Sem.run_pure]
  ·rename_i ht
   simp only[Option.some.injEq,Prod.mk.injEq]at h
   obtain⟨_,rfl⟩:=h
   refine⟨_,?_,nV⟩
   simp only[Sem.run_bind,rZ _ _ _ _ (.bool a) _ (by simp) (by simp),Result.andThen_ok,binOp,run_equal_bool a b (EA ht),Sem.run_pure]
   rfl
  ·cases h
 ·split at h
  ·split at h
   ·rename_i b hb
    simp only[Option.some.injEq,Prod.mk.injEq]at h
    obtain⟨_,rfl⟩:=h
    obtain⟨us,vs,rfl,rfl,hg,hr⟩:=E4 hb hx hy
    refine⟨_,?_,nV⟩
    simp only[Sem.run_bind,run_eqGuard_agg _ _ _ _ _ _ _ hg,Result.andThen_ok,run_eql_struct,hr]
   ·cases h
  ·split at h
   ·rename_i b hb
    simp only[Option.some.injEq,Prod.mk.injEq]at h
    obtain⟨_,rfl⟩:=h
    obtain⟨us,vs,rfl,rfl,hg,hr⟩:=E4 hb hx hy
    refine⟨_,?_,nV⟩
    simp only[Sem.run_bind,run_eqGuard_agg _ _ _ _ _ _ _ hg,Result.andThen_ok,run_neq_struct,hr]
   ·cases h
  ·cases h
theorem MC {op:UnOp} {x:AV} {p:Value} {sc:Prop} {v:AV} (h:xQ op x=some (sc,v)) (hx:AV.den w φ I x p):dY P w (Op.unary op p) φ I v:=by
 unfold xQ at h
 split at h
 ·rw[pf]at hx
  subst hx
  split at h
  ·simp only[Option.some.injEq,Prod.mk.injEq]at h
   obtain⟨_,rfl⟩:=h
   exact⟨_,by simp[Op.unary],nV⟩
  ·cases h
 ·rw[fF]at hx
  subst hx
  split at h
  ·simp only[Option.some.injEq,Prod.mk.injEq]at h
   obtain⟨_,rfl⟩:=h
   exact⟨_,by simp[Op.unary,Op.intArith],mR⟩
  ·cases h
 ·cases h
theorem Mm {s d:TypeId} {x:AV} {p:Value} {sc:Prop} {v:AV} (h:xp P s d x=some (sc,v)) (hx:AV.den w φ I x p) (hs:∃u,P.underlying s=some u):dY P w (convert s d p) φ I v:=by
 obtain⟨su,sO⟩:=hs
 unfold xp at h
 split at h
 ·rw[fF]at hx
  subst hx
  split at h
  ·rename_i hk
   simp only[Option.some.injEq,Prod.mk.injEq]at h
   obtain⟨_,rfl⟩:=h
   exact⟨_,by simp[convert,run_underlying sO,run_underlying (rK hk),Conv.intToInt],mR⟩
  ·cases h
 ·rw[kA]at hx
  subst hx
  split at h
  ·rename_i hk
   simp only[Option.some.injEq,Prod.mk.injEq]at h
   obtain⟨_,rfl⟩:=h
   exact⟨_,by simp[convert,run_underlying sO,run_underlying (k9 hk)],nW⟩
  ·cases h
 ·cases h
theorem Mu {t ty:TypeId} {x:AV} {p:Value} {sc:Prop} {v:AV} (h:xH P t x=some (sc,v)) (hx:AV.den w φ I x p):dY P w (Builtin.len_ #[t] ty #[p]) φ I v:=by
 unfold xH at h
 split at h
 ·rw[kA]at hx
  subst hx
  split at h
  ·rename_i hk
   simp only[Option.some.injEq,Prod.mk.injEq]at h
   obtain⟨_,rfl⟩:=h
   exact⟨_,by simp[Builtin.len_,run_underlying (k9 hk),goInt],mR⟩
  ·cases h
 ·simp only[AV.den,IV.den]at hx
  obtain⟨rfl,_⟩:=hx
  split at h
  ·rename_i hk
   simp only[Option.some.injEq,Prod.mk.injEq]at h
   obtain⟨_,rfl⟩:=h
   exact⟨_,by simp[Builtin.len_,run_underlying (eV hk),goInt],mR⟩
  ·cases h
 ·simp only[AV.den,IV.den]at hx
  obtain⟨q,c,ag,rfl,_⟩:=hx
  split at h
  ·rename_i hk
   simp only[Option.some.injEq,Prod.mk.injEq]at h
   obtain⟨_,rfl⟩:=h
   exact⟨_,by simp[Builtin.len_,run_underlying (eV hk),goInt],mR⟩
  ·cases h
 ·simp only[AV.den]at hx
  split at h
  ·rename_i hk
   simp only[Option.some.injEq,Prod.mk.injEq]at h
   obtain⟨_,rfl⟩:=h
   rcases hx with⟨_,rfl,rfl,rfl⟩|⟨g,c,_,rfl,_⟩
   ·exact⟨_,by simp[Builtin.len_,run_underlying (eV hk),goInt],mR⟩
   ·exact⟨_,by simp[Builtin.len_,run_underlying (eV hk),goInt],mR⟩
  ·cases h
 ·cases h
theorem flat_get:∀(ag:List (List Value)) (es i j:Nat) (vs:List Value) (u:Value),(∀vs∈ag,vs.length=es)->ag[i]?=some vs->vs[j]?=some u->ag.flatten[i*es+j]?=some u
 |[],_,_,_,_,_,_,h,_=>by simp at h
 |x::xs,es,0,j,vs,u,hl,h,hj=>by
  simp at h;subst h
  have ah:j<x.length:=by
   rcases Nat.lt_or_ge j x.length with h|h
   ·exact h
   ·rw[List.getElem?_eq_none h]at hj;cases hj
  simp[List.flatten_cons,List.getElem?_append_left ah,hj]
 |x::xs,es,i+1,j,vs,u,hl,h,hj=>by
  have hx:x.length=es:=hl x (by simp)
  have:=flat_get xs es i j vs u (fun vs hv=>hl vs (by simp[hv])) (by simpa using h) hj
  rw[List.flatten_cons,List.getElem?_append_right (by rw[hx];have:=Nat.add_mul i 1 es;omega)]
  rw[hx,show(i+1)*es+j-es=i*es+j by have:=Nat.add_mul i 1 es;omega]
  exact this
theorem yh:∀(rows:List (List IV)) (ag:List (List Value)) (i:Nat) (r:List IV),IV.aQ w I rows ag->rows[i]?=some r->∃vs,ag[i]?=some vs/\IV.ab w I r vs
 |[],_,_,_,_,h=>by simp at h
 |x::xs,ag,i,r,hd,h=>by
  simp only[IV.aQ]at hd
  obtain⟨u,au,rfl,h1,h2⟩:=hd
  cases i with
  |zero=>simp at h;subst h;exact⟨u,by simp,h1⟩
  |succ i=>simpa using yh xs au i r h2 (by simpa using h)
theorem j0:∀(rows:List (List IV)) (ag:List (List Value)),IV.aQ w I rows ag->ag.length=rows.length
 |[],ag,h=>by simp only[IV.aQ]at h;simp[h]
 |x::xs,ag,h=>by
  simp only[IV.aQ]at h
  obtain⟨u,au,rfl,h1,h2⟩:=h
  simp[j0 xs au h2]
theorem oE:∀(xs:List IV) (us:List Value),IV.ab w I xs us->us.length=xs.length
 |[],us,h=>by simp only[IV.ab]at h;simp[h]
 |x::xs,us,h=>by
  simp only[IV.ab]at h
  obtain⟨u,au,rfl,h1,h2⟩:=h
  simp[oE xs au h2]
theorem iC:∀(xs:List AV) (us:List Value),AV.ab w φ I xs us->us.length=xs.length
 |[],us,h=>by simp only[AV.ab]at h;simp[h]
 |x::xs,us,h=>by
  simp only[AV.ab]at h
  obtain⟨u,au,rfl,h1,h2⟩:=h
  simp[iC xs au h2]
theorem sW:∀(k:Nat) (xs:List IV) (us:List Value),IV.ab w I xs us->IV.ab w I (xs.drop k) (us.drop k)
 |0,_,_,h=>by simpa using h
 |k+1,[],us,h=>by simp only[IV.ab]at h;subst h;simp[IV.ab]
 |k+1,x::xs,us,h=>by
  simp only[IV.ab]at h
  obtain⟨u,au,rfl,h1,h2⟩:=h
  simpa using sW k xs au h2
theorem zc:∀(k:Nat) (xs:List IV) (us:List Value),IV.ab w I xs us->IV.ab w I (xs.take k) (us.take k)
 |0,_,_,h=>by simp[IV.ab]
 |k+1,[],us,h=>by simp only[IV.ab]at h;subst h;simp[IV.ab]
 |k+1,x::xs,us,h=>by
  simp only[IV.ab]at h
  obtain⟨u,au,rfl,h1,h2⟩:=h
  simp only[List.take_succ_cons,IV.ab]
  exact⟨u,_,rfl,h1,zc k xs au h2⟩
theorem xU:∀(k:Nat) (xs:List AV) (us:List Value),AV.ab w φ I xs us->AV.ab w φ I (xs.drop k) (us.drop k)
 |0,_,_,h=>by simpa using h
 |k+1,[],us,h=>by simp only[AV.ab]at h;subst h;simp[AV.ab]
 |k+1,x::xs,us,h=>by
  simp only[AV.ab]at h
  obtain⟨u,au,rfl,h1,h2⟩:=h
  simpa using xU k xs au h2
theorem xV:∀(k:Nat) (xs:List AV) (us:List Value),AV.ab w φ I xs us->AV.ab w φ I (xs.take k) (us.take k)
 |0,_,_,h=>by simp[AV.ab]
 |k+1,[],us,h=>by simp only[AV.ab]at h;subst h;simp[AV.ab]
 |k+1,x::xs,us,h=>by
  simp only[AV.ab]at h
  obtain⟨u,au,rfl,h1,h2⟩:=h
  simp only[List.take_succ_cons,AV.ab]
  exact⟨u,_,rfl,h1,xV k xs au h2⟩
theorem uB:∀(xs:List IV) (us:List Value),IV.ab w I xs us->AV.ab w φ I (xs.map .im) us
 |[],us,h=>by simpa[AV.ab,IV.ab]using h
 |x::xs,us,h=>by
  simp only[IV.ab]at h
  obtain⟨u,au,rfl,h1,h2⟩:=h
  simp only[List.map_cons,AV.ab]
  exact⟨u,au,rfl,by simpa only[AV.den]using h1,uB xs au h2⟩
theorem Iz:∀(x:IV) (u:Value),IV.den w I x u->u.oneCell'=true
 | .v _,u,h=>by simp only[IV.den]at h;rw[h.1];exact h.2
 | .sl _ _,u,h=>by simp only[IV.den]at h;obtain⟨_,_,_,rfl,_⟩:=h;rfl
 | .pt _,u,h=>by simp only[IV.den]at h;obtain⟨_,_,_,rfl,_⟩:=h;rfl
 | .fn _ _ _,u,h=>by simp only[IV.den]at h;obtain⟨_,_,_,_,rfl⟩:=h;rfl
theorem ra:∀(xs:List IV) (us:List Value),IV.ab w I xs us->∀u∈us,u.oneCell'=true
 |[],us,h=>by simp only[IV.ab]at h;simp[h]
 |x::xs,us,h=>by
  simp only[IV.ab]at h
  obtain⟨u,au,rfl,h1,h2⟩:=h
  intro z hz
  rcases List.mem_cons.1 hz with rfl|hz
  ·exact Iz x _ h1
  ·exact ra xs au h2 z hz
theorem Ic:∀(xs:List IV) (us:List Value) (i:Nat) (x:IV),IV.ab w I xs us->xs[i]?=some x->∃u,us[i]?=some u/\IV.den w I x u
 |[],_,_,_,_,h=>by simp at h
 |y::ys,us,i,x,hd,h=>by
  simp only[IV.ab]at hd
  obtain⟨u,au,rfl,h1,h2⟩:=hd
  cases i with
  |zero=>simp at h;subst h;exact⟨u,by simp,h1⟩
  |succ i=>simpa using Ic ys au i x h2 (by simpa using h)
theorem zY {t:TypeId} {u:TypeDesc} (h:P.underlying t=some u) (w:World):(isAgg t).run P w= .ok (TK.of u).agg w:=by
 unfold isAgg
 simp only[Sem.run_bind,run_underlying h,Result.andThen_ok]
 cases u<;>rfl
theorem Ms {t:TypeId} {x i:AV} {p q:Value} {sc:Prop} {v:AV} (h:xx P t x i=some (sc,v)) (aB:sc) (hx:AV.den w φ I x p) (hi:AV.den w φ I i q):dY P w (Instr.index t p q) φ I v:=by
 unfold xx at h
 split at h
 ·rename_i cs k n
  rw[fF]at hi
  subst hi
  simp only[AV.den]at hx
  obtain⟨us,hd,rfl⟩:=hx
  split at h
  ·rename_i m e ht
   have key:∀(ot:(TK.of ((P.underlying e).getD .invalid)).agg=false) (gR:sz P e=some 1),(0<=n/\n<m/\m<=cs.length)->v= .im (cs.getD n.toNat (.v (.bool false)))->dY P w (Instr.index t (.agg us.toArray) (.int k n)) φ I v:=by
    intro ot gR ⟨h0,h1,h2⟩ hv
    obtain⟨⟨ue,vz⟩,_⟩:=lW gR
    have hlen:=oE cs us hd
    have ah:n.toNat<cs.length:=by omega
    obtain⟨u,hu,c8⟩:=Ic cs us n.toNat _ hd (List.getElem?_eq_getElem ah)
    refine⟨u,?_,?_⟩
    ·have eK:=zY vz w
     rw[vz]at ot
     simp only[Option.getD_some]at ot
     rw[ot]at eK
     simp[Instr.index,asIntOf,run_underlying (rJ ht),h0,h1,run_sizeOf gR,part,eK,hu]
    ·rw[hv]
     simp only[AV.den]
     have:cs.getD n.toNat (.v (.bool false))=cs[n.toNat]:=by simp[List.getD,ah]
     rw[this];exact c8
   split at h
   ·rename_i hk gR
    simp only[Option.some.injEq,Prod.mk.injEq]at h
    obtain⟨rfl,rfl⟩:=h
    exact key (by rw[rK hk];rfl) gR aB rfl
   ·rename_i hk gR
    simp only[Option.some.injEq,Prod.mk.injEq]at h
    obtain⟨rfl,rfl⟩:=h
    exact key (by rw[k9 hk];rfl) gR aB rfl
   ·cases h
  ·cases h
 ·rename_i s k n
  rw[kA]at hx
  rw[fF]at hi
  subst hx;subst hi
  split at h
  ·rename_i hk
   simp only[Option.some.injEq,Prod.mk.injEq]at h
   obtain⟨rfl,rfl⟩:=h
   refine⟨_,?_,mR⟩
   obtain⟨h0,h1⟩:=aB
   have ah:n.toNat<s.size:=by omega
   have hg:s[n.toNat]?=some s[n.toNat]:=by simp[ah]
   have he:s.data.toList.getD n.toNat 0=s[n.toNat]:=by
    have:n.toNat<s.data.toList.length:=by simpa using ah
    simp[List.getD,List.getElem?_eq_getElem this];rfl
   rw[he]
   simp[Instr.index,asIntOf,run_underlying (k9 hk),h0,hg]
  ·cases h
 ·cases h
theorem Mx {x:AV} {p:Value} {sc:Prop} {v:AV} {o:Oper} {ox:Operand} (ho:o.op= .nilCheck ox) (h:xN x=some (sc,v)) (hx:AV.den w φ I x p) (hp:a.eval ox=p):
  (execOp a.eval o).run P w= .ok (.value p) w/\AV.den w φ I v p:=by
 unfold xN at h
 split at h
 ·simp only[Option.some.injEq,Prod.mk.injEq]at h
  obtain⟨_,rfl⟩:=h
  refine⟨?_,hx⟩
  simp only[AV.den,IV.den]at hx
  obtain⟨g,off,us,rfl,_⟩:=hx
  simp[execOp,ho,hp]
 ·simp only[Option.some.injEq,Prod.mk.injEq]at h
  obtain⟨_,rfl⟩:=h
  refine⟨?_,hx⟩
  simp only[AV.den]at hx
  obtain⟨g,_,rfl⟩:=hx
  simp[execOp,ho,hp]
 ·simp only[Option.some.injEq,Prod.mk.injEq]at h
  obtain⟨_,rfl⟩:=h
  refine⟨?_,hx⟩
  simp only[AV.den]at hx
  obtain⟨g,_,rfl⟩:=hx
  simp[execOp,ho,hp]
 ·cases h
theorem Bw {t:TypeId} {f off:Nat} (h:r4 P t f=some off) (g o:Nat) (w:World):(Instr.fieldAt t (.pointer (some ⟨g,o,none⟩)) f).run P w= .ok (.pointer (some ⟨g,o+off,none⟩)) w:=by
 unfold r4 at h
 split at h
 ·rename_i fs ht
  obtain⟨F,hF,Cu⟩:=w8 ht
  split at h
  ·rename_i SE ty hf
   split at h
   ·rename_i n hn
    simp only[Option.some.injEq]at h
    subst h
    have nZ:∃fd:Field,F[f]?=some fd/\fd.offset=SE/\fd.type=ty:=by
     rw[<-Cu,List.getElem?_map]at hf
     simp at hf
     obtain⟨fd,h1,h2,h3⟩:=hf
     exact⟨fd,h1,h2,h3⟩
    obtain⟨fd,h1,h2,h3⟩:=nZ
    subst h3
    simp[Instr.fieldAt,run_underlying hF,h1,Instr.sureAddr,fieldPlace,run_sizeOf hn,h2,addr_add]
   ·cases h
  ·cases h
 ·cases h
theorem Mo {t:TypeId} {f:Nat} {x:AV} {p:Value} {sc:Prop} {v:AV} (h:xw P t f x=some (sc,v)) (hx:AV.den w φ I x p):dY P w (Instr.fieldAt t p f) φ I v:=by
 unfold xw at h
 split at h
 ·rename_i cs
  split at h
  ·rename_i off kO
   simp only[Option.some.injEq,Prod.mk.injEq]at h
   obtain⟨_,rfl⟩:=h
   simp only[AV.den,IV.den]at hx
   obtain⟨g,o,us,rfl,hg,hd,hc⟩:=hx
   refine⟨_,Bw kO g o w,?_⟩
   simp only[AV.den,IV.den]
   refine⟨g,o+off,us.drop off,rfl,hg,sW off cs us hd,fun j u hu=>?_⟩
   rw[Nat.add_assoc]
   exact hc (off+j) u (by simpa[List.getElem?_drop]using hu)
  ·cases h
 ·rename_i b o
  split at h
  ·rename_i off kO
   simp only[Option.some.injEq,Prod.mk.injEq]at h
   obtain⟨_,rfl⟩:=h
   simp only[AV.den]at hx
   obtain⟨g,hg,rfl⟩:=hx
   exact⟨_,Bw kO g o w,by simp only[AV.den];exact⟨g,hg,rfl⟩⟩
  ·cases h
 ·rename_i b es i j
  split at h
  ·rename_i off kO
   simp only[Option.some.injEq,Prod.mk.injEq]at h
   obtain⟨_,rfl⟩:=h
   simp only[AV.den]at hx
   obtain⟨g,hg,rfl⟩:=hx
   exact⟨_,Bw kO g _ w,by simp only[AV.den];exact⟨g,hg,by rw[Nat.add_assoc]⟩⟩
  ·cases h
 ·cases h
theorem Mr {t:TypeId} {x i:AV} {p q:Value} {sc:Prop} {v:AV} (h:xz P t x i=some (sc,v)) (aB:sc) (hx:AV.den w φ I x p) (hi:AV.den w φ I i q):dY P w (Instr.indexAt t p q) φ I v:=by
 unfold xz at h
 split at h
 ·rename_i es rows k n
  rw[fF]at hi
  subst hi
  split at h
  ·rename_i e ht
   cases hd:decide (sz P e=some es)with
   |false=>rw[hd]at h;simp at h
   |true=>
    rw[hd]at h
    simp only[cond_true,Option.some.injEq,Prod.mk.injEq]at h
    obtain⟨rfl,rfl⟩:=h
    have a7:=of_decide_eq_true hd
    obtain⟨h0,h1⟩:=aB
    simp only[AV.den,IV.den]at hx
    obtain⟨pp,c,ag,rfl,hc,hr,hl,ha⟩:=hx
    have ah:n.toNat<rows.length:=by omega
    obtain⟨g,off,rfl,hg,ez⟩:=ha (by intro e;rw[e]at ah;simp at ah)
    obtain⟨vs,c_,b9⟩:=yh rows ag n.toNat _ hr (List.getElem?_eq_getElem ah)
    have e1:rows.getD n.toNat []=rows[n.toNat]:=by simp[List.getD,ah]
    refine⟨.pointer (some ⟨g,off+n.toNat*es,none⟩),?_,?_⟩
    ·simp[Instr.indexAt,asIntOf,run_underlying (eV ht),h0,h1,run_sizeOf a7,addr_add]
    ·simp only[AV.den,IV.den,e1]
     refine⟨g,_,vs,rfl,hg,b9,fun j u hu=>?_⟩
     rw[Nat.add_assoc]
     exact ez _ u (flat_get ag es n.toNat j vs u hl c_ hu)
  ·cases h
 ·rename_i b es i0 m k n
  rw[fF]at hi
  subst hi
  split at h
  ·rename_i e ht
   cases hd:decide (sz P e=some es)with
   |false=>rw[hd]at h;simp at h
   |true=>
    rw[hd]at h
    simp only[cond_true,Option.some.injEq,Prod.mk.injEq]at h
    obtain⟨rfl,rfl⟩:=h
    have a7:=of_decide_eq_true hd
    obtain⟨h0,h1⟩:=aB
    simp only[AV.den]at hx
    rcases hx with⟨_,_,rfl,_⟩|⟨g,c,hg,rfl,_⟩
    ·omega
    ·refine⟨.pointer (some ⟨g,i0*es+n.toNat*es,none⟩),?_,?_⟩
     ·simp[Instr.indexAt,asIntOf,run_underlying (eV ht),h0,h1,run_sizeOf a7,addr_add]
     ·simp only[AV.den]
      exact⟨g,hg,by rw[Nat.add_mul];rfl⟩
  ·cases h
 ·rename_i b off k n
  rw[fF]at hi
  subst hi
  split at h
  ·rename_i m e ht
   cases hm:decide (2<=m)with
   |false=>rw[hm]at h;simp at h
   |true=>
    rw[hm]at h
    have fO:=of_decide_eq_true hm
    simp only[cond_true]at h
    split at h
    ·rename_i es a7
     cases hd:decide (off=0)with
     |false=>rw[hd]at h;simp at h
     |true=>
      rw[hd]at h
      simp only[cond_true,Option.some.injEq,Prod.mk.injEq]at h
      obtain⟨rfl,rfl⟩:=h
      have ho:=of_decide_eq_true hd
      subst ho
      obtain⟨h0,h1⟩:=aB
      simp only[AV.den]at hx
      obtain⟨g,hg,rfl⟩:=hx
      refine⟨.pointer (some ⟨g,n.toNat*es,none⟩),?_,?_⟩
      ·simp[Instr.indexAt,asIntOf,run_underlying (rJ ht),h0,h1,run_sizeOf a7,addr_add,Instr.sureAddr]
      ·simp only[AV.den]
       exact⟨g,hg,by simp⟩
    ·cases h
  ·cases h
 ·cases h
theorem KA {t:TypeId} {n:Nat} {u:TypeDesc} {g o:Nat} {us:List Value} (hu:P.underlying t=some u) (hn:sz P t=some n) (hl:us.length=n) (hc:cI w g o us)
  (n7:(TK.of u).agg=false->n=1):(Instr.loadAt t (.pointer (some ⟨g,o,none⟩))).run P w= .ok (if(TK.of u).agg then .agg us.toArray else us.getD 0 undef) w:=by
 have ez:∀j v,us[j]?=some v->w.cell? ((⟨g,o,none⟩:Addr).add j)=some v:=fun j v hv=>by rw[addr_add];exact hc j v hv
 cases hb:(TK.of u).agg with
 |true=>
  have h1:=zY hu w
  rw[hb]at h1
  have h2:=run_loadCells_list (P:=P) (w:=w) ⟨g,o,none⟩ us ez
  rw[hl]at h2
  simp[Instr.loadAt,Instr.sureAddr,loadVar,h1,run_sizeOf hn,h2]
 |false=>
  have h1:=zY hu w
  rw[hb]at h1
  have ik:=n7 hb
  subst ik
  match us,hl with
  |[x],_=>
   have:=hc 0 x (by simp)
   simp only[Nat.add_zero]at this
   simp[Instr.loadAt,Instr.sureAddr,loadVar,h1,load,Sem.run,this]
theorem zC {t:TypeId} {cs:List AV} {us:List Value} {u:TypeDesc} {v:AV} (hu:P.underlying t=some u) (h:oK P t cs=some v) (hd:AV.ab w φ I cs us) (h1:∀x∈us,x.oneCell'=true):
  AV.den w φ I v (if(TK.of u).agg then .agg us.toArray else us.getD 0 undef)/\((TK.of u).agg=false->us.length=1):=by
 have bF:tk P t=TK.of u:=by simp[tk,hu]
 unfold oK at h
 rw[bF]at h
 cases hb:(TK.of u).agg with
 |true=>
  rw[hb]at h
  simp only[cond_true,Option.some.injEq]at h
  subst h
  simp only[if_true,AV.den]
  exact⟨⟨us,hd,rfl,h1⟩,by simp⟩
 |false=>
  rw[hb]at h
  simp only[cond_false]at h
  split at h
  ·simp only[Option.some.injEq]at h
   subst h
   simp only[AV.ab]at hd
   obtain⟨x,au,rfl,hx,rfl⟩:=hd
   simpa using hx
  ·cases h
theorem R8 {t:TypeId} {cs:List IV} {us:List Value} {u:TypeDesc} {v:AV} (hu:P.underlying t=some u) (h:rk P t cs=some v) (hd:IV.ab w I cs us):
  AV.den w φ I v (if(TK.of u).agg then .agg us.toArray else us.getD 0 undef)/\((TK.of u).agg=false->us.length=1):=by
 have bF:tk P t=TK.of u:=by simp[tk,hu]
 unfold rk at h
 split at h
 ·rename_i n e ht
  rw[bF]at ht
  simp only[Option.some.injEq]at h
  subst h
  rw[ht]
  simp only[TK.agg,if_true,AV.den]
  exact⟨⟨us,hd,rfl⟩,by simp⟩
 ·rename_i ht
  split at h
  ·rename_i f fs aL
   simp only[Option.some.injEq]at h
   subst h
   simp only[IV.ab,IV.den]at hd
   obtain⟨u0,au,rfl,⟨xs,ys,h1,h2,rfl⟩,rfl⟩:=hd
   rw[<-bF,ht]
   simp only[TK.agg,if_false,Bool.false_eq_true,AV.den]
   exact⟨⟨xs,ys,uB fs xs h1,uB aL ys h2,rfl⟩,by simp⟩
  ·exact zC hu h (uB _ us hd) (ra _ us hd)
 ·exact zC hu h (uB cs us hd) (ra cs us hd)
end
section
variable {P:Program} {w:World} {φ:aq} {I:Nat->Prop} {E:Env} {H:aa} {a:Act}
theorem I6 {t:TypeId} {n:Nat} {cs:List AV} {us:List Value} {v:AV} {g o:Nat} (hn:sz P t=some n) (hv:oK P t cs=some v) (hd:AV.ab w φ I cs us) (h1:∀x∈us,x.oneCell'=true)
  (hl:us.length=n) (hc:cI w g o us):dY P w (Instr.loadAt t (.pointer (some ⟨g,o,none⟩))) φ I v:=by
 obtain⟨⟨u,hu⟩,_⟩:=lW hn
 obtain⟨h2,h3⟩:=zC hu hv hd h1
 exact⟨_,KA hu hn hl hc (fun hb=>by rw[<-hl];exact h3 hb),h2⟩
theorem Dv {t:TypeId} {n:Nat} {cs:List IV} {us:List Value} {v:AV} {g o:Nat} (hn:sz P t=some n) (hv:rk P t cs=some v) (hd:IV.ab w I cs us)
  (hl:us.length=n) (hc:cI w g o us):dY P w (Instr.loadAt t (.pointer (some ⟨g,o,none⟩))) φ I v:=by
 obtain⟨⟨u,hu⟩,_⟩:=lW hn
 obtain⟨h2,h3⟩:=R8 hu hv hd
 exact⟨_,KA hu hn hl hc (fun hb=>by rw[<-hl];exact h3 hb),h2⟩
theorem qv:∀(rows:List (List IV)) (ag:List (List Value)),IV.aQ w I rows ag->IV.ab w I rows.flatten ag.flatten
 |[],ag,h=>by simp only[IV.aQ]at h;subst h;simp[IV.ab]
 |r::rows,ag,h=>by
  simp only[IV.aQ]at h
  obtain⟨u,au,rfl,h1,h2⟩:=h
  simp only[List.flatten_cons]
  exact zb _ _ _ _ h1 (qv rows au h2)
where
 zb:∀(a b:List IV) (us vs:List Value),IV.ab w I a us->IV.ab w I b vs->IV.ab w I (a++b) (us++vs)
  |[],b,us,vs,h1,h2=>by simp only[IV.ab]at h1;subst h1;simpa using h2
  |x::a,b,us,vs,h1,h2=>by
   simp only[IV.ab]at h1
   obtain⟨u,au,rfl,h3,h4⟩:=h1
   simp only[List.cons_append,IV.ab]
   exact⟨u,_,rfl,h3,zb a b au vs h4 h2⟩
theorem Fz {g:Nat} {us:List Value} {e:TypeId} {fz:Nat×Nat} (h:w.heap[g]?=some (.cells us.toArray e fz)) (o:Nat):cI w g o (us.drop o):=by
 intro j u hu
 rw[List.getElem?_drop]at hu
 simp[World.cell?,h,hu]
theorem cI.take {g o:Nat} {us:List Value} (h:cI w g o us) (n:Nat):cI w g o (us.take n):=by
 intro j u hu
 rw[List.getElem?_take]at hu
 split at hu
 ·exact h j u hu
 ·cases hu
theorem cI.drop {g o:Nat} {us:List Value} (h:cI w g o us) (n:Nat):cI w g (o+n) (us.drop n):=by
 intro j u hu
 rw[List.getElem?_drop]at hu
 rw[Nat.add_assoc]
 exact h _ u hu
theorem Tq {g:Nat} {ag:List (List Value)} {rest:List Value} {e:TypeId} {fz:Nat×Nat} {es i:Nat} {vs:List Value} (h:w.heap[g]?=some (.cells (ag.flatten++rest).toArray e fz)) (hl:∀vs∈ag,vs.length=es)
  (hi:ag[i]?=some vs):cI w g (i*es) vs:=by
 intro j u hu
 have hf:=flat_get ag es i j vs u hl hi hu
 have ah:i*es+j<ag.flatten.length:=by
  rcases Nat.lt_or_ge (i*es+j) ag.flatten.length with h|h
  ·exact h
  ·rw[List.getElem?_eq_none h]at hf;cases hf
 simp only[World.cell?,h,Option.isSome_none,Bool.false_eq_true,if_false,List.getElem?_toArray]
 rw[List.getElem?_append_left ah]
 exact hf
theorem E6 (hR:Real w φ I H) {t:TypeId} {x:AV} {p:Value} {sc:Prop} {v:AV} (h:tX P H t x=some (sc,v)) (aB:sc) (hx:AV.den w φ I x p):dY P w (Instr.loadAt t p) φ I v:=by
 unfold tX at h
 split at h
 ·rename_i cs
  split at h
  ·rename_i n hn
   split at h
   ·rename_i v' hv
    simp only[Option.some.injEq,Prod.mk.injEq]at h
    obtain⟨rfl,rfl⟩:=h
    simp only[AV.den,IV.den]at hx
    obtain⟨g,off,us,rfl,hg,hd,hc⟩:=hx
    refine Dv hn hv (zc n cs us hd) ?_ (hc.take n)
    rw[List.length_take,oE cs us hd];omega
   ·cases h
  ·cases h
 ·rename_i b o
  split at h
  ·rename_i el cs n ef hn
   split at h
   ·rename_i v' hv
    simp only[Option.some.injEq,Prod.mk.injEq]at h
    obtain⟨rfl,rfl⟩:=h
    simp only[AV.den]at hx
    obtain⟨g,hg,rfl⟩:=hx
    have bE:=hR.own b _ _ ef hg
    simp only[Ob.at]at bE
    obtain⟨g',us,dh,cn,hd,h1⟩:=bE
    cases dh
    simp only[Sh.has,Sh.one]at cn h1
    refine I6 hn hv (xV n _ _ (xU o cs us hd)) (fun x hx=>h1 x (List.mem_of_mem_drop (List.mem_of_mem_take hx))) ?_ ((Fz cn o).take n)
    rw[List.length_take,List.length_drop,iC cs us hd];omega
   ·cases h
  ·rename_i el es rows n ef hn
   cases hb:Nat.beq o 0 with
   |false=>rw[hb]at h;simp at h
   |true=>
    rw[hb]at h
    have ho:=Nat.eq_of_beq_eq_true hb
    subst ho
    simp only[cond_true]at h
    split at h
    ·rename_i m e ht
     simp only[Option.some.injEq,Prod.mk.injEq]at h
     obtain⟨rfl,rfl⟩:=h
     simp only[AV.den]at hx
     obtain⟨g,hg,rfl⟩:=hx
     have bE:=hR.own b _ _ ef hg
     simp only[Ob.at]at bE
     rcases bE with⟨h1,_⟩|⟨g',ag,rest,dh,cn,hd,hl⟩
     ·cases h1
     cases dh
     have mV:=qv rows ag hd
     have hlen:=oE _ _ mV
     refine Dv hn (cs:=rows.flatten) (us:=ag.flatten) (by simp[rk,ht]) mV (by rw[hlen];exact aB) ?_
     intro j u hu
     have ah:j<ag.flatten.length:=by
      rcases Nat.lt_or_ge j ag.flatten.length with h|h
      ·exact h
      ·rw[List.getElem?_eq_none h]at hu;cases hu
     simp only[World.cell?,cn,Option.isSome_none,Bool.false_eq_true,if_false,List.getElem?_toArray]
     rw[List.getElem?_append_left (by simpa using ah)]
     simpa using hu
    ·cases h
  ·cases h
 ·rename_i b es i j
  split at h
  ·rename_i el dL rows n ef hn
   cases hb:Nat.beq es dL with
   |false=>rw[hb]at h;simp at h
   |true=>
    rw[hb]at h
    have cH:=Nat.eq_of_beq_eq_true hb
    subst cH
    simp only[cond_true]at h
    split at h
    ·rename_i v' hv
     simp only[Option.some.injEq,Prod.mk.injEq]at h
     obtain⟨rfl,rfl⟩:=h
     obtain⟨hi,hj⟩:=aB
     simp only[AV.den]at hx
     obtain⟨g,hg,rfl⟩:=hx
     have bE:=hR.own b _ _ ef hg
     simp only[Ob.at]at bE
     rcases bE with⟨_,rfl⟩|⟨g',ag,rest,dh,cn,hd,hl⟩
     ·simp at hi
     cases dh
     obtain⟨vs,c_,b9⟩:=yh rows ag i _ hd (List.getElem?_eq_getElem hi)
     have e1:rows.getD i []=rows[i]:=by simp[List.getD,hi]
     rw[e1]at hv
     have eC:vs.length=es:=hl vs (List.mem_of_getElem? c_)
     refine Dv hn hv (zc n _ _ (sW j _ vs b9)) ?_ (((Tq cn hl c_).drop j).take n)
     rw[List.length_take,List.length_drop,eC];omega
    ·cases h
  ·rename_i el cs n ef hn
   split at h
   ·rename_i v' hv
    simp only[Option.some.injEq,Prod.mk.injEq]at h
    obtain⟨rfl,rfl⟩:=h
    simp only[AV.den]at hx
    obtain⟨g,hg,rfl⟩:=hx
    have bE:=hR.own b _ _ ef hg
    simp only[Ob.at]at bE
    obtain⟨g',us,dh,cn,hd,h1⟩:=bE
    cases dh
    simp only[Sh.has,Sh.one]at cn h1
    refine I6 hn hv (xV n _ _ (xU (i*es+j) cs us hd)) (fun x hx=>h1 x (List.mem_of_mem_drop (List.mem_of_mem_take hx))) ?_ ((Fz cn (i*es+j)).take n)
    rw[List.length_take,List.length_drop,iC cs us hd];omega
   ·cases h
  ·cases h
 ·cases h
theorem Mp {t:TypeId} {f:Nat} {x:AV} {p:Value} {sc:Prop} {v:AV} (h:xu P t f x=some (sc,v)) (aB:sc) (hx:AV.den w φ I x p):dY P w (Instr.field t p f) φ I v:=by
 unfold xu at h
 split at h
 ·rename_i cs
  split at h
  ·rename_i fs ht
   obtain⟨F,hF,Cu⟩:=w8 ht
   split at h
   ·rename_i off ty hf
    split at h
    ·rename_i n hn
     split at h
     ·rename_i v' hv
      simp only[Option.some.injEq,Prod.mk.injEq]at h
      obtain⟨rfl,rfl⟩:=h
      simp only[AV.den]at hx
      obtain⟨us,hd,rfl,h1⟩:=hx
      have nZ:∃fd:Field,F[f]?=some fd/\fd.offset=off/\fd.type=ty:=by
       rw[<-Cu,List.getElem?_map]at hf
       simp at hf
       obtain⟨fd,h1,h2,h3⟩:=hf
       exact⟨fd,h1,h2,h3⟩
      obtain⟨fd,u4,PA,PB⟩:=nZ
      subst PB;subst PA
      obtain⟨⟨u,hu⟩,_⟩:=lW hn
      have hlen:=iC cs us hd
      obtain⟨h2,h3⟩:=zC hu hv (xV n _ _ (xU fd.offset cs us hd)) (fun x hx=>h1 x (List.mem_of_mem_drop (List.mem_of_mem_take hx)))
      refine⟨_,?_,h2⟩
      have n7:=zY hu w
      cases hb:(TK.of u).agg with
      |true=>
       rw[hb]at n7
       simp[Instr.field,run_underlying hF,u4,asAgg,part,n7,run_sizeOf hn]
      |false=>
       rw[hb]at n7
       have ec:=h3 hb
       have ik:n=1:=by
        rw[List.length_take,List.length_drop]at ec
        omega
       subst ik
       have ah:fd.offset<us.length:=by omega
       have e1:((us.drop fd.offset).take 1).getD 0 undef=us[fd.offset]:=by
        simp[List.getD,List.getElem?_take,ah]
       simp[Instr.field,run_underlying hF,u4,asAgg,part,n7,ah]
     ·cases h
    ·cases h
   ·cases h
  ·cases h
 ·cases h
theorem Mn {i:Nat} {x:AV} {p:Value} {sc:Prop} {v:AV} (h:xr i x=some (sc,v)) (hx:AV.den w φ I x p):dY P w (Instr.extract p i) φ I v:=by
 unfold xr at h
 split at h
 ·rename_i vs
  split at h
  ·rename_i v' hv
   simp only[Option.some.injEq,Prod.mk.injEq]at h
   obtain⟨_,rfl⟩:=h
   simp only[AV.den]at hx
   obtain⟨us,hd,rfl⟩:=hx
   obtain⟨u,hu,c8⟩:=iB vs us i _ hd hv
   exact⟨u,by simp[Instr.extract,hu],c8⟩
  ·cases h
 ·cases h
theorem Mw {x y:AV} {p q:Value} {sc:Prop} {v:AV} {ts:Array TypeId} {ty:TypeId} (h:xL x y=some (sc,v)) (hx:AV.den w φ I x p) (hy:AV.den w φ I y q):dY P w (Builtin.min_ ts ty #[p,q]) φ I v:=by
 unfold xL at h
 split at h
 ·rw[fF]at hx hy
  subst hx;subst hy
  simp only[Option.some.injEq,Prod.mk.injEq]at h
  obtain⟨_,rfl⟩:=h
  exact⟨_,by simp[Builtin.min_,Builtin.min2],mR⟩
 ·cases h
theorem Mv {x y:AV} {p q:Value} {sc:Prop} {v:AV} {ts:Array TypeId} {ty:TypeId} (h:xJ x y=some (sc,v)) (hx:AV.den w φ I x p) (hy:AV.den w φ I y q):dY P w (Builtin.max_ ts ty #[p,q]) φ I v:=by
 unfold xJ at h
 split at h
 ·rw[fF]at hx hy
  subst hx;subst hy
  simp only[Option.some.injEq,Prod.mk.injEq]at h
  obtain⟨_,rfl⟩:=h
  exact⟨_,by simp[Builtin.max_,Builtin.max2],mR⟩
 ·cases h
theorem My {c x y:AV} {pc p q:Value} {sc:Prop} {v:AV} (h:xO c x y=some (sc,v)) (aB:sc) (hc:AV.den w φ I c pc) (hx:AV.den w φ I x p) (hy:AV.den w φ I y q):
  ∃b:Bool,pc= .bool b/\AV.den w φ I v (if b then p else q):=by
 unfold xO at h
 split at h
 ·rename_i cb n_
  split at h
  ·rename_i xb yb lL za
   simp only[Option.some.injEq,Prod.mk.injEq]at h
   obtain⟨rfl,rfl⟩:=h
   have dT:=ck hc aB.1
   rw[n_,pf]at dT
   subst dT
   refine⟨cb,rfl,?_⟩
   cases cb with
   |true=>
    have:=ck hx (aB.2.1 rfl)
    rw[lL]at this
    simpa[pk]using this
   |false=>
    have:=ck hy (aB.2.2 rfl)
    rw[za]at this
    simpa[pk]using this
  ·cases cb with
   |true=>
    simp only[Option.some.injEq,Prod.mk.injEq]at h
    obtain⟨rfl,rfl⟩:=h
    have dT:=ck hc aB.1
    rw[n_,pf]at dT
    subst dT
    exact⟨true,rfl,by simpa using ck hx aB.2⟩
   |false=>
    simp only[Option.some.injEq,Prod.mk.injEq]at h
    obtain⟨rfl,rfl⟩:=h
    have dT:=ck hc aB.1
    rw[n_,pf]at dT
    subst dT
    exact⟨false,rfl,by simpa using ck hy aB.2⟩
 ·cases h
theorem qb {k:IntKind} {n:Int} {y:Nat} {code:BoundsCode} (h0:0<=n) (h1:n<=y):(Instr.sliceBound (.int k n) y code).run P w= .ok n.toNat w:=by
 simp[Instr.sliceBound,asIntOf,h0,h1]
theorem yg:∀(k:Nat) (xs:List (List IV)) (us:List (List Value)),IV.aQ w I xs us->IV.aQ w I (xs.drop k) (us.drop k)
 |0,_,_,h=>by simpa using h
 |k+1,[],us,h=>by simp only[IV.aQ]at h;subst h;simp[IV.aQ]
 |k+1,x::xs,us,h=>by
  simp only[IV.aQ]at h
  obtain⟨u,au,rfl,h1,h2⟩:=h
  simpa using yg k xs au h2
theorem yj:∀(k:Nat) (xs:List (List IV)) (us:List (List Value)),IV.aQ w I xs us->IV.aQ w I (xs.take k) (us.take k)
 |0,_,_,h=>by simp[IV.aQ]
 |k+1,[],us,h=>by simp only[IV.aQ]at h;subst h;simp[IV.aQ]
 |k+1,x::xs,us,h=>by
  simp only[IV.aQ]at h
  obtain⟨u,au,rfl,h1,h2⟩:=h
  simp only[List.take_succ_cons,IV.aQ]
  exact⟨u,_,rfl,h1,yj k xs au h2⟩
theorem r5:∀(k:Nat) (ag:List (List Value)) (es:Nat),(∀vs∈ag,vs.length=es)->k<=ag.length->(ag.drop k).flatten=ag.flatten.drop (k*es)
 |0,ag,es,_,_=>by simp
 |k+1,[],es,_,h=>by simp at h
 |k+1,x::xs,es,hl,h=>by
  have hx:x.length=es:=hl x (by simp)
  rw[List.drop_succ_cons,List.flatten_cons,r5 k xs es (fun vs hv=>hl vs (by simp[hv])) (by simpa using h)]
  rw[show(k+1)*es=x.length+k*es by rw[hx,Nat.add_mul];omega,List.drop_append]
  simp
theorem r6:∀(k:Nat) (ag:List (List Value)) (es:Nat),(∀vs∈ag,vs.length=es)->k<=ag.length->(ag.take k).flatten=ag.flatten.take (k*es)
 |0,ag,es,_,_=>by simp
 |k+1,[],es,_,h=>by simp at h
 |k+1,x::xs,es,hl,h=>by
  have hx:x.length=es:=hl x (by simp)
  rw[List.take_succ_cons,List.flatten_cons,List.flatten_cons,r6 k xs es (fun vs hv=>hl vs (by simp[hv])) (by simpa using h)]
  rw[show(k+1)*es=x.length+k*es by rw[hx,Nat.add_mul];omega,List.take_append,List.take_of_length_le (l:=x) (by omega)]
  simp
theorem Aa {es:Nat} {rows:List (List IV)} {p:Option Addr} {c l h:Nat} {ag:List (List Value)} (hr:IV.aQ w I rows ag) (hl:∀vs∈ag,vs.length=es)
  (ha:rows≠[]->∃g off,p=some ⟨g,off,none⟩/\I g/\cI w g off ag.flatten) (WB:l<=h) (hh:h<=rows.length) (hc:rows.length<=c):
  AV.den w φ I (.im (.sl es ((rows.take h).drop l))) (.slice (if c=l then p else p.map (·.add (l*es))) (h-l) (c-l)):=by
 simp only[AV.den,IV.den]
 have eC:=j0 rows ag hr
 have hlen:((rows.take h).drop l).length=h-l:=by rw[List.length_drop,List.length_take];omega
 refine⟨_,c-l,(ag.take h).drop l,by rw[hlen],by rw[hlen];omega,yg l _ _ (yj h _ _ hr),fun vs hv=>hl vs (List.mem_of_mem_take (List.mem_of_mem_drop hv)),fun hn=>?_⟩
 have ah:l<h:=by
  rcases Nat.lt_or_ge l h with h'|h'
  ·exact h'
  ·exact absurd (List.eq_nil_of_length_eq_zero (by rw[hlen];omega)) hn
 obtain⟨g,off,rfl,hg,ez⟩:=ha (by intro e;rw[e]at hh;simp at hh;omega)
 refine⟨g,off+l*es,?_,hg,?_⟩
 ·rw[if_neg (by omega)]
  simp[addr_add]
 ·have oA:(ag.take h).length=h:=by rw[List.length_take];omega
  rw[r5 l _ es (fun vs hv=>hl vs (List.mem_of_mem_take hv)) (by omega),r6 h ag es hl (by omega)]
  exact(ez.take (h*es)).drop (l*es)
theorem A1 {b:Bool} {len cap:Nat} {k k':IntKind} {l h:Int} (h0:0<=l) (h1:l<=h) (h2:h<=cap):
  (Instr.sliceBounds b len cap (some (.int k l)) (some (.int k' h)) none).run P w= .ok (l.toNat,h.toNat,cap) w:=by
 have e1:=fun code=>qb (P:=P) (w:=w) (k:=k') (n:=h) (y:=cap) (code:=code) (by omega) h2
 have e2:=fun code=>qb (P:=P) (w:=w) (k:=k) (n:=l) (y:=h.toNat) (code:=code) h0 (by omega)
 simp[Instr.sliceBounds,e1,e2]
theorem A0 {b:Bool} {len cap:Nat} {k:IntKind} {l:Int} (h0:0<=l) (h1:l<=len):
  (Instr.sliceBounds b len cap (some (.int k l)) none none).run P w= .ok (l.toNat,len,cap) w:=by
 have e2:=fun code=>qb (P:=P) (w:=w) (k:=k) (n:=l) (y:=len) (code:=code) h0 h1
 simp[Instr.sliceBounds,e2]
theorem uk {b:Bool} {len cap:Nat} {k:IntKind} {h:Int} (h0:0<=h) (h2:h<=cap):
  (Instr.sliceBounds b len cap none (some (.int k h)) none).run P w= .ok (0,h.toNat,cap) w:=by
 have e1:=fun code=>qb (P:=P) (w:=w) (k:=k) (n:=h) (y:=cap) (code:=code) h0 h2
 simp[Instr.sliceBounds,e1]
theorem Ab {t:TypeId} {s:ByteArray} {plo phi:Option Value} {l h:Nat} (ht:tk P t= .str) (hb:(Instr.sliceBounds false s.size s.size plo phi none).run P w= .ok (l,h,s.size) w):
  (Instr.sliceAt t (.string s) plo phi none).run P w= .ok (.string (s.extract l h)) w:=by
 simp[Instr.sliceAt,Instr.slice,run_underlying (k9 ht),hb]
theorem qc {t e:TypeId} {es n c:Nat} {p:Option Addr} {plo phi:Option Value} {l h:Nat} (ht:tk P t= .slice e) (cH:sz P e=some es) (hb:(Instr.sliceBounds true n c plo phi none).run P w= .ok (l,h,c) w):
  (Instr.sliceAt t (.slice p n c) plo phi none).run P w= .ok (.slice (if c=l then p else p.map (·.add (l*es))) (h-l) (c-l)) w:=by
 simp[Instr.sliceAt,Instr.slice,run_underlying (eV ht),hb,run_sizeOf cH]
theorem AI {t:TypeId} {lo hi:Option AV} {x:AV} {p:Value} {plo phi:Option Value} {sc:Prop} {v:AV} (h:rT P t lo hi x=some (sc,v)) (aB:sc) (hx:AV.den w φ I x p)
  (kL:∀y,lo=some y->∃u,plo=some u/\AV.den w φ I y u) (Hw:lo=none->plo=none) (yO:∀y,hi=some y->∃u,phi=some u/\AV.den w φ I y u) (Ho:hi=none->phi=none):
  dY P w (Instr.sliceAt t p plo phi none) φ I v:=by
 unfold rT at h
 split at h
 ·rename_i s
  rw[kA]at hx
  subst hx
  split at h
  ·rename_i ht
   obtain⟨_,rfl,hl⟩:=kL _ rfl
   obtain⟨_,rfl,hh⟩:=yO _ rfl
   rw[fF]at hl hh
   subst hl;subst hh
   simp only[Option.some.injEq,Prod.mk.injEq]at h
   obtain⟨rfl,rfl⟩:=h
   obtain⟨h0,h1,h2⟩:=aB
   exact⟨_,Ab ht (A1 h0 h1 h2),nW⟩
  ·rename_i ht
   obtain⟨_,rfl,hl⟩:=kL _ rfl
   obtain rfl:=Ho rfl
   rw[fF]at hl
   subst hl
   simp only[Option.some.injEq,Prod.mk.injEq]at h
   obtain⟨rfl,rfl⟩:=h
   obtain⟨h0,h1⟩:=aB
   exact⟨_,Ab ht (A0 h0 h1),nW⟩
  ·rename_i ht
   obtain⟨_,rfl,hh⟩:=yO _ rfl
   obtain rfl:=Hw rfl
   rw[fF]at hh
   subst hh
   simp only[Option.some.injEq,Prod.mk.injEq]at h
   obtain⟨rfl,rfl⟩:=h
   obtain⟨h0,h1⟩:=aB
   exact⟨_,Ab ht (uk h0 h1),nW⟩
  ·cases h
 ·rename_i es rows
  simp only[AV.den,IV.den]at hx
  obtain⟨pp,c,ag,rfl,hc,hr,hl,ha⟩:=hx
  split at h
  ·rename_i e _ lv _ hv ht
   cases hd:decide (sz P e=some es)with
   |false=>rw[hd]at h;simp at h
   |true=>
    rw[hd]at h
    simp only[cond_true,Option.some.injEq,Prod.mk.injEq]at h
    obtain⟨rfl,rfl⟩:=h
    have a7:=of_decide_eq_true hd
    obtain⟨_,rfl,ec⟩:=kL _ rfl
    obtain⟨_,rfl,hh⟩:=yO _ rfl
    rw[fF]at ec hh
    subst ec;subst hh
    obtain⟨h0,h1,h2⟩:=aB
    exact⟨_,qc ht a7 (A1 h0 h1 (by omega)),Aa hr hl ha (by omega) (by omega) hc⟩
  ·rename_i e _ lv ht
   cases hd:decide (sz P e=some es)with
   |false=>rw[hd]at h;simp at h
   |true=>
    rw[hd]at h
    simp only[cond_true,Option.some.injEq,Prod.mk.injEq]at h
    obtain⟨rfl,rfl⟩:=h
    have a7:=of_decide_eq_true hd
    obtain⟨_,rfl,ec⟩:=kL _ rfl
    obtain rfl:=Ho rfl
    rw[fF]at ec
    subst ec
    obtain⟨h0,h1⟩:=aB
    refine⟨_,qc ht a7 (A0 h0 h1),?_⟩
    have:=Aa (φ:=φ) (l:=lv.toNat) (h:=rows.length) hr hl ha (by omega) (Nat.le_refl _) hc
    rw[List.take_length]at this
    exact this
  ·rename_i e _ hv ht
   cases hd:decide (sz P e=some es)with
   |false=>rw[hd]at h;simp at h
   |true=>
    rw[hd]at h
    simp only[cond_true,Option.some.injEq,Prod.mk.injEq]at h
    obtain⟨rfl,rfl⟩:=h
    have a7:=of_decide_eq_true hd
    obtain⟨_,rfl,hh⟩:=yO _ rfl
    obtain rfl:=Hw rfl
    rw[fF]at hh
    subst hh
    obtain⟨h0,h1⟩:=aB
    refine⟨_,qc ht a7 (uk h0 (by omega)),?_⟩
    have:=Aa (φ:=φ) (l:=0) (h:=hv.toNat) hr hl ha (by omega) (by omega) hc
    rw[List.drop_zero]at this
    exact this
  ·cases h
 ·cases h
end
section
variable {P:Program} {w:World} {φ:aq} {I:Nat->Prop} {E:Env} {H:aa} {a:Act}
def jQ (cs:List Value) (off:Nat):List Value->List Value
 |[]=>cs
 |x::xs=>jQ (cs.set off x) (off+1) xs
theorem Jd {α:Type}:∀(l:List α) (k:Nat) (f:Nat->α->α×Nat),(∀i x,f i x=(x,i+k))->l.mapIdx f=l.zipIdx k
 |[],_,_,_=>rfl
 |x::l,k,f,hf=>by
  rw[List.mapIdx_cons,List.zipIdx_cons,hf 0 x,Nat.zero_add,Jd l (k+1) (fun i=>f (i+1)) (fun i x=>by rw[hf];simp;omega)]
theorem RU {α:Type} (l:List α):l.mapIdx (fun i a=>(a,i))=l.zipIdx:=Jd l 0 _ (fun _ _=>rfl)
theorem GF:∀(ws:List Value) (k off:Nat) (cs:List Value),
  ((ws.zipIdx k).foldl (fun(cs:Array Value) (p:Value×Nat)=>cs.setIfInBounds (off+p.2) p.1) cs.toArray)=(jQ cs (off+k) ws).toArray
 |[],_,_,_=>rfl
 |x::ws,k,off,cs=>by
  simp only[List.zipIdx_cons,List.foldl_cons,jQ,List.setIfInBounds_toArray]
  rw[GF ws (k+1) off (cs.set (off+k) x)]
  rfl
theorem E_:∀(cs:List AV) (us:List Value) (i:Nat) (x:AV) (u:Value),AV.ab w φ I cs us->AV.den w φ I x u->AV.ab w φ I (cs.set i x) (us.set i u)
 |[],us,i,x,u,h,_=>by simp only[AV.ab]at h;subst h;simp[AV.ab]
 |c::cs,us,i,x,u,h,hx=>by
  simp only[AV.ab]at h
  obtain⟨u0,au,rfl,h1,h2⟩:=h
  cases i with
  |zero=>simp only[List.set_cons_zero,AV.ab];exact⟨u,au,rfl,hx,h2⟩
  |succ i=>simp only[List.set_cons_succ,AV.ab];exact⟨u0,_,rfl,h1,E_ cs au i x u h2 hx⟩
theorem Ed:∀(ys:List AV) (ws:List Value) (off:Nat) (cs:List AV) (us:List Value),AV.ab w φ I cs us->AV.ab w φ I ys ws->AV.ab w φ I (setAt cs off ys) (jQ us off ws)
 |[],ws,off,cs,us,h,hy=>by simp only[AV.ab]at hy;subst hy;exact h
 |y::ys,ws,off,cs,us,h,hy=>by
  simp only[AV.ab]at hy
  obtain⟨u0,au,rfl,h1,h2⟩:=hy
  simp only[setAt,jQ]
  exact Ed ys au (off+1) _ _ (E_ cs us off y u0 h h1) h2
theorem Ec:∀(ws:List Value) (off:Nat) (us:List Value),(∀x∈us,x.oneCell'=true)->(∀x∈ws,x.oneCell'=true)->∀x∈jQ us off ws,x.oneCell'=true
 |[],_,_,h,_=>h
 |y::ws,off,us,h,hw=>Ec ws (off+1) _ (fun x hx=>by
   rcases List.mem_or_eq_of_mem_set hx with h'|rfl
   ·exact h x h'
   ·exact hw _ (by simp)) (fun x hx=>hw x (by simp[hx]))
theorem z_:∀(ws:List Value) (off:Nat) (us:List Value),(jQ us off ws).length=us.length
 |[],_,_=>rfl
 |y::ws,off,us=>by simp only[jQ];rw[z_ ws (off+1)];simp
theorem qq {u:Value} (h:u.oneCell'=true):u.cells=#[u]:=by cases u<;>first|rfl|cases h
theorem x8 {x:AV} {ys:List AV} {u:Value} (h:qp x=some ys) (hx:AV.den w φ I x u):∃ws,u.cells=ws.toArray/\AV.ab w φ I ys ws/\∀x∈ws,x.oneCell'=true:=by
 unfold qp at h
 split at h
 ·simp only[Option.some.injEq]at h;subst h
  simp only[AV.den]at hx
  obtain⟨us,hd,rfl,h1⟩:=hx
  exact⟨us,rfl,hd,h1⟩
 ·rename_i y
  simp only[Option.some.injEq]at h;subst h
  have h1:=Iz y u (by simpa only[AV.den]using hx)
  exact⟨[u],qq h1,by simp only[AV.ab];exact⟨u,[],rfl,hx,rfl⟩,by simpa using h1⟩
 ·simp only[Option.some.injEq]at h;subst h
  have h1:u.oneCell'=true:=by simp only[AV.den]at hx;obtain⟨_,_,rfl⟩:=hx;rfl
  exact⟨[u],qq h1,by simp only[AV.ab];exact⟨u,[],rfl,hx,rfl⟩,by simpa using h1⟩
 ·simp only[Option.some.injEq]at h;subst h
  have h1:u.oneCell'=true:=by simp only[AV.den]at hx;rcases hx with⟨_,_,_,rfl⟩|⟨_,_,_,rfl,_⟩<;>rfl
  exact⟨[u],qq h1,by simp only[AV.ab];exact⟨u,[],rfl,hx,rfl⟩,by simpa using h1⟩
 ·simp only[Option.some.injEq]at h;subst h
  have h1:u.oneCell'=true:=by simp only[AV.den]at hx;obtain⟨_,_,rfl⟩:=hx;rfl
  exact⟨[u],qq h1,by simp only[AV.ab];exact⟨u,[],rfl,hx,rfl⟩,by simpa using h1⟩
 ·simp only[Option.some.injEq]at h;subst h
  have h1:u.oneCell'=true:=by simp only[AV.den]at hx;obtain⟨_,_,_,_,rfl⟩:=hx;rfl
  exact⟨[u],qq h1,by simp only[AV.ab];exact⟨u,[],rfl,hx,rfl⟩,by simpa using h1⟩
 ·simp only[Option.some.injEq]at h;subst h
  have h1:u.oneCell'=true:=by simp only[AV.den]at hx;obtain⟨_,_,rfl⟩:=hx;rfl
  exact⟨[u],qq h1,by simp only[AV.ab];exact⟨u,[],rfl,hx,rfl⟩,by simpa using h1⟩
 ·simp only[Option.some.injEq]at h;subst h
  have h1:u.oneCell'=true:=by simp only[AV.den,WK.rel]at hx;obtain⟨_,rfl,_⟩:=hx;rfl
  exact⟨[u],qq h1,by simp only[AV.ab];exact⟨u,[],rfl,hx,rfl⟩,by simpa using h1⟩
 ·simp only[Option.some.injEq]at h;subst h
  simp only[AV.den]at hx
  obtain⟨us,hd,rfl⟩:=hx
  refine⟨us,rfl,?_,ra _ us hd⟩
  have:∀(cs:List IV) (us:List Value),IV.ab w I cs us->AV.ab w φ I (cs.map .im) us:=by
   intro cs
   induction cs with
   |nil=>intro us h;simpa only[IV.ab,AV.ab,List.map_nil]using h
   |cons c cs ih=>
    intro us h
    simp only[IV.ab]at h
    obtain⟨u,au,rfl,h1,h2⟩:=h
    simp only[List.map_cons,AV.ab]
    exact⟨u,au,rfl,by simpa only[AV.den]using h1,ih au h2⟩
  exact this _ _ hd
 ·cases h
theorem By {place:Nat->Option (Nat×Nat)} (hE:dB w φ I E a):∀(parts:List (Nat×Operand)) (cs cs':List AV) (us:List Value),fillParts place E cs parts=some cs'->AV.ab w φ I cs us->(∀x∈us,x.oneCell'=true)->
  ∃au,Instr.fill place us.toArray (parts.map fun p=>(p.1,a.eval p.2))=some au.toArray/\AV.ab w φ I cs' au/\(∀x∈au,x.oneCell'=true)/\au.length=us.length
 |[],cs,cs',us,h,hd,h1=>by
  simp only[fillParts,Option.some.injEq]at h
  subst h
  exact⟨us,rfl,hd,h1,rfl⟩
 |(i,x)::parts,cs,cs',us,h,hd,h1=>by
  simp only[fillParts]at h
  split at h
  ·rename_i off n av hp lA
   split at h
   ·rename_i ys hy
    cases hb:(Nat.beq ys.length n&&decide (off+n<=cs.length))with
    |false=>rw[hb]at h;simp at h
    |true=>
     rw[hb]at h
     simp only[cond_true]at h
     simp only[Bool.and_eq_true,decide_eq_true_eq]at hb
     have hn:=Nat.eq_of_beq_eq_true hb.1
     obtain⟨ws,hw,jA,a8⟩:=x8 hy (aX hE lA)
     have hlen:=iC cs us hd
     have jH:ws.length=n:=by rw[iC ys ws jA];exact hn
     obtain⟨au,h2,h3,h4,h5⟩:=By hE parts _ cs' (jQ us off ws) h (Ed ys ws off cs us hd jA) (Ec ws off us h1 a8)
     refine⟨au,?_,h3,h4,by rw[h5,z_]⟩
     simp only[List.map_cons,Instr.fill,hp]
     rw[if_neg (by simp[hw,jH];omega)]
     rw[hw]
     have:=GF ws 0 off us
     simp only[Nat.add_zero]at this
     have e2:(Array.foldl (fun(cs:Array Value) (x:Value×Nat)=>cs.setIfInBounds (off+x.2) x.1) us.toArray ws.toArray.zipIdx)=(jQ us off ws).toArray:=by
      rw[<-this,Array.zipIdx,<-Array.foldl_toList];simp[RU]
     rw[<-h2]
     congr 1
   ·cases h
  ·cases h
theorem xi {t:TypeId} {z:List Value} (h:aC P t=some z):∃i zv,P.info? t=some i/\i.zero=some zv/\zv.cells.toList=z:=by
 unfold aC at h
 cases hi:P.info? t with
 |none=>rw[hi]at h;cases h
 |some i=>
  rw[hi]at h
  simp only[Option.bind_some]at h
  cases hz:i.zero with
  |none=>rw[hz]at h;cases h
  |some zv=>rw[hz]at h;exact⟨i,zv,rfl,hz,by simpa using h⟩
theorem J2:∀(F:List Field) (pl:List (Nat×Nat)),placesOf P (F.map fun f=>(f.offset,f.type))=some pl->F.mapM (fun f=>(P.info? f.type).map fun i=>(f.offset,i.size))=some pl
 |[],pl,h=>by simpa[placesOf]using h
 |f::F,pl,h=>by
  simp only[List.map_cons,placesOf]at h
  split at h
  ·rename_i n l hn hl
   simp only[Option.some.injEq]at h
   subst h
   obtain⟨_,i,hi,rfl⟩:=lW hn
   simp[List.mapM_cons,hi,J2 F l hl]
  ·cases h
theorem DY (parts:Array (Nat×Operand)) (a:Act):(parts.map fun(i,x)=>(i,a.eval x)).toList=parts.toList.map fun p=>(p.1,a.eval p.2):=by simp
theorem Mk (hE:dB w φ I E a) {t:TypeId} {parts:Array (Nat×Operand)} {sc:Prop} {v:AV} (h:aBuild P t parts.toList E=some (sc,v)):
  dY P w (Instr.build t (parts.map fun(i,x)=>(i,a.eval x))) φ I v:=by
 unfold aBuild at h
 split at h
 ·rename_i fs z ht hz
  obtain⟨F,hF,rfl⟩:=w8 ht
  obtain⟨it,zv,hit,q_,rfl⟩:=xi hz
  split at h
  ·rename_i pl nc
   split at h
   ·rename_i cs n_
    cases hb:zv.cells.toList.all Value.oneCell' with
    |false=>rw[hb]at h;simp at h
    |true=>
     rw[hb]at h
     simp only[cond_true,Option.some.injEq,Prod.mk.injEq]at h
     obtain⟨_,rfl⟩:=h
     obtain⟨au,h2,h3,h4,h5⟩:=By (w:=w) (φ:=φ) (I:=I) hE _ _ _ zv.cells.toList n_ (uC _ hb) (List.all_eq_true.1 hb)
     refine⟨.agg au.toArray,run_build w t _ _ ?_,by simp only[AV.den];exact⟨au,h3,rfl,h4⟩⟩
     simp only[Program.built,hit,hF,q_,J2 _ _ nc]
     rw[DY,<-h2]
     simp
   ·cases h
  ·cases h
 ·rename_i m e z ht hz
  obtain⟨it,zv,hit,q_,rfl⟩:=xi hz
  split at h
  ·rename_i n hn
   obtain⟨_,ie,gP,rfl⟩:=lW hn
   split at h
   ·rename_i cs n_
    cases hb:zv.cells.toList.all Value.oneCell' with
    |false=>rw[hb]at h;simp at h
    |true=>
     rw[hb]at h
     simp only[cond_true,Option.some.injEq,Prod.mk.injEq]at h
     obtain⟨_,rfl⟩:=h
     obtain⟨au,h2,h3,h4,h5⟩:=By (w:=w) (φ:=φ) (I:=I) hE _ _ _ zv.cells.toList n_ (uC _ hb) (List.all_eq_true.1 hb)
     refine⟨.agg au.toArray,run_build w t _ _ ?_,by simp only[AV.den];exact⟨au,h3,rfl,h4⟩⟩
     simp only[Program.built,hit,rJ ht,q_,gP]
     rw[DY,<-h2]
   ·cases h
  ·cases h
 ·cases h
theorem MV (hE:dB w φ I E a) (hR:Real w φ I H) {o:Oper} {sc:Prop} {v:AV} (h:eJ P E H o.op=some (sc,v)) (aB:sc):
  ∃u,(execOp a.eval o).run P w= .ok (.value u) w/\AV.den w φ I v u:=by
 have fin:∀{s:Sem Value},dY P w s φ I v->(execOp a.eval o=do pure (.value (<-s)))->∃u,(execOp a.eval o).run P w= .ok (.value u) w/\AV.den w φ I v u:=by
  intro s ⟨u,hu,hd⟩ he
  exact⟨u,by rw[he];simp[hu],hd⟩
 obtain⟨dst,op,ty,pos,after,guard⟩:=o
 simp only at h⊢
 unfold eJ at h
 split at h
 ·rename_i x
  split at h
  ·rename_i av hx
   simp only[Option.some.injEq,Prod.mk.injEq]at h
   obtain⟨_,rfl⟩:=h
   exact⟨_,rfl,aX hE hx⟩
  ·cases h
 ·rename_i x
  split at h
  ·rename_i av hx
   simp only[Option.some.injEq,Prod.mk.injEq]at h
   obtain⟨_,rfl⟩:=h
   exact⟨_,rfl,aX hE hx⟩
  ·cases h
 ·rename_i c x y
  split at h
  ·rename_i cv xv yv hc hx hy
   obtain⟨b,hb,hd⟩:=My h aB (aX hE hc) (aX hE hx) (aX hE hy)
   refine⟨_,?_,hd⟩
   simp[execOp,hb,asBool]
  ·cases h
 ·rename_i op t x y _
  obtain⟨xa,ya,cM,hx,hy,hf,cD,g1,g2⟩:=mP h aB
  exact fin (Mi (ox:=x) (oy:=y) hf cD (ck (aX hE hx) g1) (ck (aX hE hy) g2)) rfl
 ·rename_i op t x
  obtain⟨xa,cM,hx,hf,cD,g1⟩:=iU h aB
  exact fin (MC hf (ck (aX hE hx) g1)) rfl
 ·rename_i s d x
  obtain⟨xa,cM,hx,hf,cD,g1⟩:=iU h aB
  split at hf
  ·exact fin (Mm hf (ck (aX hE hx) g1) (by rename_i hs;exact Option.isSome_iff_exists.1 hs)) rfl
  ·cases hf
 ·rename_i x
  obtain⟨xa,cM,hx,hf,cD,g1⟩:=iU h aB
  exact⟨_,Mx (o:=⟨dst,.nilCheck x,ty,pos,after,guard⟩) rfl hf (ck (aX hE hx) g1) rfl⟩
 ·obtain⟨xa,ya,cM,hx,hy,hf,cD,g1,g2⟩:=mP h aB
  exact fin (Ms hf cD (ck (aX hE hx) g1) (ck (aX hE hy) g2)) rfl
 ·obtain⟨xa,ya,cM,hx,hy,hf,cD,g1,g2⟩:=mP h aB
  exact fin (Mr hf cD (ck (aX hE hx) g1) (ck (aX hE hy) g2)) rfl
 ·obtain⟨xa,cM,hx,hf,cD,g1⟩:=iU h aB
  exact fin (Mo hf (ck (aX hE hx) g1)) rfl
 ·obtain⟨xa,cM,hx,hf,cD,g1⟩:=iU h aB
  exact fin (Mp hf cD (ck (aX hE hx) g1)) rfl
 ·obtain⟨xa,cM,hx,hf,cD,g1⟩:=iU h aB
  exact fin (E6 hR hf cD (ck (aX hE hx) g1)) rfl
 ·obtain⟨xa,cM,hx,hf,cD,g1⟩:=iU h aB
  exact fin (Mn hf (ck (aX hE hx) g1)) rfl
 ·exact fin (Mk hE h) rfl
 ·rename_i args ts
  split at h
  ·rename_i x t cU QE
   obtain⟨xa,cM,hx,hf,cD,g1⟩:=iU h aB
   obtain rfl:args=#[x]:=by cases args;simpa using cU
   obtain rfl:ts=#[t]:=by cases ts;simpa using QE
   obtain⟨u,hu,hd⟩:=Mu (ty:=ty) hf (ck (aX hE hx) g1)
   exact⟨u,by simp[execOp,resolve,invoke,builtin,hu],hd⟩
  ·cases h
 ·rename_i args ts
  split at h
  ·rename_i x y cU
   obtain⟨xa,ya,cM,hx,hy,hf,cD,g1,g2⟩:=mP h aB
   obtain rfl:args=#[x,y]:=by cases args;simpa using cU
   obtain⟨u,hu,hd⟩:=Mw (P:=P) (ts:=ts) (ty:=ty) hf (ck (aX hE hx) g1) (ck (aX hE hy) g2)
   exact⟨u,by simp[execOp,resolve,invoke,builtin,hu],hd⟩
  ·cases h
 ·rename_i args ts
  split at h
  ·rename_i x y cU
   obtain⟨xa,ya,cM,hx,hy,hf,cD,g1,g2⟩:=mP h aB
   obtain rfl:args=#[x,y]:=by cases args;simpa using cU
   obtain⟨u,hu,hd⟩:=Mv (P:=P) (ts:=ts) (ty:=ty) hf (ck (aX hE hx) g1) (ck (aX hE hy) g2)
   exact⟨u,by simp[execOp,resolve,invoke,builtin,hu],hd⟩
  ·cases h
 ·rename_i t x lo hi
  split at h
  ·rename_i l hh
   split at h
   ·rename_i lv hv h1 h2
    obtain⟨xa,cM,hx,hf,cD,g1⟩:=iU h aB
    refine fin (AI (plo:=some (a.eval l)) (phi:=some (a.eval hh)) hf cD (ck (aX hE hx) g1) (fun y hy=>?_) (fun e=>by cases e) (fun y hy=>?_) (fun e=>by cases e)) rfl
    ·cases hy;exact⟨_,rfl,aX hE h1⟩
    ·cases hy;exact⟨_,rfl,aX hE h2⟩
   ·cases h
  ·rename_i l
   split at h
   ·rename_i lv h1
    obtain⟨xa,cM,hx,hf,cD,g1⟩:=iU h aB
    refine fin (AI (plo:=some (a.eval l)) (phi:=none) hf cD (ck (aX hE hx) g1) (fun y hy=>?_) (fun e=>by cases e) (fun y hy=>by cases hy) (fun _=>rfl)) rfl
    cases hy;exact⟨_,rfl,aX hE h1⟩
   ·cases h
  ·rename_i hh
   split at h
   ·rename_i hv h2
    obtain⟨xa,cM,hx,hf,cD,g1⟩:=iU h aB
    refine fin (AI (plo:=none) (phi:=some (a.eval hh)) hf cD (ck (aX hE hx) g1) (fun y hy=>by cases hy) (fun _=>rfl) (fun y hy=>?_) (fun e=>by cases e)) rfl
    cases hy;exact⟨_,rfl,aX hE h2⟩
   ·cases h
  ·cases h
 ·cases h
end
def dD (E:Env):List Operand->Option (List AV)
 |[]=>some []
 |x::r=>match ev E x,dD E r with
  |some a,some l=>some (a::l)
  |_,_=>none
def gs:List AV->Bool
 |[]=>true
 |a::r=>a.g&&gs r
inductive NL where
 |nil|mH|ob (b o:Nat)
def kk:AV->Option (Prop×NL)
 | .im (.v (.pointer none))=>some (True,.nil)
 | .im (.v (.slice none _ _))=>some (True,.nil)
 | .im (.v .nilFunc)=>some (True,.nil)
 | .im (.pt _)=>some (True,.mH)
 | .im (.sl _ rows)=>some (rows≠[],.mH)
 | .ob b o=>some (True,.ob b o)
 | .oe _ _ _ _=>some (True,.mH)
 | .fn _ _ _=>some (True,.mH)
 |_=>none
def iS:AV->Nat
 | .im (.v (.pointer _))=>1
 | .im (.pt _)=>1
 | .ob _ _=>1
 | .oe _ _ _ _=>1
 | .im (.v (.slice _ _ _))=>2
 | .im (.sl _ _)=>2
 | .im (.v .nilFunc)=>3
 | .fn _ _ _=>3
 |_=>0
def p6:TK->Nat
 | .ptr _=>1
 | .slice _=>2
 | .func=>3
 |_=>4
def kj (P:Program) (t:TypeId):NL->NL->Option Bool
 | .nil,.nil=>some true
 | .nil,_=>some false
 |_,.nil=>some false
 | .ob b o,.ob b' o'=>match tk P t with
  | .ptr e=>match sz P e with
   |some (_+1)=>bif Nat.beq b b' then some (Nat.beq o o')else none
   |_=>none
  |_=>none
 |_,_=>none
def tY (P:Program) (t:TypeId) (neg:Bool) (x y:AV):Option (Prop×AV):=
 bif Nat.beq (iS x) (p6 (tk P t))&&Nat.beq (iS y) (p6 (tk P t))then match kk x,kk y with
  |some (p,a),some (q,b)=>match kj P t a b with
   |some r=>some (p/\q,.im (.v (.bool (r !=neg))))
   |none=>none
  |_,_=>none
 else none
def A3:List IV->UInt8
 |[.v (.int .u8 n)]=>UInt8.ofNat n.toNat
 |_=>0
def C6 (r:List IV):Prop:=∃n:Int,r=[.v (.int .u8 n)]
def xq (P:Program) (src dst:TypeId):AV->Option (Prop×AV)
 | .im (.v (.int _ n))=>match tk P dst with
  | .str=>some (True,.im (.v (.string (Utf8.encode n))))
  |_=>none
 | .im (.sl 1 rows)=>match tk P src,tk P dst with
  | .slice e,.str=>match tk P e with
   | .int .u8=>some (∀r∈rows,C6 r,.im (.v (.string ⟨(rows.map A3).toArray⟩)))
   |_=>none
  |_,_=>none
 | .im (.v (.slice none _ _))=>match tk P src,tk P dst with
  | .slice e,.str=>match tk P e with
   | .int .u8=>some (True,.im (.v (.string ⟨#[]⟩)))
   |_=>none
  |_,_=>none
 |_=>none
def xn (P:Program) (arr:TypeId):AV->Option (Prop×AV)
 | .im (.sl _ rows)=>match tk P arr with
  | .arr (n+1) _=>some (n+1<=rows.length,.im (.pt rows.flatten))
  |_=>none
 |_=>none
def tZ (P:Program) (t:TypeId):AV->AV->Option AV->Option (Prop×AV)
 | .os b es i n,.im (.v (.int _ h)),none=>match tk P t with
  | .slice e=>bif decide (sz P e=some es)then some (0<=h/\h<=n,.os b es i h.toNat)else none
  |_=>none
 | .os b es i n,.im (.v (.int _ h)),some (.im (.v (.int _ m)))=>match tk P t with
  | .slice e=>bif decide (sz P e=some es)then some (0<=h/\h<=m/\m<=n,.os b es i h.toNat)else none
  |_=>none
 |_,_,_=>none
def iW (P:Program) (E:Env):Op->Option (Prop×AV)
 | .makeFunc (.func f) first cap=>match dD E first.toList,dD E cap.toList with
  |some l1,some l2=>some (gs l1=true/\gs l2=true,.fn f (l1.map AV.st) (l2.map AV.st))
  |_,_=>none
 | .sliceToArrayPointer arr x=>un (xn P arr) (ev E x)
 | .convert s d x=>un (fun a=>match(P.underlying s).isSome with
  |true=>xq P s d a
  |false=>none) (ev E x)
 | .binOp op t x y _=>match op with
  | .eql=>bi (tY P t false) (ev E x) (ev E y)
  | .neq=>bi (tY P t true) (ev E x) (ev E y)
  |_=>none
 | .slice t x none (some h) none=>bi (fun a b=>tZ P t a b none) (ev E x) (ev E h)
 | .slice t x none (some h) (some m)=>match ev E m with
  |some mv=>match mv.g with
   |true=>bi (fun a b=>tZ P t a b (some mv.st)) (ev E x) (ev E h)
   |false=>none
  |none=>none
 |_=>none
def fX (E:Env) (d:Nat):Option Operand->Option (Prop×Nat)
 |none=>some (True,d)
 |some o=>match ev E o with
  |some a=>match a.st with
   | .im (.v (.int _ n))=>some (a.g=true/\0<=n,n.toNat)
   |_=>none
  |none=>none
def ql (P:Program) (H:aa) (t:TypeId) (E:Env) (lo hi:Option Operand):AV->Option (Prop×AV)
 | .im (.pt cs)=>match tk P t with
  | .arr n e=>bif decide (sz P e=some 1)then match fX E 0 lo,fX E n hi with
   |some (p,l),some (q,h)=>some (p/\q/\l<=h/\h<=n/\l<=n/\cs.length=n,.im (.sl 1 (((cs.drop l).take (h-l)).map fun c=>[c])))
   |_,_=>none
   else none
  |_=>none
 | .ob b 0=>match lk H b with
  |some (.vec _ 1 rows)=>match tk P t with
   | .arr n e=>bif decide (sz P e=some 1)then match fX E 0 lo,fX E n hi with
    |some (p,l),some (q,h)=>some (p/\q/\l<=h/\h<=n/\l<n/\n<=rows.length/\n<=1000000,.os b 1 l (h-l))
    |_,_=>none
    else none
   |_=>none
  |_=>none
 | .os b es j n=>match tk P t with
  | .slice e=>bif decide (sz P e=some es)then match fX E 0 lo,fX E n hi with
   |some (p,l),some (q,h)=>some (p/\q/\l<=h/\h<=n/\(l<n\/l=0),.os b es (j+l) (h-l))
   |_,_=>none
   else none
  |_=>none
 | .im (.v (.string s))=>match tk P t,fX E 0 lo,fX E s.size hi with
  | .str,some (p,l),some (q,h)=>some (p/\q/\l<=h/\h<=s.size,.im (.v (.string (s.extract l h))))
  |_,_,_=>none
 | .im (.sl es rows)=>match tk P t,fX E 0 lo,fX E rows.length hi with
  | .slice e,some (p,l),some (q,h)=>bif decide (sz P e=some es)then some (p/\q/\l<=h/\h<=rows.length,.im (.sl es ((rows.take h).drop l)))else none
  |_,_,_=>none
 |_=>none
def xy (P:Program) (t:TypeId):AV->AV->Option (Prop×AV)
 | .im (.pt cs),.im (.v (.int _ i))=>match tk P t with
  | .arr n e=>bif decide (2<=n)then bif decide (sz P e=some 1)then some (0<=i/\i<n/\cs.length=n,.im (.pt [cs.getD i.toNat (.v (.bool false))]))else none else none
  |_=>none
 |_,_=>none
def tW (neg:Bool):AV->Option (Prop×AV)
 | .im (.v .nilIface)=>some (True,.im (.v (.bool (!neg))))
 | .wr (.iface _) _=>some (True,.im (.v (.bool neg)))
 |_=>none
def s3:Operand->Bool
 | .const .nilIface=>true
 |_=>false
def l7 (P:Program) (E:Env) (H:aa):Op->Option (Prop×AV)
 | .slice t x lo hi none=>un (ql P H t E lo hi) (ev E x)
 | .indexAddr t x i=>bi (xy P t) (ev E x) (ev E i)
 | .binOp op t x y _=>match s3 y,op,tk P t with
  |true,.eql,.iface=>un (tW false) (ev E x)
  |true,.neq,.iface=>un (tW true) (ev E x)
  |_,_,_=>none
 |_=>none
def gJ (P:Program) (E:Env) (H:aa) (op:Op):Option (Prop×AV):=match eJ P E H op with
 |some r=>some r
 |none=>match iW P E op with
  |some r=>some r
  |none=>l7 P E H op
section
variable {P:Program} {w:World} {φ:aq} {I:Nat->Prop} {E:Env} {H:aa} {a:Act}
theorem lr {w:World} {φ:aq} {I:Nat->Prop} {a:Act} (hE:dB w φ I E a):∀(xs:List Operand) (l:List AV),dD E xs=some l->gs l=true->AV.ab w φ I (l.map AV.st) (xs.map a.eval)
 |[],l,h,_=>by simp only[dD,Option.some.injEq]at h;subst h;simp[AV.ab]
 |x::r,l,h,hg=>by
  simp only[dD]at h
  split at h
  ·rename_i av l' hx hl
   simp only[Option.some.injEq]at h
   subst h
   simp only[gs,Bool.and_eq_true]at hg
   simp only[List.map_cons,AV.ab]
   exact⟨_,_,rfl,ck (aX hE hx) hg.1,lr hE r l' hl hg.2⟩
  ·cases h
def NL.at (φ:aq):NL->Option Addr->Prop
 | .nil,p=>p=none
 | .mH,p=>∃q,p=some q
 | .ob b o,p=>∃g,φ b=some (some g)/\p=some ⟨g,o,none⟩
theorem DH {x:AV} {u:Value} {p:Prop} {n:NL} (hk:iS x=1) (h:kk x=some (p,n)) (hp:p) (hx:AV.den w φ I x u):∃q,u= .pointer q/\n.at φ q:=by
 unfold kk at h
 split at h<;>simp only[iS]at hk<;>first|(exact absurd hk (by decide))|skip
 ·simp only[Option.some.injEq,Prod.mk.injEq]at h;obtain⟨_,rfl⟩:=h
  simp only[AV.den,IV.den]at hx;exact⟨none,hx.1,rfl⟩
 ·simp only[Option.some.injEq,Prod.mk.injEq]at h;obtain⟨_,rfl⟩:=h
  simp only[AV.den,IV.den]at hx
  obtain⟨g,off,us,rfl,_⟩:=hx
  exact⟨_,rfl,_,rfl⟩
 ·simp only[Option.some.injEq,Prod.mk.injEq]at h;obtain⟨_,rfl⟩:=h
  simp only[AV.den]at hx
  obtain⟨g,h1,rfl⟩:=hx
  exact⟨_,rfl,g,h1,rfl⟩
 ·simp only[Option.some.injEq,Prod.mk.injEq]at h;obtain⟨_,rfl⟩:=h
  simp only[AV.den]at hx
  obtain⟨g,h1,rfl⟩:=hx
  exact⟨_,rfl,_,rfl⟩
 ·cases h
theorem DI {x:AV} {u:Value} {p:Prop} {n:NL} (hk:iS x=2) (h:kk x=some (p,n)) (hp:p) (hx:AV.den w φ I x u):∃q l c,u= .slice q l c/\((n= .nil/\q=none)\/(n= .mH/\∃r,q=some r)):=by
 unfold kk at h
 split at h<;>simp only[iS]at hk<;>first|(exact absurd hk (by decide))|skip
 ·simp only[Option.some.injEq,Prod.mk.injEq]at h;obtain⟨_,rfl⟩:=h
  simp only[AV.den,IV.den]at hx;exact⟨_,_,_,hx.1,.inl ⟨rfl,rfl⟩⟩
 ·simp only[Option.some.injEq,Prod.mk.injEq]at h;obtain⟨rfl,rfl⟩:=h
  simp only[AV.den,IV.den]at hx
  obtain⟨q,c,ag,rfl,_,_,_,ha⟩:=hx
  obtain⟨g,off,rfl,_⟩:=ha hp
  exact⟨_,_,_,rfl,.inr ⟨rfl,_,rfl⟩⟩
 ·cases h
theorem DJ {x:AV} {u:Value} {p:Prop} {n:NL} (hk:iS x=3) (h:kk x=some (p,n)) (hx:AV.den w φ I x u):(n= .nil/\u= .nilFunc)\/(n= .mH/\∃f a b,u= .func f a b):=by
 unfold kk at h
 split at h<;>simp only[iS]at hk<;>first|(exact absurd hk (by decide))|skip
 ·simp only[Option.some.injEq,Prod.mk.injEq]at h;obtain⟨_,rfl⟩:=h
  simp only[AV.den,IV.den]at hx;exact .inl ⟨rfl,hx.1⟩
 ·simp only[Option.some.injEq,Prod.mk.injEq]at h;obtain⟨_,rfl⟩:=h
  simp only[AV.den]at hx
  obtain⟨us,vs,_,_,rfl⟩:=hx
  exact .inr ⟨rfl,_,_,_,rfl⟩
 ·cases h
theorem tP {t e:TypeId} (h:tk P t= .ptr e):P.underlying t=some (.pointer e):=by
 obtain⟨u,hu,hk⟩:=oX h (by simp)
 cases u<;>simp[TK.of]at hk
 subst hk;exact hu
theorem Ut {t:TypeId} (h:tk P t= .func):∃a b c,P.underlying t=some (.func a b c):=by
 obtain⟨u,hu,hk⟩:=oX h (by simp)
 cases u<;>simp[TK.of]at hk
 exact⟨_,_,_,hu⟩
theorem Tw {t:TypeId} {x y:AV} {u v:Value} {p q:Prop} {n m:NL} {r:Bool} (iM:iS x=p6 (tk P t)) (sx:iS y=p6 (tk P t)) (hx:kk x=some (p,n)) (hy:kk y=some (q,m)) (hp:p) (hq:q)
  (hr:kj P t n m=some r) (dx:AV.den w φ I x u) (dy:AV.den w φ I y v):(∀d,(Op.equalIn (d+1) t u v).run P w= .ok r w)/\(∀c,u≠ .agg c)/\u≠ .nilIface:=by
 cases ht:tk P t with
 |ptr e=>
  rw[ht]at iM sx
  obtain⟨a,rfl,ha⟩:=DH iM hx hp dx
  obtain⟨b,rfl,hb⟩:=DH sx hy hq dy
  refine⟨fun d=>?_,by simp,by simp⟩
  cases n with
  |nil=>
   simp only[NL.at]at ha;subst ha
   cases m with
   |nil=>simp only[NL.at]at hb;subst hb;simp only[kj,Option.some.injEq]at hr;subst hr;simp[Op.equalIn,run_underlying (tP ht)]
   |mH=>simp only[NL.at]at hb;obtain⟨b',rfl⟩:=hb;simp only[kj,Option.some.injEq]at hr;subst hr;simp[Op.equalIn,run_underlying (tP ht)]
   |ob b0 o0=>simp only[NL.at]at hb;obtain⟨g,_,rfl⟩:=hb;simp only[kj,Option.some.injEq]at hr;subst hr;simp[Op.equalIn,run_underlying (tP ht)]
  |mH=>
   simp only[NL.at]at ha;obtain⟨a',rfl⟩:=ha
   cases m with
   |nil=>simp only[NL.at]at hb;subst hb;simp only[kj,Option.some.injEq]at hr;subst hr;simp[Op.equalIn,run_underlying (tP ht)]
   |mH=>simp[kj]at hr
   |ob b0 o0=>simp[kj]at hr
  |ob b1 o1=>
   simp only[NL.at]at ha;obtain⟨g1,iK,rfl⟩:=ha
   cases m with
   |nil=>simp only[NL.at]at hb;subst hb;simp only[kj,Option.some.injEq]at hr;subst hr;simp[Op.equalIn,run_underlying (tP ht)]
   |mH=>simp[kj]at hr
   |ob b0 o0=>
    simp only[NL.at]at hb;obtain⟨g0,yN,rfl⟩:=hb
    simp only[kj,ht]at hr
    split at hr
    ·rename_i a7
     cases ao:Nat.beq b1 b0 with
     |false=>rw[ao]at hr;simp at hr
     |true=>
      rw[ao]at hr
      simp only[cond_true,Option.some.injEq]at hr
      subst hr
      have e1:=Nat.eq_of_beq_eq_true ao
      subst e1
      rw[iK]at yN;cases yN
      have hz:∀W,(sizeOf e).run P W= .ok _ W:=fun W=>run_sizeOf a7 W
      simp[Op.equalIn,run_underlying (tP ht),hz,sameAddr]
      by_cases ho:o1=o0
      ·subst ho;simp
      ·have:Nat.beq o1 o0=false:=by
        cases hq:Nat.beq o1 o0 with
        |false=>rfl
        |true=>exact absurd (Nat.eq_of_beq_eq_true hq) ho
       simp[this,ho]
    ·cases hr
 |slice e=>
  rw[ht]at iM sx
  obtain⟨a,l1,c1,rfl,ha⟩:=DI iM hx hp dx
  obtain⟨b,l2,c2,rfl,hb⟩:=DI sx hy hq dy
  refine⟨fun d=>?_,by simp,by simp⟩
  rcases ha with⟨rfl,rfl⟩|⟨rfl,a',rfl⟩<;>rcases hb with⟨rfl,rfl⟩|⟨rfl,b',rfl⟩<;>simp only[kj,Option.some.injEq,reduceCtorEq]at hr<;>subst hr<;>simp[Op.equalIn,run_underlying (eV ht)]
 |func=>
  rw[ht]at iM sx
  obtain⟨q1,q2,q3,hu⟩:=Ut ht
  rcases DJ iM hx dx with⟨rfl,rfl⟩|⟨rfl,f1,f2,f3,rfl⟩<;>rcases DJ sx hy dy with⟨rfl,rfl⟩|⟨rfl,f4,f5,f6,rfl⟩<;>simp only[kj,Option.some.injEq,reduceCtorEq]at hr<;>subst hr<;>refine⟨fun d=>?_,by simp,by simp⟩<;>simp[Op.equalIn,run_underlying hu]
 |_=>
  rw[ht]at iM
  exfalso
  unfold kk at hx
  split at hx<;>simp_all [iS,p6]
theorem E7 {t:TypeId} {neg:Bool} {x y:AV} {u v:Value} {ox oy:Operand} {sc:Prop} {r:AV} (h:tY P t neg x y=some (sc,r)) (aB:sc) (hx:AV.den w φ I x u) (hy:AV.den w φ I y v):
  dY P w (do eqGuard (if neg then .neq else .eql) t ox oy u v;binOp (if neg then .neq else .eql) t u v) φ I r:=by
 unfold tY at h
 cases hk:(Nat.beq (iS x) (p6 (tk P t))&&Nat.beq (iS y) (p6 (tk P t)))with
 |false=>rw[hk]at h;cases h
 |true=>
  rw[hk]at h
  simp only[Bool.and_eq_true]at hk
  simp only[cond_true]at h
  split at h
  ·rename_i p a q b ha hb
   split at h
   ·rename_i e he
    simp only[Option.some.injEq,Prod.mk.injEq]at h
    obtain⟨rfl,rfl⟩:=h
    obtain⟨h1,h2,h3⟩:=Tw (P:=P) (w:=w) (φ:=φ) (I:=I) (Nat.eq_of_beq_eq_true hk.1) (Nat.eq_of_beq_eq_true hk.2) ha hb aB.1 aB.2 he hx hy
    have h1:(Op.equal t u v).run P w= .ok e w:=h1 9999
    refine⟨_,?_,nV⟩
    have hn:∀op,(op= .eql\/op= .neq)->binOp op t u v=(if op= .eql then(do pure (.bool (<-Op.equal t u v)):Sem Value)else(do pure (.bool (!(<-Op.equal t u v))))):=by
     intro op fy
     obtain⟨kx,iM⟩:∃k,iS x=k:=⟨_,rfl⟩
     have hu:(∃q,u= .pointer q)\/(∃q l c,u= .slice q l c)\/u= .nilFunc\/∃f a b,u= .func f a b:=by
      match kx,iM with
      |1,iM=>obtain⟨q,hq,_⟩:=DH iM ha aB.1 hx;exact .inl ⟨q,hq⟩
      |2,iM=>obtain⟨q,l,c,hq,_⟩:=DI iM ha aB.1 hx;exact .inr (.inl ⟨q,l,c,hq⟩)
      |3,iM=>
            rcases DJ iM ha hx with⟨_,hq⟩|⟨_,f,a,b,hq⟩
            ·exact .inr (.inr (.inl hq))
            ·exact .inr (.inr (.inr ⟨f,a,b,hq⟩))
      |0,iM=>exfalso;unfold kk at ha;split at ha<;>simp_all [iS]
      |k+4,iM=>exfalso;unfold kk at ha;split at ha<;>simp_all [iS]
     rcases hu with⟨q,rfl⟩|⟨q,l,c,rfl⟩|rfl|⟨f,a,b,rfl⟩<;>rcases fy with rfl|rfl<;>rfl
    cases neg with
    |false=>simp only[Bool.false_eq_true,if_false,Sem.run_bind,rZ _ _ _ _ _ _ h2 h3,Result.andThen_ok,hn _ (.inl rfl),if_true,h1,Sem.run_pure,Bool.bne_false]
    |true=>simp only[if_true,Sem.run_bind,rZ _ _ _ _ _ _ h2 h3,Result.andThen_ok,hn _ (.inr rfl),reduceCtorEq,if_false,h1,Sem.run_pure,Bool.bne_true]
   ·cases h
  ·cases h
end
section
variable {P:Program} {w:World} {φ:aq} {I:Nat->Prop} {E:Env} {H:aa} {a:Act}
theorem foldl_push (l:List Int):∀(s:ByteArray),l.foldl (fun r n=>r.push (UInt8.ofNat n.toNat)) s=⟨(s.data.toList++l.map fun n=>UInt8.ofNat n.toNat).toArray⟩:=by
 induction l with
 |nil=>intro s;simp
 |cons n l ih=>intro s;rw[List.foldl_cons,ih];simp[ByteArray.push]
theorem FC:∀(rows:List (List IV)) (ag:List (List Value)),IV.aQ w I rows ag->(∀r∈rows,C6 r)->∃ns:List Int,ag.flatten=ns.map (Value.int .u8)/\rows.map A3=ns.map fun n=>UInt8.ofNat n.toNat
 |[],ag,h,_=>by simp only[IV.aQ]at h;subst h;exact⟨[],rfl,rfl⟩
 |r::rows,ag,h,hb=>by
  simp only[IV.aQ]at h
  obtain⟨vs,UL,rfl,h1,h2⟩:=h
  obtain⟨ns,e1,e2⟩:=FC rows UL h2 (fun r hr=>hb r (by simp[hr]))
  obtain⟨n,rfl⟩:=hb r (by simp)
  simp only[IV.ab,IV.den]at h1
  obtain⟨u,au,rfl,⟨rfl,_⟩,rfl⟩:=h1
  exact⟨n::ns,by rw[List.flatten_cons,e1];rfl,by rw[List.map_cons,e2];rfl⟩
theorem No {g off:Nat} {us:List Value} (h:cI w g off us) (n:Nat) (hn:n=us.length):(loadCells ⟨g,off,none⟩ n).run P w= .ok us.toArray w:=by
 subst hn
 exact run_loadCells_list (P:=P) (w:=w) ⟨g,off,none⟩ us (fun j v hj=>by
  have:=h j v hj
  by_cases hz:j=0
  ·subst hz;simpa[Addr.add]using this
  ·simpa[Addr.add,hz]using this)
theorem Ml {s d:TypeId} {x:AV} {p:Value} {sc:Prop} {v:AV} (h:xq P s d x=some (sc,v)) (aB:sc) (hx:AV.den w φ I x p) (hs:∃u,P.underlying s=some u):dY P w (convert s d p) φ I v:=by
 obtain⟨su,sO⟩:=hs
 unfold xq at h
 split at h
 ·rw[fF]at hx
  subst hx
  split at h
  ·rename_i hk
   simp only[Option.some.injEq,Prod.mk.injEq]at h
   obtain⟨_,rfl⟩:=h
   exact⟨_,by simp[convert,run_underlying sO,run_underlying (k9 hk),Conv.intToString],nW⟩
  ·cases h
 ·rename_i rows
  split at h
  ·rename_i e h1 h2
   split at h
   ·rename_i h3
    simp only[Option.some.injEq,Prod.mk.injEq]at h
    obtain⟨rfl,rfl⟩:=h
    simp only[AV.den,IV.den]at hx
    obtain⟨q,c,ag,rfl,hc,hr,hl,ha⟩:=hx
    obtain⟨ns,e1,e2⟩:=FC rows ag hr aB
    refine⟨_,?_,nW⟩
    rw[run_convert_bytes_string w s d e q rows.length c (eV h1) (rK h3) (k9 h2)]
    cases CK:rows with
    |nil=>
     subst CK
     cases q with
     |none=>rfl
     |some ad=>
      have oh:(loadCells ad 0).run P w= .ok #[] w:=by simp[loadCells,loadCellsFrom]
      have:=run_bytesToString (P:=P) w ad 0 c [] (by simpa using oh)
      rw[show(Conv.bytesToString (Value.slice (some ad) ([]:List (List IV)).length c))=Conv.bytesToString (Value.slice (some ad) 0 c) from rfl,this]
      rfl
    |cons r rs=>
     rw[<-CK]
     obtain⟨g,off,rfl,_,ez⟩:=ha (by rw[CK];simp)
     have hn:ag.flatten.length=rows.length:=by
      rw[e1,List.length_map]
      have:=congrArg List.length e2
      rw[List.length_map,List.length_map]at this;exact this.symm
     have Hu:=No (P:=P) ez rows.length hn.symm
     rw[e1]at Hu
     rw[run_bytesToString w _ _ c ns Hu,foldl_push,e2]
     rfl
   ·cases h
  ·cases h
 ·split at h
  ·rename_i e h1 h2
   split at h
   ·rename_i h3
    simp only[Option.some.injEq,Prod.mk.injEq]at h
    obtain⟨_,rfl⟩:=h
    simp only[AV.den,IV.den]at hx
    obtain⟨rfl,_⟩:=hx
    exact⟨_,by rw[run_convert_bytes_string w s d e _ _ _ (eV h1) (rK h3) (k9 h2)];rfl,nW⟩
   ·cases h
  ·cases h
 ·cases h
theorem Mh {arr:TypeId} {x:AV} {p:Value} {sc:Prop} {v:AV} (h:xn P arr x=some (sc,v)) (aB:sc) (hx:AV.den w φ I x p):dY P w (Instr.arrayAt arr p) φ I v:=by
 unfold xn at h
 split at h
 ·rename_i es rows
  split at h
  ·rename_i n e ht
   simp only[Option.some.injEq,Prod.mk.injEq]at h
   obtain⟨rfl,rfl⟩:=h
   simp only[AV.den,IV.den]at hx
   obtain⟨q,c,ag,rfl,hc,hr,hl,ha⟩:=hx
   obtain⟨g,off,rfl,hg,ez⟩:=ha (fun e=>by rw[e]at aB;simp at aB)
   have ah:¬rows.length<n+1:=by omega
   refine⟨.pointer (some ⟨g,off,none⟩),by simp[Instr.arrayAt,run_underlying (rJ ht),ah],?_⟩
   simp only[AV.den,IV.den]
   exact⟨g,off,ag.flatten,rfl,hg,qv rows ag hr,ez⟩
  ·cases h
 ·cases h
theorem E8 {t:TypeId} {x hi:AV} {mx:Option AV} {p ph:Value} {pm:Option Value} {sc:Prop} {v:AV} (h:tZ P t x hi mx=some (sc,v)) (aB:sc) (hx:AV.den w φ I x p) (hh:AV.den w φ I hi ph)
  (hm:∀y,mx=some y->∃u,pm=some u/\AV.den w φ I y u) (Ct:mx=none->pm=none):dY P w (Instr.sliceAt t p none (some ph) pm) φ I v:=by
 unfold tZ at h
 split at h
 ·rename_i b es i n kh h'
  obtain rfl:=Ct rfl
  split at h
  ·rename_i e ht
   cases hd:decide (sz P e=some es)with
   |false=>rw[hd]at h;simp at h
   |true=>
    rw[hd]at h
    simp only[cond_true,Option.some.injEq,Prod.mk.injEq]at h
    obtain⟨rfl,rfl⟩:=h
    have a7:=of_decide_eq_true hd
    rw[fF]at hh
    subst hh
    simp only[AV.den]at hx
    rcases hx with⟨h1,rfl,rfl,rfl⟩|⟨g,c,h1,rfl,h3,h4,h5⟩
    ·obtain rfl:h'=0:=by omega
     refine⟨_,qc ht a7 (uk (by omega) (by omega)),?_⟩
     simp only[AV.den]
     exact .inl ⟨h1,by simp⟩
    ·refine⟨_,qc ht a7 (uk (by omega) (by omega)),?_⟩
     simp only[AV.den]
     refine .inr ⟨g,c,h1,?_,by omega,h4,h5⟩
     simp[Addr.add]
  ·cases h
 ·rename_i b es i n kh h' km m
  obtain⟨_,rfl,mY⟩:=hm _ rfl
  split at h
  ·rename_i e ht
   cases hd:decide (sz P e=some es)with
   |false=>rw[hd]at h;simp at h
   |true=>
    rw[hd]at h
    simp only[cond_true,Option.some.injEq,Prod.mk.injEq]at h
    obtain⟨rfl,rfl⟩:=h
    have a7:=of_decide_eq_true hd
    rw[fF]at hh mY
    subst hh;subst mY
    simp only[AV.den]at hx
    rcases hx with⟨h1,rfl,rfl,rfl⟩|⟨g,c,h1,rfl,h3,h4,h5⟩
    ·obtain rfl:h'=0:=by omega
     obtain rfl:m=0:=by omega
     have e1:=fun code=>qb (P:=P) (w:=w) (k:=km) (n:=0) (y:=0) (code:=code) (by omega) (by omega)
     have e2:=fun code=>qb (P:=P) (w:=w) (k:=kh) (n:=0) (y:=0) (code:=code) (by omega) (by omega)
     refine⟨.slice none 0 0,?_,?_⟩
     ·simp[Instr.sliceAt,Instr.slice,run_underlying (eV ht),Instr.sliceBounds,e1,e2,run_sizeOf a7]
     ·simp only[AV.den]
      exact .inl ⟨h1,by simp⟩
    ·have e1:=fun code=>qb (P:=P) (w:=w) (k:=km) (n:=m) (y:=c) (code:=code) (by omega) (by omega)
     have e2:=fun code=>qb (P:=P) (w:=w) (k:=kh) (n:=h') (y:=m.toNat) (code:=code) (by omega) (by omega)
     refine⟨.slice (some ⟨g,i*es,none⟩) h'.toNat m.toNat,?_,?_⟩
     ·simp[Instr.sliceAt,Instr.slice,run_underlying (eV ht),Instr.sliceBounds,e1,e2,run_sizeOf a7,Addr.add]
     ·simp only[AV.den]
      refine .inr ⟨g,m.toNat,h1,rfl,by omega,by omega,?_⟩
      obtain⟨cc,ee,q1,q2⟩:=h5
      exact⟨cc,ee,q1,Nat.le_trans (Nat.mul_le_mul_right es (by omega)) q2⟩
  ·cases h
 ·cases h
theorem MX (hE:dB w φ I E a) {o:Oper} {sc:Prop} {v:AV} (h:iW P E o.op=some (sc,v)) (aB:sc):
  ∃u,(execOp a.eval o).run P w= .ok (.value u) w/\AV.den w φ I v u:=by
 have fin:∀{s:Sem Value},dY P w s φ I v->(execOp a.eval o=do pure (.value (<-s)))->∃u,(execOp a.eval o).run P w= .ok (.value u) w/\AV.den w φ I v u:=by
  intro s ⟨u,hu,hd⟩ he
  exact⟨u,by rw[he];simp[hu],hd⟩
 obtain⟨dst,op,ty,pos,after,guard⟩:=o
 simp only at h⊢
 unfold iW at h
 split at h
 ·rename_i f first cap
  split at h
  ·rename_i l1 l2 h1 h2
   simp only[Option.some.injEq,Prod.mk.injEq]at h
   obtain⟨rfl,rfl⟩:=h
   refine fin (s:=Instr.makeFunc (.func f) (first.map a.eval) (cap.map a.eval)) ⟨.func (.func f) (first.map a.eval) (cap.map a.eval),rfl,?_⟩ rfl
   simp only[AV.den]
   exact⟨_,_,lr hE _ _ h1 aB.1,lr hE _ _ h2 aB.2,by cases first;cases cap;simp⟩
  ·cases h
 ·obtain⟨xa,cM,hx,hf,cD,g1⟩:=iU h aB
  exact fin (Mh hf cD (ck (aX hE hx) g1)) rfl
 ·rename_i s d x
  obtain⟨xa,cM,hx,hf,cD,g1⟩:=iU h aB
  split at hf
  ·exact fin (Ml hf cD (ck (aX hE hx) g1) (by rename_i hs;exact Option.isSome_iff_exists.1 hs)) rfl
  ·cases hf
 ·rename_i op t x y _
  split at h
  ·obtain⟨xa,ya,cM,hx,hy,hf,cD,g1,g2⟩:=mP h aB
   exact fin (E7 (neg:=false) (ox:=x) (oy:=y) hf cD (ck (aX hE hx) g1) (ck (aX hE hy) g2)) rfl
  ·obtain⟨xa,ya,cM,hx,hy,hf,cD,g1,g2⟩:=mP h aB
   exact fin (E7 (neg:=true) (ox:=x) (oy:=y) hf cD (ck (aX hE hx) g1) (ck (aX hE hy) g2)) rfl
  ·cases h
 ·obtain⟨xa,ya,cM,hx,hy,hf,cD,g1,g2⟩:=mP h aB
  exact fin (E8 (pm:=none) hf cD (ck (aX hE hx) g1) (ck (aX hE hy) g2) (fun _ h=>by cases h) (fun _=>rfl)) rfl
 ·split at h
  ·rename_i mv hm
   split at h
   ·rename_i hg
    obtain⟨xa,ya,cM,hx,hy,hf,cD,g1,g2⟩:=mP h aB
    exact fin (E8 (pm:=some _) hf cD (ck (aX hE hx) g1) (ck (aX hE hy) g2) (fun _ h=>by cases h;exact⟨_,rfl,ck (aX hE hm) hg⟩) (fun h=>by cases h)) rfl
   ·cases h
  ·cases h
 ·cases h
theorem r2 {hE:dB w φ I E a} {b:Bool} {n c:Nat} {lo hi:Option Operand} {p q:Prop} {l h:Nat} (hl:fX E 0 lo=some (p,l)) (hh:fX E n hi=some (q,h)) (hp:p) (hq:q) (h1:l<=h) (h2:h<=n) (h3:n<=c):
  (Instr.sliceBounds b n c (lo.map a.eval) (hi.map a.eval) none).run P w= .ok (l,h,c) w:=by
 have val:∀{o:Operand} {d:Nat} {p:Prop} {l:Nat},fX E d (some o)=some (p,l)->p->∃k m,a.eval o= .int k m/\0<=m/\m.toNat=l:=by
  intro o d p l ho hp
  simp only[fX]at ho
  split at ho
  ·rename_i av he
   split at ho
   ·rename_i k m ca
    cases ho
    have:=ck (aX hE he) hp.1
    rw[ca]at this
    simp only[AV.den,IV.den]at this
    exact⟨k,m,this.1,hp.2,rfl⟩
   ·cases ho
  ·cases ho
 cases lo with
 |none=>
  simp only[fX,Option.some.injEq,Prod.mk.injEq]at hl
  obtain⟨_,rfl⟩:=hl
  cases hi with
  |none=>
   simp only[fX,Option.some.injEq,Prod.mk.injEq]at hh
   obtain⟨_,rfl⟩:=hh
   simp[Instr.sliceBounds]
  |some o=>
   obtain⟨k,m,e,h0,rfl⟩:=val hh hq
   simp only[Option.map_none,Option.map_some,e]
   exact uk h0 (by omega)
 |some o=>
  obtain⟨k,m,e,h0,rfl⟩:=val hl hp
  cases hi with
  |none=>
   simp only[fX,Option.some.injEq,Prod.mk.injEq]at hh
   obtain⟨_,rfl⟩:=hh
   simp only[Option.map_none,Option.map_some,e]
   exact A0 h0 (by omega)
  |some o'=>
   obtain⟨k',m',e',GZ,rfl⟩:=val hh hq
   simp only[Option.map_some,e,e']
   exact A1 h0 (by omega) (by omega)
theorem Kz {P:Program} {w:World} {t e:TypeId} {n:Nat} {a:Addr} {plo phi:Option Value} {l h:Nat} (ht:tk P t= .arr n e) (cH:sz P e=some 1) (hb:(Instr.sliceBounds false n n plo phi none).run P w= .ok (l,h,n) w):
  (Instr.sliceAt t (.pointer (some a)) plo phi none).run P w= .ok (.slice (some (if n=l then a else a.add (l*1))) (h-l) (n-l)) w:=by
 simp[Instr.sliceAt,Instr.sureAddr,run_underlying (rJ ht),hb,run_sizeOf cH]
theorem Gz:∀ws:List (List Value),(∀v∈ws,v.length=1)->ws.flatten.length=ws.length
 |[],_=>rfl
 |v::ws,h=>by rw[List.flatten_cons,List.length_append,Gz ws (fun x hx=>h x (by simp[hx])),h v (by simp),List.length_cons];omega
theorem F2 {w:World} {I:Nat->Prop}:∀(cs:List IV) (us:List Value),IV.ab w I cs us->IV.aQ w I (cs.map fun c=>[c]) (us.map fun u=>[u])
 |[],us,h=>by simp only[IV.ab]at h;subst h;simp[IV.aQ]
 |c::cs,us,h=>by
  simp only[IV.ab]at h
  obtain⟨u,au,rfl,h1,h2⟩:=h
  simp only[List.map_cons,IV.aQ,IV.ab]
  exact⟨_,_,rfl,⟨_,_,rfl,h1,rfl⟩,F2 cs au h2⟩
theorem C1 {w:World} {I:Nat->Prop}:∀(cs:List IV) (us:List Value),IV.ab w I cs us->us.length=cs.length
 |[],us,h=>by simp only[IV.ab]at h;subst h;rfl
 |c::cs,us,h=>by
  simp only[IV.ab]at h
  obtain⟨u,au,rfl,h1,h2⟩:=h
  simp[C1 cs au h2]
theorem Ih {w:World} {I:Nat->Prop}:∀(k:Nat) (cs:List IV) (us:List Value),IV.ab w I cs us->IV.ab w I (cs.take k) (us.take k)
 |0,cs,us,_=>by simp[IV.ab]
 |k+1,[],us,h=>by simp only[IV.ab]at h;subst h;simp[IV.ab]
 |k+1,c::cs,us,h=>by
  simp only[IV.ab]at h
  obtain⟨u,au,rfl,h1,h2⟩:=h
  simp only[List.take_succ_cons,IV.ab]
  exact⟨_,_,rfl,h1,Ih k cs au h2⟩
theorem Ib {w:World} {I:Nat->Prop}:∀(k:Nat) (cs:List IV) (us:List Value),IV.ab w I cs us->IV.ab w I (cs.drop k) (us.drop k)
 |0,cs,us,h=>h
 |k+1,[],us,h=>by simp only[IV.ab]at h;subst h;simp[IV.ab]
 |k+1,c::cs,us,h=>by
  simp only[IV.ab]at h
  obtain⟨u,au,rfl,h1,h2⟩:=h
  exact Ib k cs au h2
theorem MA (hE:dB w φ I E a) (hR:Real w φ I H) {t:TypeId} {lo hi:Option Operand} {x:AV} {u:Value} {sc:Prop} {v:AV} (h:ql P H t E lo hi x=some (sc,v)) (aB:sc) (hx:AV.den w φ I x u):
  dY P w (Instr.sliceAt t u (lo.map a.eval) (hi.map a.eval) none) φ I v:=by
 unfold ql at h
 split at h
 ·rename_i cs
  split at h
  ·rename_i n e ht
   cases hd:decide (sz P e=some 1)with
   |false=>rw[hd]at h;simp at h
   |true=>
    rw[hd]at h
    have cH:=of_decide_eq_true hd
    simp only[cond_true]at h
    split at h
    ·rename_i p l q h' hl hh
     simp only[Option.some.injEq,Prod.mk.injEq]at h
     obtain⟨rfl,rfl⟩:=h
     obtain⟨hp,hq,h1,h2,h3,h4⟩:=aB
     simp only[AV.den,IV.den]at hx
     obtain⟨g,off,us,rfl,hI,kH,ez⟩:=hx
     have aK:=Kz (P:=P) (a:=⟨g,off,none⟩) ht cH (r2 (hE:=hE) (b:=false) (c:=n) hl hh hp hq h1 h2 (Nat.le_refl _))
     refine⟨_,aK,?_⟩
     have bM:=C1 cs us kH
     have eY:=Ih (h'-l) _ _ (Ib l _ _ kH)
     simp only[AV.den,IV.den]
     have sy:((cs.drop l).take (h'-l)).length=h'-l:=by rw[List.length_take,List.length_drop];omega
     refine⟨_,n-l,_,by rw[List.length_map,sy],by rw[List.length_map,sy];omega,F2 _ _ eY,fun vs c_=>by obtain⟨u,_,rfl⟩:=List.mem_map.1 c_;rfl,fun aT=>⟨g,off+l,?_,hI,?_⟩⟩
     ·have ah:l<n:=by
       rcases Nat.lt_or_ge l n with ah|fM
       ·exact ah
       ·exact absurd (List.eq_nil_of_length_eq_zero (by rw[List.length_map,sy];omega)) aT
      rw[if_neg (by omega)]
      simp only[Addr.add,Nat.mul_one]
      by_cases hz:l=0<;>simp[hz]
     ·have eN:∀vs:List Value,(vs.map fun u=>[u]).flatten=vs:=fun vs=>by induction vs with
       |nil=>rfl
       |cons v vs ih=>simp only[List.map_cons,List.flatten_cons,ih];rfl
      rw[eN]
      exact(ez.drop l).take _
    ·cases h
  ·cases h
 ·rename_i b
  split at h
  ·rename_i el rows hH
   split at h
   ·rename_i n e ht
    cases hd:decide (sz P e=some 1)with
    |false=>rw[hd]at h;simp at h
    |true=>
     rw[hd]at h
     have cH:=of_decide_eq_true hd
     simp only[cond_true]at h
     split at h
     ·rename_i p l q h' hl hh
      simp only[Option.some.injEq,Prod.mk.injEq]at h
      obtain⟨rfl,rfl⟩:=h
      obtain⟨hp,hq,h1,h2,h3,h4,h5⟩:=aB
      simp only[AV.den]at hx
      obtain⟨g,hb,rfl⟩:=hx
      have aK:=Kz (P:=P) (a:=⟨g,0,none⟩) ht cH (r2 (hE:=hE) (b:=false) (c:=n) hl hh hp hq h1 h2 (Nat.le_refl _))
      refine⟨_,aK,?_⟩
      simp only[AV.den]
      have bE:=hR.own b _ _ hH hb
      simp only[Ob.at]at bE
      rcases bE with⟨hn,_⟩|⟨g',ag,rest,hg,ez,kH,gw⟩
      ·cases hn
      cases hg
      refine .inr ⟨g,n-l,hb,?_,by omega,by unfold maxLen;omega,⟨_,_,ez,?_⟩⟩
      ·rw[if_neg (by omega)]
       by_cases hz:l=0<;>simp[Addr.add,hz]
      ·have hlen:=j0 rows ag kH
       have eN:=Gz ag gw
       simp only[List.size_toArray,List.length_append,eN]
       omega
     ·cases h
   ·cases h
  ·cases h
 ·rename_i b es j n
  split at h
  ·rename_i e ht
   cases hd:decide (sz P e=some es)with
   |false=>rw[hd]at h;simp at h
   |true=>
    rw[hd]at h
    have cH:=of_decide_eq_true hd
    simp only[cond_true]at h
    split at h
    ·rename_i p l q h' hl hh
     simp only[Option.some.injEq,Prod.mk.injEq]at h
     obtain⟨rfl,rfl⟩:=h
     obtain⟨hp,hq,h1,h2,h3⟩:=aB
     simp only[AV.den]at hx
     rcases hx with⟨hb,rfl,rfl,rfl⟩|⟨g,c,hb,rfl,h4,h5,h6⟩
     ·have oh:l=0:=by omega
      subst oh
      have PI:h'=0:=by omega
      subst PI
      refine⟨_,qc (P:=P) (p:=none) ht cH (r2 (hE:=hE) (b:=true) (c:=0) hl hh hp hq h1 h2 (Nat.le_refl _)),?_⟩
      simp only[AV.den]
      exact .inl ⟨hb,by simp⟩
     ·refine⟨_,qc (P:=P) (p:=some ⟨g,j*es,none⟩) ht cH (r2 (hE:=hE) (b:=true) (c:=c) hl hh hp hq h1 h2 h4),?_⟩
      simp only[AV.den]
      refine .inr ⟨g,c-l,hb,?_,by omega,by omega,?_⟩
      ·by_cases cB:c=l
       ·have:l=0:=by omega
        subst this
        simp[cB]
       ·rw[if_neg cB]
        simp only[Option.map_some,Addr.add]
        by_cases hz:l*es=0
        ·rw[Nat.add_mul,hz];simp
        ·rw[Nat.add_mul];simp[hz]
      ·obtain⟨cc,ee,q1,q2⟩:=h6
       exact⟨cc,ee,q1,Nat.le_trans (Nat.mul_le_mul_right es (by omega)) q2⟩
    ·cases h
  ·cases h
 ·rename_i s
  rw[kA]at hx
  subst hx
  split at h
  ·rename_i p l q h' ht hl hh
   simp only[Option.some.injEq,Prod.mk.injEq]at h
   obtain⟨rfl,rfl⟩:=h
   obtain⟨hp,hq,h1,h2⟩:=aB
   exact⟨_,Ab ht (r2 (hE:=hE) (b:=false) (c:=s.size) hl hh hp hq h1 h2 (Nat.le_refl _)),nW⟩
  ·cases h
 ·rename_i es rows
  split at h
  ·rename_i e p l q h' ht hl hh
   cases hd:decide (sz P e=some es)with
   |false=>rw[hd]at h;simp at h
   |true=>
    rw[hd]at h
    simp only[cond_true,Option.some.injEq,Prod.mk.injEq]at h
    obtain⟨rfl,rfl⟩:=h
    obtain⟨hp,hq,h1,h2⟩:=aB
    simp only[AV.den,IV.den]at hx
    obtain⟨pp,c,ag,rfl,hc,hr,aE,ha⟩:=hx
    exact⟨_,qc ht (of_decide_eq_true hd) (r2 (hE:=hE) (b:=true) (c:=c) hl hh hp hq h1 h2 hc),Aa hr aE ha h1 h2 hc⟩
  ·cases h
 ·cases h
theorem Mq {t:TypeId} {x i:AV} {p q:Value} {sc:Prop} {v:AV} (h:xy P t x i=some (sc,v)) (aB:sc) (hx:AV.den w φ I x p) (hi:AV.den w φ I i q):dY P w (Instr.indexAt t p q) φ I v:=by
 unfold xy at h
 split at h
 ·rename_i cs k n
  rw[fF]at hi
  subst hi
  split at h
  ·rename_i m e ht
   cases hm:decide (2<=m)with
   |false=>rw[hm]at h;simp at h
   |true=>
    rw[hm]at h
    have fO:=of_decide_eq_true hm
    simp only[cond_true]at h
    cases hd:decide (sz P e=some 1)with
    |false=>rw[hd]at h;simp at h
    |true=>
     rw[hd]at h
     have a7:=of_decide_eq_true hd
     simp only[cond_true,Option.some.injEq,Prod.mk.injEq]at h
     obtain⟨rfl,rfl⟩:=h
     obtain⟨h0,h1,h2⟩:=aB
     simp only[AV.den,IV.den]at hx
     obtain⟨g,off,us,rfl,hI,kH,ez⟩:=hx
     have bM:=C1 cs us kH
     have ah:n.toNat<us.length:=by omega
     refine⟨.pointer (some ⟨g,off+n.toNat*1,none⟩),?_,?_⟩
     ·have Ct:¬m<2:=by omega
      have ja:(m==1)=false:=by simp;omega
      simp[Instr.indexAt,Instr.sureAddr,asIntOf,run_underlying (rJ ht),h0,h1,run_sizeOf a7,addr_add,ja]
     ·simp only[AV.den,IV.den,IV.ab]
      have gen:∀(k:Nat) (cs:List IV) (us:List Value),IV.ab w I cs us->∀u,us[k]?=some u->IV.den w I (cs.getD k (.v (.bool false))) u:=fun k=>by
       induction k with
       |zero=>
        intro cs us h u hu
        cases cs with
        |nil=>simp only[IV.ab]at h;subst h;simp at hu
        |cons c cs=>
         simp only[IV.ab]at h
         obtain⟨u1,qg,rfl,h1,h2⟩:=h
         simp only[List.getElem?_cons_zero,Option.some.injEq]at hu
         subst hu
         exact h1
       |succ k ih=>
        intro cs us h u hu
        cases cs with
        |nil=>simp only[IV.ab]at h;subst h;simp at hu
        |cons c cs=>
         simp only[IV.ab]at h
         obtain⟨u1,qg,rfl,h1,h2⟩:=h
         simp only[List.getElem?_cons_succ]at hu
         exact ih cs qg h2 u hu
      refine⟨g,off+n.toNat*1,[us[n.toNat]],rfl,hI,⟨_,_,rfl,gen _ _ _ kH _ (List.getElem?_eq_getElem ah),rfl⟩,fun j u hu=>?_⟩
      cases j with
      |zero=>
       simp only[List.getElem?_cons_zero,Option.some.injEq]at hu
       subst hu
       rw[Nat.mul_one,Nat.add_zero]
       exact ez _ _ (List.getElem?_eq_getElem ah)
      |succ j=>simp at hu
  ·cases h
 ·cases h
theorem E5 {t:TypeId} {neg:Bool} {x y:Operand} {xa:AV} {u v:Value} {sc:Prop} {r:AV} (hy:s3 y=true) (hv:v= .nilIface) (ht:tk P t= .iface) (h:tW neg xa=some (sc,r)) (hx:AV.den w φ I xa u):
  dY P w (do eqGuard (if neg then .neq else .eql) t x y u v;binOp (if neg then .neq else .eql) t u v) φ I r:=by
 subst hv
 obtain⟨d,hu,hd⟩:=oX ht (by simp)
 obtain⟨ms,rfl⟩:∃ms,d= .interface ms:=by cases d<;>simp[TK.of]at hd;exact⟨_,rfl⟩
 obtain⟨c,rfl⟩:∃c,y= .const c:=by unfold s3 at hy;split at hy;exact⟨_,rfl⟩;cases hy
 have key:∀(r:Bool),(∀d,(Op.equalIn (d+1) t u .nilIface).run P w= .ok r w)->(binOp .eql t u .nilIface=(do pure (.bool (<-Op.equal t u .nilIface)):Sem Value))->(binOp .neq t u .nilIface=(do pure (.bool (!(<-Op.equal t u .nilIface))):Sem Value))->
   (∀op,(eqGuard op t x (.const c) u .nilIface).run P w= .ok () w)->
   (do eqGuard (if neg then .neq else .eql) t x (.const c) u .nilIface;binOp (if neg then .neq else .eql) t u .nilIface:Sem Value).run P w= .ok (.bool (r !=neg)) w:=by
  intro r h1 h2 h3 h4
  have h1:(Op.equal t u .nilIface).run P w= .ok r w:=h1 9999
  cases neg with
  |false=>simp only[Bool.false_eq_true,if_false,Sem.run_bind,h4,Result.andThen_ok,h2,h1,Sem.run_pure,Bool.bne_false]
  |true=>simp only[if_true,Sem.run_bind,h4,Result.andThen_ok,h3,h1,Sem.run_pure,Bool.bne_true]
 unfold tW at h
 split at h
 ·simp only[Option.some.injEq,Prod.mk.injEq]at h
  obtain⟨_,rfl⟩:=h
  simp only[AV.den,IV.den]at hx
  obtain⟨rfl,_⟩:=hx
  refine⟨_,key true (fun d=>by simp[Op.equalIn,run_underlying hu]) rfl rfl (fun op=>by cases op<;>first|rfl|(cases x<;>simp[eqGuard])),?_⟩
  cases neg<;>exact nV
 ·simp only[Option.some.injEq,Prod.mk.injEq]at h
  obtain⟨_,rfl⟩:=h
  simp only[AV.den,WK.rel]at hx
  obtain⟨v,rfl,_⟩:=hx
  refine⟨_,key false (fun d=>by simp[Op.equalIn,run_underlying hu]) rfl rfl (fun op=>by cases op<;>rfl),?_⟩
  cases neg<;>exact nV
 ·cases h
theorem MZ (hE:dB w φ I E a) (hR:Real w φ I H) {o:Oper} {sc:Prop} {v:AV} (h:l7 P E H o.op=some (sc,v)) (aB:sc):
  ∃u,(execOp a.eval o).run P w= .ok (.value u) w/\AV.den w φ I v u:=by
 obtain⟨dst,op,ty,pos,after,guard⟩:=o
 simp only at h⊢
 unfold l7 at h
 split at h
 ·rename_i t x lo hi
  obtain⟨xa,cM,hx,hf,cD,g1⟩:=iU h aB
  obtain⟨u,hu,hd⟩:=MA hE hR hf cD (ck (aX hE hx) g1)
  exact⟨u,by simp only[execOp,Sem.run_bind,Option.map_none,hu,Result.andThen_ok,Sem.run_pure],hd⟩
 ·rename_i t x i
  obtain⟨xa,ya,cM,hx,hy,hf,cD,g1,g2⟩:=mP h aB
  obtain⟨u,hu,hd⟩:=Mq hf cD (ck (aX hE hx) g1) (ck (aX hE hy) g2)
  exact⟨u,by simp only[execOp,Sem.run_bind,hu,Result.andThen_ok,Sem.run_pure],hd⟩
 ·rename_i op t x y _
  have hc:s3 y=true->a.eval y= .nilIface:=by
   intro hy
   unfold s3 at hy
   split at hy
   ·rfl
   ·cases hy
  split at h
  ·rename_i hy ht
   obtain⟨xa,cM,hx,hf,cD,g1⟩:=iU h aB
   obtain⟨u,hu,hd⟩:=E5 (x:=x) (v:=a.eval y) hy (hc hy) ht hf (ck (aX hE hx) g1)
   refine⟨u,?_,hd⟩
   simp only[Bool.false_eq_true,if_false]at hu
   simp only[Sem.run_bind]at hu
   simp only[execOp,Sem.run_bind]
   revert hu
   cases(eqGuard .eql t x y (a.eval x) (a.eval y)).run P w with
   |ok _ w1=>intro hu;simp only[Result.andThen_ok]at hu⊢;rw[hu];rfl
   |halt _ _=>intro hu;cases hu
  ·rename_i hy ht
   obtain⟨xa,cM,hx,hf,cD,g1⟩:=iU h aB
   obtain⟨u,hu,hd⟩:=E5 (x:=x) (v:=a.eval y) hy (hc hy) ht hf (ck (aX hE hx) g1)
   refine⟨u,?_,hd⟩
   simp only[if_true]at hu
   simp only[Sem.run_bind]at hu
   simp only[execOp,Sem.run_bind]
   revert hu
   cases(eqGuard .neq t x y (a.eval x) (a.eval y)).run P w with
   |ok _ w1=>intro hu;simp only[Result.andThen_ok]at hu⊢;rw[hu];rfl
   |halt _ _=>intro hu;cases hu
  ·cases h
 ·cases h
theorem ug (hE:dB w φ I E a) (hR:Real w φ I H) {o:Oper} {sc:Prop} {v:AV} (h:gJ P E H o.op=some (sc,v)) (aB:sc):
  ∃u,(execOp a.eval o).run P w= .ok (.value u) w/\AV.den w φ I v u:=by
 unfold gJ at h
 split at h
 ·rename_i r hr
  simp only[Option.some.injEq]at h
  subst h
  exact MV hE hR hr aB
 ·split at h
  ·rename_i r hr
   simp only[Option.some.injEq]at h
   subst h
   exact MX hE hr aB
  ·exact MZ hE hR h aB
end
def bc (φ:aq) (b:Nat) (p:Option Nat):aq:=fun i=>if i=b then some p else φ i
def bK:aa->Nat->Ob->aa
 |[],_,_=>[]
 |(j,x)::r,i,o=>bif Nat.beq j i then(j,o)::r else(j,x)::bK r i o
theorem gU:∀(H:aa) (b:Nat) (o:Ob) {x:Ob},lk H b=some x->lk (bK H b o) b=some o
 |[],_,_,_,h=>by simp[lk]at h
 |(j,y)::r,b,o,x,h=>by
  simp only[lk,bK]at h⊢
  cases hb:Nat.beq j b with
  |true=>simp[lk,hb]
  |false=>
   rw[hb]at h
   simp only[cond_false]at h
   simp only[cond_false,lk,hb]
   exact gU r b o h
theorem ei:∀(H:aa) (b b':Nat) (o:Ob),b'≠b->lk (bK H b o) b'=lk H b'
 |[],_,_,_,_=>rfl
 |(j,y)::r,b,b',o,aT=>by
  simp only[bK]
  cases hb:Nat.beq j b with
  |true=>
   have hj:=Nat.eq_of_beq_eq_true hb
   subst hj
   have:Nat.beq j b'=false:=by
    cases hq:Nat.beq j b' with
    |false=>rfl
    |true=>exact absurd (Nat.eq_of_beq_eq_true hq).symm aT
   simp[lk,this]
  |false=>
   simp only[cond_false,lk]
   rw[ei r b b' o aT]
def cW:aa->Nat
 |[]=>0
 |(j,_)::r=>bif Nat.ble (cW r) j then j+1 else cW r
theorem oL:∀(H:aa) (b:Nat) (o:Ob),lk H b=some o->b<cW H
 |[],_,_,h=>by simp[lk]at h
 |(j,y)::r,b,o,h=>by
  simp only[lk,cW]at h⊢
  cases hb:Nat.beq j b with
  |true=>
   have hj:=Nat.eq_of_beq_eq_true hb
   subst hj
   cases hq:Nat.ble (cW r) j with
   |true=>simp
   |false=>
         simp only[cond_false];have:¬cW r<=j:=fun h=>by rw[Nat.ble_eq_true_of_le h]at hq;cases hq
         omega
  |false=>
   rw[hb]at h
   simp only[cond_false]at h
   have:=oL r b o h
   cases hq:Nat.ble (cW r) j with
   |true=>simp only[cond_true];have:=Nat.le_of_ble_eq_true hq;omega
   |false=>simpa using this
def aN (nb:Nat) (H:aa):Nat:=bif Nat.ble nb (cW H)then cW H else nb
theorem gV (nb:Nat) (H:aa):nb<=aN nb H/\cW H<=aN nb H:=by
 unfold aN
 cases h:Nat.ble nb (cW H)with
 |true=>have:=Nat.le_of_ble_eq_true h;simpa using this
 |false=>
  have:¬nb<=cW H:=fun h'=>by rw[Nat.ble_eq_true_of_le h']at h;cases h
  simp only[cond_false];omega
theorem k0 (nb:Nat) (H:aa):lk H (aN nb H)=none:=by
 cases h:lk H (aN nb H)with
 |none=>rfl
 |some o=>have:=oL H _ o h;have:=(gV nb H).2;omega
section
variable {B:Bs} {w:World} {φ:aq} {I:Nat->Prop} {H:aa}
theorem qz (o':Nat->Prop) (w:World) (o:Obj):Ext o' w (w.alloc o):=
 ⟨by
   simp,fun g hg _=>heap_alloc_old w o hg,fun g c e fz h=>⟨c,fz,(heap_alloc_old w o (by
   rcases Nat.lt_or_ge g w.heap.size with h'|h'
   ·exact h'
   ·rw[Array.getElem?_eq_none h']at h;cases h)).trans h,rfl⟩,rfl,rfl,rfl⟩
theorem Ob.jV {w':World} {φ φ':aq} {I I':Nat->Prop} (hw:∀g,I g->w'.heap[g]?=w.heap[g]?) (hI:∀g,I g->I' g) (az:∀b p,φ b=some p->φ' b=some p)
  (hs:∀b g n,φ b=some (some g)->shaped w g n->shaped w' g n) {o:Ob} {p:Option Nat} (hp:∀g,p=some g->w'.heap[g]?=w.heap[g]?) (h:o.at w φ I p):o.at w' φ' I' p:=by
 cases o with
 |var e cs=>
  simp only[Ob.at]at h⊢
  obtain⟨g,us,rfl,h2,h3,h4⟩:=h
  exact⟨g,us,rfl,h2.dH (hp g rfl),AV.iE hw hI az hs cs us h3,h4⟩
 |vec e es rows=>
  simp only[Ob.at]at h⊢
  rcases h with h|⟨g,ag,rest,rfl,h2,h3,h4⟩
  ·exact .inl h
  ·exact .inr ⟨g,ag,rest,rfl,(hp g rfl).trans h2,IV.gM hw hI rows ag h3,h4⟩
 |lp l n st fn q ps E=>
  simp only[Ob.at]at h⊢
  obtain⟨rfl,T,D,cr,h1,h2,h3⟩:=h
  exact⟨rfl,T,D,cr,h1,(hp l rfl).trans h2,fun i x hx=>let⟨u,hu,hd⟩:=h3 i x hx;⟨u,hu,AV.jZ hw hI az hs x u hd⟩⟩
structure bG (w:World) (φ:aq) (I:Nat->Prop) (w':World) (φ':aq) (I':Nat->Prop):Prop where
 im:∀g,I g->w'.heap[g]?=w.heap[g]?
 I:∀g,I g->I' g
 phi:∀b p,φ b=some p->φ' b=some p
 sh:∀b g n,φ b=some (some g)->shaped w g n->shaped w' g n
theorem bG.den {w':World} {φ':aq} {I':Nat->Prop} (k:bG w φ I w' φ' I') {x:AV} {u:Value} (h:AV.den w φ I x u):AV.den w' φ' I' x u:=AV.jZ k.im k.I k.phi k.sh x u h
theorem bG.refl (w:World) (φ:aq) (I:Nat->Prop):bG w φ I w φ I:=⟨fun _ _=>rfl,fun _ h=>h,fun _ _ h=>h,fun _ _ _ _ h=>h⟩
theorem St.xZ (h:St B φ I H w) {b:Nat} (hb:lk H b=none) (CA:B.nb<=b) {ob:Obj} {o:Ob}
  (ho:o.at (w.alloc ob) (bc φ b (some w.heap.size)) I (some w.heap.size)):
  St B (bc φ b (some w.heap.size)) I ((b,o)::H) (w.alloc ob)/\bG w φ I (w.alloc ob) (bc φ b (some w.heap.size)) I:=by
 have hnb:φ b=none:=by
  have:=h.real.bB b
  rw[hb]at this
  cases az:φ b with
  |none=>rfl
  |some x=>rw[az]at this;cases this
 have k:bG w φ I (w.alloc ob) (bc φ b (some w.heap.size)) I:=by
  refine⟨fun g hg=>heap_alloc_old w _ (h.real.bZ g hg),fun _ h=>h,fun b' p hp=>?_,fun _ g n _ hs=>(qz (fun _=>False) w _).shaped (fun h=>h) hs⟩
  unfold bc
  rw[if_neg (by intro e;subst e;rw[hnb]at hp;cases hp)]
  exact hp
 refine⟨⟨⟨fun b'=>?_,fun b' o' p hl hp=>?_,fun b' g hp=>?_,fun b1 b2 g h1 h2=>?_,fun g hg=>?_⟩,h.ext.trans (qz (fun _=>False) w _) (fun g hf=>hf.elim),fun b' g hp=>?_,h.cZ,h.cz,fun b' g o' ah h0 hl=>?_⟩,k⟩
 ·simp only[bc,lk]
  by_cases ao:b'=b
  ·subst ao;simp
  ·rw[if_neg ao]
   have:Nat.beq b b'=false:=by
    cases hq:Nat.beq b b' with
    |false=>rfl
    |true=>exact absurd (Nat.eq_of_beq_eq_true hq).symm ao
   rw[this]
   exact h.real.bB b'
 ·by_cases ao:b'=b
  ·subst ao
   simp only[bc,if_true,Option.some.injEq]at hp
   subst hp
   simp[lk]at hl
   subst hl
   exact ho
  ·have hq:Nat.beq b b'=false:=by
    cases hq:Nat.beq b b' with
    |false=>rfl
    |true=>exact absurd (Nat.eq_of_beq_eq_true hq).symm ao
   simp only[lk,hq,cond_false]at hl
   simp only[bc,if_neg ao]at hp
   refine Ob.jV k.im k.I k.phi k.sh (fun g hg=>?_) (h.real.own b' o' p hl hp)
   subst hg
   exact heap_alloc_old w _ (h.real.off b' g hp).2
 ·by_cases ao:b'=b
  ·subst ao
   simp only[bc,if_true,Option.some.injEq]at hp
   subst hp
   exact⟨fun hi=>absurd (h.real.bZ _ hi) (by omega),by simp⟩
  ·simp only[bc,if_neg ao]at hp
   have:=h.real.off b' g hp
   exact⟨this.1,by simp;omega⟩
 ·by_cases e1:b1=b<;>by_cases e2:b2=b
  ·rw[e1,e2]
  ·subst e1
   simp only[bc,if_true,Option.some.injEq]at h1
   subst h1
   simp only[bc,if_neg e2]at h2
   exact absurd (h.real.off b2 _ h2).2 (by omega)
  ·subst e2
   simp only[bc,if_true,Option.some.injEq]at h2
   subst h2
   simp only[bc,if_neg e1]at h1
   exact absurd (h.real.off b1 _ h1).2 (by omega)
  ·simp only[bc,if_neg e1]at h1
   simp only[bc,if_neg e2]at h2
   exact h.real.inj b1 b2 g h1 h2
 ·have:=h.real.bZ g hg
  simp;omega
 ·by_cases ao:b'=b
  ·subst ao
   simp only[bc,if_true,Option.some.injEq]at hp
   subst hp
   exact .inr h.ext.size
  ·simp only[bc,if_neg ao]at hp
   exact h.cd b' g hp
 ·have ao:b'≠b:=by omega
  have hq:Nat.beq b b'=false:=by
   cases hq:Nat.beq b b' with
   |false=>rfl
   |true=>exact absurd (Nat.eq_of_beq_eq_true hq).symm ao
  simp only[lk,hq,cond_false]at hl
  simp only[bc,if_neg ao]
  exact h.cE b' g o' ah h0 hl
theorem St.uc (h:St B φ I H w) {b:Nat} (hb:lk H b=none) (CA:B.nb<=b) {cs:Array Value} {e:TypeId} {o:Ob}
  (ho:o.at (w.alloc (.cells cs e)) (bc φ b (some w.heap.size)) I (some w.heap.size)):
  St B (bc φ b (some w.heap.size)) I ((b,o)::H) (w.alloc (.cells cs e))/\bG w φ I (w.alloc (.cells cs e)) (bc φ b (some w.heap.size)) I:=h.xZ hb CA ho
theorem St.Fh (h:St B φ I H w) (cs:Array Value) (e:TypeId):
  St B φ (fun g=>I g\/g=w.heap.size) H (w.alloc (.cells cs e))/\bG w φ I (w.alloc (.cells cs e)) φ (fun g=>I g\/g=w.heap.size):=by
 have k:bG w φ I (w.alloc (.cells cs e)) φ (fun g=>I g\/g=w.heap.size):=
  ⟨fun g hg=>heap_alloc_old w _ (h.real.bZ g hg),fun _ h=> .inl h,fun _ _ h=>h,fun _ g n _ hs=>(qz (fun _=>False) w _).shaped (fun h=>h) hs⟩
 refine⟨⟨⟨h.real.bB,fun b' o' p hl hp=>?_,fun b' g hp=>?_,h.real.inj,fun g hg=>?_⟩,h.ext.trans (qz (fun _=>False) w _) (fun g hf=>hf.elim),h.cd,fun g hg=>?_,fun g hg=> .inl (h.cz g hg),h.cE⟩,k⟩
 ·refine Ob.jV k.im k.I k.phi k.sh (fun g hg=>?_) (h.real.own b' o' p hl hp)
  subst hg
  exact heap_alloc_old w _ (h.real.off b' g hp).2
 ·have:=h.real.off b' g hp
  exact⟨fun hi=>hi.elim this.1 (by omega),by simp;omega⟩
 ·rcases hg with hg|rfl
  ·have:=h.real.bZ g hg;simp;omega
  ·simp
 ·rcases hg with hg|rfl
  ·exact h.cZ g hg
  ·exact .inr (.inr h.ext.size)
theorem St.write (h:St B φ I H w) {b g:Nat} {o o':Ob} (hl:lk H b=some o) (hg:φ b=some (some g)) {cur cs:Array Value} {e:TypeId} (hc:w.heap[g]?=some (.cells cur e (0,0))) (a7:cs.size=cur.size)
  (hk:∀el cs,o'= .var el cs->∃NZ cs',o= .var NZ cs') (ho:o'.at (w.setRow g cs) φ I (some g)):
  St B φ I (bK H b o') (w.setRow g cs)/\bG w φ I (w.setRow g cs) φ I:=by
 have PD:∀(g':Nat) (c:Array Value) (e':TypeId) (fz:Nat×Nat),w.heap[g']?=some (Obj.cells c e' fz)->∃(c':Array Value) (iZ:Nat×Nat),(w.setRow g cs).heap[g']?=some (Obj.cells c' e' iZ)/\c'.size=c.size:=by
  intro g' c e' fz dT
  by_cases dh:g'=g
  ·subst dh
   rw[hc]at dT
   cases dT
   exact⟨cs,_,setRow_heap w g' cur cs e (0,0) hc,a7⟩
  ·exact⟨c,_,(setRow_other w g g' cs dh).trans dT,rfl⟩
 have dv:∀g' n,shaped w g' n->shaped (w.setRow g cs) g' n:=by
  rintro g' n ⟨c,e',dT,hn⟩
  by_cases dh:g'=g
  ·subst dh
   rw[hc]at dT
   cases dT
   exact⟨cs,_,setRow_heap w g' cur cs e (0,0) hc,by rw[a7];exact hn⟩
  ·exact⟨c,e',(setRow_other w g g' cs dh).trans dT,hn⟩
 have gN:Ext (fun x=>x=g) w (w.setRow g cs):=
  ⟨by simp,fun g' _ hn=>setRow_other w g g' cs hn,PD,rfl,rfl,rfl⟩
 have k:bG w φ I (w.setRow g cs) φ I:=
  ⟨fun g' cC=>setRow_other w g g' cs (fun e=>by subst e;exact(h.real.off b g' hg).1 cC),fun _ h=>h,fun _ _ h=>h,fun _ _ _ _ hs=>dv _ _ hs⟩
 refine⟨⟨⟨fun b'=>?_,fun b' o1 p aE hp=>?_,fun b' g' hp=>?_,h.real.inj,fun g' cC=>?_⟩,h.ext.trans gN (fun g' cC=>?_),h.cd,h.cZ,h.cz,fun b' g' oo ah h0 aE=>?_⟩,k⟩
 ·by_cases ao:b'=b
  ·subst ao
   rw[gU H b' o' hl,hg];rfl
  ·rw[ei H b b' o' ao];exact h.real.bB b'
 ·by_cases ao:b'=b
  ·subst ao
   rw[gU H b' o' hl]at aE
   cases aE
   rw[hg]at hp
   cases hp
   exact ho
  ·rw[ei H b b' o' ao]at aE
   refine Ob.jV k.im k.I k.phi k.sh (fun g' cC=>?_) (h.real.own b' o1 p aE hp)
   subst cC
   exact setRow_other w g g' cs (fun e=>ao (h.real.inj b' b g' hp (by rw[e];exact hg)))
 ·have:=h.real.off b' g' hp
  exact⟨this.1,by simpa using this.2⟩
 ·have:=h.real.bZ g' cC
  simpa using this
 ·subst cC
  exact h.cd b g' hg
 ·by_cases ao:b'=b
  ·subst ao
   exact h.cE b' g' o ah h0 hl
  ·rw[ei H b b' o' ao]at aE
   exact h.cE b' g' oo ah h0 aE
end
mutual
def jI:AV->Option IV
 | .im x=>some x
 | .fn f fs aL=>match kS fs,kS aL with
  |some a,some b=>some (.fn f a b)
  |_,_=>none
 |_=>none
def kS:List AV->Option (List IV)
 |[]=>some []
 |y::r=>match jI y,kS r with
  |some x,some l=>some (x::l)
  |_,_=>none
end
def rb:AV->Option (List IV)
 | .ar cs=>some cs
 |a=>match qp a with
  |some ys=>kS ys
  |none=>none
def rowsOf (E:Env) (es:Nat):Nat->List (Nat×Operand)->Option (List (List IV))
 |_,[]=>some []
 |k,(i,x)::r=>bif Nat.beq i k then match ev E x with
  |some a=>match rb a,rowsOf E es (k+1) r with
   |some c,some l=>bif Nat.beq c.length es then some (c::l)else none
   |_,_=>none
  |none=>none
  else none
def bU:List Nat->Nat->Bool
 |[],_=>false
 |j::r,i=>bif Nat.beq j i then true else bU r i
def vW (l:List Nat):Option Nat->Bool
 |some d=>bU l d
 |none=>false
def setRowI (row:List IV) (j:Nat) (c:List IV):List IV:=row.take j++c++row.drop (j+c.length)
def TK.C7:TK->Bool
 | .func=>true
 |_=>false
def nO (P:Program) (nb:Nat) (nz:List Nat) (E:Env) (H:aa) (o:Oper):Option (Prop×AV×aa):=
 match o.op with
 | .alloc t=>match aC P t with
  |some z=>bif z.all Value.oneCell' then match tk P t with
   | .arr _ e=>bif decide (sz P e=some 1)&&!(tk P e).C7 then some (True,.ob (aN nb H) 0,(aN nb H,.vec t 1 (z.map fun c=>[.v c]))::H)else some (True,.ob (aN nb H) 0,(aN nb H,.var t (z.map fun c=> .im (.v c)))::H)
   |_=>some (True,.ob (aN nb H) 0,(aN nb H,.var t (z.map fun c=> .im (.v c)))::H)
   else none
  |none=>none
 | .box t x=>match ev E x with
  |some a=>bif vW nz o.dst then match qp a with
    |some ys=>some (True,.ob (aN nb H) 0,(aN nb H,.var t ys)::H)
    |none=>none
   else match rb a with
    |some cs=>some (True,.im (.pt cs),H)
    |none=>none
  |none=>none
 | .buildSlice t len parts=>match tk P t with
  | .slice e=>match len with
   |0=>match sz P e,parts.toList with
    |some es,[]=>some (True,.os (aN nb H) es 0 0,(aN nb H,.vec e es [])::H)
    |_,_=>none
   |k+1=>match sz P e,aC P e with
    |some (es+1),some z=>bif Nat.beq parts.toList.length (k+1)&&Nat.beq z.length (es+1)&&Nat.ble ((k+1)*(es+1)) 16777216 then match rowsOf E (es+1) 0 parts.toList with
     |some rows=>bif vW nz o.dst then some (True,.os (aN nb H) (es+1) 0 (k+1),(aN nb H,.vec e (es+1) rows)::H)else some (True,.im (.sl (es+1) rows),H)
     |none=>none
     else none
    |_,_=>none
  |_=>none
 | .store t p x=>match ev E p,ev E x,sz P t with
  |some (.ob b off),some a,some n=>match lk H b with
   |some (.var (.cell el) cs)=>match qp a with
    |some ys=>bif Nat.beq ys.length n then some (off+n<=cs.length,.top,bK H b (.var (.cell el) (setAt cs off ys)))else none
    |none=>none
   |some (.vec el 1 rows)=>match rb a with
    |some cs=>bif Nat.beq off 0 then some (cs.length=n/\rows.length=n,.top,bK H b (.vec el 1 (cs.map fun c=>[c])))else none
    |none=>none
   |_=>none
  |some (.oe b es i j),some a,some n=>match lk H b,rb a with
   |some (.vec el dL rows),some c=>bif Nat.beq es dL&&Nat.beq c.length n then some (i<rows.length/\j+n<=es,.top,bK H b (.vec el dL (rows.set i (setRowI (rows.getD i []) j c))))else none
   |_,_=>none
  |_,_,_=>none
 |_=>none
section
variable {P:Program} {B:Bs} {w:World} {φ:aq} {I:Nat->Prop} {E:Env} {H:aa} {a:Act}
theorem gI (w:World) (o:Obj):(w.alloc o).heap[w.heap.size]?=some o:=heap_alloc_new w o
def EZ (P:Program) (B:Bs) (w:World) (φ:aq) (I:Nat->Prop) (s:Sem Next) (v:AV) (H':aa):Prop:=
 ∃nx w' φ' I',s.run P w= .ok nx w'/\((∃u,nx= .value u/\AV.den w' φ' I' v u)\/(nx= .skip/\AV.den w' φ' I' v undef))/\St B φ' I' H' w'/\bG w φ I w' φ' I'
theorem Kr:∀(us:List Value),us.all Value.oneCell'=true->IV.aQ w I (us.map fun c=>[.v c]) (us.map fun c=>[c])
 |[],_=>by simp[IV.aQ]
 |x::us,h=>by
  simp only[List.all_cons,Bool.and_eq_true]at h
  simp only[List.map_cons,IV.aQ,IV.ab]
  exact⟨[x],_,rfl,⟨x,[],rfl,by simp only[IV.den];exact⟨by simp,h.1⟩,rfl⟩,Kr us h.2⟩
theorem yr:∀(us:List Value),(us.map fun c=>[c]).flatten=us
 |[]=>rfl
 |x::us=>by simp[yr us]
mutual
theorem Q_:∀(y:AV) (x:IV) (u:Value),jI y=some x->AV.den w φ I y u->IV.den w I x u
 | .im x',x,u,h,hd=>by
  simp only[jI,Option.some.injEq]at h
  subst h
  simpa only[AV.den]using hd
 | .fn f fs aL,x,u,h,hd=>by
  simp only[jI]at h
  split at h
  ·rename_i a b ha hb
   simp only[Option.some.injEq]at h
   subst h
   simp only[AV.den]at hd
   obtain⟨us,vs,h1,h2,e⟩:=hd
   simp only[IV.den]
   exact⟨us,vs,vU fs a us ha h1,vU aL b vs hb h2,e⟩
  ·cases h
 | .mp _,_,_,h,_=>by simp[jI]at h
 | .wr _ _,_,_,h,_=>by simp[jI]at h
 | .ob _ _,_,_,h,_=>by simp[jI]at h
 | .oe _ _ _ _,_,_,h,_=>by simp[jI]at h
 | .os _ _ _ _,_,_,h,_=>by simp[jI]at h
 | .agg _,_,_,h,_=>by simp[jI]at h
 | .ar _,_,_,h,_=>by simp[jI]at h
 | .aD _,_,_,h,_=>by simp[jI]at h
 | .opt _ _,_,_,h,_=>by simp[jI]at h
 | .top,_,_,h,_=>by simp[jI]at h
theorem vU:∀(ys:List AV) (l:List IV) (us:List Value),kS ys=some l->AV.ab w φ I ys us->IV.ab w I l us
 |[],l,us,h,hd=>by simp only[kS,Option.some.injEq]at h;subst h;simpa[AV.ab,IV.ab]using hd
 |y::ys,l,us,h,hd=>by
  simp only[kS]at h
  split at h
  ·rename_i x l' hx hl
   simp only[Option.some.injEq]at h
   subst h
   simp only[AV.ab]at hd
   obtain⟨u,au,rfl,h1,h2⟩:=hd
   simp only[IV.ab]
   exact⟨u,au,rfl,Q_ y x u hx h1,vU ys l' au hl h2⟩
  ·cases h
end
theorem zd {x:AV} {l:List IV} {u:Value} (h:rb x=some l) (hx:AV.den w φ I x u):∃us,u.cells=us.toArray/\IV.ab w I l us:=by
 unfold rb at h
 split at h
 ·simp only[Option.some.injEq]at h;subst h
  simp only[AV.den]at hx
  obtain⟨us,hd,rfl⟩:=hx
  exact⟨us,rfl,hd⟩
 ·split at h
  ·rename_i ys hy
   obtain⟨ws,hw,hd,_⟩:=x8 hy hx
   exact⟨ws,hw,vU ys l ws h hd⟩
  ·cases h
theorem Ku (hE:dB w φ I E a) {es:Nat}:∀(parts:List (Nat×Operand)) (k:Nat) (rows:List (List IV)),rowsOf E es k parts=some rows->
  ∃vs:List Value,parts.map (fun p=>(p.1,a.eval p.2))=(vs.zipIdx k).map (fun x=>(x.2,x.1))/\(∀v∈vs,v.cells.size=es)/\vs.length=parts.length/\
   IV.aQ w I rows (vs.map fun v=>v.cells.toList)
 |[],k,rows,h=>by
  simp only[rowsOf,Option.some.injEq]at h
  subst h
  exact⟨[],rfl,by simp,rfl,by simp[IV.aQ]⟩
 |(i,x)::r,k,rows,h=>by
  simp only[rowsOf]at h
  cases hb:Nat.beq i k with
  |false=>rw[hb]at h;simp at h
  |true=>
   rw[hb]at h
   have hi:=Nat.eq_of_beq_eq_true hb
   subst hi
   simp only[cond_true]at h
   split at h
   ·rename_i av lA
    split at h
    ·rename_i c l hc hl
     cases hq:Nat.beq c.length es with
     |false=>rw[hq]at h;simp at h
     |true=>
      rw[hq]at h
      simp only[cond_true,Option.some.injEq]at h
      subst h
      have cB:=Nat.eq_of_beq_eq_true hq
      obtain⟨us,hu,hd⟩:=zd hc (aX hE lA)
      obtain⟨vs,h1,h2,h3,h4⟩:=Ku hE r (i+1) l hl
      refine⟨a.eval x::vs,by simp[List.zipIdx_cons,h1],fun v hv=>?_,by simp[h3],?_⟩
      ·rcases List.mem_cons.1 hv with rfl|hv
       ·rw[hu];simp;rw[oE c us hd];exact cB
       ·exact h2 v hv
      ·simp only[List.map_cons,IV.aQ]
       exact⟨_,_,rfl,by rw[hu];exact hd,h4⟩
    ·cases h
   ·cases h
theorem NU {row:List IV} {us:List Value} {c:List IV} {ws:List Value} {j:Nat} (hd:IV.ab w I row us) (hc:IV.ab w I c ws) (hj:j+c.length<=row.length):
  IV.ab w I (setRowI row j c) (us.take j++ws++us.drop (j+ws.length)):=by
 unfold setRowI
 rw[oE c ws hc]
 exact qv.zb _ _ _ _ (qv.zb _ _ _ _ (zc j _ _ hd) hc) (sW _ _ _ hd)
theorem F_:∀(rows:List (List IV)) (ag:List (List Value)) (i:Nat) (r:List IV) (vs:List Value),IV.aQ w I rows ag->IV.ab w I r vs->IV.aQ w I (rows.set i r) (ag.set i vs)
 |[],ag,i,r,vs,h,_=>by simp only[IV.aQ]at h;subst h;simp[IV.aQ]
 |c::cs,ag,i,r,vs,h,hx=>by
  simp only[IV.aQ]at h
  obtain⟨u0,au,rfl,h1,h2⟩:=h
  cases i with
  |zero=>simp only[List.set_cons_zero,IV.aQ];exact⟨vs,au,rfl,hx,h2⟩
  |succ i=>simp only[List.set_cons_succ,IV.aQ];exact⟨u0,_,rfl,h1,F_ cs au i r vs h2 hx⟩
theorem Bz:∀(ag:List (List Value)) (es i:Nat) (vs:List Value),(∀v∈ag,v.length=es)->vs.length=es->i<ag.length->
  (ag.set i vs).flatten=ag.flatten.take (i*es)++vs++ag.flatten.drop (i*es+es)
 |[],_,_,_,_,_,h=>by simp at h
 |x::xs,es,0,vs,hl,hv,_=>by
  have hx:x.length=es:=hl x (by simp)
  simp[List.flatten_cons,List.drop_append,<-hx]
 |x::xs,es,i+1,vs,hl,hv,h=>by
  have hx:x.length=es:=hl x (by simp)
  have ih:=Bz xs es i vs (fun v hv=>hl v (by simp[hv])) hv (by simpa using h)
  rw[List.set_cons_succ,List.flatten_cons,List.flatten_cons,ih]
  have e1:(i+1)*es=x.length+i*es:=by rw[hx,Nat.add_mul];omega
  rw[e1,List.take_append,List.drop_append,List.take_of_length_le (l:=x) (by omega),List.drop_eq_nil_of_le (as:=x) (by omega)]
  have e2:x.length+i*es-x.length=i*es:=by omega
  have e3:x.length+i*es+es-x.length=i*es+es:=by omega
  rw[e2,e3]
  simp
theorem D9 {t:TypeId} {n g o:Nat} {u:Value} {ws:List Value} {cur:Array Value} {e:TypeId} (hn:sz P t=some n) (hu:u.cells=ws.toArray) (hl:ws.length=n) (h1:∀x∈ws,x.oneCell'=true)
  (hg:w.heap[g]?=some (.cells cur e (0,0))) (u5:o+n<=cur.size):
  (Instr.storeAt t (.pointer (some ⟨g,o,none⟩)) u).run P w= .ok () (w.setRow g (cur.toList.take o++ws++cur.toList.drop (o+n)).toArray):=by
 have ca:=run_storeCells_at P g o e ws 0 cur w hg (by simp only[Nat.add_zero];omega) h1
 simp only[Nat.add_zero]at ca
 simp[Instr.storeAt,Instr.sureAddr,storeVar,hu,hl,run_sizeOf hn,ca]
theorem KN:∀(ws:List Value) (off:Nat) (us:List Value),off+ws.length<=us.length->jQ us off ws=us.take off++ws++us.drop (off+ws.length)
 |[],off,us,_=>by simp[jQ]
 |x::ws,off,us,h=>by
  simp only[jQ]
  rw[KN ws (off+1) (us.set off x) (by simp at h⊢;omega)]
  have ah:off<us.length:=by simp at h;omega
  have e1:(us.set off x).take (off+1)=us.take off++[x]:=by
   rw[List.take_succ_eq_append_getElem (by simpa using ah),List.take_set_of_le (Nat.le_refl _)]
   simp
  have e2:(us.set off x).drop (off+1+ws.length)=us.drop (off+1+ws.length):=by rw[List.drop_set_of_lt (by omega)]
  rw[e1,e2]
  rw[List.length_cons,show off+(ws.length+1)=off+1+ws.length by omega]
  simp
theorem Fa (hE:dB w φ I E a) (hS:St B φ I H w) {nz:List Nat} {o:Oper} {sc:Prop} {v:AV} {H':aa} (h:nO P B.nb nz E H o=some (sc,v,H')) (aB:sc):
  EZ P B w φ I (execOp a.eval o) v H':=by
 obtain⟨dst,op,ty,pos,after,guard⟩:=o
 unfold nO at h
 simp only at h
 split at h
 ·
  rename_i t
  split at h
  ·rename_i z hz
   obtain⟨it,zv,hit,q_,rfl⟩:=xi hz
   cases hb:zv.cells.toList.all Value.oneCell' with
   |false=>rw[hb]at h;simp at h
   |true=>
    rw[hb]at h
    simp only[cond_true]at h
    have aK:(execOp a.eval ⟨dst,.alloc t,ty,pos,after,guard⟩).run P w= .ok (.value (.pointer (some ⟨w.heap.size,0,none⟩))) (w.alloc (.cells zv.cells t)):=by
     simp[execOp,Instr.alloc,zeroValue,typeInfo,hit,q_,newVar,newRow]
    have sR:∀{H'},H'=(aN B.nb H,Ob.var t (zv.cells.toList.map fun c=> .im (.v c)))::H->EZ P B w φ I (execOp a.eval ⟨dst,.alloc t,ty,pos,after,guard⟩) (.ob (aN B.nb H) 0) H':=by
     intro H' e
     subst e
     obtain⟨h1,h2⟩:=hS.uc (k0 B.nb H) (gV B.nb H).1 (cs:=zv.cells) (e:=t) (o:= .var t (zv.cells.toList.map fun c=> .im (.v c))) (by
      simp only[Ob.at,Sh.has,Sh.one]
      exact⟨_,zv.cells.toList,rfl,by simpa using gI w _,uC _ hb,List.all_eq_true.1 hb⟩)
     exact⟨_,_,_,_,aK,.inl ⟨_,rfl,by simp only[AV.den,bc];exact⟨_,by simp,rfl⟩⟩,h1,h2⟩
    split at h
    ·rename_i m e _
     cases hd:(decide (sz P e=some 1)&&!(tk P e).C7)with
     |true=>
      rw[hd]at h
      simp only[cond_true,Option.some.injEq,Prod.mk.injEq]at h
      obtain⟨_,rfl,rfl⟩:=h
      obtain⟨h1,h2⟩:=hS.uc (k0 B.nb H) (gV B.nb H).1 (cs:=zv.cells) (e:=t) (o:= .vec t 1 (zv.cells.toList.map fun c=>[.v c])) (by
       simp only[Ob.at,Sh.has,Sh.one]
       refine .inr ⟨_,zv.cells.toList.map fun c=>[c],[],rfl,?_,Kr _ hb,by simp⟩
       rw[yr]
       simpa using gI w _)
      exact⟨_,_,_,_,aK,.inl ⟨_,rfl,by simp only[AV.den,bc];exact⟨_,by simp,rfl⟩⟩,h1,h2⟩
     |false=>
      rw[hd]at h
      simp only[cond_false,Option.some.injEq,Prod.mk.injEq]at h
      obtain⟨_,rfl,rfl⟩:=h
      exact sR rfl
    ·simp only[Option.some.injEq,Prod.mk.injEq]at h
     obtain⟨_,rfl,rfl⟩:=h
     exact sR rfl
  ·cases h
 ·
  rename_i t x
  split at h
  ·rename_i av hx
   have hd:=aX (w:=w) (φ:=φ) (I:=I) hE hx
   have aK:(execOp a.eval ⟨dst,.box t x,ty,pos,after,guard⟩).run P w= .ok (.value (.pointer (some ⟨w.heap.size,0,none⟩))) (w.alloc (.cells (a.eval x).cells t)):=by
    simp[execOp,Instr.box,newVar,newRow]
   cases hb:vW nz dst with
   |true=>
    rw[hb]at h
    simp only[cond_true]at h
    split at h
    ·rename_i ys hy
     simp only[Option.some.injEq,Prod.mk.injEq]at h
     obtain⟨_,rfl,rfl⟩:=h
     obtain⟨ws,hw,jA,a8⟩:=x8 hy hd
     rw[hw]at aK
     have hnb:φ (aN B.nb H)=none:=by
      have:=hS.real.bB (aN B.nb H)
      rw[k0 B.nb H]at this
      cases hq:φ (aN B.nb H)with
      |none=>rfl
      |some _=>rw[hq]at this;cases this
     obtain⟨h1,h2⟩:=hS.uc (k0 B.nb H) (gV B.nb H).1 (cs:=ws.toArray) (e:=t) (o:= .var t ys) (by
      simp only[Ob.at,Sh.has,Sh.one]
      refine⟨_,ws,rfl,by simpa using gI w _,?_,a8⟩
      refine AV.iE (fun g hg=>heap_alloc_old w _ (hS.real.bZ g hg)) (fun _ h=>h) (fun b p hp=>?_) (fun _ g n _ hs=>(qz (fun _=>False) w _).shaped (fun h=>h) hs) ys ws jA
      unfold bc
      rw[if_neg (by intro e;rw[e,hnb]at hp;cases hp)]
      exact hp)
     exact⟨_,_,_,_,aK,.inl ⟨_,rfl,by simp only[AV.den,bc];exact⟨_,by simp,rfl⟩⟩,h1,h2⟩
    ·cases h
   |false=>
    rw[hb]at h
    simp only[cond_false]at h
    split at h
    ·rename_i cs hc
     simp only[Option.some.injEq,Prod.mk.injEq]at h
     obtain⟨_,rfl,rfl⟩:=h
     obtain⟨us,hu,c8⟩:=zd hc hd
     rw[hu]at aK
     obtain⟨h1,h2⟩:=hS.Fh us.toArray t
     refine⟨_,_,_,_,aK,.inl ⟨_,rfl,?_⟩,h1,h2⟩
     simp only[AV.den,IV.den]
     refine⟨_,0,us,rfl,.inr rfl,IV.iE h2.im h2.I cs us c8,fun j u hu=>?_⟩
     rw[Nat.zero_add]
     simp only[World.cell?,gI w,Option.isSome_none,Bool.false_eq_true,if_false,List.getElem?_toArray]
     exact hu
    ·cases h
  ·cases h
 ·
  rename_i t len parts
  split at h
  ·rename_i e ht
   split at h
   ·split at h
    ·rename_i es cH Qj
     simp only[Option.some.injEq,Prod.mk.injEq]at h
     obtain⟨_,rfl,rfl⟩:=h
     obtain rfl:parts=#[]:=by cases parts;simpa using Qj
     have aK:(execOp a.eval ⟨dst,.buildSlice t 0 #[],ty,pos,after,guard⟩).run P w= .ok (.value (.slice (some ⟨w.heap.size,0,none⟩) 0 0)) (w.alloc (.cells #[] e)):=by
      have h0:Array.range 0=#[]:=by decide
      simp[execOp,Instr.buildSlice,run_underlying (eV ht),run_sizeOf cH,Instr.fill,newRow,h0]
     obtain⟨h1,h2⟩:=hS.uc (k0 B.nb H) (gV B.nb H).1 (cs:=#[]) (e:=e) (o:= .vec e es []) (by
       simp only[Ob.at,Sh.has,Sh.one]
       exact .inr ⟨_,[],[],rfl,by simpa using gI w _,by simp[IV.aQ],by simp⟩)
     refine⟨_,_,_,_,aK,.inl ⟨_,rfl,?_⟩,h1,h2⟩
     simp only[AV.den,bc]
     exact .inr ⟨_,0,by simp,by simp,Nat.le_refl _,Nat.zero_le _,#[],e,gI w _,by simp⟩
    ·cases h
   ·rename_i k
    split at h
    ·rename_i es z cH hz
     cases hb:(Nat.beq parts.toList.length (k+1)&&Nat.beq z.length (es+1)&&Nat.ble ((k+1)*(es+1)) 16777216)with
     |false=>rw[hb]at h;simp at h
     |true=>
      rw[hb]at h
      simp only[cond_true]at h
      simp only[Bool.and_eq_true]at hb
      have nc:=Nat.eq_of_beq_eq_true hb.1.1
      have y4:=Nat.le_of_ble_eq_true hb.2
      split at h
      ·rename_i rows Qt
       obtain⟨vs,gw,mz,vC,CR⟩:=Ku (w:=w) (φ:=φ) (I:=I) hE _ _ _ Qt
       obtain⟨_,ie,gP,a7⟩:=lW cH
       obtain⟨WR,zv,Hq,q_,_⟩:=xi hz
       rw[gP]at Hq
       cases Hq
       have aK:(execOp a.eval ⟨dst,.buildSlice t (k+1) parts,ty,pos,after,guard⟩).run P w= .ok (.value (.slice (some ⟨w.heap.size,0,none⟩) (k+1) (k+1))) (w.alloc (.cells (vs.flatMap fun v=>v.cells.toList).toArray e)):=by
        have:=run_buildSlice (P:=P) w t e (k+1) (parts.map fun(i,x)=>(i,a.eval x)) (vs.flatMap fun v=>v.cells.toList).toArray ie zv (eV ht) gP q_ (by rw[a7];show¬(k+1)*(es+1)>2^24;omega) (by rw[a7];simp) (by
         rw[DY,gw,a7]
         exact Great.fill_whole (Nat.succ_pos _) vs _ mz (by rw[vC,nc];simp))
        simp only[execOp,Sem.run_bind,this,Result.andThen_ok,Sem.run_pure]
       have eN:(vs.flatMap fun v=>v.cells.toList)=(vs.map fun v=>v.cells.toList).flatten:=by simp[List.flatMap]
       have pO:rows.length=k+1:=by rw[<-j0 _ _ CR,List.length_map,vC,nc]
       cases hq:vW nz dst with
       |true=>
        rw[hq]at h
        simp only[cond_true,Option.some.injEq,Prod.mk.injEq]at h
        obtain⟨_,rfl,rfl⟩:=h
        obtain⟨h1,h2⟩:=hS.uc (k0 B.nb H) (gV B.nb H).1 (cs:=(vs.flatMap fun v=>v.cells.toList).toArray) (e:=e) (o:= .vec e (es+1) rows) (by
         simp only[Ob.at,Sh.has,Sh.one]
         refine .inr ⟨_,vs.map fun v=>v.cells.toList,[],rfl,?_,IV.gM (fun g hg=>heap_alloc_old w _ (hS.real.bZ g hg)) (fun _ h=>h) rows _ CR,?_⟩
         ·rw[List.append_nil,<-eN];exact gI w _
         ·intro us gv
          obtain⟨v,hv,rfl⟩:=List.mem_map.1 gv
          simpa using mz v hv)
        refine⟨_,_,_,_,aK,.inl ⟨_,rfl,?_⟩,h1,h2⟩
        simp only[AV.den,bc]
        refine .inr ⟨_,k+1,by simp,by simp,Nat.le_refl _,?_,_,e,gI w _,?_⟩
        ·have:k+1<=(k+1)*(es+1):=Nat.le_mul_of_pos_right _ (Nat.succ_pos _)
         unfold maxLen;omega
        ·rw[eN]
         have:∀(l:List (List Value)),(∀x∈l,x.length=es+1)->l.flatten.length=l.length*(es+1):=by
          intro l
          induction l with
          |nil=>simp
          |cons x l ih=>intro hx;simp only[List.flatten_cons,List.length_append,List.length_cons];rw[ih (fun y hy=>hx y (by simp[hy])),hx x (by simp),Nat.add_mul];omega
         rw[List.size_toArray,this _ (by intro us gv;obtain⟨v,hv,rfl⟩:=List.mem_map.1 gv;simpa using mz v hv),List.length_map,vC,nc]
         simp
       |false=>
        rw[hq]at h
        simp only[cond_false,Option.some.injEq,Prod.mk.injEq]at h
        obtain⟨_,rfl,rfl⟩:=h
        obtain⟨h1,h2⟩:=hS.Fh (vs.flatMap fun v=>v.cells.toList).toArray e
        refine⟨_,_,_,_,aK,.inl ⟨_,rfl,?_⟩,h1,h2⟩
        simp only[AV.den,IV.den]
        refine⟨_,k+1,vs.map fun v=>v.cells.toList,by rw[pO],by omega,IV.gM h2.im h2.I rows _ CR,?_,fun _=>⟨w.heap.size,0,rfl,.inr rfl,fun j u hu=>?_⟩⟩
        ·intro us gv
         obtain⟨v,hv,rfl⟩:=List.mem_map.1 gv
         simpa using mz v hv
        ·rw[Nat.zero_add]
         rw[<-eN]at hu
         simp only[World.cell?,gI w,Option.isSome_none,Bool.false_eq_true,if_false,List.getElem?_toArray]
         exact hu
      ·cases h
    ·cases h
  ·cases h
 ·
  rename_i t p x
  split at h
  ·rename_i b off av n hp hx hn
   have yI:=aX (w:=w) (φ:=φ) (I:=I) hE hx
   have uY:=aX (w:=w) (φ:=φ) (I:=I) hE hp
   simp only[AV.den]at uY
   obtain⟨g,hg,nf⟩:=uY
   split at h
   ·rename_i el cs ef
    split at h
    ·rename_i ys hy
     cases hq:Nat.beq ys.length n with
     |false=>rw[hq]at h;simp at h
     |true=>
      rw[hq]at h
      simp only[cond_true,Option.some.injEq,Prod.mk.injEq]at h
      obtain⟨rfl,rfl,rfl⟩:=h
      have Q0:=Nat.eq_of_beq_eq_true hq
      obtain⟨ws,hw,jA,a8⟩:=x8 hy yI
      have bE:=hS.real.own b _ _ ef hg
      simp only[Ob.at,Sh.has,Sh.one]at bE
      obtain⟨g',us,dh,cn,hd,h1⟩:=bE
      cases dh
      have bM:=iC cs us hd
      have jH:ws.length=n:=by rw[iC ys ws jA];exact Q0
      have aK:=D9 (P:=P) (w:=w) (o:=off) hn hw jH a8 cn (by simp;omega)
      have e1:=KN ws off us (by omega)
      rw[jH]at e1
      rw[<-e1]at aK
      have sw:∀(y:AV) (u:Value),True:=fun _ _=>trivial
      obtain⟨h2,h3⟩:=hS.write (o':= .var el (setAt cs off ys)) ef hg cn (cs:=(jQ us off ws).toArray) (by simp[z_]) (fun _ _ _=>⟨_,_,rfl⟩) (by
       simp only[Ob.at,Sh.has,Sh.one]
       refine⟨g,jQ us off ws,rfl,setRow_heap w g _ _ el (0,0) cn,?_,Ec ws off us h1 a8⟩
       refine AV.iE (fun g' cC=>setRow_other w g g' _ (fun e=>by subst e;exact(hS.real.off b g' hg).1 cC)) (fun _ h=>h) (fun _ _ h=>h) (fun _ g' n' _ hs=>?_) _ _ (Ed ys ws off cs us hd jA)
       obtain⟨c,e,hc,yF⟩:=hs
       by_cases dh:g'=g
       ·subst dh
        rw[cn]at hc
        cases hc
        exact⟨_,el,setRow_heap w g' _ _ el (0,0) cn,by simpa[z_]using yF⟩
       ·exact⟨c,e,(setRow_other w g g' _ dh).trans hc,yF⟩)
      refine⟨.skip,_,_,_,?_,.inr ⟨rfl,by simp only[AV.den]⟩,h2,h3⟩
      simp only[execOp,nf,Sem.run_bind,aK,Result.andThen_ok,Sem.run_pure]
    ·cases h
   ·rename_i el rows ef
    split at h
    ·rename_i cs iJ
     cases hq:Nat.beq off 0 with
     |false=>rw[hq]at h;simp at h
     |true=>
      rw[hq]at h
      have ho:=Nat.eq_of_beq_eq_true hq
      subst ho
      simp only[cond_true,Option.some.injEq,Prod.mk.injEq]at h
      obtain⟨rfl,rfl,rfl⟩:=h
      obtain⟨cB,pO⟩:=aB
      obtain⟨ws,kf,jA⟩:=zd iJ yI
      have bE:=hS.real.own b _ _ ef hg
      simp only[Ob.at,Sh.has,Sh.one]at bE
      rcases bE with⟨bj,_⟩|⟨g',ag,rest,dh,cn,hd,hl⟩
      ·cases bj
      cases dh
      have jH:ws.length=n:=by rw[oE cs ws jA];exact cB
      have eC:=j0 rows ag hd
      have eN:∀(l:List (List Value)),(∀x∈l,x.length=1)->l.flatten.length=l.length:=by
       intro l
       induction l with
       |nil=>simp
       |cons x l ih=>intro hx;simp only[List.flatten_cons,List.length_append,List.length_cons];rw[ih (fun y hy=>hx y (by simp[hy])),hx x (by simp)];omega
      have H2:=eN ag hl
      have aK:=D9 (P:=P) (w:=w) (o:=0) (u:=a.eval x) hn kf jH (ra cs ws jA) cn (by simp only[List.size_toArray,List.length_append];omega)
      have e1:((ag.flatten++rest).toArray.toList.take 0++ws++(ag.flatten++rest).toArray.toList.drop (0+n))=(ws.map fun c=>[c]).flatten++rest:=by
       rw[yr]
       simp only[List.take_zero,List.nil_append,Nat.zero_add]
       rw[List.drop_append,List.drop_eq_nil_of_le (as:=ag.flatten) (by omega),show n-ag.flatten.length=0 from by omega]
       rfl
      rw[e1]at aK
      obtain⟨h2,h3⟩:=hS.write (o':= .vec el 1 (cs.map fun c=>[c])) ef hg cn (cs:=((ws.map fun c=>[c]).flatten++rest).toArray) (by rw[yr];simp only[List.size_toArray,List.length_append];omega) (fun _ _ e=>by cases e) (by
       simp only[Ob.at,Sh.has,Sh.one]
       refine .inr ⟨g,ws.map fun c=>[c],rest,rfl,setRow_heap w g _ _ el (0,0) cn,?_,by simp⟩
       refine IV.gM (fun g' cC=>setRow_other w g g' _ (fun e=>by subst e;exact(hS.real.off b g' hg).1 cC)) (fun _ h=>h) _ _ ?_
       have:∀(xs:List IV) (us:List Value),IV.ab w I xs us->IV.aQ w I (xs.map fun c=>[c]) (us.map fun c=>[c]):=by
        intro xs
        induction xs with
        |nil=>intro us h;simp only[IV.ab]at h;subst h;simp[IV.aQ]
        |cons x xs ih=>
         intro us h
         simp only[IV.ab]at h
         obtain⟨u,au,rfl,h1,h2⟩:=h
         simp only[List.map_cons,IV.aQ,IV.ab]
         exact⟨[u],_,rfl,⟨u,[],rfl,h1,rfl⟩,ih au h2⟩
       exact this cs ws jA)
      refine⟨.skip,_,_,_,?_,.inr ⟨rfl,by simp only[AV.den]⟩,h2,h3⟩
      simp only[execOp,nf,Sem.run_bind,aK,Result.andThen_ok,Sem.run_pure]
    ·cases h
   ·cases h
  ·rename_i b es i j av n hp hx hn
   have yI:=aX (w:=w) (φ:=φ) (I:=I) hE hx
   have uY:=aX (w:=w) (φ:=φ) (I:=I) hE hp
   simp only[AV.den]at uY
   obtain⟨g,hg,nf⟩:=uY
   split at h
   ·rename_i el dL rows c ef hc
    cases hq:(Nat.beq es dL&&Nat.beq c.length n)with
    |false=>rw[hq]at h;simp at h
    |true=>
     rw[hq]at h
     simp only[cond_true,Option.some.injEq,Prod.mk.injEq]at h
     obtain⟨rfl,rfl,rfl⟩:=h
     simp only[Bool.and_eq_true]at hq
     have cH:=Nat.eq_of_beq_eq_true hq.1
     subst cH
     have cB:=Nat.eq_of_beq_eq_true hq.2
     obtain⟨hi,hj⟩:=aB
     obtain⟨ws,hw,jA⟩:=zd hc yI
     have bE:=hS.real.own b _ _ ef hg
     simp only[Ob.at,Sh.has,Sh.one]at bE
     rcases bE with⟨bj,_⟩|⟨g',ag,rest,dh,cn,hd,hl⟩
     ·cases bj
     cases dh
     have jH:ws.length=n:=by rw[oE c ws jA];exact cB
     have eC:=j0 rows ag hd
     obtain⟨vs,c_,b9⟩:=yh rows ag i _ hd (List.getElem?_eq_getElem hi)
     have e0:rows.getD i []=rows[i]:=by simp[List.getD,hi]
     have QM:vs.length=es:=hl vs (List.mem_of_getElem? c_)
     have pO:rows[i].length=es:=by rw[<-oE _ vs b9];exact QM
     have yQ:i<ag.length:=by omega
     have eN:∀(l:List (List Value)),(∀x∈l,x.length=es)->l.flatten.length=l.length*es:=by
      intro l
      induction l with
      |nil=>simp
      |cons x l ih=>intro hx;simp only[List.flatten_cons,List.length_append,List.length_cons];rw[ih (fun y hy=>hx y (by simp[hy])),hx x (by simp),Nat.add_mul];omega
     have H2:=eN ag hl
     have Wx:i*es+es<=ag.flatten.length:=by
      rw[H2]
      have:=Nat.mul_le_mul_right es (show i+1<=ag.length by omega)
      rw[Nat.add_mul]at this;omega
     have aK:=D9 (P:=P) (w:=w) (o:=i*es+j) (u:=a.eval x) hn hw jH (ra c ws jA) cn (by simp only[List.size_toArray,List.length_append];omega)
     have qS:(vs.take j++ws++vs.drop (j+n)).length=es:=by simp only[List.length_append,List.length_take,List.length_drop];omega
     have aj:ag.flatten.drop (i*es)=vs++ag.flatten.drop (i*es+es):=by
      have j5:=r5 i ag es hl (by omega)
      rw[<-j5,List.drop_eq_getElem_cons yQ,List.flatten_cons]
      have gp:=r5 (i+1) ag es hl (by omega)
      have QK:ag[i]=vs:=by
       have:=List.getElem?_eq_getElem yQ
       rw[this]at c_
       exact Option.some.inj c_
      rw[QK,gp,Nat.add_mul,Nat.one_mul]
     have e1:((ag.flatten++rest).toArray.toList.take (i*es+j)++ws++(ag.flatten++rest).toArray.toList.drop (i*es+j+n))=(ag.set i (vs.take j++ws++vs.drop (j+n))).flatten++rest:=by
      rw[Bz ag es i _ hl qS yQ]
      simp only[]
      have t1:(ag.flatten++rest).take (i*es+j)=ag.flatten.take (i*es)++vs.take j:=by
       rw[List.take_append_of_le_length (by omega)]
       have:i*es+j=i*es+j:=rfl
       rw[List.take_add,aj,List.take_append_of_le_length (by omega)]
      have t2:(ag.flatten++rest).drop (i*es+j+n)=vs.drop (j+n)++ag.flatten.drop (i*es+es)++rest:=by
       rw[List.drop_append_of_le_length (by omega),show i*es+j+n=i*es+(j+n) by omega,<-List.drop_drop,aj,List.drop_append_of_le_length (by omega)]
      rw[t1,t2]
      simp
     rw[e1]at aK
     obtain⟨h2,h3⟩:=hS.write (o':= .vec el es (rows.set i (setRowI (rows.getD i []) j c))) ef hg cn (cs:=((ag.set i (vs.take j++ws++vs.drop (j+n))).flatten++rest).toArray) (by
       rw[Bz ag es i _ hl qS yQ]
       simp only[List.size_toArray,List.length_append,List.length_take,List.length_drop]
       omega) (fun _ _ e=>by cases e) (by
      simp only[Ob.at,Sh.has,Sh.one]
      refine .inr ⟨g,ag.set i (vs.take j++ws++vs.drop (j+n)),rest,rfl,setRow_heap w g _ _ el (0,0) cn,?_,?_⟩
      ·refine IV.gM (fun g' cC=>setRow_other w g g' _ (fun e=>by subst e;exact(hS.real.off b g' hg).1 cC)) (fun _ h=>h) _ _ ?_
       rw[e0]
       have cV:=NU b9 jA (j:=j) (by omega)
       rw[jH]at cV
       exact F_ rows ag i _ _ hd cV
      ·intro us gv
       rcases List.mem_or_eq_of_mem_set gv with h'|rfl
       ·exact hl us h'
       ·exact qS)
     refine⟨.skip,_,_,_,?_,.inr ⟨rfl,by simp only[AV.den]⟩,h2,h3⟩
     simp only[execOp,nf,Sem.run_bind,aK,Result.andThen_ok,Sem.run_pure]
   ·cases h
  ·cases h
 ·cases h
end
def bw (want b:Bool):Bool:=bif want then b else !b
def gd (ds:List (Nat×Nat)) (E:Env):Option (Nat×Bool)->Option Bool
 |none=>some true
 |some (j,want)=>match lk ds j with
  |some d=>match lk E d with
   |some (.im (.v (.bool b)))=>some (bw want b)
   |some (.opt g (.im (.v (.bool b))))=>some (g&&bw want b)
   |some (.opt false _)=>some false
   |_=>none
  |none=>none
def ba (d:Option Nat) (v:AV) (E:Env):Env:=
 match d with
 |some d=>(d,v)::E
 |none=>E
def a_ (d:Option Nat) (i:Nat) (ds:List (Nat×Nat)):List (Nat×Nat):=
 match d with
 |some d=>(i,d)::ds
 |none=>ds
def wrap (g:Option (Nat×Bool)) (G:Bool) (v:AV):AV:=
 match g with
 |none=>v
 |some _=>match v with
  | .opt g' x=> .opt (G&&g') x
  |x=> .opt G x
def vc (P:Program) (nb:Nat) (nz:List Nat) (k:List Oper->List (Nat×Nat)->Nat->Env->aa->Prop):List Oper->List (Nat×Nat)->Nat->Env->aa->Prop
 |[],ds,i,E,H=>k [] ds i E H
 |o::os,ds,i,E,H=>match gd ds E o.guard with
  |none=>k (o::os) ds i E H
  |some G=>match gJ P E H o.op with
   |some (sc,v)=>(G=true->sc)/\vc P nb nz k os (a_ o.dst i ds) (i+1) (ba o.dst (wrap o.guard G v) E) H
   |none=>match o.guard with
    |some _=>k (o::os) ds i E H
    |none=>match nO P nb nz E H o with
     |some (sc,v,H')=>sc/\vc P nb nz k os (a_ o.dst i ds) (i+1) (ba o.dst v E) H'
     |none=>k (o::os) ds i E H
def bo (n:Nat) (ops:List Oper):Bool:=ops.all fun o=>mG o&&match o.dst with
 |some d=>Nat.blt d n
 |none=>true
theorem Bl {n:Nat} {ops:List Oper} (h:bo n ops=true):ops.all mG=true:=by
 rw[bo,List.all_eq_true]at h
 rw[List.all_eq_true]
 intro o ho
 have:=h o ho
 simp only[Bool.and_eq_true]at this
 exact this.1
theorem qw {n:Nat} {ops:List Oper} (h:bo n ops=true) {o:Oper} (ho:o∈ops):∀x,o.dst=some x->x<n:=fun x hx=>by
 rw[bo,List.all_eq_true]at h
 have h1:=h o ho
 rw[hx]at h1
 simp only[Bool.and_eq_true,Nat.blt_eq]at h1
 exact h1.2
def AO (C:Cx) (ds:List (Nat×Nat)) (i:Nat) (rest:List Oper) (K:List KI) (E:Env) (H:aa):Prop:=
 ∀ops:Array Oper,(∀j d,lk ds j=some d->(ops[j]?).bind (·.dst)=some d)->(∀j o,rest[j]?=some o->(ops[i+j]?).bind (·.dst)=o.dst)->
  ∀φ I a w,br C φ I E H a w->gh C.P ops (dq C K) rest a w
section
variable {C:Cx} {K:List KI} {E:Env} {H:aa}
theorem br.put {φ:aq} {I:Nat->Prop} {a:Act} {w:World} (h:br C φ I E H a w) {φ':aq} {I':Nat->Prop} {w':World} {H':aa} (hS:St C.B φ' I' H' w') (k:bG w φ I w' φ' I') {d:Option Nat} {v:AV} {u:Value}
  (hd:∀x,d=some x->x<C.n) (hv:AV.den w' φ' I' v u):br C φ' I' (ba d v E) H' (a.put d u) w':=by
 cases d with
 |none=>
  refine⟨h.bI.mono k.im k.I,h.bJ,fun i x hx=>?_,hS⟩
  obtain⟨y,hy,Ca⟩:=h.env i x hx
  exact⟨y,hy,k.den Ca⟩
 |some d=>
  refine⟨h.bI.mono k.im k.I,by simpa[Act.put]using h.bJ,fun i x hx=>?_,hS⟩
  simp only[ba,lk]at hx
  cases hb:Nat.beq d i with
  |true=>
   rw[hb]at hx
   have Pn:=Nat.eq_of_beq_eq_true hb
   subst Pn
   simp only[cond_true,Option.some.injEq]at hx
   subst hx
   have:=hd d rfl
   exact⟨u,by simp only[Act.put];rw[Array.getElem?_setIfInBounds_self_of_lt (by rw[h.bJ];exact this)],hv⟩
  |false=>
   rw[hb]at hx
   simp only[cond_false]at hx
   obtain⟨y,hy,Ca⟩:=h.env i x hx
   refine⟨y,?_,k.den Ca⟩
   simp only[Act.put]
   rw[Array.getElem?_setIfInBounds_ne (by intro e;subst e;simp at hb)]
   exact hy
theorem uK {φ:aq} {I:Nat->Prop} {a:Act} {w:World} {ds:List (Nat×Nat)} {ops:Array Oper} (hE:dB w φ I E a) (aU:∀j d,lk ds j=some d->(ops[j]?).bind (·.dst)=some d) {o:Oper} {G:Bool}
  (h:gd ds E o.guard=some G):Region.wanted o (yielded ops a.tmps)=G:=by
 unfold gd at h
 unfold Region.wanted
 split at h
 ·rename_i hg
  simp only[Option.some.injEq]at h
  rw[hg];exact h
 ·rename_i j want hg
  rw[hg]
  simp only
  split at h
  ·rename_i d hd
   have eY:=aU j d hd
   split at h
   ·rename_i b hb
    simp only[Option.some.injEq]at h
    obtain⟨u,hu,bh⟩:=hE d _ hb
    rw[pf]at bh
    subst bh
    simp only[yielded,eY,Option.bind_some,hu]
    subst h
    cases want<;>cases b<;>rfl
   ·rename_i g b hb
    simp only[Option.some.injEq]at h
    obtain⟨u,hu,bh⟩:=hE d _ hb
    simp only[AV.den]at bh
    simp only[yielded,eY,Option.bind_some,hu]
    subst h
    cases g with
    |true=>
     have:=bh.1 rfl
     rw[show(IV.den w I (IV.v (Value.bool b)) u)=(AV.den w φ I (.im (.v (.bool b))) u) from by simp only[AV.den],pf]at this
     subst this
     cases want<;>cases b<;>rfl
    |false=>
     have:=bh.2 rfl
     subst this
     rfl
   ·rename_i x _ hb
    simp only[Option.some.injEq]at h
    obtain⟨u,hu,bh⟩:=hE d _ hb
    simp only[AV.den]at bh
    simp only[yielded,eY,Option.bind_some,hu]
    subst h
    have:=bh.2 trivial
    subst this
    rfl
   ·cases h
  ·cases h
theorem AO.step {ds:List (Nat×Nat)} {i:Nat} {o:Oper} {os:List Oper}
  (
   h:∀(ops:Array Oper) φ I a w,(∀j d,lk ds j=some d->(ops[j]?).bind (·.dst)=some d)->(ops[i]?).bind (·.dst)=o.dst->br C φ I E H a w->
   ∀Kn:Act->World->Prop,(∀E' H' φ' I' a' w',AO C (a_ o.dst i ds) (i+1) os K E' H'->br C φ' I' E' H' a' w'->Kn a' w')->
    if Region.wanted o (yielded ops a.tmps)then o.wp C.P a w Kn (dq C K)else Kn (a.put o.dst undef) w):AO C ds i (o::os) K E H:=by
 intro ops aU eh φ I a w hs
 have h0:(ops[i]?).bind (·.dst)=o.dst:=eh 0 o (by simp)
 refine UP fun Kn bS=>h ops φ I a w aU h0 hs Kn fun E' H' φ' I' a' w' fL eB=>bS _ _ (fL ops (fun j d hj=>?_) (fun j o' hj=>?_) φ' I' a' w' eB)
 ·unfold a_ at hj
  split at hj
  ·rename_i d' eM
   simp only[lk]at hj
   cases hb:Nat.beq i j with
   |true=>
    rw[hb]at hj
    have:=Nat.eq_of_beq_eq_true hb
    subst this
    simp only[cond_true,Option.some.injEq]at hj
    subst hj
    rw[h0,eM]
   |false=>
    rw[hb]at hj
    exact aU j d hj
  ·exact aU j d hj
 ·have:=eh (j+1) o' (by simpa using hj)
  rw[<-this]
  congr 2
  omega
theorem AO.TZ {ds:List (Nat×Nat)} {i:Nat} {o:Oper} {os:List Oper}
  (
   h:∀(ops:Array Oper) φ I a w,(∀j d,lk ds j=some d->(ops[j]?).bind (·.dst)=some d)->(ops[i]?).bind (·.dst)=o.dst->br C φ I E H a w->
   ∀Kn:Act->World->Prop,(∀E' H' φ' I' a' w',AO C (a_ o.dst i ds) (i+1) os K E' H'->br C φ' I' E' H' a' w'->Kn a' w')->
    if Region.wanted o (yielded ops a.tmps)then nu C.P o a w Kn (dq C K)else Kn (a.put o.dst undef) w):AO C ds i (o::os) K E H:=by
 intro ops aU eh φ I a w hs
 have h0:(ops[i]?).bind (·.dst)=o.dst:=eh 0 o (by simp)
 refine UQ fun Kn bS=>h ops φ I a w aU h0 hs Kn fun E' H' φ' I' a' w' fL eB=>bS _ _ (fL ops (fun j d hj=>?_) (fun j o' hj=>?_) φ' I' a' w' eB)
 ·unfold a_ at hj
  split at hj
  ·rename_i d' eM
   simp only[lk]at hj
   cases hb:Nat.beq i j with
   |true=>
    rw[hb]at hj
    have:=Nat.eq_of_beq_eq_true hb
    subst this
    simp only[cond_true,Option.some.injEq]at hj
    subst hj
    rw[h0,eM]
   |false=>
    rw[hb]at hj
    exact aU j d hj
  ·exact aU j d hj
 ·have:=eh (j+1) o' (by simpa using hj)
  rw[<-this]
  congr 2
  omega
theorem d_ {n:Nat} {o:Oper} {os:List Oper} (h:bo n (o::os)=true):(∀x,o.dst=some x->x<n)/\bo n os=true:=by
 refine⟨qw h (by simp),?_⟩
 simp only[bo,List.all_cons,Bool.and_eq_true]at h
 exact h.2
theorem NT {w:World} {φ:aq} {I:Nat->Prop} {x:AV}:AV.den w φ I (.opt false x) undef:=by simp[AV.den]
theorem ET {w:World} {φ:aq} {I:Nat->Prop} {g:Option (Nat×Bool)} {v:AV} {u:Value} (h:AV.den w φ I v u):AV.den w φ I (wrap g true v) u:=by
 unfold wrap
 split
 ·exact h
 ·split
  ·simpa using h
  ·simp only[AV.den];exact⟨fun _=>h,fun e=>by cases e⟩
theorem EU {w:World} {φ:aq} {I:Nat->Prop} {p:Nat×Bool} {v:AV}:AV.den w φ I (wrap (some p) false v) undef:=by
 cases v<;>simp[wrap,AV.den]
theorem tQ:∀(rest:List Oper) (ds:List (Nat×Nat)) (i:Nat) (E:Env) (H:aa),bo C.n rest=true->
  vc C.P C.B.nb C.ob (fun rest ds i E H=>AO C ds i rest K E H) rest ds i E H->AO C ds i rest K E H
 |[],ds,i,E,H,_,h=>h
 |o::os,ds,i,E,H,al,h=>by
  obtain⟨hd,ct⟩:=d_ al
  simp only[vc]at h
  split at h
  ·exact h
  ·rename_i G hG
   split at h
   ·rename_i sc v hv
    obtain⟨aB,qT⟩:=h
    have fL:=tQ os _ _ _ _ ct qT
    refine AO.step fun ops φ I a w aU _ hs Kn bS=>?_
    rw[uK hs.env aU hG]
    cases G with
    |true=>
     obtain⟨u,hu,bh⟩:=ug hs.env hs.st.real hv (aB rfl)
     rw[if_pos rfl]
     unfold Oper.wp
     rw[hu,Oper.upon_value]
     exact bS _ _ φ I _ _ fL (hs.put hs.st (bG.refl _ _ _) hd (ET bh))
    |false=>
     rw[if_neg (by simp)]
     refine bS _ _ φ I _ _ fL (hs.put hs.st (bG.refl _ _ _) hd ?_)
     cases hg:o.guard with
     |none=>rw[hg]at hG;simp[gd]at hG
     |some p=>exact EU
   ·split at h
    ·exact h
    ·split at h
     ·rename_i hg _ sc v H' he
      obtain⟨aB,qT⟩:=h
      have fL:=tQ os _ _ _ _ ct qT
      refine AO.step fun ops φ I a w aU _ hs Kn bS=>?_
      have hw:Region.wanted o (yielded ops a.tmps)=true:=by simp[Region.wanted,hg]
      rw[if_pos hw]
      obtain⟨nx,w',φ',I',aK,qU,hS,hk⟩:=Fa (P:=C.P) hs.env hs.st he aB
      unfold Oper.wp
      rw[aK]
      rcases qU with⟨u,rfl,bh⟩|⟨rfl,bh⟩
      ·rw[Oper.upon_value]
       exact bS _ _ φ' I' _ _ fL (hs.put hS hk hd bh)
      ·rw[Oper.upon_skip]
       exact bS _ _ φ' I' _ _ fL (hs.put hS hk hd bh)
     ·exact h
theorem AR.region {id:Nat} {ops:Array Oper} (al:bo C.n ops.toList=true) (h:vc C.P C.B.nb C.ob (fun rest ds i E H=>AO C ds i rest K E H) ops.toList [] 0 E H):AR C (.region id ops false) K E H:=by
 have fL:=tQ (C:=C) (K:=K) ops.toList [] 0 E H al h
 intro φ I a w hs
 refine UT (Bl al) (fL ops (fun j d hj=>by simp[lk]at hj) (fun j o hj=>?_) φ I a w hs)
 rw[Nat.zero_add]
 rw[Array.getElem?_toList]at hj
 simp[hj]
theorem AO.nil {ds:List (Nat×Nat)} {i:Nat} (h:AX C .normal K E H):AO C ds i [] K E H:=fun _ _ _ φ I a w hs=>UO (h φ I a w hs)
def kU:List Nat->Env->Env
 |[],_=>[]
 |i::r,E=>match lk E i with
  |some x=>(i,x)::kU r E
  |none=>kU r E
theorem zl:∀(l:List Nat) (E:Env),Sub E (kU l E)
 |[],_,i,x,h=>by simp[kU,lk]at h
 |j::r,E,i,x,h=>by
  simp only[kU]at h
  split at h
  ·rename_i y hy
   simp only[lk]at h
   cases hb:Nat.beq j i with
   |true=>
    rw[hb]at h
    have:=Nat.eq_of_beq_eq_true hb
    subst this
    simp only[cond_true,Option.some.injEq]at h
    subst h
    exact hy
   |false=>rw[hb]at h;exact zl r E i x h
  ·exact zl r E i x h
theorem AO.done {ds:List (Nat×Nat)} {i:Nat} (h:AX C .normal K (kU C.kp E) H):AO C ds i [] K E H:=AO.nil (AX.weaken h (zl _ _))
theorem AO.fI {ds:List (Nat×Nat)} {i:Nat} {o:Oper} {os:List Oper} (hG:gd ds E o.guard=some true) (h:AO C ds i ({o with guard:=none}::os) K E H):AO C ds i (o::os) K E H:=by
 intro ops aU eh φ I a w hs
 have:=h ops aU (fun j o' hj=>by
  cases j with
  |zero=>simp at hj;subst hj;exact eh 0 o (by simp)
  |succ j=>exact eh (j+1) o' (by simpa using hj)) φ I a w hs
 unfold gh at this⊢
 rw[if_pos (uK hs.env aU hG)]
 rw[if_pos (by simp[Region.wanted])]at this
 exact this
theorem AO.sa {ds:List (Nat×Nat)} {i:Nat} {o:Oper} {os:List Oper} (al:∀x,o.dst=some x->x<C.n) (hG:gd ds E o.guard=some false) (h:AO C (a_ o.dst i ds) (i+1) os K (ba o.dst (.opt false .top) E) H):AO C ds i (o::os) K E H:=
 AO.step fun ops φ I a w aU _ hs Kn bS=>by
  rw[uK hs.env aU hG,if_neg (by simp)]
  exact bS _ _ φ I _ _ h (hs.put hs.st (bG.refl _ _ _) al NT)
end
def c6 (φ:aq) (g:Nat):Prop:=∃b,φ b=some (some g)
def enters (P:Program) (f:FuncId):Bool:=
 match P.funcs[f]? with
 |some fn=>fn.name != "runtime.NumGoroutine" &&fn.body.isSome
 |none=>false
structure ak (P:Program) (f:FuncId) (args:List AV) (H:aa) (R:AV->aa->Prop):Prop where
 gl:enters P f=true
 run:∀(w:World) (φ:aq) (I:Nat->Prop) (vs:List Value),AV.ab w φ I args vs->Real w φ I H->VK P w I->Calls P f vs.toArray w (k_ ⟨w,c6 φ,I,φ,cW H⟩ R)
theorem ak.mono {P:Program} {f:FuncId} {args:List AV} {H:aa} {R R':AV->aa->Prop} (h:ak P f args H R) (hr:∀r H',R r H'->R' r H'):ak P f args H R':=
 ⟨h.gl,fun w φ I vs hd hR hV=>(h.run w φ I vs hd hR hV).mono fun _ _ ⟨r,H',φ',I',v,h1,h2⟩=>⟨r,H',φ',I',v,hr _ _ h1,h2⟩⟩
def enum:Nat->List AV->Env
 |_,[]=>[]
 |i,x::r=>(i,x)::enum (i+1) r
theorem qx:∀(l:List AV) (k i:Nat) (x:AV),lk (enum k l) i=some x->∃j,i=k+j/\l[j]?=some x
 |[],_,_,_,h=>by simp[enum,lk]at h
 |y::l,k,i,x,h=>by
  simp only[enum,lk]at h
  cases hb:Nat.beq k i with
  |true=>
   rw[hb]at h
   have:=Nat.eq_of_beq_eq_true hb
   subst this
   exact⟨0,rfl,by simpa using h⟩
  |false=>
   rw[hb]at h
   obtain⟨j,hj,hx⟩:=qx l (k+1) i x h
   exact⟨j+1,by omega,by simpa using hx⟩
theorem rA {w:World} {φ:aq} {I:Nat->Prop} {H:aa} (h:Real w φ I H) (nb:Nat):St ⟨w,c6 φ,I,φ,nb⟩ φ I H w:=
 ⟨h,Ext.refl _ w,fun b g hg=> .inl ⟨b,hg⟩,fun g hg=> .inl hg,fun g hg=>hg,fun _ _ _ _ h0 _=>h0⟩
theorem A5 {C:Cx} {f:FuncId} {c:Code} {args:Array Value} {w:World} (hf:C.P.funcs[f]?=some C.fn) (hb:C.fn.body=some c)
  (aU:C.ds=[]) (h:lZ none C.P c (x5 C) {tmps:=args++Array.replicate (C.fn.ntmps-args.size) undef,defers:=[]} w):Calls C.P f args w (jn C):=by
 refine callsIn_wide.1 (callsIn_of_wp_marks (F:=Fence.wide) (n:=3) hf hb trivial (Go.wpIn_mono (F:=Fence.wide) h fun e a w he=>?_))
 cases e with
 |normal=>exact he aU
 |ret=>exact he aU
 |panic c=>exact he aU
 |_=>exact he.elim
theorem jn.only {C:Cx} (hX:∀r H,C.X r H->False) {e:Ending} {w':World} (h:jn C e w'):k_ C.B C.R e w':=by
 rcases h with h|⟨r,H',_,_,_,h,_⟩
 ·exact h
 ·exact(hX r H' h).elim
structure c7 (P:Program) (f:FuncId) (args:List AV) (H:aa) (R X:AV->aa->Prop):Prop where
 gl:enters P f=true
 run:∀(w:World) (φ:aq) (I:Nat->Prop) (vs:List Value),AV.ab w φ I args vs->Real w φ I H->VK P w I->Calls P f vs.toArray w (fun e w'=>k_ ⟨w,c6 φ,I,φ,cW H⟩ R e w'\/E2 ⟨w,c6 φ,I,φ,cW H⟩ X e w')
theorem c7.Uf {P:Program} {f:FuncId} {args:List AV} {H:aa} {R X:AV->aa->Prop} (h:c7 P f args H R X) (hX:∀r H,X r H->False):ak P f args H R:=
 ⟨h.gl,fun w φ I vs hd hR hV=>(h.run w φ I vs hd hR hV).mono fun _ _ h=>h.elim id fun⟨r,H',_,_,_,h,_⟩=>(hX r H' h).elim⟩
theorem c7.intro {P:Program} {f:FuncId} {fn:Func} {c:Code} {n nb:Nat} {args:List AV} {H:aa} {R X:AV->aa->Prop} (kp ob:List Nat) (hf:P.funcs[f]?=some fn) (hb:fn.body=some c) (hn:fn.ntmps=n)
  (jD:enters P f=true) (cU:Nat.ble args.length n=true) (hnb:cW H=nb)
  (h:∀(w:World) (own I0:Nat->Prop) (ax:aq) (lay:Lay P ⟨w,own,I0,ax,nb⟩),AR ⟨P,fn,n,⟨w,own,I0,ax,nb⟩,kp,ob,R,none,X,[],lay⟩ c [] (enum 0 args) H):c7 P f args H R X:=by
 refine⟨jD,fun w φ I vs hd hR hV=>?_⟩
 subst hnb
 have hl:=iC args vs hd
 have qI:=Nat.le_of_ble_eq_true cU
 refine A5 (C:=⟨P,fn,n,⟨w,c6 φ,I,φ,cW H⟩,kp,ob,R,none,X,[],hR.lay hV _⟩) hf hb rfl (h w (c6 φ) I φ (hR.lay hV _) φ I _ w ⟨Marks.nil,?_,fun i x hx=>?_,rA hR _⟩)
 ·simp only[Array.size_append,List.size_toArray,Array.size_replicate,hn];omega
 ·obtain⟨j,rfl,hj⟩:=qx args 0 i x hx
  obtain⟨u,hu,c8⟩:=iB args vs j x hd hj
  refine⟨u,?_,c8⟩
  have ah:j<vs.length:=by
   rcases Nat.lt_or_ge j vs.length with h|h
   ·exact h
   ·rw[List.getElem?_eq_none h]at hu;cases hu
  rw[Nat.zero_add,Array.getElem?_append_left (by simpa using ah)]
  simpa using hu
theorem ak.intro {P:Program} {f:FuncId} {fn:Func} {c:Code} {n nb:Nat} {args:List AV} {H:aa} {R:AV->aa->Prop} (kp ob:List Nat) (hf:P.funcs[f]?=some fn) (hb:fn.body=some c) (hn:fn.ntmps=n)
  (jD:enters P f=true) (cU:Nat.ble args.length n=true) (hnb:cW H=nb)
  (h:∀(w:World) (own I0:Nat->Prop) (ax:aq) (lay:Lay P ⟨w,own,I0,ax,nb⟩),AR ⟨P,fn,n,⟨w,own,I0,ax,nb⟩,kp,ob,R,none,fun _ _=>False,[],lay⟩ c [] (enum 0 args) H):ak P f args H R:=by
 refine⟨jD,fun w φ I vs hd hR hV=>?_⟩
 subst hnb
 have hl:=iC args vs hd
 have qI:=Nat.le_of_ble_eq_true cU
 refine Calls.mono ?_ fun e w' he=>jn.only (C:=⟨P,fn,n,⟨w,c6 φ,I,φ,cW H⟩,kp,ob,R,none,fun _ _=>False,[],hR.lay hV _⟩) (fun _ _ h=>h) he
 refine A5 (C:=⟨P,fn,n,⟨w,c6 φ,I,φ,cW H⟩,kp,ob,R,none,fun _ _=>False,[],hR.lay hV _⟩) hf hb rfl (h w (c6 φ) I φ (hR.lay hV _) φ I _ w ⟨Marks.nil,?_,fun i x hx=>?_,rA hR _⟩)
 ·simp only[Array.size_append,List.size_toArray,Array.size_replicate,hn];omega
 ·obtain⟨j,rfl,hj⟩:=qx args 0 i x hx
  obtain⟨u,hu,c8⟩:=iB args vs j x hd hj
  refine⟨u,?_,c8⟩
  have ah:j<vs.length:=by
   rcases Nat.lt_or_ge j vs.length with h|h
   ·exact h
   ·rw[List.getElem?_eq_none h]at hu;cases hu
  rw[Nat.zero_add,Array.getElem?_append_left (by simpa using ah)]
  simpa using hu
def jg (P:Program) (E:Env) (H:aa):List ResultVar->Option (Prop×List AV)
 |[]=>some (True,[])
 | .tmp t::r=>match lk E t,jg P E H r with
  |some x,some (sc,xs)=>some (x.g=true/\sc,x.st::xs)
  |_,_=>none
 | .cell t T::r=>match lk E t with
  |some x=>match un (tX P H T) (some x),jg P E H r with
   |some (cM,v),some (sc,xs)=>some (cM/\sc,v::xs)
   |_,_=>none
  |none=>none
def dN:List AV->AV
 |[x]=>x
 |xs=> .aD xs
section
variable {C:Cx} {K:List KI} {E:Env} {H:aa}
theorem RH {P:Program} {t:TypeId} {p u:Value} {w:World} (h:(Instr.loadAt t p).run P w= .ok u w):∃ad,p= .pointer (some ad)/\(loadVar t ad).run P w= .ok u w:=by
 cases p with
 |pointer ad=>
  cases ad with
  |some ad=>exact⟨ad,rfl,by simpa[Instr.loadAt,Instr.sureAddr]using h⟩
  |none=>simp[Instr.loadAt,Instr.sureAddr,stuck]at h
 |_=>simp[Instr.loadAt,Instr.sureAddr,stuck]at h
def rf (tmps:Array Value):ResultVar->Sem Value
 | .tmp t=>pure (tmps.getD t undef)
 | .cell c t=>do loadVar t (<-asAddr (tmps.getD c undef))
theorem Tf (fn:Func) (tmps:Array Value):results fn tmps=(do
 let vs<-fn.results.mapM (rf tmps)
 pure (if h:vs.size=1 then vs[0]else .tuple vs)):=by
 unfold results
 congr 2
theorem D8 {φ:aq} {I:Nat->Prop} {a:Act} {w:World} (hE:dB w φ I E a) (hR:Real w φ I H):∀(rs:List ResultVar) (sc:Prop) (xs:List AV),jg C.P E H rs=some (sc,xs)->sc->
  ∃us:List Value,(rs.mapM (rf a.tmps)).run C.P w= .ok us w/\AV.ab w φ I xs us
 |[],sc,xs,h,_=>by
  simp only[jg,Option.some.injEq,Prod.mk.injEq]at h
  obtain⟨_,rfl⟩:=h
  exact⟨[],by simp,by simp[AV.ab]⟩
 | .tmp t::r,sc,xs,h,aB=>by
  simp only[jg]at h
  split at h
  ·rename_i x cM EV hx hr
   simp only[Option.some.injEq,Prod.mk.injEq]at h
   obtain⟨rfl,rfl⟩:=h
   obtain⟨us,h1,h2⟩:=D8 hE hR r cM EV hr aB.2
   obtain⟨u,hu,hd⟩:=hE t x hx
   have e:a.tmps.getD t undef=u:=by rw[Array.getD_eq_getD_getElem?,hu];rfl
   refine⟨u::us,?_,by simp only[AV.ab];exact⟨u,us,rfl,ck hd aB.1,h2⟩⟩
   have e1:(rf a.tmps (.tmp t)).run C.P w= .ok u w:=by simp only[rf,e,Sem.run_pure]
   simp only[List.mapM_cons,Sem.run_bind,e1,Result.andThen_ok,h1,Sem.run_pure]
  ·cases h
 | .cell t T::r,sc,xs,h,aB=>by
  simp only[jg]at h
  split at h
  ·rename_i x hx
   split at h
   ·rename_i WU v TE EV hv hr
    simp only[Option.some.injEq,Prod.mk.injEq]at h
    obtain⟨rfl,rfl⟩:=h
    obtain⟨us,h1,h2⟩:=D8 hE hR r TE EV hr aB.2
    obtain⟨xa,cM,QX,hf,cD,hg⟩:=iU hv aB.1
    cases QX
    obtain⟨p,hp,hd⟩:=hE t x hx
    have e:a.tmps.getD t undef=p:=by rw[Array.getD_eq_getD_getElem?,hp];rfl
    obtain⟨u,hu,c8⟩:=E6 hR hf cD (ck hd hg)
    obtain⟨ad,rfl,hl⟩:=RH hu
    refine⟨u::us,?_,by simp only[AV.ab];exact⟨u,us,rfl,c8,h2⟩⟩
    have e1:(rf a.tmps (.cell t T)).run C.P w= .ok u w:=by simp only[rf,e,asAddr,Sem.run_bind,Sem.run_pure,Result.andThen_ok,hl]
    simp only[List.mapM_cons,Sem.run_bind,e1,Result.andThen_ok,h1,Sem.run_pure]
   ·cases h
  ·cases h
theorem tx {φ:aq} {I:Nat->Prop} {a:Act} {w:World} (hE:dB w φ I E a) (hR:Real w φ I H) {sc:Prop} {xs:List AV} (h:jg C.P E H C.fn.results.toList=some (sc,xs)) (aB:sc):
  ∃v,(results C.fn a.tmps).run C.P w= .ok v w/\AV.den w φ I (dN xs) v:=by
 obtain⟨us,h1,h2⟩:=D8 (C:=C) hE hR _ _ _ h aB
 have hl:=iC xs us h2
 rw[Tf,Array.mapM_eq_mapM_toList]
 match xs,us,h2,hl with
 |[x],[u],h2,_=>
  refine⟨u,by simp only[Sem.run_bind,Sem.run_map,h1,Result.andThen_ok,Sem.run_pure];rfl,?_⟩
  simp only[AV.ab]at h2
  obtain⟨u',au,e,hx,_⟩:=h2
  cases e
  exact hx
 |[],[],h2,_=>
  refine⟨.tuple #[],by simp only[Sem.run_bind,Sem.run_map,h1,Result.andThen_ok,Sem.run_pure];rfl,?_⟩
  simp only[dN,AV.den]
  exact⟨[],h2,rfl⟩
 |x::y::xs,u1::u2::us,h2,_=>
  refine⟨.tuple (u1::u2::us).toArray,by simp only[Sem.run_bind,Sem.run_map,h1,Result.andThen_ok,Sem.run_pure];rfl,?_⟩
  simp only[dN,AV.den]
  exact⟨_,h2,rfl⟩
theorem A8 {w:World} {D:Nat} {x y:Option (List Deferred)} (hD:w.heap[D]?=some (.deferred x)) (g off:Nat) (us:List Value) (h:cI w g off us):cI (w.putObj D (.deferred y)) g off us:=by
 intro j u hj
 have h1:=h j u hj
 by_cases hg:g=D
 ·subst hg;simp[World.cell?,hD]at h1
 ·rw[<-h1];exact A6 (World.putObj_heap_other hg) _
theorem KS {w:World} {D:Nat} {x y:Option (List Deferred)} (hD:w.heap[D]?=some (.deferred x)) (g n:Nat) (h:shaped w g n):shaped (w.putObj D (.deferred y)) g n:=by
 obtain⟨c,e,hc,hn⟩:=h
 have hg:g≠D:=fun h=>by subst h;rw[hD]at hc;cases hc
 exact⟨c,e,(World.putObj_heap_other hg).trans hc,hn⟩
theorem ye {w:World} {φ:aq} {I:Nat->Prop} {D:Nat} {x y:Option (List Deferred)} (hD:w.heap[D]?=some (.deferred x)) (a:AV) (u:Value) (h:AV.den w φ I a u):AV.den (w.putObj D (.deferred y)) φ I a u:=
 AV.mS (fun g off us _=>A8 hD g off us) (fun _ h=>h) (fun _ _ h=>h) (fun _ g n _=>KS hD g n) a u h
theorem St.D1 {B:Bs} {φ:aq} {I:Nat->Prop} {H:aa} {w:World} (h:St B φ I H w) {D:Nat} {x y:Option (List Deferred)} (a7:B.w0.heap.size<=D) (hD:w.heap[D]?=some (.deferred x)):St B φ I H (w.putObj D (.deferred y)):=by
 refine⟨⟨h.real.bB,fun b o p hl hp=>?_,fun b g hb=>?_,h.real.inj,fun g hg=>?_⟩,?_,h.cd,h.cZ,h.cz,h.cE⟩
 ·have:=h.real.own b o p hl hp
  cases o with
  |var e cs=>
   simp only[Ob.at]at this⊢
   obtain⟨g,us,rfl,h2,h3,h4⟩:=this
   have hg:g≠D:=fun h=>by subst h;exact h2.Sf hD
   exact⟨g,us,rfl,h2.dH (World.putObj_heap_other hg),AV.ju (fun g off us _=>A8 hD g off us) (fun _ h=>h) (fun _ _ h=>h) (fun _ g n _=>KS hD g n) cs us h3,h4⟩
  |vec e es rows=>
   simp only[Ob.at]at this⊢
   rcases this with h|⟨g,ag,rest,rfl,h2,h3,h4⟩
   ·exact .inl h
   ·have hg:g≠D:=fun h=>by subst h;rw[hD]at h2;cases h2
    exact .inr ⟨g,ag,rest,rfl,(World.putObj_heap_other hg).trans h2,IV.yi (fun g off us _=>A8 hD g off us) (fun _ h=>h) rows ag h3,h4⟩
  |lp l n st fn q ps E=>
   simp only[Ob.at]at this⊢
   obtain⟨rfl,T,D',cr,h1,h2,h3⟩:=this
   have hg:l≠D:=fun h=>by subst h;rw[hD]at h2;cases h2
   exact⟨rfl,T,D',cr,h1,(World.putObj_heap_other hg).trans h2,fun i x hx=>let⟨u,hu,hd⟩:=h3 i x hx;⟨u,hu,ye hD x u hd⟩⟩
 ·have:=h.real.off b g hb
  exact⟨this.1,by rw[World.putObj_size];exact this.2⟩
 ·rw[World.putObj_size];exact h.real.bZ g hg
 ·refine⟨by rw[World.putObj_size];exact h.ext.size,fun g hg hn=>?_,fun g c e fz hc=>?_,h.ext.os,h.ext.tape,h.ext.output⟩
  ·rw[World.putObj_heap_other (by omega)];exact h.ext.dH g hg hn
  ·have hg:g<B.w0.heap.size:=by
    rcases Nat.lt_or_ge g B.w0.heap.size with h|h
    ·exact h
    ·rw[Array.getElem?_eq_none h]at hc;cases hc
   rw[World.putObj_heap_other (by omega)]
   exact h.ext.form g c e fz hc
theorem IH {Q:Ending->World->Prop} {u:FrameMode} {φ:aq} {I:Nat->Prop} {a:Act} (hu:u≠ .run) (hK:∀w,St C.B φ I H w->dB w φ I E a->LeavesInM Fence.wide 3 C.P C.fn a.tmps Q [] u w):
  ∀(ms:List Nat) (w:World),ms.Nodup->(∀D∈ms,C.B.w0.heap.size<=D/\w.heap[D]?=some (.deferred (some [])))->St C.B φ I H w->dB w φ I E a->
   LeavesInM Fence.wide 3 C.P C.fn a.tmps Q (ms.map tf) u w
 |[],w,_,_,hS,hE=>by
  simp only[List.map_nil]
  exact hK w hS hE
 |D::ms,w,hn,hd,hS,hE=>by
  simp only[List.map_cons,LeavesInM]
  obtain⟨h1,h2⟩:=hd D (by simp)
  rw[List.nodup_cons]at hn
  refine⟨hu,.inl ⟨D,_,rfl,run_takeDeferred h2,IH hu hK ms _ hn.2 (fun D' ly=>?_) (hS.D1 h1 h2) (fun i x hx=>?_)⟩⟩
  ·obtain⟨h3,h4⟩:=hd D' (by simp[ly])
   exact⟨h3,(World.putObj_heap_other (fun e=>hn.1 (by rw[<-e];exact ly))).trans h4⟩
  ·obtain⟨u,hu,dU⟩:=hE i x hx
   exact⟨u,hu,ye h2 x u dU⟩
theorem br.leave {φ:aq} {I:Nat->Prop} {a:Act} {w:World} (hs:br C φ I E H a w) (hK:∀w,St C.B φ I H w->dB w φ I E a->∃v,(results C.fn a.tmps).run C.P w= .ok v w/\k_ C.B C.R (.returned v) w):
  C.ds=[]->LeavesInM Fence.wide 3 C.P C.fn a.tmps (jn C) a.defers .returning w:=by
 intro aU
 obtain⟨ms,h1,h2,h3,_⟩:=hs.bI
 rw[h1,aU,List.filterMap_nil,List.append_nil]
 refine IH (by simp) (fun w hS hE=>?_) ms w h2 (fun D hD=>(h3 D hD).2) hs.st hs.env
 simp only[LeavesInM,LeavesIn]
 obtain⟨v,hv,hc⟩:=hK w hS hE
 exact⟨v,hv,.inl hc⟩
theorem AX.ret {sc:Prop} {xs:List AV} (h:jg C.P E H C.fn.results.toList=some (sc,xs)) (aB:sc) (hR:C.R (dN xs) H):AX C .ret [] E H:=fun φ I a w hs=>by
 refine hs.leave fun w' hS hE=>?_
 obtain⟨v,hv,hd⟩:=tx hE hS.real h aB
 exact⟨v,hv,dN xs,H,φ,I,v,hR,rfl,hd,hS⟩
theorem AX.fv {sc:Prop} {xs:List AV} (h:jg C.P E H C.fn.results.toList=some (sc,xs)) (aB:sc) (hR:C.R (dN xs) H):AX C .normal [] E H:=fun φ I a w hs=>by
 refine hs.leave fun w' hS hE=>?_
 obtain⟨v,hv,hd⟩:=tx hE hS.real h aB
 exact⟨v,hv,dN xs,H,φ,I,v,hR,rfl,hd,hS⟩
theorem AX.panic {v:Value} {r:AV} (hv:∀φ I a w,br C φ I E H a w->AV.den w φ I r v) (hX:C.X r H):∀φ I a w,br C φ I E H a w->dq C [] (.panic [{v:=v,recovered:=false}]) a w:=fun φ I a w hs=>by
 intro aU
 obtain⟨ms,h1,h2,h3,_⟩:=hs.bI
 rw[h1,aU,List.filterMap_nil,List.append_nil]
 have b9:=hv φ I a w hs
 obtain⟨t0,sP⟩:∃P:World->Prop,P=fun w=>AV.den w φ I r v:=⟨_,rfl⟩
 have key:∀(ms:List Nat) (w:World),ms.Nodup->(∀D∈ms,C.B.w0.heap.size<=D/\w.heap[D]?=some (.deferred (some [])))->St C.B φ I H w->AV.den w φ I r v->
   LeavesInM Fence.wide 3 C.P C.fn a.tmps (jn C) (ms.map tf) (.panicking [{v:=v,recovered:=false}]) w:=by
  intro ms
  induction ms with
  |nil=>
   intro w _ _ hS hd
   simp only[List.map_nil,LeavesInM,LeavesIn]
   exact .inr ⟨r,H,φ,I,v,hX,rfl,hd,hS⟩
  |cons D ms ih=>
   intro w hn hd hS b9
   simp only[List.map_cons,LeavesInM]
   obtain⟨h1,h2⟩:=hd D (by simp)
   rw[List.nodup_cons]at hn
   refine⟨by simp,.inl ⟨D,_,rfl,run_takeDeferred h2,ih _ hn.2 (fun D' ly=>?_) (hS.D1 h1 h2) (ye h2 r v b9)⟩⟩
   obtain⟨h3,h4⟩:=hd D' (by simp[ly])
   exact⟨h3,(World.putObj_heap_other (fun e=>hn.1 (by rw[<-e];exact ly))).trans h4⟩
 exact key ms w h2 (fun D hD=>(h3 D hD).2) hs.st b9
end
mutual
def AV.free:AV->Bool
 | .ob _ _=>false
 | .oe _ _ _ _=>false
 | .os _ _ _ _=>false
 | .fn _ fs aL=>AV.frees fs&&AV.frees aL
 | .agg cs=>AV.frees cs
 | .aD cs=>AV.frees cs
 | .opt _ x=>AV.free x
 | .im _=>true
 | .ar _=>true
 | .top=>true
 | .mp _=>false
 | .wr _ x=>AV.free x
def AV.frees:List AV->Bool
 |[]=>true
 |x::xs=>AV.free x&&AV.frees xs
end
mutual
theorem AV.pn {w:World} {φ φ':aq} {I:Nat->Prop}:∀(x:AV) (u:Value),x.free=true->AV.den w φ I x u->AV.den w φ' I x u
 | .ob _ _,_,h,_=>by simp[AV.free]at h
 | .oe _ _ _ _,_,h,_=>by simp[AV.free]at h
 | .os _ _ _ _,_,h,_=>by simp[AV.free]at h
 | .fn f fs aL,u,h,hd=>by simp only[AV.free,Bool.and_eq_true]at h;simp only[AV.den]at hd⊢;obtain⟨us,vs,h1,h2,h3⟩:=hd;exact⟨us,vs,AV.po fs us h.1 h1,AV.po aL vs h.2 h2,h3⟩
 | .agg cs,u,h,hd=>by simp only[AV.free]at h;simp only[AV.den]at hd⊢;obtain⟨us,h1,h2⟩:=hd;exact⟨us,AV.po cs us h h1,h2⟩
 | .aD cs,u,h,hd=>by simp only[AV.free]at h;simp only[AV.den]at hd⊢;obtain⟨us,h1,h2⟩:=hd;exact⟨us,AV.po cs us h h1,h2⟩
 | .opt g x,u,h,hd=>by simp only[AV.free]at h;simp only[AV.den]at hd⊢;exact⟨fun hg=>AV.pn x u h (hd.1 hg),hd.2⟩
 | .im x,u,_,hd=>by simpa only[AV.den]using hd
 | .ar x,u,_,hd=>by simpa only[AV.den]using hd
 | .top,_,_,_=>by simp only[AV.den]
 | .mp _,_,h,_=>by simp[AV.free]at h
 | .wr k x,u,h,hd=>by simp only[AV.free]at h;simp only[AV.den]at hd⊢;obtain⟨v,h1,h2⟩:=hd;exact⟨v,h1,AV.pn x v h h2⟩
theorem AV.po {w:World} {φ φ':aq} {I:Nat->Prop}:∀(xs:List AV) (us:List Value),AV.frees xs=true->AV.ab w φ I xs us->AV.ab w φ' I xs us
 |[],us,_,h=>by simpa only[AV.ab]using h
 |x::xs,us,h,hd=>by
  simp only[AV.frees,Bool.and_eq_true]at h
  simp only[AV.ab]at hd⊢
  obtain⟨u,au,e,h1,h2⟩:=hd
  exact⟨u,au,e,AV.pn x u h.1 h1,AV.po xs au h.2 h2⟩
end
section
variable {C:Cx} {K:List KI} {E:Env} {H:aa}
theorem tC {P:Program} {f:FuncId} (h:enters P f=true) (args:Array Value) (w:World):(callFunc f args).run P w= .ok (.enter f args) w:=by
 unfold enters at h
 split at h
 ·rename_i fn hf
  simp only[Bool.and_eq_true,bne_iff_ne,ne_eq]at h
  have h1:(fn.name== "runtime.NumGoroutine")=false:=by simpa using h.1
  have h2:fn.body.isNone=false:=by cases hb:fn.body<;>simp_all
  have h3:fn.body≠none:=by intro e;rw[e]at h2;cases h2
  simp[callFunc,program,Sem.run,hf,h.1,h3]
 ·cases h
theorem St.Fb {B:Bs} {φ bf:aq} {I I1:Nat->Prop} {H:aa} {w w1:World} (h:St B φ I H w) (h1:St ⟨w,c6 (fun _=>none),I,fun _=>none,0⟩ bf I1 [] w1):
  St B φ I1 H w1/\bG w φ I w1 φ I1:=by
 have bj:∀g,¬c6 (fun _=>none) g:=fun g ⟨b,hb⟩=>by cases hb
 have hk:∀g,g<w.heap.size->w1.heap[g]?=w.heap[g]?:=fun g hg=>h1.ext.dH g hg (bj g)
 have k:bG w φ I w1 φ I1:=⟨fun g hg=>hk g (h.real.bZ g hg),h1.cz,fun _ _ h=>h,fun _ g n _ hs=>h1.ext.shaped (bj g) hs⟩
 have ve:∀g,I1 g->I g\/w.heap.size<=g:=fun g hg=>by
  rcases h1.cZ g hg with h|h|h
  ·exact .inl h
  ·exact absurd h (bj g)
  ·exact .inr h
 refine⟨⟨⟨h.real.bB,fun b o p hl hp=>?_,fun b g hp=>?_,h.real.inj,h1.real.bZ⟩,h.ext.trans h1.ext (fun g hg=>absurd hg (bj g)),h.cd,fun g hg=>?_,fun g hg=>h1.cz g (h.cz g hg),h.cE⟩,k⟩
 ·refine Ob.jV k.im k.I k.phi k.sh (fun g hg=>?_) (h.real.own b o p hl hp)
  subst hg
  exact hk g (h.real.off b g hp).2
 ·have:=h.real.off b g hp
  exact⟨fun hi=>(ve g hi).elim this.1 (by omega),Nat.lt_of_lt_of_le this.2 h1.ext.size⟩
 ·rcases ve g hg with hg|hg
  ·exact h.cZ g hg
  ·exact .inr (.inr (Nat.le_trans h.ext.size hg))
theorem zU {w:World} {φ:aq} {I:Nat->Prop} {H:aa} (h:Real w φ I H):Real w (fun _=>none) I []:=
 ⟨fun b=>rfl,fun b o p hl=>(by simp[lk]at hl),fun b g hp=>(by cases hp),fun b b' g hp=>(by cases hp),h.bZ⟩
theorem AO.call {ds:List (Nat×Nat)} {i:Nat} {o:Oper} {os:List Oper} {f:FuncId} {xs aY:Array _} {l:List AV} {R:AV->aa->Prop} (fy:o.op= .call {callee:= .value (.func f),args:=xs,argTypes:=aY}) (hg:o.guard=none)
  (hd:∀x,o.dst=some x->x<C.n) (hl:dD E xs.toList=some l) (di:gs l=true) (eZ:AV.frees (l.map AV.st)=true) (hc:ak C.P f (l.map AV.st) [] R)
  (hR:∀r H',R r H'->H'=[]/\r.free=true) (h:∀r,R r []->AO C (a_ o.dst i ds) (i+1) os K (ba o.dst r E) H):AO C ds i (o::os) K E H:=
 AO.step fun ops φ I a w aU _ hs Kn bS=>by
  have hw:Region.wanted o (yielded ops a.tmps)=true:=by simp[Region.wanted,hg]
  rw[if_pos hw]
  have bh:=AV.po (φ':=fun _=>none) _ _ eZ (lr hs.env _ _ hl di)
  have aK:(execOp a.eval o).run C.P w= .ok (.enter f (xs.toList.map a.eval).toArray) w:=by
   have:execOp a.eval o=callFunc f (#[]++xs.map a.eval++#[]):=by simp only[execOp,fy];rfl
   rw[this,tC hc.gl]
   cases xs
   simp
  unfold Oper.wp
  rw[aK,Oper.upon_enter]
  refine(hc.run w (fun _=>none) I _ bh (zU hs.st.real) hs.st.vk).mono fun e w' ⟨r,H',φ',I',v,hr,he,b9,hS⟩=>?_
  subst he
  obtain⟨rfl,Ce⟩:=hR r H' hr
  obtain⟨j4,hk⟩:=hs.st.Fb hS
  exact bS _ _ φ I' _ _ (h r hr) (hs.put j4 hk hd (AV.pn r v Ce b9))
mutual
def AV.men (b:Nat):AV->Bool
 | .ob b' _=>Nat.beq b' b
 | .oe b' _ _ _=>Nat.beq b' b
 | .os b' _ _ _=>Nat.beq b' b
 | .fn _ fs aL=>AV.mens b fs||AV.mens b aL
 | .agg cs=>AV.mens b cs
 | .aD cs=>AV.mens b cs
 | .opt _ x=>AV.men b x
 | .im _=>false
 | .ar _=>false
 | .top=>false
 | .mp b'=>Nat.beq b' b
 | .wr _ x=>AV.men b x
def AV.mens (b:Nat):List AV->Bool
 |[]=>false
 |x::xs=>AV.men b x||AV.mens b xs
end
mutual
theorem AV.oJ {w:World} {φ φ':aq} {I:Nat->Prop} {b:Nat} (az:∀b',b'≠b->φ' b'=φ b'):∀(x:AV) (u:Value),x.men b=false->AV.den w φ I x u->AV.den w φ' I x u
 | .ob b' _,u,h,hd=>by
  simp only[AV.men]at h;simp only[AV.den]at hd⊢
  rw[az b' (by intro e;subst e;simp at h)];exact hd
 | .oe b' _ _ _,u,h,hd=>by
  simp only[AV.men]at h;simp only[AV.den]at hd⊢
  rw[az b' (by intro e;subst e;simp at h)];exact hd
 | .os b' _ _ _,u,h,hd=>by
  simp only[AV.men]at h;simp only[AV.den]at hd⊢
  rw[az b' (by intro e;subst e;simp at h)];exact hd
 | .fn f fs aL,u,h,hd=>by simp only[AV.men,Bool.or_eq_false_iff]at h;simp only[AV.den]at hd⊢;obtain⟨us,vs,h1,h2,h3⟩:=hd;exact⟨us,vs,AV.p3 az fs us h.1 h1,AV.p3 az aL vs h.2 h2,h3⟩
 | .agg cs,u,h,hd=>by simp only[AV.men]at h;simp only[AV.den]at hd⊢;obtain⟨us,h1,h2⟩:=hd;exact⟨us,AV.p3 az cs us h h1,h2⟩
 | .aD cs,u,h,hd=>by simp only[AV.men]at h;simp only[AV.den]at hd⊢;obtain⟨us,h1,h2⟩:=hd;exact⟨us,AV.p3 az cs us h h1,h2⟩
 | .opt g x,u,h,hd=>by simp only[AV.men]at h;simp only[AV.den]at hd⊢;exact⟨fun hg=>AV.oJ az x u h (hd.1 hg),hd.2⟩
 | .im x,u,_,hd=>by simpa only[AV.den]using hd
 | .ar x,u,_,hd=>by simpa only[AV.den]using hd
 | .top,_,_,_=>by simp only[AV.den]
 | .mp b',u,h,hd=>by
  simp only[AV.men]at h;simp only[AV.den]at hd⊢
  rw[az b' (by intro e;subst e;simp at h)];exact hd
 | .wr k x,u,h,hd=>by simp only[AV.men]at h;simp only[AV.den]at hd⊢;obtain⟨v,h1,h2⟩:=hd;exact⟨v,h1,AV.oJ az x v h h2⟩
theorem AV.p3 {w:World} {φ φ':aq} {I:Nat->Prop} {b:Nat} (az:∀b',b'≠b->φ' b'=φ b'):∀(xs:List AV) (us:List Value),AV.mens b xs=false->AV.ab w φ I xs us->AV.ab w φ' I xs us
 |[],us,_,h=>by simpa only[AV.ab]using h
 |x::xs,us,h,hd=>by
  simp only[AV.mens,Bool.or_eq_false_iff]at h
  simp only[AV.ab]at hd⊢
  obtain⟨u,au,e,h1,h2⟩:=hd
  exact⟨u,au,e,AV.oJ az x u h.1 h1,AV.p3 az xs au h.2 h2⟩
end
def killE (b:Nat):Env->Env
 |[]=>[]
 |(i,x)::r=>bif x.men b then(i,.top)::killE b r else(i,x)::killE b r
def lP (b:Nat):List AV->List AV
 |[]=>[]
 |x::r=>bif x.men b then .top::lP b r else x::lP b r
theorem rh {w:World} {φ φ':aq} {I:Nat->Prop} {b:Nat} (az:∀b',b'≠b->φ' b'=φ b'):∀(E:Env) (i:Nat) (x:AV),lk (killE b E) i=some x->∃y,lk E i=some y/\∀u,AV.den w φ I y u->AV.den w φ' I x u
 |[],i,x,h=>by simp[killE,lk]at h
 |(j,y)::r,i,x,h=>by
  simp only[killE]at h
  cases hm:y.men b with
  |true=>
   rw[hm]at h
   simp only[cond_true,lk]at h⊢
   cases hb:Nat.beq j i with
   |true=>
    rw[hb]at h
    simp only[cond_true,Option.some.injEq]at h⊢
    subst h
    exact⟨y,rfl,fun u _=>by simp only[AV.den]⟩
   |false=>rw[hb]at h;exact rh az r i x h
  |false=>
   rw[hm]at h
   simp only[cond_false,lk]at h⊢
   cases hb:Nat.beq j i with
   |true=>
    rw[hb]at h
    simp only[cond_true,Option.some.injEq]at h⊢
    subst h
    exact⟨y,rfl,fun u hu=>AV.oJ az y u hm hu⟩
   |false=>rw[hb]at h;exact rh az r i x h
def menE (b:Nat):Env->Bool
 |[]=>false
 |(_,x)::r=>x.men b||menE b r
theorem zA {b:Nat}:∀(E:Env),menE b E=false->∀i x,lk E i=some x->x.men b=false
 |[],_,_,_,h=>by simp[lk]at h
 |(j,y)::r,hm,i,x,h=>by
  simp only[menE,Bool.or_eq_false_iff]at hm
  simp only[lk]at h
  cases hb:Nat.beq j i with
  |true=>rw[hb]at h;simp only[cond_true,Option.some.injEq]at h;subst h;exact hm.1
  |false=>rw[hb]at h;exact zA r hm.2 i x h
def noMen (b:Nat):aa->Bool
 |[]=>true
 |(j,.var _ cs)::r=>!(AV.mens b cs)&&noMen b r
 |(_,.vec _ _ _)::r=>noMen b r
 |(_,.lp _ _ _ _ _ _ E)::r=>!(menE b E)&&noMen b r
theorem zF {b:Nat}:∀(H:aa),noMen b H=true->∀b' l n st fn q ps E,lk H b'=some (.lp l n st fn q ps E)->menE b E=false
 |[],_,_,_,_,_,_,_,_,_,h=>by simp[lk]at h
 |(j,o)::r,hn,b',l,n,st,fn,q,ps,E,h=>by
  simp only[lk]at h
  cases hb:Nat.beq j b' with
  |true=>
   rw[hb]at h
   simp only[cond_true,Option.some.injEq]at h
   subst h
   simp only[noMen,Bool.and_eq_true,Bool.not_eq_true']at hn
   exact hn.1
  |false=>
   rw[hb]at h
   refine zF r ?_ b' l n st fn q ps E h
   cases o with
   |var _ _=>simp only[noMen,Bool.and_eq_true]at hn;exact hn.2
   |vec _ _ _=>simpa only[noMen]using hn
   |lp _ _ _ _ _ _ _=>simp only[noMen,Bool.and_eq_true]at hn;exact hn.2
theorem zE {b:Nat}:∀(H:aa),noMen b H=true->∀b' el cs,lk H b'=some (.var el cs)->AV.mens b cs=false
 |[],_,_,_,_,h=>by simp[lk]at h
 |(j,o)::r,hn,b',el,cs,h=>by
  simp only[lk]at h
  cases hb:Nat.beq j b' with
  |true=>
   rw[hb]at h
   simp only[cond_true,Option.some.injEq]at h
   subst h
   simp only[noMen,Bool.and_eq_true,Bool.not_eq_true']at hn
   exact hn.1
  |false=>
   rw[hb]at h
   refine zE r ?_ b' el cs h
   cases o with
   |var _ _=>simp only[noMen,Bool.and_eq_true]at hn;exact hn.2
   |vec _ _ _=>simpa only[noMen]using hn
   |lp _ _ _ _ _ _ _=>simp only[noMen,Bool.and_eq_true]at hn;exact hn.2
end
section
variable {C:Cx} {K:List KI} {E:Env} {H:aa}
theorem St.move {B:Bs} {φ:aq} {I:Nat->Prop} {w w':World} (h:St B φ I H w) {b:Nat} (hnb:B.nb<=b) {el Gl:TypeId} {es dL:Nat} {rows iw:List (List IV)} {p':Option Nat} (hl:lk H b=some (.vec el es rows)) (hn:noMen b H=true)
  (hk:∀g,g<w.heap.size->φ b≠some (some g)->w'.heap[g]?=w.heap[g]?) (hx:Ext (fun g=>φ b=some (some g)) w w') (ho:(Ob.vec Gl dL iw).at w' (bc φ b p') I p')
  (cp:∀g,p'=some g->φ b=some (some g)\/w.heap.size<=g) (nc:∀g,p'=some g->g<w'.heap.size):
  St B (bc φ b p') I (bK H b (.vec Gl dL iw)) w':=by
 have az:∀b',b'≠b->bc φ b p' b'=φ b':=fun b' hb=>by simp[bc,hb]
 have Hj:∃p,φ b=some p:=by
  have:=h.real.bB b
  rw[hl]at this
  cases hq:φ b with
  |none=>rw[hq]at this;cases this
  |some p=>exact⟨p,rfl⟩
 have hI:∀g,I g->w'.heap[g]?=w.heap[g]?:=fun g hg=>hk g (h.real.bZ g hg) (fun e=>(h.real.off b g e).1 hg)
 refine⟨⟨fun b'=>?_,fun b' o p aE hp=>?_,fun b' g hp=>?_,fun b1 b2 g h1 h2=>?_,fun g hg=>Nat.lt_of_lt_of_le (h.real.bZ g hg) hx.size⟩,h.ext.trans hx (fun g hg=>h.cd b g hg),fun b' g hp=>?_,h.cZ,h.cz,fun b' g oo ah h0 aE=>?_⟩
 ·by_cases ao:b'=b
  ·subst ao;rw[gU H b' _ hl];simp[bc]
  ·rw[az b' ao,ei H b b' _ ao];exact h.real.bB b'
 ·by_cases ao:b'=b
  ·subst ao
   rw[gU H b' _ hl]at aE
   cases aE
   simp only[bc,if_true,Option.some.injEq]at hp
   subst hp
   exact ho
  ·rw[ei H b b' _ ao]at aE
   rw[az b' ao]at hp
   have bE:=h.real.own b' o p aE hp
   have qY:∀g,p=some g->w'.heap[g]?=w.heap[g]?:=fun g hg=>by
    subst hg
    exact hk g (h.real.off b' g hp).2 (fun e=>ao (h.real.inj b' b g hp e))
   cases o with
   |var e cs=>
    simp only[Ob.at]at bE⊢
    obtain⟨g,us,rfl,h2,h3,h4⟩:=bE
    refine⟨g,us,rfl,h2.dH (qY g rfl),?_,h4⟩
    have BJ:=AV.p3 (φ':=fun c=>if c=b then none else φ c) (fun b1 cQ=>by simp[cQ]) cs us (zE H hn b' e cs aE) h3
    refine AV.iE hI (fun _ h=>h) (fun c p hc=>?_) (fun c g1 n hc hs=>?_) cs us BJ
    ·by_cases e1:c=b
     ·simp[e1]at hc
     ·rw[az c e1];simpa[e1]using hc
    ·by_cases e1:c=b
     ·simp[e1]at hc
     ·exact hx.shaped (fun ho=>e1 (h.real.inj c b g1 (by simpa[e1]using hc) ho)) hs
   |vec e eu Kq=>
    simp only[Ob.at]at bE⊢
    rcases bE with h'|⟨g,ag,rest,rfl,h2,h3,h4⟩
    ·exact .inl h'
    ·exact .inr ⟨g,ag,rest,rfl,(qY g rfl).trans h2,IV.gM hI (fun _ h=>h) Kq ag h3,h4⟩
   |lp l n st fn q ps E=>
    simp only[Ob.at]at bE⊢
    obtain⟨rfl,T,D,cr,h1,h2,h3⟩:=bE
    refine⟨rfl,T,D,cr,h1,(qY l rfl).trans h2,fun i x dU=>?_⟩
    obtain⟨u,hu,hd⟩:=h3 i x dU
    refine⟨u,hu,?_⟩
    have BJ:=AV.oJ (φ':=fun c=>if c=b then none else φ c) (b:=b) (fun b1 cQ=>by simp[cQ]) x u (zA E (zF H hn b' l n st fn q ps E aE) i x dU) hd
    refine AV.jZ hI (fun _ h=>h) (fun c p hc=>?_) (fun c g1 n hc hs=>?_) x u BJ
    ·by_cases e1:c=b
     ·simp[e1]at hc
     ·rw[az c e1];simpa[e1]using hc
    ·by_cases e1:c=b
     ·simp[e1]at hc
     ·exact hx.shaped (fun ho=>e1 (h.real.inj c b g1 (by simpa[e1]using hc) ho)) hs
 ·by_cases ao:b'=b
  ·subst ao
   simp only[bc,if_true,Option.some.injEq]at hp
   refine⟨fun hi=>?_,nc g hp⟩
   rcases cp g hp with h1|h1
   ·exact(h.real.off b' g h1).1 hi
   ·exact absurd (h.real.bZ g hi) (by omega)
  ·rw[az b' ao]at hp
   have:=h.real.off b' g hp
   exact⟨this.1,Nat.lt_of_lt_of_le this.2 hx.size⟩
 ·by_cases e1:b1=b<;>by_cases e2:b2=b
  ·rw[e1,e2]
  ·subst e1
   simp only[bc,if_true,Option.some.injEq]at h1
   rw[az b2 e2]at h2
   rcases cp g h1 with h3|h3
   ·exact h.real.inj b1 b2 g h3 h2
   ·exact absurd (h.real.off b2 g h2).2 (by omega)
  ·subst e2
   simp only[bc,if_true,Option.some.injEq]at h2
   rw[az b1 e1]at h1
   rcases cp g h2 with h3|h3
   ·exact h.real.inj b1 b2 g h1 h3
   ·exact absurd (h.real.off b1 g h1).2 (by omega)
  ·rw[az b1 e1]at h1
   rw[az b2 e2]at h2
   exact h.real.inj b1 b2 g h1 h2
 ·by_cases ao:b'=b
  ·subst ao
   simp only[bc,if_true,Option.some.injEq]at hp
   rcases cp g hp with h1|h1
   ·exact h.cd b' g h1
   ·exact .inr (Nat.le_trans h.ext.size h1)
  ·rw[az b' ao]at hp
   exact h.cd b' g hp
 ·by_cases ao:b'=b
  ·subst ao
   omega
  ·rw[ei H b b' _ ao]at aE
   rw[az b' ao]
   exact h.cE b' g oo ah h0 aE
theorem nX:∀(l:List (List Value)) (es:Nat),(∀x∈l,x.length=es)->l.flatten.length=l.length*es
 |[],es,_=>by simp
 |x::l,es,h=>by
  simp only[List.flatten_cons,List.length_append,List.length_cons]
  rw[nX l es (fun y hy=>h y (by simp[hy])),h x (by simp),Nat.add_mul];omega
theorem qu {w:World} {I:Nat->Prop}:∀(a b:List (List IV)) (us vs:List (List Value)),IV.aQ w I a us->IV.aQ w I b vs->IV.aQ w I (a++b) (us++vs)
 |[],b,us,vs,h1,h2=>by simp only[IV.aQ]at h1;subst h1;simpa using h2
 |x::a,b,us,vs,h1,h2=>by
  simp only[IV.aQ]at h1
  obtain⟨u,au,rfl,h3,h4⟩:=h1
  simp only[List.cons_append,IV.aQ]
  exact⟨u,_,rfl,h3,qu a b au vs h4 h2⟩
theorem Ky {P:Program} {t ty e:TypeId} {es:Nat} (ht:tk P t= .slice e) (cH:sz P e=some es) (base p:Option Addr) (n c c':Nat) (pK:n<=c) (w:World):
  (Builtin.append_ #[t,t] ty #[.slice base n c,.slice p 0 c']).run P w= .ok (.slice base n c) w:=by
 obtain⟨_,i,hi,_⟩:=lW cH
 cases base with
 |none=>cases p<;>simp[Builtin.append_,run_underlying (eV ht),sizeOf,typeInfo,hi,Builtin.lenOf,Builtin.firstCells,loadCells,loadCellsFrom,pK]
 |some ad=>cases p<;>simp[Builtin.append_,run_underlying (eV ht),sizeOf,typeInfo,hi,Builtin.lenOf,Builtin.firstCells,loadCells,loadCellsFrom,pK,storeCells]
end
theorem uI {own:Nat->Prop} {w:World} (o:Obj):Ext own w (w.drew.alloc o):=by
 have e:=qz own w.drew o
 exact⟨e.size,e.dH,e.form,e.os,e.tape,e.output⟩
theorem Gy {w:World} {g:Nat} {cur cs:Array Value} {e:TypeId} (hc:w.heap[g]?=some (.cells cur e (0,0))) (a7:cs.size=cur.size):Ext (fun x=>x=g) w (w.setRow g cs):=
 ⟨by simp,fun g' _ hn=>setRow_other w g g' cs hn,fun g' c e' fz dT=>by
  by_cases dh:g'=g
  ·subst dh
   rw[hc]at dT
   cases dT
   exact⟨cs,_,setRow_heap w g' cur cs e (0,0) hc,a7⟩
  ·exact⟨c,_,(setRow_other w g g' cs dh).trans dT,rfl⟩,rfl,rfl,rfl⟩
theorem Ext.ER {own wA:Nat->Prop} {w w':World} (h:Ext own w w') (ho:∀g,own g->wA g):Ext wA w w':=⟨h.size,fun g hg hn=>h.dH g hg (fun h'=>hn (ho g h')),h.form,h.os,h.tape,h.output⟩
def Src (w:World) (I:Nat->Prop) (es:Nat) (xs:List (List IV)) (u:Value):Prop:=
 ∃p c ag,u= .slice p xs.length c/\xs.length<=c/\IV.aQ w I xs ag/\(∀vs∈ag,vs.length=es)/\(xs≠[]->∃g off,p=some ⟨g,off,none⟩/\cI w g off ag.flatten)
theorem Src.im {w:World} {I:Nat->Prop} {es:Nat} {xs:List (List IV)} {u:Value} (h:IV.den w I (.sl es xs) u):Src w I es xs u:=by
 simp only[IV.den]at h
 obtain⟨p,c,ag,h1,h2,h3,h4,h5⟩:=h
 exact⟨p,c,ag,h1,h2,h3,h4,fun hn=>let⟨g,off,e,_,hc⟩:=h5 hn;⟨g,off,e,hc⟩⟩
theorem F0 {w:World} {I:Nat->Prop}:∀(i:Nat) (rows:List (List IV)) (ag:List (List Value)),IV.aQ w I rows ag->IV.aQ w I (rows.drop i) (ag.drop i)
 |0,_,_,h=>h
 |i+1,[],ag,h=>by simp only[IV.aQ]at h;subst h;simp[IV.aQ]
 |i+1,x::r,ag,h=>by
  simp only[IV.aQ]at h
  obtain⟨u,us,rfl,_,h2⟩:=h
  exact F0 i r us h2
theorem F6 {w:World} {I:Nat->Prop}:∀(i:Nat) (rows:List (List IV)) (ag:List (List Value)),IV.aQ w I rows ag->IV.aQ w I (rows.take i) (ag.take i)
 |0,_,_,_=>by simp[IV.aQ]
 |i+1,[],ag,h=>by simp only[IV.aQ]at h;subst h;simp[IV.aQ]
 |i+1,x::r,ag,h=>by
  simp only[IV.aQ]at h
  obtain⟨u,us,rfl,h1,h2⟩:=h
  simp only[List.take_succ_cons,IV.aQ]
  exact⟨u,_,rfl,h1,F6 i r us h2⟩
theorem Src.own {w:World} {φ:aq} {I:Nat->Prop} {H:aa} (hR:Real w φ I H) {b es i n:Nat} {el:TypeId} {rows:List (List IV)} {u:Value} (h:AV.den w φ I (.os b es i n) u) (hl:lk H b=some (.vec el es rows)) (hn:i+n<=rows.length):
  Src w I es ((rows.drop i).take n) u:=by
 have hlen:((rows.drop i).take n).length=n:=by rw[List.length_take,List.length_drop];omega
 simp only[AV.den]at h
 rcases h with⟨h1,rfl,rfl,rfl⟩|⟨g,c,h1,rfl,h2,h3,h4⟩
 ·exact⟨none,0,[],by simp,by simp,by simp[IV.aQ],(fun vs h=>absurd h (List.not_mem_nil)),fun h=>absurd (by simp) h⟩
 ·have aZ:=hR.own b _ _ hl h1
  simp only[Ob.at]at aZ
  rcases aZ with⟨h,_⟩|⟨g',ag,rest,hg,hh,hd,cH⟩
  ·cases h
  ·cases hg
   refine⟨_,c,(ag.drop i).take n,by rw[hlen],by rw[hlen];exact h2,F6 n _ _ (F0 i _ _ hd),fun vs hv=>cH vs (List.mem_of_mem_drop (List.mem_of_mem_take hv)),fun _=>⟨g,i*es,rfl,fun j v hj=>?_⟩⟩
   have mX:((ag.drop i).flatten++rest)[j]?=some v:=by
    have e:(ag.drop i)=(ag.drop i).take n++(ag.drop i).drop n:=(List.take_append_drop n _).symm
    rw[e,List.flatten_append,List.append_assoc,List.getElem?_append_left (by
     rcases Nat.lt_or_ge j ((ag.drop i).take n).flatten.length with h|h
     ·exact h
     ·rw[List.getElem?_eq_none h]at hj;cases hj)]
    exact hj
   have eN:(ag.take i).flatten.length=i*es:=by
    have h5:=nX (ag.take i) es (fun vs hv=>cH vs (List.mem_of_mem_take hv))
    have h6:=j0 rows ag hd
    rw[h5,List.length_take,Nat.min_eq_left (by omega)]
   simp only[World.cell?,hh,Option.isSome_none,Bool.false_eq_true,if_false,List.getElem?_toArray]
   rw[show ag.flatten=(ag.take i).flatten++(ag.drop i).flatten from by rw[<-List.flatten_append,List.take_append_drop],List.append_assoc,List.getElem?_append_right (by rw[eN];omega),eN,Nat.add_sub_cancel_left]
   exact mX
theorem MM {P:Program} {B:Bs} {φ:aq} {I:Nat->Prop} {H:aa} {w:World} (hS:St B φ I H w) {b n:Nat} {e t ty:TypeId} {es bytes:Nat} {rows xs:List (List IV)} {s x:Value}
  (hs:AV.den w φ I (.os b (es+1) 0 n) s) (hx:Src w I (es+1) xs x) (hH:lk H b=some (.vec e (es+1) rows)) (hn:n=rows.length)
  (ht:tk P t= .slice e) (cH:sz P e=some (es+1)) (hz:(aC P e).map List.length=some (es+1)) (jz:aW P e=some bytes)
  (cQ:(rows.length+xs.length)*bytes<=140737488355328) (eW:rows.length+xs.length<=maxLen):
  ∃u w' p',(Builtin.append_ #[t,t] ty #[s,x]).run P w= .ok u w'/\Ext (fun g=>φ b=some (some g)) w w'/\(Ob.vec e (es+1) (rows++xs)).at w' (bc φ b p') I p'/\
   (∀g,p'=some g->φ b=some (some g)\/w.heap.size<=g)/\(∀g,p'=some g->g<w'.heap.size)/\AV.den w' (bc φ b p') I (.os b (es+1) 0 (rows.length+xs.length)) u:=by
 subst hn
 simp only[AV.den]at hs
 obtain⟨px,cx,gF,rfl,Hi,vu,sC,Pf⟩:=hx
 obtain⟨_,ie,gP,mn⟩:=lW cH
 have va:ie.bytes=bytes:=by
  unfold aW at jz
  rw[gP]at jz
  simpa using jz
 obtain⟨z,lN,vO⟩:∃z,ie.zero=some z/\z.cells.size=es+1:=by
  unfold aC at hz
  rw[gP]at hz
  simp only[Option.bind_some]at hz
  cases vQ:ie.zero with
  |none=>rw[vQ]at hz;cases hz
  |some z=>rw[vQ]at hz;exact⟨z,rfl,by simpa using hz⟩
 have pv:∀{w':World},Ext (fun g=>φ b=some (some g)) w w'->∀g,I g->w'.heap[g]?=w.heap[g]?:=fun hx g hg=>hx.dH g (hS.real.bZ g hg) (fun e=>(hS.real.off b g e).1 hg)
 have nh:∀p,bc φ b p b=some p:=fun p=>by simp[bc]
 have aZ:=fun p hp=>hS.real.own b _ p hH hp
 simp only[Ob.at]at aZ
 have QN:=j0 xs gF vu
 have PF:=nX gF (es+1) sC
 by_cases nj:xs=[]
 ·
  subst nj
  rcases hs with⟨h1,_,h2,rfl⟩|⟨g,c,h1,rfl,h2,h3,h4⟩
  ·refine⟨_,w,none,Ky ht cH none px 0 0 cx (Nat.le_refl _) w,Ext.refl _ w,?_,fun g hg=>(by cases hg),fun g hg=>(by cases hg),?_⟩
   ·simp only[Ob.at]
    rcases aZ none h1 with⟨_,hr⟩|⟨g,_,_,hg,_⟩
    ·exact .inl ⟨by simp,by rw[hr];simp⟩
    ·cases hg
   ·simp only[AV.den]
    exact .inl ⟨nh _,by simp,by simpa using h2,by simp⟩
  ·refine⟨_,w,some g,Ky ht cH _ px _ c cx h2 w,Ext.refl _ w,?_,fun g' hg=> .inl (by cases hg;exact h1),fun g' hg=>(by cases hg;exact(hS.real.off b g h1).2),?_⟩
   ·simp only[Ob.at,List.append_nil]
    rcases aZ (some g) h1 with⟨bj,_⟩|⟨g',ag,rest,hg,hr⟩
    ·cases bj
    ·exact .inr ⟨g',ag,rest,hg,hr⟩
   ·simp only[AV.den]
    exact .inr ⟨g,c,nh _,by simp,by simpa using h2,h3,h4⟩
 ·obtain⟨gx,ox,rfl,ez⟩:=Pf nj
  have gQ:0<xs.length:=List.length_pos_iff.2 nj
  have CB:∀j u,gF.flatten[j]?=some u->w.cell? ((⟨gx,ox,none⟩:Addr).add j)=some u:=fun j u hu=>by rw[addr_add];exact ez j u hu
  have e7:gF.flatten.length=xs.length*ie.size:=by rw[PF,QN,mn]
  have y4:rows.length+xs.length<=9223372036854775807:=by simp only[maxLen]at eW;omega
  have OI:∀u∈gF.flatten,u.oneCell'=true:=ra _ _ (qv _ _ vu)
  rcases hs with⟨h1,_,h2,rfl⟩|⟨g,c,h1,rfl,h2,h3,h4⟩
  ·
   have ow:rows=[]:=List.eq_nil_of_length_eq_zero h2
   subst ow
   have aK:=run_append_nil (P:=P) w t ty e ie z (eV ht) gP lN ⟨gx,ox,none⟩ xs.length cx gF.flatten e7 CB gQ (by simp at y4;omega) (by rw[va];simp at cQ;omega)
   have fM:=grownCap_ge w xs.length 0 e
   have hle:=grownCap_le_maxLen w xs.length 0 e (by simp at eW;exact eW)
   have dU:=uI (own:=fun g=>φ b=some (some g)) (w:=w) (.cells (gF.flatten.toArray++Builtin.zeroCells z.cells (grownCap w xs.length 0 e-xs.length)) e)
   refine⟨_,_,some w.heap.size,aK,dU,?_,fun g hg=> .inr (by cases hg;exact Nat.le_refl _),fun g hg=>(by cases hg;simp),?_⟩
   ·simp only[Ob.at,List.nil_append]
    refine .inr ⟨_,gF,(Builtin.zeroCells z.cells (grownCap w xs.length 0 e-xs.length)).toList,rfl,?_,IV.gM (pv dU) (fun _ h=>h) xs gF vu,sC⟩
    rw[show(w.heap.size:Nat)=w.drew.heap.size from rfl,gI w.drew]
    congr 2
    apply Array.ext'
    simp
   ·simp only[AV.den]
    refine .inr ⟨_,_,nh _,by simp,by simpa using fM,hle,_,e,gI w.drew _,?_⟩
    simp only[Array.size_append,List.size_toArray,size_zeroCells,vO,e7,mn,Nat.zero_add,<-Nat.add_mul]
    exact Nat.mul_le_mul_right _ (by omega)
  ·rcases aZ (some g) h1 with⟨bj,_⟩|⟨g',ag,rest,hg,cn,hr,hl⟩
   ·cases bj
   cases hg
   have eC:=j0 rows ag hr
   have eN:=nX ag (es+1) hl
   obtain⟨cc,ee,iJ,B5⟩:=h4
   rw[cn]at iJ
   cases iJ
   have si:c*(es+1)<=(ag.flatten++rest).length:=by simpa using B5
   simp only[Nat.zero_mul]
   by_cases q0:rows.length+xs.length<=c
   ·have u5:rows.length*(es+1)+gF.flatten.length<=(ag.flatten++rest).toArray.size:=by
     rw[List.size_toArray,e7,mn,<-Nat.add_mul]
     exact Nat.le_trans (Nat.mul_le_mul_right _ q0) si
    have aK:=run_append_room (P:=P) w t ty e ie (eV ht) gP g rows.length c (ag.flatten++rest).toArray cn ⟨gx,ox,none⟩ xs.length cx gF.flatten e7 CB OI q0 (by rw[mn];exact u5)
    rw[mn]at aK
    have e1:(ag.flatten++rest).toArray.toList.take (rows.length*(es+1))=ag.flatten:=by
     simp only[]
     rw[<-eC,<-eN];simp
    have e2:∃mK,(ag.flatten++rest).toArray.toList.drop (rows.length*(es+1)+gF.flatten.length)=mK:=⟨_,rfl⟩
    obtain⟨mK,e2⟩:=e2
    rw[e1,e2]at aK
    have vy:(ag.flatten++gF.flatten++mK).toArray.size=(ag.flatten++rest).toArray.size:=by
     rw[<-e2]
     simp only[List.size_toArray,List.length_append,List.length_drop]at u5⊢
     rw[eN,eC]at u5⊢
     omega
    have dU:Ext (fun g=>φ b=some (some g)) w (w.setRow g (ag.flatten++gF.flatten++mK).toArray):=(Gy cn vy).ER (fun g' cC=>by rw[cC];exact h1)
    refine⟨_,_,some g,aK,dU,?_,fun g' hg=> .inl (by cases hg;exact h1),fun g' hg=>(by cases hg;simpa using(hS.real.off b g h1).2),?_⟩
    ·simp only[Ob.at]
     refine .inr ⟨g,ag++gF,mK,rfl,?_,qu _ _ _ _ (IV.gM (pv dU) (fun _ h=>h) rows ag hr) (IV.gM (pv dU) (fun _ h=>h) xs gF vu),fun vs hv=>?_⟩
     ·rw[setRow_heap w g _ _ e (0,0) cn];simp
     ·rcases List.mem_append.1 hv with hv|hv
      ·exact hl vs hv
      ·exact sC vs hv
    ·simp only[AV.den]
     exact .inr ⟨g,c,nh _,by simp,q0,h3,_,e,setRow_heap w g _ _ e (0,0) cn,by rw[vy,List.size_toArray,Nat.zero_add];exact si⟩
   ·have holds:∀j u,ag.flatten[j]?=some u->w.cell? ((⟨g,0,none⟩:Addr).add j)=some u:=fun j u hu=>by
     rw[addr_add,Nat.zero_add]
     have ah:j<ag.flatten.length:=by
      rcases Nat.lt_or_ge j ag.flatten.length with h|h
      ·exact h
      ·rw[List.getElem?_eq_none h]at hu;cases hu
     simp only[World.cell?,cn,Option.isSome_none,Bool.false_eq_true,if_false,List.getElem?_toArray]
     rw[List.getElem?_append_left ah];exact hu
    have e8:ag.flatten.length=rows.length*ie.size:=by rw[eN,eC,mn]
    have aK:=run_append_grow (P:=P) w t ty e ie z (eV ht) gP lN ⟨g,0,none⟩ rows.length c ag.flatten e8 holds ⟨gx,ox,none⟩ xs.length cx gF.flatten e7 CB (by omega) (by omega) (growslice_fits (by omega) (by rw[va];exact cQ))
    have fM:=grownCap_ge w (rows.length+xs.length) c e
    have hle:=grownCap_le_maxLen w (rows.length+xs.length) c e eW
    have dU:=uI (own:=fun g=>φ b=some (some g)) (w:=w) (.cells (ag.flatten.toArray++gF.flatten.toArray++Builtin.zeroCells z.cells (grownCap w (rows.length+xs.length) c e-(rows.length+xs.length))) e)
    refine⟨_,_,some w.heap.size,aK,dU,?_,fun g hg=> .inr (by cases hg;exact Nat.le_refl _),fun g hg=>(by cases hg;simp),?_⟩
    ·simp only[Ob.at]
     refine .inr ⟨_,ag++gF,(Builtin.zeroCells z.cells (grownCap w (rows.length+xs.length) c e-(rows.length+xs.length))).toList,rfl,?_,qu _ _ _ _ (IV.gM (pv dU) (fun _ h=>h) rows ag hr) (IV.gM (pv dU) (fun _ h=>h) xs gF vu),fun vs hv=>?_⟩
     ·rw[show(w.heap.size:Nat)=w.drew.heap.size from rfl,gI w.drew]
      congr 2
      apply Array.ext'
      simp
     ·rcases List.mem_append.1 hv with hv|hv
      ·exact hl vs hv
      ·exact sC vs hv
    ·simp only[AV.den]
     refine .inr ⟨_,_,nh _,by simp,fM,hle,_,e,gI w.drew _,?_⟩
     simp only[Array.size_append,List.size_toArray,size_zeroCells,vO,e7,e8,mn,Nat.zero_add,<-Nat.add_mul]
     exact Nat.mul_le_mul_right _ (by omega)
section
variable {C:Cx} {K:List KI} {E:Env} {H:aa}
theorem MO {ds:List (Nat×Nat)} {i:Nat} {o:Oper} {os:List Oper} {x y:Operand} {t e:TypeId} {b n es bytes d:Nat} {rows xs:List (List IV)} {φ:aq} {I:Nat->Prop} {a:Act} {w:World}
  (hs:br C φ I E H a w) {Kn:Act->World->Prop} (bS:∀E' H' φ' I' a' w',AO C (a_ o.dst i ds) (i+1) os K E' H'->br C φ' I' E' H' a' w'->Kn a' w')
  (hnb:Nat.ble C.B.nb b=true) (fy:o.op= .call {callee:= .builtin .append,args:=#[x,y],argTypes:=#[t,t]}) (hd:o.dst=some d) (kH:Nat.blt d C.n=true)
  (hx:AV.den w φ I (.os b (es+1) 0 n) (a.eval x)) (hy:Src w I (es+1) xs (a.eval y)) (hH:lk H b=some (.vec e (es+1) rows)) (bj:noMen b H=true)
  (ht:tk C.P t= .slice e) (cH:sz C.P e=some (es+1)) (hz:(aC C.P e).map List.length=some (es+1)) (jz:aW C.P e=some bytes)
  (hn:n=rows.length) (cQ:(rows.length+xs.length)*bytes<=140737488355328) (eW:rows.length+xs.length<=70368744177664)
  (h:AO C ((i,d)::ds) (i+1) os K ((d,.os b (es+1) 0 (rows.length+xs.length))::killE b E) (bK H b (.vec e (es+1) (rows++xs)))):o.wp C.P a w Kn (dq C K):=by
  obtain⟨u,w',p',aK,gN,CC,e_,aP,bh⟩:=MM (P:=C.P) (ty:=o.type) hs.st hx hy hH hn ht cH hz jz cQ (by unfold maxLen;omega)
  have hS:=hs.st.move (Nat.le_of_ble_eq_true hnb) hH bj (fun g hg aT=>gN.dH g hg aT) gN CC e_ aP
  have hI:∀g,I g->w'.heap[g]?=w.heap[g]?:=fun g hg=>gN.dH g (hs.st.real.bZ g hg) (fun e=>(hs.st.real.off b g e).1 hg)
  have B8:d<C.n:=by simpa[Nat.blt_eq]using kH
  have hex:(execOp a.eval o).run C.P w= .ok (.value u) w':=by
   simp only[execOp,fy,resolve,invoke,builtin,Sem.run_bind,Sem.run_pure,Result.andThen_ok,List.map_toArray,List.map_cons,List.map_nil,aK]
  unfold Oper.wp
  rw[hex,Oper.upon_value]
  have sj:a_ o.dst i ds=(i,d)::ds:=by rw[hd];rfl
  rw[sj]at bS
  refine bS _ _ _ I _ _ h ⟨by rw[hd];exact hs.bI.mono hI (fun _ h=>h),by rw[hd];simpa[Act.put]using hs.bJ,fun j y hj=>?_,hS⟩
  rw[hd]
  simp only[lk]at hj
  cases hb:Nat.beq d j with
  |true=>
   rw[hb]at hj
   have:=Nat.eq_of_beq_eq_true hb
   subst this
   simp only[cond_true,Option.some.injEq]at hj
   subst hj
   exact⟨u,by simp only[Act.put];rw[Array.getElem?_setIfInBounds_self_of_lt (by rw[hs.bJ];exact B8)],bh⟩
  |false=>
   rw[hb]at hj
   simp only[cond_false]at hj
   obtain⟨y',oD,kQ⟩:=rh (w:=w) (φ:=φ) (φ':=fun c=>if c=b then none else φ c) (I:=I) (b:=b) (fun b' bP=>by simp[bP]) E j y hj
   obtain⟨v,hv,b9⟩:=hs.env j y' oD
   refine⟨v,?_,AV.jZ hI (fun _ h=>h) (fun c p hc=>?_) (fun c g1 n hc eB=>?_) _ _ (kQ v b9)⟩
   rotate_left
   ·by_cases e1:c=b
    ·simp[e1]at hc
    ·simpa[bc,e1]using hc
   ·by_cases e1:c=b
    ·simp[e1]at hc
    ·exact gN.shaped (fun ho=>e1 (hs.st.real.inj c b g1 (by simpa[e1]using hc) ho)) eB
   simp only[Act.put]
   rw[Array.getElem?_setIfInBounds_ne (by intro e;subst e;simp at hb)]
   exact hv
theorem AO.append {ds:List (Nat×Nat)} {i:Nat} {o:Oper} {os:List Oper} {x y:Operand} {t e:TypeId} {b n es bytes d:Nat} {rows xs:List (List IV)}
  (hnb:Nat.ble C.B.nb b=true) (fy:o.op= .call {callee:= .builtin .append,args:=#[x,y],argTypes:=#[t,t]}) (hg:o.guard=none) (hd:o.dst=some d) (kH:Nat.blt d C.n=true)
  (hx:ev E x=some (.os b (es+1) 0 n)) (hy:∀φ I a w,br C φ I E H a w->Src w I (es+1) xs (a.eval y)) (hH:lk H b=some (.vec e (es+1) rows)) (bj:noMen b H=true)
  (ht:tk C.P t= .slice e) (cH:sz C.P e=some (es+1)) (hz:(aC C.P e).map List.length=some (es+1)) (jz:aW C.P e=some bytes)
  (hn:n=rows.length) (cQ:(rows.length+xs.length)*bytes<=140737488355328) (eW:rows.length+xs.length<=70368744177664)
  (h:AO C ((i,d)::ds) (i+1) os K ((d,.os b (es+1) 0 (rows.length+xs.length))::killE b E) (bK H b (.vec e (es+1) (rows++xs)))):AO C ds i (o::os) K E H:=
 AO.step fun ops φ I a w aU _ hs Kn bS=>by
  have hw:Region.wanted o (yielded ops a.tmps)=true:=by simp[Region.wanted,hg]
  rw[if_pos hw]
  exact MO hs bS hnb fy hd kH (aX hs.env hx) (hy φ I a w hs) hH bj ht cH hz jz hn cQ eW h
end
end Go.AL
end
