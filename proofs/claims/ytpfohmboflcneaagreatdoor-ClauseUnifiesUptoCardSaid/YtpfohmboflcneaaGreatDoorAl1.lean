import Derived.WalkKit
import Derived.Scope
import Derived.StillTail
import Derived.TacticsIn
import Derived.OrdersIn
import Derived.RangeFuncCalls
import Derived.RangeFuncRecord
import Derived.ChangeKeysEq
import Derived.Laws.StructEq
import Derived.Laws.BytesString
import Derived.Great.BuildSlice
import Derived.Maps.AppendAt
set_option linter.unusedSimpArgs false
set_option linter.unusedVariables false
set_option linter.unnecessarySimpa false
section
namespace Go.AL
open Go
abbrev Fw (r:Option Nat):Fence:={Fence.wide with round:=r}
abbrev nK (r:Option Nat) (P:Program) (c:Code) (Q:Exit->Act->World->Prop) (a:Act) (w:World):Prop:=c.wpIn (Fw r) 3 P Q a w
section
variable {r:Option Nat} {P:Program} {Q:Exit->Act->World->Prop} {a:Act} {w:World}
theorem ED {n:Nat} {f:FuncId} {args:Array Value} {R:Ending->World->Prop} (h:Calls P f args w R):CallsIn (Fw r) n P f args w R:=by
 have U:CallsIn Fence.wide n P f args w R:=callsIn_wide.2 h
 exact U
theorem P5 {n:Nat} {row:String} {args:Array Value} {R:Value->World->Prop} (h:Rows P row args w R):RowsIn (Fw r) n P row args w R:=by
 intro c cs _
 obtain⟨v,w',U,h2⟩:=h c cs
 exact⟨v,w',U,stepsIn_wide.2 h2⟩
def oH (o:Oper):Bool:=match o.op with
 | .defer _=>false
 |_=>true
theorem Y_ {o:Oper} {K:Act->World->Prop} (hd:oH o=true) (h:o.wp P a w K Q):o.wpIn (Fw r) 3 P a w K Q:=by
 refine⟨fun _ _=>trivial,?_⟩
 have hs:o.semAt (Fw r).round a.eval=execOp a.eval o:=Oper.semAt_eq _ _ _ fun c hc=>by simp[oH,hc]at hd
 rw[hs]
 unfold Oper.wp at h
 generalize(execOp a.eval o).run P w=q at*
 cases q with
 |ok x w'=>
  cases x<;>simp only[Oper.upon,Oper.uponIn]at h⊢<;>first
   |exact h
   |exact⟨fun h=>(by cases h),ED h⟩
   |exact⟨fun h=>(by cases h),P5 h⟩
   |exact h.elim
 |halt x w'=>cases x<;>simp only[Oper.upon,Oper.uponIn]at h⊢<;>first|exact h|exact h.elim
def pM (P:Program) (o:Oper) (a:Act) (w:World) (K:Act->World->Prop) (Q:Exit->Act->World->Prop):Prop:=
 o.wp P a w K Q\/∃(l:Nat) (f:FuncId) (tmps:Array Value) (as bd:Code),(execOp a.eval o).run P w= .ok (.round l f tmps as bd) w/\
  RoundIn Fence.wide 3 P l f tmps as bd w fun
   | .returned v,rq=>K (a.put o.dst v) rq
   | .panicked c,rq=>Q (.panic c) a rq
   | .outgrown,_=>LetsOut Q
theorem P0 {n m:Nat} {l:Nat} {f:FuncId} {tmps:Array Value} {as bd:Code} {R:Ending->World->Prop} (h:RoundIn Fence.wide n P l f tmps as bd w R):RoundIn (Fw r) m P l f tmps as bd w R:=
 ⟨trivial,fun c cs _=>h.2 c cs (fun d hd=>by cases hd)⟩
theorem O8 {o:Oper} {K:Act->World->Prop} (hd:oH o=true) (h:pM P o a w K Q):o.wpIn (Fw r) 3 P a w K Q:=by
 rcases h with h|⟨l,f,tmps,as,bd,hr,h⟩
 ·exact Y_ hd h
 ·refine⟨fun _ _=>trivial,?_⟩
  have hs:o.semAt (Fw r).round a.eval=execOp a.eval o:=Oper.semAt_eq _ _ _ fun c hc=>by simp[oH,hc]at hd
  rw[hs,hr,Oper.uponIn_round]
  exact⟨fun h=>(by cases h),P0 h⟩
theorem YY {o:Oper} {K K':Act->World->Prop} (h:∀a w,K a w->K' a w) (hh:pM P o a w K Q):pM P o a w K' Q:=by
 rcases hh with hh|⟨l,f,tmps,as,bd,hr,hh⟩
 ·exact .inl (Oper.wp_mono h hh)
 ·refine .inr ⟨l,f,tmps,as,bd,hr,hh.mono fun e w' he=>?_⟩
  cases e with
  |returned v=>exact h _ _ he
  |panicked c=>exact he
  |outgrown=>exact he
def gK (P:Program) (ops:Array Oper) (Q:Exit->Act->World->Prop):List Oper->Act->World->Prop
 |[],a,w=>Q .normal a w
 |o::rest,a,w=>if Region.wanted o (yielded ops a.tmps)then pM P o a w (gK P ops Q rest) Q else gK P ops Q rest (a.put o.dst undef) w
theorem abi {ops:Array Oper} (h:Q .normal a w):gK P ops Q [] a w:=h
theorem abj {ops:Array Oper} {o:Oper} {rest:List Oper}
  (h:∀K:Act->World->Prop,(∀a w,gK P ops Q rest a w->K a w)->if Region.wanted o (yielded ops a.tmps)then o.wp P a w K Q else K (a.put o.dst undef) w):gK P ops Q (o::rest) a w:=by
 have:=h _ (fun _ _ h=>h)
 simp only[gK]
 split
 ·rename_i hw;rw[if_pos hw]at this;exact .inl this
 ·rename_i hw;rw[if_neg hw]at this;exact this
theorem abk {ops:Array Oper} {o:Oper} {rest:List Oper}
  (h:∀K:Act->World->Prop,(∀a w,gK P ops Q rest a w->K a w)->if Region.wanted o (yielded ops a.tmps)then pM P o a w K Q else K (a.put o.dst undef) w):gK P ops Q (o::rest) a w:=h _ (fun _ _ h=>h)
theorem RB {ops:Array Oper}:∀(l:List Oper) (k:Nat),(∀j,l[j]?=ops[k+j]?)->l.all oH=true->∀(a:Act) (w:World),gK P ops Q l a w->wpOpsIn (Fw r) 3 P ops Q (List.range' k l.length) a w
 |[],_,_,_,_,_,h=>h
 |o::l,k,hl,hd,a,w,h=>by
  have h0:ops[k]?=some o:=by simpa using(hl 0).symm
  simp only[List.all_cons,Bool.and_eq_true]at hd
  have ih:=RB l (k+1) (fun j=>by have:=hl (j+1);simpa[Nat.add_assoc,Nat.add_comm 1 j]using this) hd.2
  rw[List.length_cons,List.range'_succ]
  simp only[wpOpsIn,h0]
  simp only[gK]at h
  split
  ·rename_i hw
   rw[if_pos hw]at h
   exact Oper.wpIn_mono (fun a' w' h'=>ih a' w' h') (O8 hd.1 h)
  ·rename_i hw
   rw[if_neg hw]at h
   exact⟨fun _ _=>trivial,ih _ _ h⟩
theorem abn {id:Nat} {ops:Array Oper} (hd:ops.toList.all oH=true) (h:gK P ops Q ops.toList a w):nK r P (.region id ops false) Q a w:=by
 refine wpIn_region ?_
 have:=RB (r:=r) (ops:=ops) ops.toList 0 (by simp) hd a w h
 rwa [Array.length_toList,<-List.range_eq_range']at this
def oK (P:Program) (ops:Array Oper) (Q:Exit->Act->World->Prop) (i:Nat) (K:Act->World->Prop) (a:Act) (w:World):Prop:=
 match ops[i]? with
 |none=>K a w
 |some o=>if Region.wanted o (yielded ops a.tmps)then pM P o a w K Q else K (a.put o.dst undef) w
theorem Y5 {ops:Array Oper} {i:Nat} {K K':Act->World->Prop} (h:∀a w,K a w->K' a w) (hh:oK P ops Q i K a w):oK P ops Q i K' a w:=by
 unfold oK at*
 split
 ·exact h _ _ (by simpa[*]using hh)
 ·rename_i o ho
  simp only[ho]at hh
  split
  ·rename_i hw;simp only[hw,if_true]at hh;exact YY h hh
  ·rename_i hw;simp only[hw]at hh;exact h _ _ hh
def pY (P:Program) (md:Region.Mode) (ops:Array Oper) (Q:Exit->Act->World->Prop):Nat->Array Bool->Act->World->Prop
 |0,listed,a,w=>Region.ready md ops listed=[]/\Q .normal a w
 |fuel+1,listed,a,w=>(Region.ready md ops listed=[]->Q .normal a w)/\∀i∈Region.ready md ops listed,oK P ops Q i (pY P md ops Q fuel (listed.setIfInBounds i true)) a w
theorem Ec {md:Region.Mode} {ops:Array Oper} (hd:ops.toList.all oH=true):∀(fuel:Nat) (listed:Array Bool) (a:Act) (w:World),pY P md ops Q fuel listed a w->wpAnyIn (Fw r) 3 P md ops Q fuel listed a w
 |0,_,_,_,h=>h
 |fuel+1,listed,a,w,h=>by
  refine⟨h.1,fun i hi=>?_⟩
  have hi:=h.2 i hi
  unfold oK at hi
  unfold wpOpIn
  split
  ·rename_i hn;simp only[hn]at hi;exact Ec hd fuel _ _ _ hi
  ·rename_i o ho
   simp only[ho]at hi
   have VJ:oH o=true:=List.all_eq_true.1 hd o (by rw[Array.mem_toList_iff];exact Array.mem_of_getElem? ho)
   split
   ·rename_i hw;rw[if_pos hw]at hi;exact Oper.wpIn_mono (fun a' w' h'=>Ec hd fuel _ _ _ h') (O8 VJ hi)
   ·rename_i hw;rw[if_neg hw]at hi;exact⟨fun _ _=>trivial,Ec hd fuel _ _ _ hi⟩
theorem RE {id:Nat} {ops:Array Oper} (hm:P.follows .mixedOrders=true) (hd:ops.toList.all oH=true)
  (h:pY P .any ops Q ops.size (Array.replicate ops.size false) a {w with drawn:=w.drawn+1}):nK r P (.region id ops true) Q a w:=wpIn_region_any hm (Ec hd _ _ _ _ h)
theorem Jm {md:Region.Mode} {ops:Array Oper}:∀(l:List Oper) (k:Nat) (listed:Array Bool) (a:Act) (w:World),(∀j,l[j]?=ops[k+j]?)->
  Region.seqB md ops l.length k listed=true->gK P ops Q l a w->pY P md ops Q l.length listed a w
 |[],_,_,_,_,_,hB,h=>⟨by simpa[Region.seqB]using hB,h⟩
 |o::l,k,listed,a,w,hl,hB,h=>by
  have h0:ops[k]?=some o:=by simpa using(hl 0).symm
  simp only[List.length_cons,Region.seqB,Bool.and_eq_true,decide_eq_true_eq]at hB
  refine⟨fun U=>(by rw[hB.1]at U;cases U),fun i hi=>?_⟩
  rw[hB.1]at hi
  have y7:i=k:=by simpa using hi
  subst y7
  have hw:oK P ops Q i (gK P ops Q l) a w:=by unfold oK;simp only[h0];exact h
  exact Y5 (fun a' w' h'=>Jm l (i+1) _ a' w' (fun j=>by have:=hl (j+1);simpa[Nat.add_assoc,Nat.add_comm 1 j]using this) hB.2 h') hw
theorem xo {b:Frame} {k:List Item} {cs:List Frame} {c:Code}:step P (lone (b.atR a (.code (.scope c)::k)) cs w)= .next (lone (b.atR a (.code c:: .inScope c::k)) cs w):=
 step_lone_go (by simp[stepG,stepG.exec,Frame.atR])
theorem aav {b:Frame} {k:List Item} {cs:List Frame} {c:Code}:step P (lone (b.atR a (.inScope c::k)) cs w)= .next (lone (b.atR a k) cs w):=
 step_lone_go (by simp[stepG,stepG.exec,Frame.atR])
theorem abo {c:Code} (h:nK r P c (Exit.noGoto Q) a w):nK r P (.scope c) Q a w:=by
 intro b k cs zr hb hr
 have h0:(lone (b.atR a (.code (.scope c)::k)) cs w).fenced P (Fw r):=fenced_calm hb hr rfl
 obtain⟨e,lz,lY,hq,kP⟩:=h b (.inScope c::k) cs zr hb hr
 have hx:∀id,exitTo id (.inScope c::k)=exitTo id k:=fun id=>by simp[exitTo]
 cases e with
 |normal=>exact⟨.normal,lz,lY,hq,.head h0 xo (StepsIn.trans kP (.one (fenced_calm hb hr rfl) aav))⟩
 |exit id=>
  exact⟨.exit id,lz,lY,hq,fun k' hk=> .head h0 xo (kP.1 k' (by rw[hx];exact hk)),fun kW hk=>let⟨k₁,U,h2⟩:=kP.2 kW (by rw[hx];exact hk);⟨k₁,U,.head h0 xo h2⟩⟩
 |goto l=>exact hq.elim
 |ret=>exact⟨_,lz,lY,hq,.of_steps (.one h0 xo) kP⟩
 |panic ch=>exact⟨_,lz,lY,hq,.of_steps (.one h0 xo) kP⟩
 |outgrown=>exact⟨_,lz,lY,hq,.of_steps (.one h0 xo) kP⟩
theorem abm {c:Code} {α:Type} (J:α->Act->World->Prop) (μ:α->Nat)
  (round:∀p a w,J p a w->nK r P c (Exit.then (fun a' w'=>∃p',μ p'<μ p/\J p' a' w') Q) a w) (p0:α) (a:Act) (w:World) (h0:J p0 a w):nK r P (.loop c) Q a w:=by
 intro b k cs zr hb hr
 have key:∀n p a w,μ p=n->J p a w->∃e a' w',Q e a' w'/\ArrivesIn (Machine.fenced P (Fw r)) P (lone (b.atR a (.code c:: .inLoop c::k)) cs w) b k cs e a' w':=by
  intro n
  induction n using Nat.strongRecOn with
  |_ n ih=>
   intro p a w hn hI
   obtain⟨e,lz,lY,hq,kP⟩:=round p a w hI b (.inLoop c::k) cs zr hb hr
   cases e with
   |normal=>
    obtain⟨p',ag,U8⟩:=hq
    obtain⟨T1,SR,Ee,WR,Vu⟩:=ih (μ p') (hn▸ag) p' lz lY rfl U8
    exact⟨T1,SR,Ee,WR,.of_steps (StepsIn.trans kP (.one (fenced_calm hb hr rfl) stepR_inLoop)) Vu⟩
   |exit id=>exact⟨_,lz,lY,hq,.pass (x:= .inLoop c) rfl (fun _ _=> .inl (by simp)) kP⟩
   |goto l=>exact⟨_,lz,lY,hq,.pass (x:= .inLoop c) rfl (fun _ _=> .inl (by simp)) kP⟩
   |ret=>exact⟨_,lz,lY,hq,.pass (x:= .inLoop c) rfl (fun _ _=> .inl (by simp)) kP⟩
   |panic ch=>exact⟨_,lz,lY,hq,.pass (x:= .inLoop c) rfl (fun _ _=> .inl (by simp)) kP⟩
   |outgrown=>exact⟨_,lz,lY,hq,.pass (x:= .inLoop c) rfl (fun _ _=> .inl (by simp)) kP⟩
 obtain⟨e,a',w',hq,kP⟩:=key _ p0 a w rfl h0
 exact⟨e,a',w',hq,.of_steps (.one (fenced_calm hb hr rfl) stepR_loop) kP⟩
end
inductive IV where
 |v (x:Value)
 |sl (es:Nat) (rows:List (List IV))
 |pt (cs:List IV)
 |fn (f:FuncId) (fs aF:List IV)
def cQ (w:World) (g off:Nat) (us:List Value):Prop:=∀j u,us[j]?=some u->w.cell? ⟨g,off+j,none⟩=some u
mutual
def IV.den (w:World) (I:Nat->Prop):IV->Value->Prop
 | .v x,u=>u=x/\x.oneCell'=true
 | .sl es rows,u=>∃p c ae,u= .slice p rows.length c/\rows.length<=c/\IV.aE w I rows ae/\(∀vs∈ae,vs.length=es)/\
   (rows≠[]->∃g off,p=some ⟨g,off,none⟩/\I g/\cQ w g off ae.flatten)
 | .pt cs,u=>∃g off us,u= .pointer (some ⟨g,off,none⟩)/\I g/\IV.ab w I cs us/\cQ w g off us
 | .fn f fs aF,u=>∃us vs,IV.ab w I fs us/\IV.ab w I aF vs/\u= .func (.func f) us.toArray vs.toArray
def IV.ab (w:World) (I:Nat->Prop):List IV->List Value->Prop
 |[],us=>us=[]
 |x::xs,us=>∃u ak,us=u::ak/\IV.den w I x u/\IV.ab w I xs ak
def IV.aE (w:World) (I:Nat->Prop):List (List IV)->List (List Value)->Prop
 |[],us=>us=[]
 |x::xs,us=>∃u ak,us=u::ak/\IV.ab w I x u/\IV.aE w I xs ak
end
inductive Sh where
 |cell (t:TypeId)
 |map (ks:List Value)
 |row (t:TypeId)
 |raw (o:List Value->Obj)
instance (n:Nat):OfNat Sh n:=⟨.cell n⟩
instance:Coe TypeId Sh:=⟨.cell⟩
theorem Sh.lit (n:Nat):(OfNat.ofNat n:Sh)= .cell n:=rfl
def xQ (o:Obj):Prop:=(∃es c,o= .map es c)\/∃m s seen c,o= .mapIter m s seen c
def ru (es:Array MapEntry) (clock:Nat):Prop:=(es.toList.map (·.born)).Nodup/\∀e∈es.toList,e.born<clock
def Sh.has (w:World) (g:Nat) (us:List Value):Sh->Prop
 | .cell e=>w.heap[g]?=some (.cells us.toArray e (0,0))
 | .map ks=>∃es clock,w.heap[g]?=some (.map es clock)/\es.toList.map (·.key)=ks/\es.toList.map (·.val)=us/\ru es clock
 | .row e=>∃rest:List Value,w.heap[g]?=some (.cells (us++rest).toArray e (0,0))
 | .raw o=>w.heap[g]?=some (o us)/\xQ (o us)
def Sh.one (us:List Value):Sh->Prop
 | .cell _=>∀x∈us,x.oneCell'=true
 | .map _=>True
 | .row _=>∀x∈us,x.oneCell'=true
 | .raw _=>True
theorem Sh.has.b_ {w w':World} {g:Nat} {us:List Value} {s:Sh} (h:s.has w g us) (hg:w'.heap[g]?=w.heap[g]?):s.has w' g us:=by
 cases s with
 |cell e=>exact hg.trans h
 |map ks=>obtain⟨es,c,U,h2⟩:=h;exact⟨es,c,hg.trans U,h2⟩
 |row e=>obtain⟨r,U⟩:=h;exact⟨r,hg.trans U⟩
 |raw o=>exact⟨hg.trans h.1,h.2⟩
theorem Sh.has.YI {w:World} {g:Nat} {us:List Value} {s:Sh} (h:s.has w g us) {x:Option (List Deferred)} (hd:w.heap[g]?=some (.deferred x)):False:=by
 cases s with
 |cell e=>simp only[Sh.has]at h;rw[h]at hd;cases hd
 |map ks=>obtain⟨es,c,U,_⟩:=h;rw[U]at hd;cases hd
 |row e=>obtain⟨r,U⟩:=h;rw[U]at hd;cases hd
 |raw o=>
  obtain⟨U,h2⟩:=h
  rw[U]at hd
  rcases h2 with⟨_,_,h2⟩|⟨_,_,_,_,h2⟩<;>rw[h2]at hd<;>cases hd
theorem Sh.has.fz {w:World} {g:Nat} {us:List Value} {s:Sh} (h:s.has w g us) {c:Array Value} {e:TypeId} {fz:Nat×Nat} (hd:w.heap[g]?=some (.cells c e fz)):fz=(0,0):=by
 cases s with
 |cell e=>simp only[Sh.has]at h;rw[h]at hd;cases hd;rfl
 |map ks=>obtain⟨es,c,U,_⟩:=h;rw[U]at hd;cases hd
 |row e=>obtain⟨r,U⟩:=h;rw[U]at hd;cases hd;rfl
 |raw o=>
  obtain⟨U,h2⟩:=h
  rw[U]at hd
  rcases h2 with⟨_,_,h2⟩|⟨_,_,_,_,h2⟩<;>rw[h2]at hd<;>cases hd
inductive WK where
 |iface (t:TypeId)
 |exact(u:Value)
def WK.rel:WK->Value->Value->Prop
 | .iface t,v,u=>u= .iface t v
 | .exact u0,v,u=>u=u0/\v=u
inductive AV where
 |im (x:IV)
 |mp (b:Nat)
 |wr (k:WK) (x:AV)
 |ob (b off:Nat)
 |oe (b es i j:Nat)
 |os (b es i n:Nat)
 |fn (f:FuncId) (fs aF:List AV)
 |agg (cs:List AV)
 |ar (cs:List IV)
 |aG (vs:List AV)
 |opt (g:Bool) (x:AV)
 |top
abbrev ai:=Nat->Option (Option Nat)
def shaped (w:World) (g n:Nat):Prop:=∃c e,w.heap[g]?=some (.cells c e (0,0))/\n<=c.size
mutual
def AV.den (w:World) (φ:ai) (I:Nat->Prop):AV->Value->Prop
 | .im x,u=>IV.den w I x u
 | .ob b off,u=>∃g,φ b=some (some g)/\u= .pointer (some ⟨g,off,none⟩)
 | .oe b es i j,u=>∃g,φ b=some (some g)/\u= .pointer (some ⟨g,i*es+j,none⟩)
 | .os b es i n,u=>(φ b=some none/\i=0/\n=0/\u= .slice none 0 0)\/
   ∃g c,φ b=some (some g)/\u= .slice (some ⟨g,i*es,none⟩) n c/\n<=c/\c<=maxLen/\shaped w g ((i+c)*es)
 | .fn f fs aF,u=>∃us vs,AV.ab w φ I fs us/\AV.ab w φ I aF vs/\u= .func (.func f) us.toArray vs.toArray
 | .agg cs,u=>∃us,AV.ab w φ I cs us/\u= .agg us.toArray/\∀x∈us,x.oneCell'=true
 | .ar cs,u=>∃us,IV.ab w I cs us/\u= .agg us.toArray
 | .aG vs,u=>∃us,AV.ab w φ I vs us/\u= .tuple us.toArray
 | .opt g x,u=>(g=true->AV.den w φ I x u)/\(g=false->u=undef)
 | .top,_=>True
 | .mp b,u=>∃g,φ b=some (some g)/\u= .map (some g)
 | .wr k x,u=>∃v,k.rel v u/\AV.den w φ I x v
def AV.ab (w:World) (φ:ai) (I:Nat->Prop):List AV->List Value->Prop
 |[],us=>us=[]
 |x::xs,us=>∃u ak,us=u::ak/\AV.den w φ I x u/\AV.ab w φ I xs ak
end
def child:Nat->Code->Code
 |0,.seq a _=>a
 |1,.seq _ b=>b
 |0,.cond _ a _=>a
 |1,.cond _ _ b=>b
 |0,.block _ c=>c
 |0,.loop c=>c
 |0,.scope c=>c
 |0,.rangeFunc _ _ a _=>a
 |1,.rangeFunc _ _ _ b=>b
 |_,_=> .skip
def b7 (fn:Func):List Nat->Code
 |[]=>fn.body.getD .skip
 |i::p=>child i (b7 fn p)
inductive iq where
 |ready|busy
 |done (c:Code)
def iq.state:iq->LoopState
 | .ready=> .ready
 | .busy=> .busy
 | .done _=> .done
def iq.uP:iq->Option Code
 | .done c=>some c
 |_=>none
inductive Ob where
 |var (elem:Sh) (cs:List AV)
 |vec (elem:TypeId) (es:Nat) (rows:List (List IV))
 |lp (l n:Nat) (st:iq) (fn:Func) (p:List Nat) (ps:List Tmp) (E:List (Nat×AV))
def lk {α:Type}:List (Nat×α)->Nat->Option α
 |[],_=>none
 |(j,x)::r,i=>bif Nat.beq j i then some x else lk r i
abbrev Env:=List (Nat×AV)
abbrev aa:=List (Nat×Ob)
def Ob.at (w:World) (φ:ai) (I:Nat->Prop):Ob->Option Nat->Prop
 | .var elem cs,p=>∃g us,p=some g/\elem.has w g us/\AV.ab w φ I cs us/\elem.one us
 | .vec elem es rows,p=>(p=none/\rows=[])\/
   ∃g ae rest,p=some g/\w.heap[g]?=some (.cells (ae.flatten++rest).toArray elem (0,0))/\IV.aE w I rows ae/\(∀vs∈ae,vs.length=es)
 | .lp l n st fn q ps E,p=>p=some l/\∃(T:Array Value) (D:Nat) (cf:FuncId),T.size=n/\
   w.heap[l]?=some (.loop {state:=st.state,pending:=st.uP,fn:=cf,tmps:=T,params:=ps.toArray,assign:=child 0 (b7 fn q),body:=child 1 (b7 fn q),defers:=D})/\
   ∀i x,lk E i=some x->∃u,T[i]?=some u/\AV.den w φ I x u
structure Real (w:World) (φ:ai) (I:Nat->Prop) (H:aa):Prop where
 bj:∀b,(φ b).isSome=(lk H b).isSome
 own:∀b o p,lk H b=some o->φ b=some p->o.at w φ I p
 off:∀b g,φ b=some (some g)->¬I g/\g<w.heap.size
 inj:∀b b' g,φ b=some (some g)->φ b'=some (some g)->b=b'
 bM:∀g,I g->g<w.heap.size
structure Ext (own:Nat->Prop) (w w':World):Prop where
 size:w.heap.size<=w'.heap.size
 b_:∀g,g<w.heap.size->¬own g->w'.heap[g]?=w.heap[g]?
 form:∀(g:Nat) (c:Array Value) (e:TypeId) (fz:Nat×Nat),w.heap[g]?=some (Obj.cells c e fz)->∃(c':Array Value) (jU:Nat×Nat),w'.heap[g]?=some (Obj.cells c' e jU)/\c'.size=c.size
 os:w'.os=w.os
 tape:w'.os=w.os
 output:w'.output=w.output
theorem Ext.refl (own:Nat->Prop) (w:World):Ext own w w:=⟨Nat.le_refl _,fun _ _ _=>rfl,fun _ c _ fz h=>⟨c,fz,h,rfl⟩,rfl,rfl,rfl⟩
theorem Ext.trans {own Ag:Nat->Prop} {w w' rq:World} (h:Ext own w w') (h':Ext Ag w' rq) (hs:∀g,Ag g->own g\/w.heap.size<=g):Ext own w rq:=by
 refine⟨Nat.le_trans h.size h'.size,fun g hg hn=>?_,fun g c e fz hc=>?_,h'.os.trans h.os,h'.tape.trans h.tape,h'.output.trans h.output⟩
 ·rw[h'.b_ g (Nat.lt_of_lt_of_le hg h.size) (fun ho=>(hs g ho).elim hn (by omega)),h.b_ g hg hn]
 ·obtain⟨c1,f1,U,e1⟩:=h.form g c e fz hc
  obtain⟨c2,f2,h2,e2⟩:=h'.form g c1 e f1 U
  exact⟨c2,f2,h2,e2.trans e1⟩
theorem EF {w w':World} {g:Nat} (h:w'.heap[g]?=w.heap[g]?) (off:Nat):w'.cell? ⟨g,off,none⟩=w.cell? ⟨g,off,none⟩:=by simp[World.cell?,h]
theorem cQ.b_ {w w':World} {g off:Nat} {us:List Value} (h:cQ w g off us) (hg:w'.heap[g]?=w.heap[g]?):cQ w' g off us:=
 fun j u hu=>(EF hg _).trans (h j u hu)
section
variable {w w':World} {I I':Nat->Prop}
mutual
theorem IV.oY (hw:∀g off us,I g->cQ w g off us->cQ w' g off us) (hI:∀g,I g->I' g):∀(x:IV) (u:Value),IV.den w I x u->IV.den w' I' x u
 | .v _,_,h=>h
 | .sl es rows,u,h=>by
  simp only[IV.den]at h⊢
  obtain⟨p,c,ae,e,hc,hr,hl,ha⟩:=h
  refine⟨p,c,ae,e,hc,IV.BB hw hI rows ae hr,hl,fun hn=>?_⟩
  obtain⟨g,off,ep,hg,dp⟩:=ha hn
  exact⟨g,off,ep,hI g hg,hw g _ _ hg dp⟩
 | .pt cs,u,h=>by
  simp only[IV.den]at h⊢
  obtain⟨g,off,us,e,hg,hd,dp⟩:=h
  exact⟨g,off,us,e,hI g hg,IV.kJ hw hI cs us hd,hw g _ _ hg dp⟩
 | .fn f fs aF,u,h=>by
  simp only[IV.den]at h⊢
  obtain⟨us,vs,U,h2,e⟩:=h
  exact⟨us,vs,IV.kJ hw hI fs us U,IV.kJ hw hI aF vs h2,e⟩
theorem IV.kJ (hw:∀g off us,I g->cQ w g off us->cQ w' g off us) (hI:∀g,I g->I' g):∀(xs:List IV) (us:List Value),IV.ab w I xs us->IV.ab w' I' xs us
 |[],_,h=>h
 |x::xs,us,h=>by
  simp only[IV.ab]at h⊢
  obtain⟨u,ak,e,U,h2⟩:=h
  exact⟨u,ak,e,IV.oY hw hI x u U,IV.kJ hw hI xs ak h2⟩
theorem IV.BB (hw:∀g off us,I g->cQ w g off us->cQ w' g off us) (hI:∀g,I g->I' g):∀(xs:List (List IV)) (us:List (List Value)),IV.aE w I xs us->IV.aE w' I' xs us
 |[],_,h=>h
 |x::xs,us,h=>by
  simp only[IV.aE]at h⊢
  obtain⟨u,ak,e,U,h2⟩:=h
  exact⟨u,ak,e,IV.kJ hw hI x u U,IV.BB hw hI xs ak h2⟩
end
theorem IV.jO (hw:∀g,I g->w'.heap[g]?=w.heap[g]?) (hI:∀g,I g->I' g) (x:IV) (u:Value) (h:IV.den w I x u):IV.den w' I' x u:=IV.oY (fun g _ _ hg hc=>hc.b_ (hw g hg)) hI x u h
theorem IV.fb (hw:∀g,I g->w'.heap[g]?=w.heap[g]?) (hI:∀g,I g->I' g) (x:List IV) (u:List Value) (h:IV.ab w I x u):IV.ab w' I' x u:=IV.kJ (fun g _ _ hg hc=>hc.b_ (hw g hg)) hI x u h
theorem IV.iD (hw:∀g,I g->w'.heap[g]?=w.heap[g]?) (hI:∀g,I g->I' g) (x:List (List IV)) (u:List (List Value)) (h:IV.aE w I x u):IV.aE w' I' x u:=IV.BB (fun g _ _ hg hc=>hc.b_ (hw g hg)) hI x u h
mutual
theorem AV.oY {φ φ':ai} (hw:∀g off us,I g->cQ w g off us->cQ w' g off us) (hI:∀g,I g->I' g) (ax:∀b p,φ b=some p->φ' b=some p)
  (hs:∀b g n,φ b=some (some g)->shaped w g n->shaped w' g n):∀(x:AV) (u:Value),AV.den w φ I x u->AV.den w' φ' I' x u
 | .im x,u,h=>by simp only[AV.den]at h⊢;exact IV.oY hw hI x u h
 | .ob b off,u,h=>by simp only[AV.den]at h⊢;obtain⟨g,U,h2⟩:=h;exact⟨g,ax _ _ U,h2⟩
 | .oe b es i j,u,h=>by simp only[AV.den]at h⊢;obtain⟨g,U,h2⟩:=h;exact⟨g,ax _ _ U,h2⟩
 | .os b es i n,u,h=>by
  simp only[AV.den]at h⊢
  rcases h with⟨U,h2⟩|⟨g,c,U,h2,h3,h4,h5⟩
  ·exact .inl ⟨ax _ _ U,h2⟩
  ·exact .inr ⟨g,c,ax _ _ U,h2,h3,h4,hs _ _ _ U h5⟩
 | .fn f fs aF,u,h=>by simp only[AV.den]at h⊢;obtain⟨us,vs,U,h2,h3⟩:=h;exact⟨us,vs,AV.kJ hw hI ax hs fs us U,AV.kJ hw hI ax hs aF vs h2,h3⟩
 | .agg cs,u,h=>by simp only[AV.den]at h⊢;obtain⟨us,U,h2⟩:=h;exact⟨us,AV.kJ hw hI ax hs cs us U,h2⟩
 | .ar cs,u,h=>by simp only[AV.den]at h⊢;obtain⟨us,U,h2⟩:=h;exact⟨us,IV.kJ hw hI cs us U,h2⟩
 | .aG cs,u,h=>by simp only[AV.den]at h⊢;obtain⟨us,U,h2⟩:=h;exact⟨us,AV.kJ hw hI ax hs cs us U,h2⟩
 | .opt g x,u,h=>by simp only[AV.den]at h⊢;exact⟨fun hg=>AV.oY hw hI ax hs x u (h.1 hg),h.2⟩
 | .top,_,_=>by simp only[AV.den]
 | .mp b,u,h=>by simp only[AV.den]at h⊢;obtain⟨g,U,h2⟩:=h;exact⟨g,ax _ _ U,h2⟩
 | .wr k x,u,h=>by simp only[AV.den]at h⊢;obtain⟨v,U,h2⟩:=h;exact⟨v,U,AV.oY hw hI ax hs x v h2⟩
theorem AV.kJ {φ φ':ai} (hw:∀g off us,I g->cQ w g off us->cQ w' g off us) (hI:∀g,I g->I' g) (ax:∀b p,φ b=some p->φ' b=some p)
  (hs:∀b g n,φ b=some (some g)->shaped w g n->shaped w' g n):∀(xs:List AV) (us:List Value),AV.ab w φ I xs us->AV.ab w' φ' I' xs us
 |[],_,h=>h
 |x::xs,us,h=>by
  simp only[AV.ab]at h⊢
  obtain⟨u,ak,e,U,h2⟩:=h
  exact⟨u,ak,e,AV.oY hw hI ax hs x u U,AV.kJ hw hI ax hs xs ak h2⟩
end
theorem AV.jO {φ φ':ai} (hw:∀g,I g->w'.heap[g]?=w.heap[g]?) (hI:∀g,I g->I' g) (ax:∀b p,φ b=some p->φ' b=some p)
  (hs:∀b g n,φ b=some (some g)->shaped w g n->shaped w' g n) (x:AV) (u:Value) (h:AV.den w φ I x u):AV.den w' φ' I' x u:=AV.oY (fun g _ _ hg hc=>hc.b_ (hw g hg)) hI ax hs x u h
theorem AV.fb {φ φ':ai} (hw:∀g,I g->w'.heap[g]?=w.heap[g]?) (hI:∀g,I g->I' g) (ax:∀b p,φ b=some p->φ' b=some p)
  (hs:∀b g n,φ b=some (some g)->shaped w g n->shaped w' g n) (x:List AV) (u:List Value) (h:AV.ab w φ I x u):AV.ab w' φ' I' x u:=AV.kJ (fun g _ _ hg hc=>hc.b_ (hw g hg)) hI ax hs x u h
end
theorem Ext.shaped {own:Nat->Prop} {w w':World} (h:Ext own w w') {g n:Nat} (ho:¬own g) (hs:shaped w g n):shaped w' g n:=by
 obtain⟨c,e,hc,hn⟩:=hs
 have hg:g<w.heap.size:=by
  rcases Nat.lt_or_ge g w.heap.size with h|h
  ·exact h
  ·rw[Array.getElem?_eq_none h]at hc;cases hc
 exact⟨c,e,(h.b_ g hg ho).trans hc,hn⟩
structure Bs where
 w0:World
 own:Nat->Prop
 I0:Nat->Prop
 aq:ai
 nb:Nat
def uE:List (String×(Obj->Prop)):=
 [("strconv.ErrSyntax",fun o=>∃tp p T fz,o= .cells #[.iface tp p] T fz),("strconv.ErrRange",fun o=>∃tp p T fz,o= .cells #[.iface tp p] T fz),
  ("internal/strconv.uint64pow10",fun o=>∃T fz,o= .cells (([1,10,100,1000,10000,100000,1000000,10000000,100000000,1000000000,10000000000,100000000000,1000000000000,10000000000000,100000000000000,1000000000000000,10000000000000000,100000000000000000,1000000000000000000,10000000000000000000]:List Int).map fun z=>Value.int .u64 z).toArray T fz),
  ("internal/bytealg.MaxLen",fun o=>∃m cs T fz,o= .cells cs T fz/\cs[0]?=some (Value.int .i64 m))]
def VK (P:Program) (w:World) (I:Nat->Prop):Prop:=∀x∈uE,∀g,P.globalNamed x.1=some g->I g/\∃o,w.heap[g]?=some o/\x.2 o
theorem VK.mono {P:Program} {w w':World} {I I':Nat->Prop} (h:VK P w I) (hw:∀g,I g->w'.heap[g]?=w.heap[g]?) (hI:∀g,I g->I' g):VK P w' I':=fun x hx g hg=>
 let⟨U,o,h2,h3⟩:=h x hx g hg
 ⟨hI g U,o,(hw g U).trans h2,h3⟩
theorem VK.none {P:Program} {w:World} {I:Nat->Prop} (h:(uE.all fun x=>(P.globalNamed x.1).isNone)=true):VK P w I:=fun x hx g hg=>by
 have:=List.all_eq_true.1 h x hx
 rw[hg]at this
 cases this
structure Lay (P:Program) (B:Bs):Prop where
 vk:VK P B.w0 B.I0
 io:∀g,B.I0 g->g<B.w0.heap.size/\¬B.own g
structure Cx where
 P:Program
 fn:Func
 n:Nat
 B:Bs
 kp:List Nat
 ob:List Nat
 R:AV->aa->Prop
 rd:Option Nat
 X:AV->aa->Prop
 ds:List (Option Deferred)
 lay:Lay P B
structure St (B:Bs) (φ:ai) (I:Nat->Prop) (H:aa) (w:World):Prop where
 real:Real w φ I H
 ext:Ext B.own B.w0 w
 b9:∀b g,φ b=some (some g)->B.own g\/B.w0.heap.size<=g
 cZ:∀g,I g->B.I0 g\/B.own g\/B.w0.heap.size<=g
 cj:∀g,B.I0 g->I g
 cE:∀b p o,b<B.nb->B.aq b=some p->lk H b=some o->φ b=some p
theorem St.vk {C:Cx} {φ:ai} {I:Nat->Prop} {H:aa} {w:World} (hs:St C.B φ I H w):VK C.P w I:=fun x hx g hg=>
 let⟨U,o,h2,h3⟩:=C.lay.vk x hx g hg
 ⟨hs.cj g U,o,(hs.ext.b_ g (C.lay.io g U).1 (C.lay.io g U).2).trans h2,h3⟩
theorem Real.lay {P:Program} {w:World} {φ:ai} {I:Nat->Prop} {H:aa} (hR:Real w φ I H) (hV:VK P w I) (nb:Nat):Lay P ⟨w,fun g=>∃b,φ b=some (some g),I,φ,nb⟩:=
 ⟨hV,fun g hg=>⟨hR.bM g hg,fun⟨b,hb⟩=>(hR.off b g hb).1 hg⟩⟩
def dS (w:World) (φ:ai) (I:Nat->Prop) (E:Env) (a:Act):Prop:=∀i x,lk E i=some x->∃u,a.tmps[i]?=some u/\AV.den w φ I x u
def wU (D:Nat):Deferred:={target:= .collected D,args:=#[]}
def Marks (base:List (Option Deferred)) (sz:Nat) (w:World) (I:Nat->Prop) (ds:List Deferred):Prop:=
 ∃ms:List Nat,ds=ms.map wU++base.filterMap id/\ms.Nodup/\(∀D∈ms,I D/\sz<=D/\w.heap[D]?=some (.deferred (some [])))/\(base≠[]->ms=[])
theorem Marks.nil {base:List (Option Deferred)} {sz:Nat} {w:World} {I:Nat->Prop}:Marks base sz w I (base.filterMap id):=⟨[],rfl,List.nodup_nil,(fun _ h=>by cases h),fun _=>rfl⟩
theorem Marks.mono {base:List (Option Deferred)} {sz:Nat} {w w':World} {I I':Nat->Prop} {ds:List Deferred} (h:Marks base sz w I ds) (hw:∀g,I g->w'.heap[g]?=w.heap[g]?) (hI:∀g,I g->I' g):Marks base sz w' I' ds:=by
 obtain⟨ms,U,h2,h3,h4⟩:=h
 exact⟨ms,U,h2,(fun D hD=>let⟨a,b,c⟩:=h3 D hD;⟨hI D a,b,(hw D a).trans c⟩),h4⟩
structure bt (C:Cx) (φ:ai) (I:Nat->Prop) (E:Env) (H:aa) (a:Act) (w:World):Prop where
 bD:Marks C.ds C.B.w0.heap.size w I a.defers
 bA:a.tmps.size=C.n
 env:dS w φ I E a
 st:St C.B φ I H w
def mL (B:Bs) (R:AV->aa->Prop) (e:Ending) (w':World):Prop:=
 ∃r H' φ' I' v,R r H'/\e= .returned v/\AV.den w' φ' I' r v/\St B φ' I' H' w'
def JB (B:Bs) (X:AV->aa->Prop) (e:Ending) (w':World):Prop:=
 ∃r H' φ' I' v,X r H'/\e= .panicked [{v:=v,recovered:=false}]/\AV.den w' φ' I' r v/\St B φ' I' H' w'
def kB (C:Cx) (e:Ending) (w':World):Prop:=mL C.B C.R e w'\/JB C.B C.X e w'
inductive KI where
 |seq (c:Code)
 |dZ (id:Nat)
 |lp (J:Act->World->Prop)
 |sc
 |bot (Q:Exit->Act->World->Prop)
def Bm (C:Cx):Exit->Act->World->Prop
 | .normal,a,w| .ret,a,w=>C.ds=[]->LeavesInM Fence.wide 3 C.P C.fn a.tmps (kB C) a.defers .returning w
 | .panic c,a,w=>C.ds=[]->LeavesInM Fence.wide 3 C.P C.fn a.tmps (kB C) a.defers (.panicking c) w
 |_,_,_=>False
def dL (C:Cx):List KI->Exit->Act->World->Prop
 |[],e,a,w=>Bm C e a w
 | .seq c::K,e,a,w=>Exit.then (nK C.rd C.P c (dL C K)) (dL C K) e a w
 | .dZ id::K,e,a,w=>Exit.inBlock id (dL C K) e a w
 | .lp J::K,e,a,w=>Exit.then J (dL C K) e a w
 | .sc::K,e,a,w=>Exit.noGoto (dL C K) e a w
 | .bot Q::_,e,a,w=>Q e a w
def AR (C:Cx) (c:Code) (K:List KI) (E:Env) (H:aa):Prop:=∀φ I a w,bt C φ I E H a w->nK C.rd C.P c (dL C K) a w
def AX (C:Cx) (e:Exit) (K:List KI) (E:Env) (H:aa):Prop:=∀φ I a w,bt C φ I E H a w->dL C K e a w
section
variable {C:Cx} {K:List KI} {E:Env} {H:aa}
theorem AR.seq {x y:Code} (h:AR C x (.seq y::K) E H):AR C (.seq x y) K E H:=fun φ I a w hs=>by
 refine wpIn_seq ?_
 have:=h φ I a w hs
 exact this
theorem AR.skip (h:AX C .normal K E H):AR C .skip K E H:=fun φ I a w hs=>wpIn_skip (h φ I a w hs)
theorem AR.ret (h:AX C .ret K E H):AR C .ret K E H:=fun φ I a w hs=>wpIn_ret (h φ I a w hs)
theorem AR.exit {id:Nat} (h:AX C (.exit id) K E H):AR C (.exit id) K E H:=fun φ I a w hs=>wpIn_exit (h φ I a w hs)
theorem AR.label {id:Nat} (h:AX C .normal K E H):AR C (.label id) K E H:=fun φ I a w hs=>wpIn_label (h φ I a w hs)
theorem AR.block {id:Nat} {c:Code} (h:AR C c (.dZ id::K) E H):AR C (.block id c) K E H:=fun φ I a w hs=>wpIn_block (h φ I a w hs)
theorem AR.scope {c:Code} (h:AR C c (.sc::K) E H):AR C (.scope c) K E H:=fun φ I a w hs=>abo (h φ I a w hs)
theorem AX.sc (h:AX C .normal K E H):AX C .normal (.sc::K) E H:=h
theorem AX.Qh {id:Nat} (h:AX C (.exit id) K E H):AX C (.exit id) (.sc::K) E H:=h
theorem AX.Qi (h:AX C .ret K E H):AX C .ret (.sc::K) E H:=h
theorem AX.seq {c:Code} (h:AR C c K E H):AX C .normal (.seq c::K) E H:=h
theorem AX.Qk {c:Code} {id:Nat} (h:AX C (.exit id) K E H):AX C (.exit id) (.seq c::K) E H:=h
theorem AX.Ql {c:Code} (h:AX C .ret K E H):AX C .ret (.seq c::K) E H:=h
theorem AX.dZ {id:Nat} (h:AX C .normal K E H):AX C .normal (.dZ id::K) E H:=h
theorem AX.Ez {id:Nat} (h:AX C .normal K E H):AX C (.exit id) (.dZ id::K) E H:=fun φ I a w hs=>by
 show Exit.inBlock id _ _ _ _
 simp only[Exit.inBlock,if_true]
 exact h φ I a w hs
theorem AX.EA {id mu:Nat} (aC:(mu==id)=false) (h:AX C (.exit mu) K E H):AX C (.exit mu) (.dZ id::K) E H:=fun φ I a w hs=>by
 show Exit.inBlock id _ _ _ _
 simp only[Exit.inBlock,if_neg (by simpa using aC:¬mu=id)]
 exact h φ I a w hs
theorem AX.J8 {id:Nat} (h:AX C .ret K E H):AX C .ret (.dZ id::K) E H:=h
theorem AX.OC {J:Act->World->Prop} {id:Nat} (h:AX C (.exit id) K E H):AX C (.exit id) (.lp J::K) E H:=h
theorem AX.OD {J:Act->World->Prop} (h:AX C .ret K E H):AX C .ret (.lp J::K) E H:=h
def Sub (E E':Env):Prop:=∀i x,lk E' i=some x->lk E i=some x
theorem bt.sub {φ:ai} {I:Nat->Prop} {a:Act} {w:World} {E':Env} (h:bt C φ I E H a w) (hs:Sub E E'):bt C φ I E' H a w:=
 ⟨h.bD,h.bA,fun i x hx=>h.env i x (hs i x hx),h.st⟩
def vi (C:Cx) {α:Type} (LE:α->Env) (LH:α->aa) (ok:α->Prop) (μ:α->Nat) (m:Nat) (a:Act) (w:World):Prop:=
 ∃p,ok p/\μ p<m/\∃φ I,bt C φ I (LE p) (LH p) a w
theorem AR.loop {α:Type} {c:Code} (LE:α->Env) (LH:α->aa) (ok:α->Prop) (μ:α->Nat) (p0:α) (h0:ok p0) (hE:Sub E (LE p0)) (hH:H=LH p0)
  (round:∀p,ok p->AR C c (.lp (vi C LE LH ok μ (μ p))::K) (LE p) (LH p)):AR C (.loop c) K E H:=by
 intro φ I a w hs
 subst hH
 refine abm (fun p a w=>ok p/\∃φ I,bt C φ I (LE p) (LH p) a w) μ (fun p a w hJ=>?_) p0 a w ⟨h0,φ,I,hs.sub hE⟩
 obtain⟨ah,φ,I,hs⟩:=hJ
 refine wpIn_mono (round p ah φ I a w hs) (fun e a w hq=>?_)
 cases e with
 |normal=>obtain⟨p',U,h2,h3⟩:=hq;exact⟨p',h2,U,h3⟩
 |_=>exact hq
theorem AX.round {α:Type} {LE:α->Env} {LH:α->aa} {ok:α->Prop} {μ:α->Nat} {m:Nat} (p:α) (ah:ok p) (G9:μ p<m) (hE:Sub E (LE p)) (hH:H=LH p):
  AX C .normal (.lp (vi C LE LH ok μ m)::K) E H:=fun φ I a w hs=>by
 subst hH
 exact⟨p,ah,G9,φ,I,hs.sub hE⟩
theorem AR.weaken {c:Code} {E':Env} (h:AR C c K E' H) (hE:Sub E E'):AR C c K E H:=fun φ I a w hs=>h φ I a w (hs.sub hE)
theorem AX.weaken {e:Exit} {E':Env} (h:AX C e K E' H) (hE:Sub E E'):AX C e K E H:=fun φ I a w hs=>h φ I a w (hs.sub hE)
theorem AR.cond {c:Operand} {t:Tmp} {x y:Code} {b:Bool} (hc:c= .tmp t) (hb:lk E t=some (.im (.v (.bool b)))) (ht:b=true->AR C x K E H) (hf:b=false->AR C y K E H):
  AR C (.cond c x y) K E H:=fun φ I a w hs=>by
 subst hc
 obtain⟨u,hu,hd⟩:=hs.env t _ hb
 simp only[AV.den,IV.den]at hd
 obtain⟨rfl,_⟩:=hd
 refine wpIn_cond_split (t:=b) ?_ (fun h=>ht h φ I a w hs) (fun h=>hf h φ I a w hs)
 have ag:t<a.tmps.size:=by
  rcases Nat.lt_or_ge t a.tmps.size with h|h
  ·exact h
  ·rw[Array.getElem?_eq_none h]at hu;cases hu
 simp only[Act.eval,Array.getD_eq_getD_getElem?,hu,Option.getD_some]
end
inductive TK where
 |bool|int (k:IntKind)|str|ptr (e:TypeId)|slice (e:TypeId)|arr (n:Nat) (e:TypeId)|struct (fs:List (Nat×TypeId))|map (k e:TypeId)|func|iface|other
def TK.of:TypeDesc->TK
 | .bool=> .bool
 | .int k=> .int k
 | .string=> .str
 | .pointer e=> .ptr e
 | .slice e=> .slice e
 | .array n e=> .arr n e
 | .struct fs=> .struct (fs.toList.map fun f=>(f.offset,f.type))
 | .map k e=> .map k e
 | .func _ _ _=> .func
 | .interface _=> .iface
 |_=> .other
def tk (P:Program) (t:TypeId):TK:=((P.underlying t).map TK.of).getD .other
def sz (P:Program) (t:TypeId):Option Nat:=(P.underlying t).bind fun _=>(P.info? t).map (·.size)
def aI (P:Program) (t:TypeId):Option Nat:=(P.info? t).map (·.bytes)
def aA (P:Program) (t:TypeId):Option (List Value):=(P.info? t).bind fun i=>i.zero.map fun z=>z.cells.toList
def TK.agg:TK->Bool
 | .struct _=>true
 | .arr _ _=>true
 |_=>false
def cn:Value->AV
 | .agg cs=>bif cs.toList.all Value.oneCell' then .agg (cs.toList.map fun c=> .im (.v c))else .top
 | .tuple _=> .top
 |x=> .im (.v x)
def ev (E:Env):Operand->Option AV
 | .tmp t=>lk E t
 | .const v=>some (cn v)
 | .func f=>some (.fn f [] [])
 | .global _=>none
def AV.g:AV->Bool
 | .opt g _=>g
 |_=>true
def AV.st:AV->AV
 | .opt _ x=>x
 |x=>x
def un (f:AV->Option (Prop×AV)):Option AV->Option (Prop×AV)
 |some a=>match f a.st with
  |some (sc,v)=>some (a.g=true/\sc,v)
  |none=>none
 |none=>none
def bi (f:AV->AV->Option (Prop×AV)):Option AV->Option AV->Option (Prop×AV)
 |some a,some b=>match f a.st b.st with
  |some (sc,v)=>some (a.g=true/\b.g=true/\sc,v)
  |none=>none
 |_,_=>none
def AV.i (k:IntKind) (n:Int):AV:= .im (.v (.int k n))
def AV.b (x:Bool):AV:= .im (.v (.bool x))
def AV.s (x:ByteArray):AV:= .im (.v (.string x))
def J0 (k:IntKind) (a b:Int):Int:=k.wrap (BitVec.ofInt k.bits a&&&BitVec.ofInt k.bits b).toNat
def J1 (k:IntKind) (a b:Int):Int:=k.wrap (BitVec.ofInt k.bits a|||BitVec.ofInt k.bits b).toNat
def J2 (k:IntKind) (a b:Int):Int:=k.wrap (BitVec.ofInt k.bits a^^^BitVec.ofInt k.bits b).toNat
def A7 (op:BinOp) (k:IntKind) (a b:Int):Option (Prop×AV):=
 match op with
 | .add=>some (True,.im (.v (.int k (k.wrap (a+b)))))
 | .sub=>some (True,.im (.v (.int k (k.wrap (a-b)))))
 | .mul=>some (True,.im (.v (.int k (k.wrap (a*b)))))
 | .quo=>some (b≠0,.im (.v (.int k (k.wrap (a.tdiv b)))))
 | .rem=>some (b≠0,.im (.v (.int k (a.tmod b))))
 | .and=>some (True,.im (.v (.int k (J0 k a b))))
 | .or=>some (True,.im (.v (.int k (J1 k a b))))
 | .xor=>some (True,.im (.v (.int k (J2 k a b))))
 | .eql=>some (True,.im (.v (.bool (a==b))))
 | .neq=>some (True,.im (.v (.bool (a !=b))))
 | .lss=>some (True,.im (.v (.bool (decide (a<b)))))
 | .leq=>some (True,.im (.v (.bool (decide (a<=b)))))
 | .gtr=>some (True,.im (.v (.bool (decide (b<a)))))
 | .geq=>some (True,.im (.v (.bool (decide (b<=a)))))
 | .shl=>some (0<=b,.im (.v (.int k (k.wrap (a*2^(min b.toNat k.bits))))))
 | .shr=>some (0<=b,.im (.v (.int k (a.fdiv (2^(min b.toNat k.bits))))))
 |_=>none
def Bc (op:BinOp) (a b:ByteArray):Option (Prop×AV):=
 match op with
 | .add=>some (a.size+b.size<=9223372036854775807,.im (.v (.string (a++b))))
 | .eql=>some (True,.im (.v (.bool (a.toList==b.toList))))
 | .neq=>some (True,.im (.v (.bool (!(a.toList==b.toList)))))
 | .lss=>some (True,.im (.v (.bool (Op.bytesLess a.toList b.toList))))
 | .geq=>some (True,.im (.v (.bool (!(Op.bytesLess a.toList b.toList)))))
 | .leq=>some (True,.im (.v (.bool (Op.bytesLess a.toList b.toList||a.toList==b.toList))))
 | .gtr=>some (True,.im (.v (.bool (!(Op.bytesLess a.toList b.toList||a.toList==b.toList)))))
 |_=>none
def zU:BinOp->Bool
 | .shl| .shr=>true
 |_=>false
def yx (k:TK):AV->AV->Option Bool
 | .im (.v (.int a x)),.im (.v (.int b y))=>match k with
  | .int _=>bif decide (a=b)then some (x==y)else none
  |_=>none
 | .im (.v (.string x)),.im (.v (.string y))=>match k with
  | .str=>some (x.toList==y.toList)
  |_=>none
 | .im (.v (.bool x)),.im (.v (.bool y))=>match k with
  | .bool=>some (x==y)
  |_=>none
 |_,_=>none
def o5 (P:Program) (xs ys:List AV):List (Nat×TypeId)->Option Bool
 |[]=>some true
 |(off,ty)::r=>match xs[off]?,ys[off]? with
  |some x,some y=>match yx (tk P ty) x y,o5 P xs ys r with
   |some b,some c=>some (b&&c)
   |_,_=>none
  |_,_=>none
def x5:AV->Option (List AV)
 | .agg cs=>some cs
 | .ar cs=>some (cs.map .im)
 |_=>none
def HY (P:Program) (t:TypeId):Bool:=match P.underlying t with
 |some (.struct fs)=>fs.toList.all (fun f=>f.name != "_")&&!P.stoodInHeld t
 |_=>false
def tF (P:Program) (xs ys:List AV):List (Nat×TypeId)->Option Bool
 |[]=>some true
 |(off,ty)::r=>match tk P ty with
  | .struct fs=>match sz P ty,HY P ty with
   |some n,true=>match o5 P ((xs.drop off).take n) ((ys.drop off).take n) fs,tF P xs ys r with
    |some b,some c=>bif decide (off+n<=xs.length)&&decide (off+n<=ys.length)then some (b&&c)else none
    |_,_=>none
   |_,_=>none
  |k=>match xs[off]?,ys[off]? with
   |some x,some y=>match yx k x y,tF P xs ys r with
    |some b,some c=>some (b&&c)
    |_,_=>none
   |_,_=>none
def mb (P:Program) (t:TypeId):Bool:=!(P.eqGuardType P.depth t)&&match P.underlying t with
 |some (.struct fs)=>fs.toList.all (fun f=>f.name != "_")&&!P.stoodInHeld t
 |some (.array _ _)=>true
 |_=>false
def xV (P:Program) (t:TypeId) (x y:AV):Option Bool:=match x5 x,x5 y,mb P t with
 |some xs,some ys,true=>match tk P t with
  | .struct fs=>tF P xs ys fs
  | .arr n e=>match sz P e with
   |some 1=>o5 P xs ys ((List.range n).map fun i=>(i,e))
   |_=>none
  |_=>none
 |_,_,_=>none
def AY (P:Program) (op:BinOp) (t:TypeId):AV->AV->Option (Prop×AV)
 | .im (.v (.int k a)),.im (.v (.int k' b))=>bif zU op||decide (k=k')then A7 op k a b else none
 | .im (.v (.string a)),.im (.v (.string b))=>Bc op a b
 | .im (.v (.bool a)),.im (.v (.bool b))=>match op,tk P t with
  | .eql,.bool=>some (True,.im (.v (.bool (a==b))))
  | .neq,.bool=>some (True,.im (.v (.bool (a !=b))))
  |_,_=>none
 |x,y=>match op with
  | .eql=>match xV P t x y with
   |some b=>some (True,.im (.v (.bool b)))
   |none=>none
  | .neq=>match xV P t x y with
   |some b=>some (True,.im (.v (.bool (!b))))
   |none=>none
  |_=>none
def Be (op:UnOp):AV->Option (Prop×AV)
 | .im (.v (.bool b))=>match op with
  | .not=>some (True,.im (.v (.bool (!b))))
  |_=>none
 | .im (.v (.int k n))=>match op with
  | .neg=>some (True,.im (.v (.int k (k.wrap (0-n)))))
  |_=>none
 |_=>none
def pk (c x y:Bool):Bool:=bif c then x else y
theorem Zm (c y:Bool):pk c true y=(c||y):=by cases c<;>rfl
theorem Zl (c x:Bool):pk c x false=(c&&x):=by cases c<;>rfl
theorem UD (x:Bool):(x=false->(!x)=true)=True:=by cases x<;>simp
theorem UE (x:Bool):(x=true->x=true)=True:=by simp
def Bb (c a b:AV):Option (Prop×AV):=match c.st with
 | .im (.v (.bool cv))=>match a.st,b.st with
  | .im (.v (.bool x)),.im (.v (.bool y))=>some (c.g=true/\(cv=true->a.g=true)/\(cv=false->b.g=true),.im (.v (.bool (pk cv x y))))
  |_,_=>match cv with
   |true=>some (c.g=true/\a.g=true,a.st)
   |false=>some (c.g=true/\b.g=true,b.st)
 |_=>none
def AZ (P:Program) (src dst:TypeId):AV->Option (Prop×AV)
 | .im (.v (.int _ n))=>match tk P dst with
  | .int k=>some (True,.im (.v (.int k (k.wrap n))))
  |_=>none
 | .im (.v (.string s))=>match tk P dst with
  | .str=>some (True,.im (.v (.string s)))
  |_=>none
 |_=>none
def A8 (P:Program) (t:TypeId):AV->Option (Prop×AV)
 | .im (.v (.string s))=>match tk P t with
  | .str=>some (True,.im (.v (.int .i64 s.size)))
  |_=>none
 | .im (.v (.slice none n _))=>match tk P t with
  | .slice _=>some (True,.im (.v (.int .i64 n)))
  |_=>none
 | .im (.sl _ rows)=>match tk P t with
  | .slice _=>some (True,.im (.v (.int .i64 rows.length)))
  |_=>none
 | .os _ _ _ n=>match tk P t with
  | .slice _=>some (True,.im (.v (.int .i64 n)))
  |_=>none
 |_=>none
def A4 (P:Program) (t:TypeId):AV->AV->Option (Prop×AV)
 | .ar cs,.im (.v (.int _ i))=>match tk P t with
  | .arr n e=>match tk P e,sz P e with
   | .int _,some 1=>some (0<=i/\i<n/\n<=cs.length,.im (cs.getD i.toNat (.v (.bool false))))
   | .str,some 1=>some (0<=i/\i<n/\n<=cs.length,.im (cs.getD i.toNat (.v (.bool false))))
   |_,_=>none
  |_=>none
 | .im (.v (.string s)),.im (.v (.int _ i))=>match tk P t with
  | .str=>some (0<=i/\i<s.size,.im (.v (.int .u8 (s.data.toList.getD i.toNat 0).toNat)))
  |_=>none
 |_,_=>none
def A6 (P:Program) (t:TypeId):AV->AV->Option (Prop×AV)
 | .im (.sl es rows),.im (.v (.int _ i))=>match tk P t with
  | .slice e=>bif decide (sz P e=some es)then some (0<=i/\i<rows.length,.im (.pt (rows.getD i.toNat [])))else none
  |_=>none
 | .os b es i0 n,.im (.v (.int _ i))=>match tk P t with
  | .slice e=>bif decide (sz P e=some es)then some (0<=i/\i<n,.oe b es (i0+i.toNat) 0)else none
  |_=>none
 | .ob b off,.im (.v (.int _ i))=>match tk P t with
  | .arr n e=>bif decide (2<=n)then match sz P e with
   |some es=>bif decide (off=0)then some (0<=i/\i<n,.oe b es i.toNat 0)else none
   |none=>none
   else none
  |_=>none
 |_,_=>none
def vG (P:Program) (t:TypeId) (f:Nat):Option Nat:=
 match tk P t with
 | .struct fs=>match fs[f]? with
  |some (off,ty)=>match sz P ty with
   |some (n+1)=>some off
   |_=>none
  |none=>none
 |_=>none
def A3 (P:Program) (t:TypeId) (f:Nat):AV->Option (Prop×AV)
 | .im (.pt cs)=>match vG P t f with
  |some off=>some (True,.im (.pt (cs.drop off)))
  |none=>none
 | .ob b o=>match vG P t f with
  |some off=>some (True,.ob b (o+off))
  |none=>none
 | .oe b es i j=>match vG P t f with
  |some off=>some (True,.oe b es i (j+off))
  |none=>none
 |_=>none
def Ba:AV->Option (Prop×AV)
 | .im (.pt cs)=>some (True,.im (.pt cs))
 | .ob b o=>some (True,.ob b o)
 | .oe b es i j=>some (True,.oe b es i j)
 |_=>none
def pJ (P:Program) (t:TypeId) (cs:List AV):Option AV:=
 bif (tk P t).agg then some (.agg cs)else match cs with
 |[x]=>some x
 |_=>none
def sJ (P:Program) (t:TypeId) (cs:List IV):Option AV:=
 match tk P t with
 | .arr _ _=>some (.ar cs)
 | .func=>match cs with
  |[.fn f fs aF]=>some (.fn f (fs.map .im) (aF.map .im))
  |_=>pJ P t (cs.map .im)
 |_=>pJ P t (cs.map .im)
def tj (P:Program) (H:aa) (t:TypeId):AV->Option (Prop×AV)
 | .im (.pt cs)=>match sz P t with
  |some n=>match sJ P t (cs.take n)with
   |some v=>some (n<=cs.length,v)
   |none=>none
  |none=>none
 | .ob b o=>match lk H b,sz P t with
  |some (.var (.cell _) cs),some n=>match pJ P t ((cs.drop o).take n)with
   |some v=>some (o+n<=cs.length,v)
   |none=>none
  |some (.vec _ _ rows),some n=>bif Nat.beq o 0 then match tk P t with
   | .arr _ _=>some (rows.flatten.length=n,.ar rows.flatten)
   |_=>none
   else none
  |_,_=>none
 | .oe b es i j=>match lk H b,sz P t with
  |some (.vec _ ef rows),some n=>bif Nat.beq es ef then match sJ P t (((rows.getD i []).drop j).take n)with
   |some v=>some (i<rows.length/\j+n<=es,v)
   |none=>none
   else none
  |some (.var (.cell _) cs),some n=>match pJ P t ((cs.drop (i*es+j)).take n)with
   |some v=>some (i*es+j+n<=cs.length,v)
   |none=>none
  |_,_=>none
 |_=>none
def A2 (P:Program) (t:TypeId) (f:Nat):AV->Option (Prop×AV)
 | .agg cs=>match tk P t with
  | .struct fs=>match fs[f]? with
   |some (off,ty)=>match sz P ty with
    |some n=>match pJ P ty ((cs.drop off).take n)with
     |some v=>some (off+n<=cs.length,v)
     |none=>none
    |none=>none
   |none=>none
  |_=>none
 |_=>none
def A1 (i:Nat):AV->Option (Prop×AV)
 | .aG vs=>match vs[i]? with
  |some v=>some (True,v)
  |none=>none
 |_=>none
def vm (P:Program) (t:TypeId) (lo hi:Option AV):AV->Option (Prop×AV)
 | .im (.v (.string s))=>match tk P t,lo,hi with
  | .str,some (.im (.v (.int _ l))),some (.im (.v (.int _ h)))=>some (0<=l/\l<=h/\h<=s.size,.im (.v (.string (s.extract l.toNat h.toNat))))
  | .str,some (.im (.v (.int _ l))),none=>some (0<=l/\l<=s.size,.im (.v (.string (s.extract l.toNat s.size))))
  | .str,none,some (.im (.v (.int _ h)))=>some (0<=h/\h<=s.size,.im (.v (.string (s.extract 0 h.toNat))))
  |_,_,_=>none
 | .im (.sl es rows)=>match tk P t,lo,hi with
  | .slice e,some (.im (.v (.int _ l))),some (.im (.v (.int _ h)))=>bif decide (sz P e=some es)then some (0<=l/\l<=h/\h<=rows.length,.im (.sl es ((rows.take h.toNat).drop l.toNat)))else none
  | .slice e,some (.im (.v (.int _ l))),none=>bif decide (sz P e=some es)then some (0<=l/\l<=rows.length,.im (.sl es (rows.drop l.toNat)))else none
  | .slice e,none,some (.im (.v (.int _ h)))=>bif decide (sz P e=some es)then some (0<=h/\h<=rows.length,.im (.sl es (rows.take h.toNat)))else none
  |_,_,_=>none
 |_=>none
def A_:AV->AV->Option (Prop×AV)
 | .im (.v (.int k a)),.im (.v (.int _ b))=>some (True,.im (.v (.int k (if b<a then b else a))))
 |_,_=>none
def A9:AV->AV->Option (Prop×AV)
 | .im (.v (.int k a)),.im (.v (.int _ b))=>some (True,.im (.v (.int k (if a<b then b else a))))
 |_,_=>none
def tv:AV->Option (List AV)
 | .agg cs=>some cs
 | .im x=>some [.im x]
 | .ob b o=>some [.ob b o]
 | .os b es i n=>some [.os b es i n]
 | .oe b es i j=>some [.oe b es i j]
 | .fn f fs aF=>some [.fn f fs aF]
 | .mp b=>some [.mp b]
 | .wr (.iface t) x=>some [.wr (.iface t) x]
 | .ar cs=>some (cs.map .im)
 |_=>none
def setAt (cs:List AV) (off:Nat):List AV->List AV
 |[]=>cs
 |x::xs=>setAt (cs.set off x) (off+1) xs
def fillParts (place:Nat->Option (Nat×Nat)) (E:Env) (cs:List AV):List (Nat×Operand)->Option (List AV)
 |[]=>some cs
 |(i,x)::rest=>match place i,ev E x with
  |some (off,n),some a=>match tv a with
   |some ys=>bif Nat.beq ys.length n&&decide (off+n<=cs.length)then fillParts place E (setAt cs off ys) rest else none
   |none=>none
  |_,_=>none
def placesOf (P:Program):List (Nat×TypeId)->Option (List (Nat×Nat))
 |[]=>some []
 |(off,ty)::r=>match sz P ty,placesOf P r with
  |some n,some l=>some ((off,n)::l)
  |_,_=>none
def aBuild (P:Program) (t:TypeId) (parts:List (Nat×Operand)) (E:Env):Option (Prop×AV):=
 match tk P t,aA P t with
 | .struct fs,some z=>match placesOf P fs with
  |some pl=>match fillParts (fun i=>pl[i]?) E (z.map fun c=> .im (.v c)) parts with
   |some cs=>bif z.all Value.oneCell' then some (True,.agg cs)else none
   |none=>none
  |none=>none
 | .arr _ e,some z=>match sz P e with
  |some n=>match fillParts (fun i=>some (i*n,n)) E (z.map fun c=> .im (.v c)) parts with
   |some cs=>bif z.all Value.oneCell' then some (True,.agg cs)else none
   |none=>none
  |none=>none
 |_,_=>none
def e7 (P:Program) (E:Env) (H:aa):Op->Option (Prop×AV)
 | .move x=>match ev E x with
  |some a=>some (True,a)
  |none=>none
 | .assign x=>match ev E x with
  |some a=>some (True,a)
  |none=>none
 | .pick c a b=>match ev E c,ev E a,ev E b with
  |some c,some a,some b=>Bb c a b
  |_,_,_=>none
 | .binOp op t x y _=>bi (AY P op t) (ev E x) (ev E y)
 | .unOp op _ x=>un (Be op) (ev E x)
 | .convert s d x=>un (fun a=>match(P.underlying s).isSome with
  |true=>AZ P s d a
  |false=>none) (ev E x)
 | .nilCheck x=>un Ba (ev E x)
 | .index t x i=>bi (A4 P t) (ev E x) (ev E i)
 | .indexAddr t x i=>bi (A6 P t) (ev E x) (ev E i)
 | .fieldAddr t x f=>un (A3 P t f) (ev E x)
 | .field t x f=>un (A2 P t f) (ev E x)
 | .load t x=>un (tj P H t) (ev E x)
 | .extract x i=>un (A1 i) (ev E x)
 | .build t parts=>aBuild P t parts.toList E
 | .call {callee:= .builtin .len,args:=args,argTypes:=ts}=>match args.toList,ts.toList with
  |[x],[t]=>un (A8 P t) (ev E x)
  |_,_=>none
 | .call {callee:= .builtin .min,args:=args,.. }=>match args.toList with
  |[x,y]=>bi A_ (ev E x) (ev E y)
  |_=>none
 | .call {callee:= .builtin .max,args:=args,.. }=>match args.toList with
  |[x,y]=>bi A9 (ev E x) (ev E y)
  |_=>none
 | .slice t x lo hi none=>match lo,hi with
  |some l,some h=>match ev E l,ev E h with
   |some l,some h=>un (vm P t (some l) (some h)) (ev E x)
   |_,_=>none
  |some l,none=>match ev E l with
   |some l=>un (vm P t (some l) none) (ev E x)
   |none=>none
  |none,some h=>match ev E h with
   |some h=>un (vm P t none (some h)) (ev E x)
   |none=>none
  |none,none=>none
 |_=>none
section
variable {P:Program} {w:World} {φ:ai} {I:Nat->Prop}
def eI (P:Program) (w:World) (s:Sem Value) (φ:ai) (I:Nat->Prop) (v:AV):Prop:=∃u,s.run P w= .ok u w/\AV.den w φ I v u
theorem q_ {t:TypeId} {d:TK} (h:tk P t=d) (hd:d≠ .other):∃u,P.underlying t=some u/\TK.of u=d:=by
 unfold tk at h
 cases hu:P.underlying t with
 |none=>rw[hu]at h;exact absurd h.symm hd
 |some u=>rw[hu]at h;exact⟨u,rfl,h⟩
theorem u4 {t:TypeId} {k:IntKind} (h:tk P t= .int k):P.underlying t=some (.int k):=by
 obtain⟨u,hu,hk⟩:=q_ h (by simp)
 cases u<;>simp[TK.of]at hk
 subst hk;exact hu
theorem I8 {t:TypeId} (h:tk P t= .bool):P.underlying t=some .bool:=by
 obtain⟨u,hu,hk⟩:=q_ h (by simp)
 cases u<;>simp[TK.of]at hk
 exact hu
theorem mJ {t:TypeId} (h:tk P t= .str):P.underlying t=some .string:=by
 obtain⟨u,hu,hk⟩:=q_ h (by simp)
 cases u<;>simp[TK.of]at hk
 exact hu
theorem eU {t e:TypeId} (h:tk P t= .slice e):P.underlying t=some (.slice e):=by
 obtain⟨u,hu,hk⟩:=q_ h (by simp)
 cases u<;>simp[TK.of]at hk
 subst hk;exact hu
theorem uZ {t e:TypeId} {n:Nat} (h:tk P t= .arr n e):P.underlying t=some (.array n e):=by
 obtain⟨u,hu,hk⟩:=q_ h (by simp)
 cases u<;>simp[TK.of]at hk
 obtain⟨rfl,rfl⟩:=hk;exact hu
theorem AD {t:TypeId} {fs:List (Nat×TypeId)} (h:tk P t= .struct fs):∃F:Array Field,P.underlying t=some (.struct F)/\F.toList.map (fun f=>(f.offset,f.type))=fs:=by
 obtain⟨u,hu,hk⟩:=q_ h (by simp)
 cases u<;>simp[TK.of]at hk
 exact⟨_,hu,hk⟩
theorem nH {t:TypeId} {n:Nat} (h:sz P t=some n):(∃u,P.underlying t=some u)/\∃i,P.info? t=some i/\i.size=n:=by
 unfold sz at h
 cases hu:P.underlying t with
 |none=>rw[hu]at h;cases h
 |some u=>
  rw[hu]at h
  simp only[Option.bind_some]at h
  cases hi:P.info? t with
  |none=>rw[hi]at h;cases h
  |some i=>rw[hi]at h;exact⟨⟨u,rfl⟩,i,rfl,by simpa using h⟩
theorem D0 {t:TypeId} {n:Nat} (h:sz P t=some n):∃i,P.info? t=some i/\i.size=n:=(nH h).2
theorem run_sizeOf {t:TypeId} {n:Nat} (h:sz P t=some n) (w:World):(sizeOf t).run P w= .ok n w:=by
 obtain⟨i,hi,rfl⟩:=D0 h
 simp[sizeOf,typeInfo,hi]
theorem rF {x:Bool} {u:Value}:AV.den w φ I (.im (.v (.bool x))) u↔u= .bool x:=by simp[AV.den,IV.den,Value.oneCell']
theorem fU {k:IntKind} {n:Int} {u:Value}:AV.den w φ I (.im (.v (.int k n))) u↔u= .int k n:=by simp[AV.den,IV.den,Value.oneCell']
theorem ma {s:ByteArray} {u:Value}:AV.den w φ I (.im (.v (.string s))) u↔u= .string s:=by simp[AV.den,IV.den,Value.oneCell']
theorem Sg {op:BinOp} {k k':IntKind} {t:TypeId} {a b:Int} {sc:Prop} {v:AV} (h:A7 op k a b=some (sc,v)) (ay:sc) (hk:zU op=true\/k=k'):
  eI P w (binOp op t (.int k a) (.int k' b)) φ I v:=by
 cases op<;>simp only[A7,Option.some.injEq,Prod.mk.injEq,reduceCtorEq]at h<;>obtain⟨rfl,rfl⟩:=h
 all_goals first
  |(
    have lL:k=k':=hk.resolve_left (by simp[zU])
    subst lL
    refine⟨_,?_,(by simp only[AV.den,IV.den];exact⟨rfl,rfl⟩)⟩
    simp[binOp,Op.intArith,Op.intDiv,Op.intBits,Op.intCmp,J0,J1,J2,ay]
    done)
  |(
    refine⟨_,?_,(by simp only[AV.den,IV.den];exact⟨rfl,rfl⟩)⟩
    have hn:¬b<0:=by omega
    simp[binOp,Op.shift,hn])
end
theorem addr_add (g o j:Nat):(⟨g,o,none⟩:Addr).add j=⟨g,o+j,none⟩:=by unfold Addr.add;split<;>simp_all
theorem Yi {a:Act} {t:Tmp} {u:Value} (h:a.tmps[t]?=some u):a.eval (.tmp t)=u:=by
 simp only[Act.eval,Array.getD_eq_getD_getElem?,h,Option.getD_some]
section
variable {P:Program} {w:World} {φ:ai} {I:Nat->Prop} {E:Env} {H:aa} {a:Act}
theorem yq:∀(l:List Value),l.all Value.oneCell'=true->AV.ab w φ I (l.map fun c=> .im (.v c)) l
 |[],_=>by simp[AV.ab]
 |x::l,h=>by
  simp only[List.all_cons,Bool.and_eq_true]at h
  simp only[List.map_cons,AV.ab]
  exact⟨x,l,rfl,by simp only[AV.den,IV.den];exact⟨by simp,h.1⟩,yq l h.2⟩
theorem TH (x:Value):AV.den w φ I (cn x) x:=by
 cases x with
 |agg cs=>
  simp only[cn]
  cases h:cs.toList.all Value.oneCell' with
  |true=>
   simp only[cond_true,AV.den]
   exact⟨cs.toList,yq _ h,by simp,List.all_eq_true.1 h⟩
  |false=>simp[AV.den]
 |tuple _=>simp[cn,AV.den]
 |_=>simp[cn,AV.den,IV.den,Value.oneCell']
theorem aH (hE:dS w φ I E a) {x:Operand} {v:AV} (h:ev E x=some v):AV.den w φ I v (a.eval x):=by
 cases x with
 |tmp t=>
  obtain⟨u,hu,hd⟩:=hE t v h
  rw[Yi hu];exact hd
 |const c=>simp only[ev,Option.some.injEq]at h;subst h;exact TH c
 |func f=>simp only[ev,Option.some.injEq]at h;subst h;simp only[AV.den,AV.ab,Act.eval];exact⟨[],[],rfl,rfl,rfl⟩
 |global g=>simp[ev]at h
theorem ca {v:AV} {u:Value} (h:AV.den w φ I v u) (hg:v.g=true):AV.den w φ I v.st u:=by
 cases v<;>first|exact h|(simp only[AV.den,AV.g]at h hg;exact h.1 hg)
theorem jL {f:AV->Option (Prop×AV)} {x:Option AV} {sc:Prop} {v:AV} (h:un f x=some (sc,v)) (ay:sc):∃a cW,x=some a/\f a.st=some (cW,v)/\cW/\a.g=true:=by
 unfold un at h
 split at h
 ·split at h
  ·rename_i a cW v' hf
   simp only[Option.some.injEq,Prod.mk.injEq]at h
   obtain⟨rfl,rfl⟩:=h
   exact⟨_,cW,rfl,hf,ay.2,ay.1⟩
  ·cases h
 ·cases h
theorem oV {f:AV->AV->Option (Prop×AV)} {x y:Option AV} {sc:Prop} {v:AV} (h:bi f x y=some (sc,v)) (ay:sc):
  ∃a b cW,x=some a/\y=some b/\f a.st b.st=some (cW,v)/\cW/\a.g=true/\b.g=true:=by
 unfold bi at h
 split at h
 ·split at h
  ·rename_i a b cW v' hf
   simp only[Option.some.injEq,Prod.mk.injEq]at h
   obtain⟨rfl,rfl⟩:=h
   exact⟨_,_,cW,rfl,rfl,hf,ay.2.2,ay.1,ay.2.1⟩
  ·cases h
 ·cases h
theorem qi {x:Bool}:AV.den w φ I (.im (.v (.bool x))) (.bool x):=by simp[AV.den,IV.den,Value.oneCell']
theorem oX {k:IntKind} {n:Int}:AV.den w φ I (.im (.v (.int k n))) (.int k n):=by simp[AV.den,IV.den,Value.oneCell']
theorem qj {s:ByteArray}:AV.den w φ I (.im (.v (.string s))) (.string s):=by simp[AV.den,IV.den,Value.oneCell']
theorem Sr {op:BinOp} {t:TypeId} {a b:ByteArray} {sc:Prop} {v:AV} (h:Bc op a b=some (sc,v)) (ay:sc):
  eI P w (binOp op t (.string a) (.string b)) φ I v:=by
 cases op<;>simp only[Bc,Option.some.injEq,Prod.mk.injEq,reduceCtorEq]at h<;>obtain⟨rfl,rfl⟩:=h
 all_goals first
  |(refine⟨_,?_,qi⟩;simp[binOp,Op.stringOp];done)
  |(
    refine⟨_,?_,qj⟩
    have hn:¬((a.size+b.size:Nat):Int)>IntKind.i64.max:=by simp only[IntKind.max,IntKind.signed,IntKind.bits];simp;omega
    simp[binOp,Op.stringOp]at hn⊢
    omega)
theorem tG (op:BinOp) (t:TypeId) (x y:Operand) (p q:Value) (U:∀c,p≠ .agg c) (h2:p≠ .nilIface) (w:World):(eqGuard op t x y p q).run P w= .ok () w:=by
 unfold eqGuard
 cases op<;>first|rfl|(cases p<;>first|rfl|exact absurd rfl (U _)|exact absurd rfl h2)
theorem run_equalIn_bool (d:Nat) {t:TypeId} (a b:Bool) (ht:P.underlying t=some .bool):(Op.equalIn (d+1) t (.bool a) (.bool b)).run P w= .ok (a==b) w:=by
 simp[Op.equalIn,run_underlying ht]
theorem run_equal_bool {t:TypeId} (a b:Bool) (ht:P.underlying t=some .bool):(Op.equal t (.bool a) (.bool b)).run P w= .ok (a==b) w:=run_equalIn_bool 9999 a b ht
theorem gP:∀(xs:List AV) (us:List Value) (i:Nat) (x:AV),AV.ab w φ I xs us->xs[i]?=some x->∃u,us[i]?=some u/\AV.den w φ I x u
 |[],_,_,_,_,h=>by simp at h
 |y::ys,us,i,x,hd,h=>by
  simp only[AV.ab]at hd
  obtain⟨u,ak,rfl,U,h2⟩:=hd
  cases i with
  |zero=>simp at h;subst h;exact⟨u,by simp,U⟩
  |succ i=>simpa using gP ys ak i x h2 (by simpa using h)
theorem E2 {t:TypeId} {x y:AV} {p q:Value} {b:Bool} (h:yx (tk P t) x y=some b) (hx:AV.den w φ I x p) (hy:AV.den w φ I y q) (d:Nat):
  P.plainKey t=true/\(Op.equalIn (d+1) t p q).run P w= .ok b w:=by
 unfold yx at h
 split at h
 ·rw[fU]at hx hy
  subst hx;subst hy
  split at h
  ·rename_i ht
   have hu:=u4 ht
   rename_i k x1 a y1 _ _
   cases hk:decide (k=a)with
   |false=>rw[hk]at h;simp at h
   |true=>
    rw[hk]at h
    simp only[cond_true,Option.some.injEq]at h
    have:=of_decide_eq_true hk
    subst this;subst h
    exact⟨by simp[Program.plainKey,hu],by simp[Op.equalIn,run_underlying hu]⟩
  ·cases h
 ·rw[ma]at hx hy
  subst hx;subst hy
  split at h
  ·rename_i ht
   have hu:=mJ ht
   simp only[Option.some.injEq]at h
   subst h
   refine⟨by simp[Program.plainKey,hu],?_⟩
   simp only[Op.equalIn,Sem.run_bind,run_underlying hu,Result.andThen_ok,Sem.run_pure,beq_toListBytes]
  ·cases h
 ·rw[rF]at hx hy
  subst hx;subst hy
  split at h
  ·rename_i ht
   have hu:=I8 ht
   simp only[Option.some.injEq]at h
   subst h
   exact⟨by simp[Program.plainKey,hu],run_equalIn_bool d _ _ hu⟩
  ·cases h
 ·cases h
theorem K5 {xs ys:List AV} {us vs:List Value} (hx:AV.ab w φ I xs us) (hy:AV.ab w φ I ys vs) (d:Nat):∀(F:List Field) (b:Bool),o5 P xs ys (F.map fun f=>(f.offset,f.type))=some b->(∀f∈F,f.name≠ "_")->
  (Op.eqFields (d+1) us.toArray vs.toArray F).run P w= .ok b w
 |[],b,h,_=>by
  simp only[List.map_nil,o5,Option.some.injEq]at h
  subst h;simp[Op.eqFields]
 |f::F,b,h,hn=>by
  simp only[List.map_cons,o5]at h
  split at h
  ·rename_i x y ex ey
   split at h
   ·rename_i b1 b2 U h2
    simp only[Option.some.injEq]at h
    subst h
    obtain⟨u,hu,dz⟩:=gP _ _ _ _ hx ex
    obtain⟨v,hv,a8⟩:=gP _ _ _ _ hy ey
    obtain⟨hp,he⟩:=E2 (P:=P) U dz a8 d
    have hr:=K5 hx hy d F b2 h2 (fun g hg=>hn g (by simp[hg]))
    have p1:=run_part_plain w hp (xs:=us.toArray) (off:=f.offset) (v:=u) (by simpa using hu)
    have p2:=run_part_plain w hp (xs:=vs.toArray) (off:=f.offset) (v:=v) (by simpa using hv)
    have Cz:=hn f (by simp)
    simp only[Op.eqFields,Cz,ne_eq,not_false_eq_true,if_true,Sem.run_bind,p1,p2,he,Result.andThen_ok]
    cases b1<;>simp[hr]
   ·cases h
  ·cases h
theorem KN {xs:List AV} {us:List Value}:∀n,AV.ab w φ I xs us->AV.ab w φ I (xs.take n) (us.take n):=by
 induction xs generalizing us with
 |nil=>intro n h;simp only[AV.ab]at h;subst h;simp[AV.ab]
 |cons x xs ih=>
  intro n h
  simp only[AV.ab]at h
  obtain⟨u,ak,rfl,U,h2⟩:=h
  cases n with
  |zero=>simp[AV.ab]
  |succ n=>simp only[List.take_succ_cons,AV.ab];exact⟨u,_,rfl,U,ih n h2⟩
theorem KJ {xs:List AV} {us:List Value}:∀n,AV.ab w φ I xs us->AV.ab w φ I (xs.drop n) (us.drop n):=by
 induction xs generalizing us with
 |nil=>intro n h;simp only[AV.ab]at h;subst h;simp[AV.ab]
 |cons x xs ih=>
  intro n h
  have h0:=h
  simp only[AV.ab]at h
  obtain⟨u,ak,rfl,U,h2⟩:=h
  cases n with
  |zero=>exact h0
  |succ n=>simp only[List.drop_succ_cons];exact ih n h2
theorem Qd {t:TypeId} {n off:Nat} {us:List Value} (ht:(tk P t).agg=true) (hs:sz P t=some n):(part t us.toArray off).run P w= .ok (.agg ((us.drop off).take n).toArray) w:=by
 obtain⟨⟨u,hu⟩,i,hi,aO⟩:=nH hs
 have ha:(isAgg t).run P w= .ok true w:=by
  unfold tk at ht
  rw[hu]at ht
  simp only[isAgg,Sem.run_bind,run_underlying hu,Result.andThen_ok]
  cases u<;>simp_all [TK.of,TK.agg]
 simp only[part,Sem.run_bind,ha,Result.andThen_ok,if_true,run_sizeOf hs,Sem.run_pure]
 have:(us.toArray.extract off (off+n))=((us.drop off).take n).toArray:=by simp
 rw[this]
theorem E3 {xs ys:List AV} {us vs:List Value} (hx:AV.ab w φ I xs us) (hy:AV.ab w φ I ys vs) (d:Nat):∀(F:List Field) (b:Bool),tF P xs ys (F.map fun f=>(f.offset,f.type))=some b->(∀f∈F,f.name≠ "_")->
  (Op.eqFields (d+2) us.toArray vs.toArray F).run P w= .ok b w
 |[],b,h,_=>by
  simp only[List.map_nil,tF,Option.some.injEq]at h
  subst h;simp[Op.eqFields]
 |f::F,b,h,hn=>by
  simp only[List.map_cons,tF]at h
  have Cz:=hn f (by simp)
  split at h
  ·rename_i fs ht
   split at h
   ·rename_i n aO ah
    split at h
    ·rename_i b1 b2 U h2
     cases hq:(decide (f.offset+n<=xs.length)&&decide (f.offset+n<=ys.length))with
     |false=>rw[hq]at h;simp at h
     |true=>
      rw[hq]at h
      simp only[cond_true,Option.some.injEq]at h
      subst h
      have hr:=E3 hx hy d F b2 h2 (fun g hg=>hn g (by simp[hg]))
      obtain⟨F',hu,hF⟩:=AD ht
      unfold HY at ah
      rw[hu]at ah
      simp only[Bool.and_eq_true,Bool.not_eq_true',List.all_eq_true,bne_iff_ne,ne_eq]at ah
      have t_:P.fieldsOf f.type=F':=by simp[Program.fieldsOf,hu]
      have p1:=Qd (w:=w) (us:=us) (off:=f.offset) (by rw[ht];rfl) aO
      have p2:=Qd (w:=w) (us:=vs) (off:=f.offset) (by rw[ht];rfl) aO
      have he:=K5 (P:=P) (KN n (KJ f.offset hx)) (KN n (KJ f.offset hy)) d F'.toList b1 (by rw[hF];exact U) ah.1
      have Cc:=run_equalIn_struct w (d+1) f.type ((us.drop f.offset).take n).toArray ((vs.drop f.offset).take n).toArray (by rw[t_];exact hu) ah.2
      rw[t_,he]at Cc
      simp only[Op.eqFields,Cz,ne_eq,not_false_eq_true,if_true,Sem.run_bind,p1,p2,Cc,Result.andThen_ok]
      cases b1<;>simp[hr]
    ·cases h
   ·cases h
  ·split at h
   ·rename_i x y ex ey
    split at h
    ·rename_i b1 b2 U h2
     simp only[Option.some.injEq]at h
     subst h
     obtain⟨u,hu,dz⟩:=gP _ _ _ _ hx ex
     obtain⟨v,hv,a8⟩:=gP _ _ _ _ hy ey
     obtain⟨hp,he⟩:=E2 (P:=P) U dz a8 (d+1)
     have hr:=E3 hx hy d F b2 h2 (fun g hg=>hn g (by simp[hg]))
     have p1:=run_part_plain w hp (xs:=us.toArray) (off:=f.offset) (v:=u) (by simpa using hu)
     have p2:=run_part_plain w hp (xs:=vs.toArray) (off:=f.offset) (v:=v) (by simpa using hv)
     simp only[Op.eqFields,Cz,ne_eq,not_false_eq_true,if_true,Sem.run_bind,p1,p2,he,Result.andThen_ok]
     cases b1<;>simp[hr]
    ·cases h
   ·cases h
theorem K6 {xs ys:List AV} {us vs:List Value} (hx:AV.ab w φ I xs us) (hy:AV.ab w φ I ys vs) (d:Nat) (e:TypeId):∀(is:List Nat) (b:Bool),o5 P xs ys (is.map fun i=>(i,e))=some b->
  (Op.eqItems (d+1) e 1 us.toArray vs.toArray is).run P w= .ok b w
 |[],b,h=>by
  simp only[List.map_nil,o5,Option.some.injEq]at h
  subst h;simp[Op.eqItems]
 |i::is,b,h=>by
  simp only[List.map_cons,o5]at h
  split at h
  ·rename_i x y ex ey
   split at h
   ·rename_i b1 b2 U h2
    simp only[Option.some.injEq]at h
    subst h
    obtain⟨u,hu,dz⟩:=gP _ _ _ _ hx ex
    obtain⟨v,hv,a8⟩:=gP _ _ _ _ hy ey
    obtain⟨hp,he⟩:=E2 (P:=P) U dz a8 d
    have hr:=K6 hx hy d e is b2 h2
    have p1:=run_part_plain w hp (xs:=us.toArray) (off:=i) (v:=u) (by simpa using hu)
    have p2:=run_part_plain w hp (xs:=vs.toArray) (off:=i) (v:=v) (by simpa using hv)
    simp only[Op.eqItems,Nat.mul_one,Sem.run_bind,p1,p2,he,Result.andThen_ok]
    cases b1<;>simp[hr]
   ·cases h
  ·cases h
theorem JM {x:AV} {xs:List AV} {p:Value} (h:x5 x=some xs) (hx:AV.den w φ I x p):∃us:List Value,p= .agg us.toArray/\AV.ab w φ I xs us:=by
 unfold x5 at h
 split at h
 ·simp only[Option.some.injEq]at h
  subst h
  simp only[AV.den]at hx
  obtain⟨us,U,h2,_⟩:=hx
  exact⟨us,h2,U⟩
 ·simp only[Option.some.injEq]at h
  subst h
  simp only[AV.den]at hx
  obtain⟨us,U,h2⟩:=hx
  refine⟨us,h2,?_⟩
  have:∀(cs:List IV) (us:List Value),IV.ab w I cs us->AV.ab w φ I (cs.map .im) us:=by
   intro cs
   induction cs with
   |nil=>intro us h;simpa only[IV.ab,AV.ab,List.map_nil]using h
   |cons c cs ih=>
    intro us h
    simp only[IV.ab]at h
    obtain⟨u,ak,rfl,U,h2⟩:=h
    simp only[List.map_cons,AV.ab]
    exact⟨u,ak,rfl,by simpa only[AV.den]using U,ih ak h2⟩
  exact this _ _ U
 ·cases h
theorem JD {t:TypeId} {x y:AV} {p q:Value} {b:Bool} (h:xV P t x y=some b) (hx:AV.den w φ I x p) (hy:AV.den w φ I y q):
  ∃us vs:Array Value,p= .agg us/\q= .agg vs/\P.eqGuardType P.depth t=false/\(Op.equalIn 10000 t (.agg us) (.agg vs)).run P w= .ok b w:=by
 unfold xV at h
 split at h
 ·rename_i xs ys ex ey ah
  obtain⟨us,rfl,so⟩:=JM ex hx
  obtain⟨vs,rfl,CS⟩:=JM ey hy
  unfold mb at ah
  simp only[Bool.and_eq_true,Bool.not_eq_true']at ah
  refine⟨_,_,rfl,rfl,ah.1,?_⟩
  split at h
  ·rename_i fs ht
   obtain⟨F,hu,hF⟩:=AD ht
   have h2:=ah.2
   rw[hu]at h2
   simp only[Bool.and_eq_true,Bool.not_eq_true',List.all_eq_true,bne_iff_ne,ne_eq]at h2
   have t_:P.fieldsOf t=F:=by simp[Program.fieldsOf,hu]
   rw[run_equalIn_struct w 9999 t _ _ (by rw[t_];exact hu) h2.2,t_]
   exact E3 so CS 9997 F.toList b (by rw[hF];exact h) h2.1
  ·rename_i n e ht
   have hu:=uZ ht
   split at h
   ·rename_i hs
    obtain⟨i,hi,aO⟩:=D0 hs
    have hc:P.cellsOf e=1:=by simp[Program.cellsOf,hi,aO]
    rw[run_equalIn_array w 9999 _ _ hu hi,hc]
    exact K6 so CS 9998 e _ b h
   ·cases h
  ·cases h
 ·cases h
theorem R6 {op:BinOp} {t:TypeId} {x y:AV} {p q:Value} {ox oy:Operand} {sc:Prop} {v:AV} (h:AY P op t x y=some (sc,v)) (ay:sc) (hx:AV.den w φ I x p) (hy:AV.den w φ I y q):
  eI P w (do eqGuard op t ox oy p q;binOp op t p q) φ I v:=by
 unfold AY at h
 split at h
 ·rename_i k a k' b
  rw[fU]at hx hy
  subst hx;subst hy
  cases hc:(zU op||decide (k=k'))with
  |false=>rw[hc]at h;simp at h
  |true=>
   rw[hc]at h
   simp only[cond_true]at h
   obtain⟨u,hu,hd⟩:=Sg (P:=P) (w:=w) (φ:=φ) (I:=I) (t:=t) h ay (by simpa using hc)
   refine⟨u,?_,hd⟩
   simp[tG,hu]
 ·rename_i a b
  rw[ma]at hx hy
  subst hx;subst hy
  obtain⟨u,hu,hd⟩:=Sr (P:=P) (w:=w) (φ:=φ) (I:=I) (t:=t) h ay
  refine⟨u,?_,hd⟩
  simp[tG,hu]
 ·rename_i a b
  rw[rF]at hx hy
  subst hx;subst hy
  split at h
  ·rename_i ht
   simp only[Option.some.injEq,Prod.mk.injEq]at h
   obtain⟨_,rfl⟩:=h
   refine⟨_,?_,qi⟩
   simp only[Sem.run_bind,tG _ _ _ _ (.bool a) _ (by simp) (by simp),Result.andThen_ok,binOp,run_equal_bool a b (I8 ht),Sem.run_pure]
  ·rename_i ht
   simp only[Option.some.injEq,Prod.mk.injEq]at h
   obtain⟨_,rfl⟩:=h
   refine⟨_,?_,qi⟩
   simp only[Sem.run_bind,tG _ _ _ _ (.bool a) _ (by simp) (by simp),Result.andThen_ok,binOp,run_equal_bool a b (I8 ht),Sem.run_pure]
   rfl
  ·cases h
 ·split at h
  ·split at h
   ·rename_i b hb
    simp only[Option.some.injEq,Prod.mk.injEq]at h
    obtain⟨_,rfl⟩:=h
    obtain⟨us,vs,rfl,rfl,hg,hr⟩:=JD hb hx hy
    refine⟨_,?_,qi⟩
    simp only[Sem.run_bind,run_eqGuard_agg _ _ _ _ _ _ _ hg,Result.andThen_ok,run_eql_struct,hr]
   ·cases h
  ·split at h
   ·rename_i b hb
    simp only[Option.some.injEq,Prod.mk.injEq]at h
    obtain⟨_,rfl⟩:=h
    obtain⟨us,vs,rfl,rfl,hg,hr⟩:=JD hb hx hy
    refine⟨_,?_,qi⟩
    simp only[Sem.run_bind,run_eqGuard_agg _ _ _ _ _ _ _ hg,Result.andThen_ok,run_neq_struct,hr]
   ·cases h
  ·cases h
theorem Ss {op:UnOp} {x:AV} {p:Value} {sc:Prop} {v:AV} (h:Be op x=some (sc,v)) (hx:AV.den w φ I x p):eI P w (Op.unary op p) φ I v:=by
 unfold Be at h
 split at h
 ·rw[rF]at hx
  subst hx
  split at h
  ·simp only[Option.some.injEq,Prod.mk.injEq]at h
   obtain⟨_,rfl⟩:=h
   exact⟨_,by simp[Op.unary],qi⟩
  ·cases h
 ·rw[fU]at hx
  subst hx
  split at h
  ·simp only[Option.some.injEq,Prod.mk.injEq]at h
   obtain⟨_,rfl⟩:=h
   exact⟨_,by simp[Op.unary,Op.intArith],oX⟩
  ·cases h
 ·cases h
theorem R_ {s d:TypeId} {x:AV} {p:Value} {sc:Prop} {v:AV} (h:AZ P s d x=some (sc,v)) (hx:AV.den w φ I x p) (hs:∃u,P.underlying s=some u):eI P w (convert s d p) φ I v:=by
 obtain⟨su,wy⟩:=hs
 unfold AZ at h
 split at h
 ·rw[fU]at hx
  subst hx
  split at h
  ·rename_i hk
   simp only[Option.some.injEq,Prod.mk.injEq]at h
   obtain⟨_,rfl⟩:=h
   exact⟨_,by simp[convert,run_underlying wy,run_underlying (u4 hk),Conv.intToInt],oX⟩
  ·cases h
 ·rw[ma]at hx
  subst hx
  split at h
  ·rename_i hk
   simp only[Option.some.injEq,Prod.mk.injEq]at h
   obtain⟨_,rfl⟩:=h
   exact⟨_,by simp[convert,run_underlying wy,run_underlying (mJ hk)],qj⟩
  ·cases h
 ·cases h
theorem Sj {t ty:TypeId} {x:AV} {p:Value} {sc:Prop} {v:AV} (h:A8 P t x=some (sc,v)) (hx:AV.den w φ I x p):eI P w (Builtin.len_ #[t] ty #[p]) φ I v:=by
 unfold A8 at h
 split at h
 ·rw[ma]at hx
  subst hx
  split at h
  ·rename_i hk
   simp only[Option.some.injEq,Prod.mk.injEq]at h
   obtain⟨_,rfl⟩:=h
   exact⟨_,by simp[Builtin.len_,run_underlying (mJ hk),goInt],oX⟩
  ·cases h
 ·simp only[AV.den,IV.den]at hx
  obtain⟨rfl,_⟩:=hx
  split at h
  ·rename_i hk
   simp only[Option.some.injEq,Prod.mk.injEq]at h
   obtain⟨_,rfl⟩:=h
   exact⟨_,by simp[Builtin.len_,run_underlying (eU hk),goInt],oX⟩
  ·cases h
 ·simp only[AV.den,IV.den]at hx
  obtain⟨q,c,ae,rfl,_⟩:=hx
  split at h
  ·rename_i hk
   simp only[Option.some.injEq,Prod.mk.injEq]at h
   obtain⟨_,rfl⟩:=h
   exact⟨_,by simp[Builtin.len_,run_underlying (eU hk),goInt],oX⟩
  ·cases h
 ·simp only[AV.den]at hx
  split at h
  ·rename_i hk
   simp only[Option.some.injEq,Prod.mk.injEq]at h
   obtain⟨_,rfl⟩:=h
   rcases hx with⟨_,rfl,rfl,rfl⟩|⟨g,c,_,rfl,_⟩
   ·exact⟨_,by simp[Builtin.len_,run_underlying (eU hk),goInt],oX⟩
   ·exact⟨_,by simp[Builtin.len_,run_underlying (eU hk),goInt],oX⟩
  ·cases h
 ·cases h
theorem flat_get:∀(ae:List (List Value)) (es i j:Nat) (vs:List Value) (u:Value),(∀vs∈ae,vs.length=es)->ae[i]?=some vs->vs[j]?=some u->ae.flatten[i*es+j]?=some u
 |[],_,_,_,_,_,_,h,_=>by simp at h
 |x::xs,es,0,j,vs,u,hl,h,hj=>by
  simp at h;subst h
  have ag:j<x.length:=by
   rcases Nat.lt_or_ge j x.length with h|h
   ·exact h
   ·rw[List.getElem?_eq_none h]at hj;cases hj
  simp[List.flatten_cons,List.getElem?_append_left ag,hj]
 |x::xs,es,i+1,j,vs,u,hl,h,hj=>by
  have hx:x.length=es:=hl x (by simp)
  have:=flat_get xs es i j vs u (fun vs hv=>hl vs (by simp[hv])) (by simpa using h) hj
  rw[List.flatten_cons,List.getElem?_append_right (by rw[hx];have:=Nat.add_mul i 1 es;omega)]
  rw[hx,show(i+1)*es+j-es=i*es+j by have:=Nat.add_mul i 1 es;omega]
  exact this
theorem Bz:∀(rows:List (List IV)) (ae:List (List Value)) (i:Nat) (r:List IV),IV.aE w I rows ae->rows[i]?=some r->∃vs,ae[i]?=some vs/\IV.ab w I r vs
 |[],_,_,_,_,h=>by simp at h
 |x::xs,ae,i,r,hd,h=>by
  simp only[IV.aE]at hd
  obtain⟨u,ak,rfl,U,h2⟩:=hd
  cases i with
  |zero=>simp at h;subst h;exact⟨u,by simp,U⟩
  |succ i=>simpa using Bz xs ak i r h2 (by simpa using h)
theorem lA:∀(rows:List (List IV)) (ae:List (List Value)),IV.aE w I rows ae->ae.length=rows.length
 |[],ae,h=>by simp only[IV.aE]at h;simp[h]
 |x::xs,ae,h=>by
  simp only[IV.aE]at h
  obtain⟨u,ak,rfl,U,h2⟩:=h
  simp[lA xs ak h2]
theorem qO:∀(xs:List IV) (us:List Value),IV.ab w I xs us->us.length=xs.length
 |[],us,h=>by simp only[IV.ab]at h;simp[h]
 |x::xs,us,h=>by
  simp only[IV.ab]at h
  obtain⟨u,ak,rfl,U,h2⟩:=h
  simp[qO xs ak h2]
theorem jm:∀(xs:List AV) (us:List Value),AV.ab w φ I xs us->us.length=xs.length
 |[],us,h=>by simp only[AV.ab]at h;simp[h]
 |x::xs,us,h=>by
  simp only[AV.ab]at h
  obtain⟨u,ak,rfl,U,h2⟩:=h
  simp[jm xs ak h2]
theorem wF:∀(k:Nat) (xs:List IV) (us:List Value),IV.ab w I xs us->IV.ab w I (xs.drop k) (us.drop k)
 |0,_,_,h=>by simpa using h
 |k+1,[],us,h=>by simp only[IV.ab]at h;subst h;simp[IV.ab]
 |k+1,x::xs,us,h=>by
  simp only[IV.ab]at h
  obtain⟨u,ak,rfl,U,h2⟩:=h
  simpa using wF k xs ak h2
theorem CV:∀(k:Nat) (xs:List IV) (us:List Value),IV.ab w I xs us->IV.ab w I (xs.take k) (us.take k)
 |0,_,_,h=>by simp[IV.ab]
 |k+1,[],us,h=>by simp only[IV.ab]at h;subst h;simp[IV.ab]
 |k+1,x::xs,us,h=>by
  simp only[IV.ab]at h
  obtain⟨u,ak,rfl,U,h2⟩:=h
  simp only[List.take_succ_cons,IV.ab]
  exact⟨u,_,rfl,U,CV k xs ak h2⟩
theorem Bf:∀(k:Nat) (xs:List AV) (us:List Value),AV.ab w φ I xs us->AV.ab w φ I (xs.drop k) (us.drop k)
 |0,_,_,h=>by simpa using h
 |k+1,[],us,h=>by simp only[AV.ab]at h;subst h;simp[AV.ab]
 |k+1,x::xs,us,h=>by
  simp only[AV.ab]at h
  obtain⟨u,ak,rfl,U,h2⟩:=h
  simpa using Bf k xs ak h2
theorem Bg:∀(k:Nat) (xs:List AV) (us:List Value),AV.ab w φ I xs us->AV.ab w φ I (xs.take k) (us.take k)
 |0,_,_,h=>by simp[AV.ab]
 |k+1,[],us,h=>by simp only[AV.ab]at h;subst h;simp[AV.ab]
 |k+1,x::xs,us,h=>by
  simp only[AV.ab]at h
  obtain⟨u,ak,rfl,U,h2⟩:=h
  simp only[List.take_succ_cons,AV.ab]
  exact⟨u,_,rfl,U,Bg k xs ak h2⟩
theorem yp:∀(xs:List IV) (us:List Value),IV.ab w I xs us->AV.ab w φ I (xs.map .im) us
 |[],us,h=>by simpa[AV.ab,IV.ab]using h
 |x::xs,us,h=>by
  simp only[IV.ab]at h
  obtain⟨u,ak,rfl,U,h2⟩:=h
  simp only[List.map_cons,AV.ab]
  exact⟨u,ak,rfl,by simpa only[AV.den]using U,yp xs ak h2⟩
theorem N3:∀(x:IV) (u:Value),IV.den w I x u->u.oneCell'=true
 | .v _,u,h=>by simp only[IV.den]at h;rw[h.1];exact h.2
 | .sl _ _,u,h=>by simp only[IV.den]at h;obtain⟨_,_,_,rfl,_⟩:=h;rfl
 | .pt _,u,h=>by simp only[IV.den]at h;obtain⟨_,_,_,rfl,_⟩:=h;rfl
 | .fn _ _ _,u,h=>by simp only[IV.den]at h;obtain⟨_,_,_,_,rfl⟩:=h;rfl
theorem ss:∀(xs:List IV) (us:List Value),IV.ab w I xs us->∀u∈us,u.oneCell'=true
 |[],us,h=>by simp only[IV.ab]at h;simp[h]
 |x::xs,us,h=>by
  simp only[IV.ab]at h
  obtain⟨u,ak,rfl,U,h2⟩:=h
  intro z hz
  rcases List.mem_cons.1 hz with rfl|hz
  ·exact N3 x _ U
  ·exact ss xs ak h2 z hz
theorem NJ:∀(xs:List IV) (us:List Value) (i:Nat) (x:IV),IV.ab w I xs us->xs[i]?=some x->∃u,us[i]?=some u/\IV.den w I x u
 |[],_,_,_,_,h=>by simp at h
 |y::ys,us,i,x,hd,h=>by
  simp only[IV.ab]at hd
  obtain⟨u,ak,rfl,U,h2⟩:=hd
  cases i with
  |zero=>simp at h;subst h;exact⟨u,by simp,U⟩
  |succ i=>simpa using NJ ys ak i x h2 (by simpa using h)
theorem DP {t:TypeId} {u:TypeDesc} (h:P.underlying t=some u) (w:World):(isAgg t).run P w= .ok (TK.of u).agg w:=by
 unfold isAgg
 simp only[Sem.run_bind,run_underlying h,Result.andThen_ok]
 cases u<;>rfl
theorem Sf {t:TypeId} {x i:AV} {p q:Value} {sc:Prop} {v:AV} (h:A4 P t x i=some (sc,v)) (ay:sc) (hx:AV.den w φ I x p) (hi:AV.den w φ I i q):eI P w (Instr.index t p q) φ I v:=by
 unfold A4 at h
 split at h
 ·rename_i cs k n
  rw[fU]at hi
  subst hi
  simp only[AV.den]at hx
  obtain⟨us,hd,rfl⟩:=hx
  split at h
  ·rename_i m e ht
   have key:∀(qD:(TK.of ((P.underlying e).getD .invalid)).agg=false) (jA:sz P e=some 1),(0<=n/\n<m/\m<=cs.length)->v= .im (cs.getD n.toNat (.v (.bool false)))->eI P w (Instr.index t (.agg us.toArray) (.int k n)) φ I v:=by
    intro qD jA ⟨h0,U,h2⟩ hv
    obtain⟨⟨ue,zC⟩,_⟩:=nH jA
    have hlen:=qO cs us hd
    have ag:n.toNat<cs.length:=by omega
    obtain⟨u,hu,dz⟩:=NJ cs us n.toNat _ hd (List.getElem?_eq_getElem ag)
    refine⟨u,?_,?_⟩
    ·have fy:=DP zC w
     rw[zC]at qD
     simp only[Option.getD_some]at qD
     rw[qD]at fy
     simp[Instr.index,asIntOf,run_underlying (uZ ht),h0,U,run_sizeOf jA,part,fy,hu]
    ·rw[hv]
     simp only[AV.den]
     have:cs.getD n.toNat (.v (.bool false))=cs[n.toNat]:=by simp[List.getD,ag]
     rw[this];exact dz
   split at h
   ·rename_i hk jA
    simp only[Option.some.injEq,Prod.mk.injEq]at h
    obtain⟨rfl,rfl⟩:=h
    exact key (by rw[u4 hk];rfl) jA ay rfl
   ·rename_i hk jA
    simp only[Option.some.injEq,Prod.mk.injEq]at h
    obtain⟨rfl,rfl⟩:=h
    exact key (by rw[mJ hk];rfl) jA ay rfl
   ·cases h
  ·cases h
 ·rename_i s k n
  rw[ma]at hx
  rw[fU]at hi
  subst hx;subst hi
  split at h
  ·rename_i hk
   simp only[Option.some.injEq,Prod.mk.injEq]at h
   obtain⟨rfl,rfl⟩:=h
   refine⟨_,?_,oX⟩
   obtain⟨h0,U⟩:=ay
   have ag:n.toNat<s.size:=by omega
   have hg:s[n.toNat]?=some s[n.toNat]:=by simp[ag]
   have he:s.data.toList.getD n.toNat 0=s[n.toNat]:=by
    have:n.toNat<s.data.toList.length:=by simpa using ag
    simp[List.getD,List.getElem?_eq_getElem this];rfl
   rw[he]
   simp[Instr.index,asIntOf,run_underlying (mJ hk),h0,hg]
  ·cases h
 ·cases h
theorem Sm {x:AV} {p:Value} {sc:Prop} {v:AV} {o:Oper} {ox:Operand} (ho:o.op= .nilCheck ox) (h:Ba x=some (sc,v)) (hx:AV.den w φ I x p) (hp:a.eval ox=p):
  (execOp a.eval o).run P w= .ok (.value p) w/\AV.den w φ I v p:=by
 unfold Ba at h
 split at h
 ·simp only[Option.some.injEq,Prod.mk.injEq]at h
  obtain⟨_,rfl⟩:=h
  refine⟨?_,hx⟩
  simp only[AV.den,IV.den]at hx
  obtain⟨g,off,us,rfl,_⟩:=hx
  simp[execOp,ho,hp]
 ·simp only[Option.some.injEq,Prod.mk.injEq]at h
  obtain⟨_,rfl⟩:=h
  refine⟨?_,hx⟩
  simp only[AV.den]at hx
  obtain⟨g,_,rfl⟩:=hx
  simp[execOp,ho,hp]
 ·simp only[Option.some.injEq,Prod.mk.injEq]at h
  obtain⟨_,rfl⟩:=h
  refine⟨?_,hx⟩
  simp only[AV.den]at hx
  obtain⟨g,_,rfl⟩:=hx
  simp[execOp,ho,hp]
 ·cases h
theorem E9 {t:TypeId} {f off:Nat} (h:vG P t f=some off) (g o:Nat) (w:World):(Instr.fieldAt t (.pointer (some ⟨g,o,none⟩)) f).run P w= .ok (.pointer (some ⟨g,o+off,none⟩)) w:=by
 unfold vG at h
 split at h
 ·rename_i fs ht
  obtain⟨F,hF,Gm⟩:=AD ht
  split at h
  ·rename_i Y1 ty hf
   split at h
   ·rename_i n hn
    simp only[Option.some.injEq]at h
    subst h
    have qp:∃fd:Field,F[f]?=some fd/\fd.offset=Y1/\fd.type=ty:=by
     rw[<-Gm,List.getElem?_map]at hf
     simp at hf
     obtain⟨fd,U,h2,h3⟩:=hf
     exact⟨fd,U,h2,h3⟩
    obtain⟨fd,U,h2,h3⟩:=qp
    subst h3
    simp[Instr.fieldAt,run_underlying hF,U,Instr.sureAddr,fieldPlace,run_sizeOf hn,h2,addr_add]
   ·cases h
  ·cases h
 ·cases h
theorem Sb {t:TypeId} {f:Nat} {x:AV} {p:Value} {sc:Prop} {v:AV} (h:A3 P t f x=some (sc,v)) (hx:AV.den w φ I x p):eI P w (Instr.fieldAt t p f) φ I v:=by
 unfold A3 at h
 split at h
 ·rename_i cs
  split at h
  ·rename_i off ml
   simp only[Option.some.injEq,Prod.mk.injEq]at h
   obtain⟨_,rfl⟩:=h
   simp only[AV.den,IV.den]at hx
   obtain⟨g,o,us,rfl,hg,hd,hc⟩:=hx
   refine⟨_,E9 ml g o w,?_⟩
   simp only[AV.den,IV.den]
   refine⟨g,o+off,us.drop off,rfl,hg,wF off cs us hd,fun j u hu=>?_⟩
   rw[Nat.add_assoc]
   exact hc (off+j) u (by simpa[List.getElem?_drop]using hu)
  ·cases h
 ·rename_i b o
  split at h
  ·rename_i off ml
   simp only[Option.some.injEq,Prod.mk.injEq]at h
   obtain⟨_,rfl⟩:=h
   simp only[AV.den]at hx
   obtain⟨g,hg,rfl⟩:=hx
   exact⟨_,E9 ml g o w,by simp only[AV.den];exact⟨g,hg,rfl⟩⟩
  ·cases h
 ·rename_i b es i j
  split at h
  ·rename_i off ml
   simp only[Option.some.injEq,Prod.mk.injEq]at h
   obtain⟨_,rfl⟩:=h
   simp only[AV.den]at hx
   obtain⟨g,hg,rfl⟩:=hx
   exact⟨_,E9 ml g _ w,by simp only[AV.den];exact⟨g,hg,by rw[Nat.add_assoc]⟩⟩
  ·cases h
 ·cases h
theorem Se {t:TypeId} {x i:AV} {p q:Value} {sc:Prop} {v:AV} (h:A6 P t x i=some (sc,v)) (ay:sc) (hx:AV.den w φ I x p) (hi:AV.den w φ I i q):eI P w (Instr.indexAt t p q) φ I v:=by
 unfold A6 at h
 split at h
 ·rename_i es rows k n
  rw[fU]at hi
  subst hi
  split at h
  ·rename_i e ht
   cases hd:decide (sz P e=some es)with
   |false=>rw[hd]at h;simp at h
   |true=>
    rw[hd]at h
    simp only[cond_true,Option.some.injEq,Prod.mk.injEq]at h
    obtain⟨rfl,rfl⟩:=h
    have aO:=of_decide_eq_true hd
    obtain⟨h0,U⟩:=ay
    simp only[AV.den,IV.den]at hx
    obtain⟨pp,c,ae,rfl,hc,hr,hl,ha⟩:=hx
    have ag:n.toNat<rows.length:=by omega
    obtain⟨g,off,rfl,hg,dp⟩:=ha (by intro e;rw[e]at ag;simp at ag)
    obtain⟨vs,dr,a8⟩:=Bz rows ae n.toNat _ hr (List.getElem?_eq_getElem ag)
    have e1:rows.getD n.toNat []=rows[n.toNat]:=by simp[List.getD,ag]
    refine⟨.pointer (some ⟨g,off+n.toNat*es,none⟩),?_,?_⟩
    ·simp[Instr.indexAt,asIntOf,run_underlying (eU ht),h0,U,run_sizeOf aO,addr_add]
    ·simp only[AV.den,IV.den,e1]
     refine⟨g,_,vs,rfl,hg,a8,fun j u hu=>?_⟩
     rw[Nat.add_assoc]
     exact dp _ u (flat_get ae es n.toNat j vs u hl dr hu)
  ·cases h
 ·rename_i b es i0 m k n
  rw[fU]at hi
  subst hi
  split at h
  ·rename_i e ht
   cases hd:decide (sz P e=some es)with
   |false=>rw[hd]at h;simp at h
   |true=>
    rw[hd]at h
    simp only[cond_true,Option.some.injEq,Prod.mk.injEq]at h
    obtain⟨rfl,rfl⟩:=h
    have aO:=of_decide_eq_true hd
    obtain⟨h0,U⟩:=ay
    simp only[AV.den]at hx
    rcases hx with⟨_,_,rfl,_⟩|⟨g,c,hg,rfl,_⟩
    ·omega
    ·refine⟨.pointer (some ⟨g,i0*es+n.toNat*es,none⟩),?_,?_⟩
     ·simp[Instr.indexAt,asIntOf,run_underlying (eU ht),h0,U,run_sizeOf aO,addr_add]
     ·simp only[AV.den]
      exact⟨g,hg,by rw[Nat.add_mul];rfl⟩
  ·cases h
 ·rename_i b off k n
  rw[fU]at hi
  subst hi
  split at h
  ·rename_i m e ht
   cases hm:decide (2<=m)with
   |false=>rw[hm]at h;simp at h
   |true=>
    rw[hm]at h
    have gC:=of_decide_eq_true hm
    simp only[cond_true]at h
    split at h
    ·rename_i es aO
     cases hd:decide (off=0)with
     |false=>rw[hd]at h;simp at h
     |true=>
      rw[hd]at h
      simp only[cond_true,Option.some.injEq,Prod.mk.injEq]at h
      obtain⟨rfl,rfl⟩:=h
      have ho:=of_decide_eq_true hd
      subst ho
      obtain⟨h0,U⟩:=ay
      simp only[AV.den]at hx
      obtain⟨g,hg,rfl⟩:=hx
      refine⟨.pointer (some ⟨g,n.toNat*es,none⟩),?_,?_⟩
      ·simp[Instr.indexAt,asIntOf,run_underlying (uZ ht),h0,U,run_sizeOf aO,addr_add,Instr.sureAddr]
      ·simp only[AV.den]
       exact⟨g,hg,by simp⟩
    ·cases h
  ·cases h
 ·cases h
theorem Qc {t:TypeId} {n:Nat} {u:TypeDesc} {g o:Nat} {us:List Value} (hu:P.underlying t=some u) (hn:sz P t=some n) (hl:us.length=n) (hc:cQ w g o us)
  (qu:(TK.of u).agg=false->n=1):(Instr.loadAt t (.pointer (some ⟨g,o,none⟩))).run P w= .ok (if(TK.of u).agg then .agg us.toArray else us.getD 0 undef) w:=by
 have dp:∀j v,us[j]?=some v->w.cell? ((⟨g,o,none⟩:Addr).add j)=some v:=fun j v hv=>by rw[addr_add];exact hc j v hv
 cases hb:(TK.of u).agg with
 |true=>
  have U:=DP hu w
  rw[hb]at U
  have h2:=run_loadCells_list (P:=P) (w:=w) ⟨g,o,none⟩ us dp
  rw[hl]at h2
  simp[Instr.loadAt,Instr.sureAddr,loadVar,U,run_sizeOf hn,h2]
 |false=>
  have U:=DP hu w
  rw[hb]at U
  have ei:=qu hb
  subst ei
  match us,hl with
  |[x],_=>
   have:=hc 0 x (by simp)
   simp only[Nat.add_zero]at this
   simp[Instr.loadAt,Instr.sureAddr,loadVar,U,load,Sem.run,this]
theorem Dk {t:TypeId} {cs:List AV} {us:List Value} {u:TypeDesc} {v:AV} (hu:P.underlying t=some u) (h:pJ P t cs=some v) (hd:AV.ab w φ I cs us) (U:∀x∈us,x.oneCell'=true):
  AV.den w φ I v (if(TK.of u).agg then .agg us.toArray else us.getD 0 undef)/\((TK.of u).agg=false->us.length=1):=by
 have bc:tk P t=TK.of u:=by simp[tk,hu]
 unfold pJ at h
 rw[bc]at h
 cases hb:(TK.of u).agg with
 |true=>
  rw[hb]at h
  simp only[cond_true,Option.some.injEq]at h
  subst h
  simp only[if_true,AV.den]
  exact⟨⟨us,hd,rfl,U⟩,by simp⟩
 |false=>
  rw[hb]at h
  simp only[cond_false]at h
  split at h
  ·simp only[Option.some.injEq]at h
   subst h
   simp only[AV.ab]at hd
   obtain⟨x,ak,rfl,hx,rfl⟩:=hd
   simpa using hx
  ·cases h
theorem YA {t:TypeId} {cs:List IV} {us:List Value} {u:TypeDesc} {v:AV} (hu:P.underlying t=some u) (h:sJ P t cs=some v) (hd:IV.ab w I cs us):
  AV.den w φ I v (if(TK.of u).agg then .agg us.toArray else us.getD 0 undef)/\((TK.of u).agg=false->us.length=1):=by
 have bc:tk P t=TK.of u:=by simp[tk,hu]
 unfold sJ at h
 split at h
 ·rename_i n e ht
  rw[bc]at ht
  simp only[Option.some.injEq]at h
  subst h
  rw[ht]
  simp only[TK.agg,if_true,AV.den]
  exact⟨⟨us,hd,rfl⟩,by simp⟩
 ·rename_i ht
  split at h
  ·rename_i f fs aF
   simp only[Option.some.injEq]at h
   subst h
   simp only[IV.ab,IV.den]at hd
   obtain⟨u0,ak,rfl,⟨xs,ys,U,h2,rfl⟩,rfl⟩:=hd
   rw[<-bc,ht]
   simp only[TK.agg,if_false,Bool.false_eq_true,AV.den]
   exact⟨⟨xs,ys,yp fs xs U,yp aF ys h2,rfl⟩,by simp⟩
  ·exact Dk hu h (yp _ us hd) (ss _ us hd)
 ·exact Dk hu h (yp cs us hd) (ss cs us hd)
end
section
variable {P:Program} {w:World} {φ:ai} {I:Nat->Prop} {E:Env} {H:aa} {a:Act}
theorem Ow {t:TypeId} {n:Nat} {cs:List AV} {us:List Value} {v:AV} {g o:Nat} (hn:sz P t=some n) (hv:pJ P t cs=some v) (hd:AV.ab w φ I cs us) (U:∀x∈us,x.oneCell'=true)
  (hl:us.length=n) (hc:cQ w g o us):eI P w (Instr.loadAt t (.pointer (some ⟨g,o,none⟩))) φ I v:=by
 obtain⟨⟨u,hu⟩,_⟩:=nH hn
 obtain⟨h2,h3⟩:=Dk hu hv hd U
 exact⟨_,Qc hu hn hl hc (fun hb=>by rw[<-hl];exact h3 hb),h2⟩
theorem HL {t:TypeId} {n:Nat} {cs:List IV} {us:List Value} {v:AV} {g o:Nat} (hn:sz P t=some n) (hv:sJ P t cs=some v) (hd:IV.ab w I cs us)
  (hl:us.length=n) (hc:cQ w g o us):eI P w (Instr.loadAt t (.pointer (some ⟨g,o,none⟩))) φ I v:=by
 obtain⟨⟨u,hu⟩,_⟩:=nH hn
 obtain⟨h2,h3⟩:=YA hu hv hd
 exact⟨_,Qc hu hn hl hc (fun hb=>by rw[<-hl];exact h3 hb),h2⟩
theorem rG:∀(rows:List (List IV)) (ae:List (List Value)),IV.aE w I rows ae->IV.ab w I rows.flatten ae.flatten
 |[],ae,h=>by simp only[IV.aE]at h;subst h;simp[IV.ab]
 |r::rows,ae,h=>by
  simp only[IV.aE]at h
  obtain⟨u,ak,rfl,U,h2⟩:=h
  simp only[List.flatten_cons]
  exact CU _ _ _ _ U (rG rows ak h2)
where
 CU:∀(a b:List IV) (us vs:List Value),IV.ab w I a us->IV.ab w I b vs->IV.ab w I (a++b) (us++vs)
  |[],b,us,vs,U,h2=>by simp only[IV.ab]at U;subst U;simpa using h2
  |x::a,b,us,vs,U,h2=>by
   simp only[IV.ab]at U
   obtain⟨u,ak,rfl,h3,h4⟩:=U
   simp only[List.cons_append,IV.ab]
   exact⟨u,_,rfl,h3,CU a b ak vs h4 h2⟩
theorem J9 {g:Nat} {us:List Value} {e:TypeId} {fz:Nat×Nat} (h:w.heap[g]?=some (.cells us.toArray e fz)) (o:Nat):cQ w g o (us.drop o):=by
 intro j u hu
 rw[List.getElem?_drop]at hu
 simp[World.cell?,h,hu]
theorem cQ.take {g o:Nat} {us:List Value} (h:cQ w g o us) (n:Nat):cQ w g o (us.take n):=by
 intro j u hu
 rw[List.getElem?_take]at hu
 split at hu
 ·exact h j u hu
 ·cases hu
theorem cQ.drop {g o:Nat} {us:List Value} (h:cQ w g o us) (n:Nat):cQ w g (o+n) (us.drop n):=by
 intro j u hu
 rw[List.getElem?_drop]at hu
 rw[Nat.add_assoc]
 exact h _ u hu
theorem ZQ {g:Nat} {ae:List (List Value)} {rest:List Value} {e:TypeId} {fz:Nat×Nat} {es i:Nat} {vs:List Value} (h:w.heap[g]?=some (.cells (ae.flatten++rest).toArray e fz)) (hl:∀vs∈ae,vs.length=es)
  (hi:ae[i]?=some vs):cQ w g (i*es) vs:=by
 intro j u hu
 have hf:=flat_get ae es i j vs u hl hi hu
 have ag:i*es+j<ae.flatten.length:=by
  rcases Nat.lt_or_ge (i*es+j) ae.flatten.length with h|h
  ·exact h
  ·rw[List.getElem?_eq_none h]at hf;cases hf
 simp only[World.cell?,h,Option.isSome_none,Bool.false_eq_true,if_false,List.getElem?_toArray]
 rw[List.getElem?_append_left ag]
 exact hf
theorem Ep (hR:Real w φ I H) {t:TypeId} {x:AV} {p:Value} {sc:Prop} {v:AV} (h:tj P H t x=some (sc,v)) (ay:sc) (hx:AV.den w φ I x p):eI P w (Instr.loadAt t p) φ I v:=by
 unfold tj at h
 split at h
 ·rename_i cs
  split at h
  ·rename_i n hn
   split at h
   ·rename_i v' hv
    simp only[Option.some.injEq,Prod.mk.injEq]at h
    obtain⟨rfl,rfl⟩:=h
    simp only[AV.den,IV.den]at hx
    obtain⟨g,off,us,rfl,hg,hd,hc⟩:=hx
    refine HL hn hv (CV n cs us hd) ?_ (hc.take n)
    rw[List.length_take,qO cs us hd];omega
   ·cases h
  ·cases h
 ·rename_i b o
  split at h
  ·rename_i el cs n cH hn
   split at h
   ·rename_i v' hv
    simp only[Option.some.injEq,Prod.mk.injEq]at h
    obtain⟨rfl,rfl⟩:=h
    simp only[AV.den]at hx
    obtain⟨g,hg,rfl⟩:=hx
    have ba:=hR.own b _ _ cH hg
    simp only[Ob.at]at ba
    obtain⟨g',us,cC,cg,hd,U⟩:=ba
    cases cC
    simp only[Sh.has,Sh.one]at cg U
    refine Ow hn hv (Bg n _ _ (Bf o cs us hd)) (fun x hx=>U x (List.mem_of_mem_drop (List.mem_of_mem_take hx))) ?_ ((J9 cg o).take n)
    rw[List.length_take,List.length_drop,jm cs us hd];omega
   ·cases h
  ·rename_i el es rows n cH hn
   cases hb:Nat.beq o 0 with
   |false=>rw[hb]at h;simp at h
   |true=>
    rw[hb]at h
    have ho:=Nat.eq_of_beq_eq_true hb
    subst ho
    simp only[cond_true]at h
    split at h
    ·rename_i m e ht
     simp only[Option.some.injEq,Prod.mk.injEq]at h
     obtain⟨rfl,rfl⟩:=h
     simp only[AV.den]at hx
     obtain⟨g,hg,rfl⟩:=hx
     have ba:=hR.own b _ _ cH hg
     simp only[Ob.at]at ba
     rcases ba with⟨U,_⟩|⟨g',ae,rest,cC,cg,hd,hl⟩
     ·cases U
     cases cC
     have pe:=rG rows ae hd
     have hlen:=qO _ _ pe
     refine HL hn (cs:=rows.flatten) (us:=ae.flatten) (by simp[sJ,ht]) pe (by rw[hlen];exact ay) ?_
     intro j u hu
     have ag:j<ae.flatten.length:=by
      rcases Nat.lt_or_ge j ae.flatten.length with h|h
      ·exact h
      ·rw[List.getElem?_eq_none h]at hu;cases hu
     simp only[World.cell?,cg,Option.isSome_none,Bool.false_eq_true,if_false,List.getElem?_toArray]
     rw[List.getElem?_append_left (by simpa using ag)]
     simpa using hu
    ·cases h
  ·cases h
 ·rename_i b es i j
  split at h
  ·rename_i el ef rows n cH hn
   cases hb:Nat.beq es ef with
   |false=>rw[hb]at h;simp at h
   |true=>
    rw[hb]at h
    have bW:=Nat.eq_of_beq_eq_true hb
    subst bW
    simp only[cond_true]at h
    split at h
    ·rename_i v' hv
     simp only[Option.some.injEq,Prod.mk.injEq]at h
     obtain⟨rfl,rfl⟩:=h
     obtain⟨hi,hj⟩:=ay
     simp only[AV.den]at hx
     obtain⟨g,hg,rfl⟩:=hx
     have ba:=hR.own b _ _ cH hg
     simp only[Ob.at]at ba
     rcases ba with⟨_,rfl⟩|⟨g',ae,rest,cC,cg,hd,hl⟩
     ·simp at hi
     cases cC
     obtain⟨vs,dr,a8⟩:=Bz rows ae i _ hd (List.getElem?_eq_getElem hi)
     have e1:rows.getD i []=rows[i]:=by simp[List.getD,hi]
     rw[e1]at hv
     have fF:vs.length=es:=hl vs (List.mem_of_getElem? dr)
     refine HL hn hv (CV n _ _ (wF j _ vs a8)) ?_ (((ZQ cg hl dr).drop j).take n)
     rw[List.length_take,List.length_drop,fF];omega
    ·cases h
  ·rename_i el cs n cH hn
   split at h
   ·rename_i v' hv
    simp only[Option.some.injEq,Prod.mk.injEq]at h
    obtain⟨rfl,rfl⟩:=h
    simp only[AV.den]at hx
    obtain⟨g,hg,rfl⟩:=hx
    have ba:=hR.own b _ _ cH hg
    simp only[Ob.at]at ba
    obtain⟨g',us,cC,cg,hd,U⟩:=ba
    cases cC
    simp only[Sh.has,Sh.one]at cg U
    refine Ow hn hv (Bg n _ _ (Bf (i*es+j) cs us hd)) (fun x hx=>U x (List.mem_of_mem_drop (List.mem_of_mem_take hx))) ?_ ((J9 cg (i*es+j)).take n)
    rw[List.length_take,List.length_drop,jm cs us hd];omega
   ·cases h
  ·cases h
 ·cases h
theorem Sc {t:TypeId} {f:Nat} {x:AV} {p:Value} {sc:Prop} {v:AV} (h:A2 P t f x=some (sc,v)) (ay:sc) (hx:AV.den w φ I x p):eI P w (Instr.field t p f) φ I v:=by
 unfold A2 at h
 split at h
 ·rename_i cs
  split at h
  ·rename_i fs ht
   obtain⟨F,hF,Gm⟩:=AD ht
   split at h
   ·rename_i off ty hf
    split at h
    ·rename_i n hn
     split at h
     ·rename_i v' hv
      simp only[Option.some.injEq,Prod.mk.injEq]at h
      obtain⟨rfl,rfl⟩:=h
      simp only[AV.den]at hx
      obtain⟨us,hd,rfl,U⟩:=hx
      have qp:∃fd:Field,F[f]?=some fd/\fd.offset=off/\fd.type=ty:=by
       rw[<-Gm,List.getElem?_map]at hf
       simp at hf
       obtain⟨fd,U,h2,h3⟩:=hf
       exact⟨fd,U,h2,h3⟩
      obtain⟨fd,yZ,VV,F5⟩:=qp
      subst F5;subst VV
      obtain⟨⟨u,hu⟩,_⟩:=nH hn
      have hlen:=jm cs us hd
      obtain⟨h2,h3⟩:=Dk hu hv (Bg n _ _ (Bf fd.offset cs us hd)) (fun x hx=>U x (List.mem_of_mem_drop (List.mem_of_mem_take hx)))
      refine⟨_,?_,h2⟩
      have qu:=DP hu w
      cases hb:(TK.of u).agg with
      |true=>
       rw[hb]at qu
       simp[Instr.field,run_underlying hF,yZ,asAgg,part,qu,run_sizeOf hn]
      |false=>
       rw[hb]at qu
       have fD:=h3 hb
       have ei:n=1:=by
        rw[List.length_take,List.length_drop]at fD
        omega
       subst ei
       have ag:fd.offset<us.length:=by omega
       have e1:((us.drop fd.offset).take 1).getD 0 undef=us[fd.offset]:=by
        simp[List.getD,List.getElem?_take,ag]
       simp[Instr.field,run_underlying hF,yZ,asAgg,part,qu,ag]
     ·cases h
    ·cases h
   ·cases h
  ·cases h
 ·cases h
theorem Sa {i:Nat} {x:AV} {p:Value} {sc:Prop} {v:AV} (h:A1 i x=some (sc,v)) (hx:AV.den w φ I x p):eI P w (Instr.extract p i) φ I v:=by
 unfold A1 at h
 split at h
 ·rename_i vs
  split at h
  ·rename_i v' hv
   simp only[Option.some.injEq,Prod.mk.injEq]at h
   obtain⟨_,rfl⟩:=h
   simp only[AV.den]at hx
   obtain⟨us,hd,rfl⟩:=hx
   obtain⟨u,hu,dz⟩:=gP vs us i _ hd hv
   exact⟨u,by simp[Instr.extract,hu],dz⟩
  ·cases h
 ·cases h
theorem Sl {x y:AV} {p q:Value} {sc:Prop} {v:AV} {ts:Array TypeId} {ty:TypeId} (h:A_ x y=some (sc,v)) (hx:AV.den w φ I x p) (hy:AV.den w φ I y q):eI P w (Builtin.min_ ts ty #[p,q]) φ I v:=by
 unfold A_ at h
 split at h
 ·rw[fU]at hx hy
  subst hx;subst hy
  simp only[Option.some.injEq,Prod.mk.injEq]at h
  obtain⟨_,rfl⟩:=h
  exact⟨_,by simp[Builtin.min_,Builtin.min2],oX⟩
 ·cases h
theorem Sk {x y:AV} {p q:Value} {sc:Prop} {v:AV} {ts:Array TypeId} {ty:TypeId} (h:A9 x y=some (sc,v)) (hx:AV.den w φ I x p) (hy:AV.den w φ I y q):eI P w (Builtin.max_ ts ty #[p,q]) φ I v:=by
 unfold A9 at h
 split at h
 ·rw[fU]at hx hy
  subst hx;subst hy
  simp only[Option.some.injEq,Prod.mk.injEq]at h
  obtain⟨_,rfl⟩:=h
  exact⟨_,by simp[Builtin.max_,Builtin.max2],oX⟩
 ·cases h
theorem Sn {c x y:AV} {pc p q:Value} {sc:Prop} {v:AV} (h:Bb c x y=some (sc,v)) (ay:sc) (hc:AV.den w φ I c pc) (hx:AV.den w φ I x p) (hy:AV.den w φ I y q):
  ∃b:Bool,pc= .bool b/\AV.den w φ I v (if b then p else q):=by
 unfold Bb at h
 split at h
 ·rename_i cb gY
  split at h
  ·rename_i xb yb so CS
   simp only[Option.some.injEq,Prod.mk.injEq]at h
   obtain⟨rfl,rfl⟩:=h
   have dU:=ca hc ay.1
   rw[gY,rF]at dU
   subst dU
   refine⟨cb,rfl,?_⟩
   cases cb with
   |true=>
    have:=ca hx (ay.2.1 rfl)
    rw[so]at this
    simpa[pk]using this
   |false=>
    have:=ca hy (ay.2.2 rfl)
    rw[CS]at this
    simpa[pk]using this
  ·cases cb with
   |true=>
    simp only[Option.some.injEq,Prod.mk.injEq]at h
    obtain⟨rfl,rfl⟩:=h
    have dU:=ca hc ay.1
    rw[gY,rF]at dU
    subst dU
    exact⟨true,rfl,by simpa using ca hx ay.2⟩
   |false=>
    simp only[Option.some.injEq,Prod.mk.injEq]at h
    obtain⟨rfl,rfl⟩:=h
    have dU:=ca hc ay.1
    rw[gY,rF]at dU
    subst dU
    exact⟨false,rfl,by simpa using ca hy ay.2⟩
 ·cases h
theorem s0 {k:IntKind} {n:Int} {y:Nat} {code:BoundsCode} (h0:0<=n) (U:n<=y):(Instr.sliceBound (.int k n) y code).run P w= .ok n.toNat w:=by
 simp[Instr.sliceBound,asIntOf,h0,U]
theorem By:∀(k:Nat) (xs:List (List IV)) (us:List (List Value)),IV.aE w I xs us->IV.aE w I (xs.drop k) (us.drop k)
 |0,_,_,h=>by simpa using h
 |k+1,[],us,h=>by simp only[IV.aE]at h;subst h;simp[IV.aE]
 |k+1,x::xs,us,h=>by
  simp only[IV.aE]at h
  obtain⟨u,ak,rfl,U,h2⟩:=h
  simpa using By k xs ak h2
theorem BC:∀(k:Nat) (xs:List (List IV)) (us:List (List Value)),IV.aE w I xs us->IV.aE w I (xs.take k) (us.take k)
 |0,_,_,h=>by simp[IV.aE]
 |k+1,[],us,h=>by simp only[IV.aE]at h;subst h;simp[IV.aE]
 |k+1,x::xs,us,h=>by
  simp only[IV.aE]at h
  obtain⟨u,ak,rfl,U,h2⟩:=h
  simp only[List.take_succ_cons,IV.aE]
  exact⟨u,_,rfl,U,BC k xs ak h2⟩
theorem vH:∀(k:Nat) (ae:List (List Value)) (es:Nat),(∀vs∈ae,vs.length=es)->k<=ae.length->(ae.drop k).flatten=ae.flatten.drop (k*es)
 |0,ae,es,_,_=>by simp
 |k+1,[],es,_,h=>by simp at h
 |k+1,x::xs,es,hl,h=>by
  have hx:x.length=es:=hl x (by simp)
  rw[List.drop_succ_cons,List.flatten_cons,vH k xs es (fun vs hv=>hl vs (by simp[hv])) (by simpa using h)]
  rw[show(k+1)*es=x.length+k*es by rw[hx,Nat.add_mul];omega,List.drop_append]
  simp
theorem yB:∀(k:Nat) (ae:List (List Value)) (es:Nat),(∀vs∈ae,vs.length=es)->k<=ae.length->(ae.take k).flatten=ae.flatten.take (k*es)
 |0,ae,es,_,_=>by simp
 |k+1,[],es,_,h=>by simp at h
 |k+1,x::xs,es,hl,h=>by
  have hx:x.length=es:=hl x (by simp)
  rw[List.take_succ_cons,List.flatten_cons,List.flatten_cons,yB k xs es (fun vs hv=>hl vs (by simp[hv])) (by simpa using h)]
  rw[show(k+1)*es=x.length+k*es by rw[hx,Nat.add_mul];omega,List.take_append,List.take_of_length_le (l:=x) (by omega)]
  simp
theorem DW {es:Nat} {rows:List (List IV)} {p:Option Addr} {c l h:Nat} {ae:List (List Value)} (hr:IV.aE w I rows ae) (hl:∀vs∈ae,vs.length=es)
  (ha:rows≠[]->∃g off,p=some ⟨g,off,none⟩/\I g/\cQ w g off ae.flatten) (hlh:l<=h) (hh:h<=rows.length) (hc:rows.length<=c):
  AV.den w φ I (.im (.sl es ((rows.take h).drop l))) (.slice (if c=l then p else p.map (·.add (l*es))) (h-l) (c-l)):=by
 simp only[AV.den,IV.den]
 have fF:=lA rows ae hr
 have hlen:((rows.take h).drop l).length=h-l:=by rw[List.length_drop,List.length_take];omega
 refine⟨_,c-l,(ae.take h).drop l,by rw[hlen],by rw[hlen];omega,By l _ _ (BC h _ _ hr),fun vs hv=>hl vs (List.mem_of_mem_take (List.mem_of_mem_drop hv)),fun hn=>?_⟩
 have ag:l<h:=by
  rcases Nat.lt_or_ge l h with h'|h'
  ·exact h'
  ·exact absurd (List.eq_nil_of_length_eq_zero (by rw[hlen];omega)) hn
 obtain⟨g,off,rfl,hg,dp⟩:=ha (by intro e;rw[e]at hh;simp at hh;omega)
 refine⟨g,off+l*es,?_,hg,?_⟩
 ·rw[if_neg (by omega)]
  simp[addr_add]
 ·have mq:(ae.take h).length=h:=by rw[List.length_take];omega
  rw[vH l _ es (fun vs hv=>hl vs (List.mem_of_mem_take hv)) (by omega),yB h ae es hl (by omega)]
  exact(dp.take (h*es)).drop (l*es)
theorem EC {b:Bool} {len cap:Nat} {k k':IntKind} {l h:Int} (h0:0<=l) (U:l<=h) (h2:h<=cap):
  (Instr.sliceBounds b len cap (some (.int k l)) (some (.int k' h)) none).run P w= .ok (l.toNat,h.toNat,cap) w:=by
 have e1:=fun code=>s0 (P:=P) (w:=w) (k:=k') (n:=h) (y:=cap) (code:=code) (by omega) h2
 have e2:=fun code=>s0 (P:=P) (w:=w) (k:=k) (n:=l) (y:=h.toNat) (code:=code) h0 (by omega)
 simp[Instr.sliceBounds,e1,e2]
theorem EB {b:Bool} {len cap:Nat} {k:IntKind} {l:Int} (h0:0<=l) (U:l<=len):
  (Instr.sliceBounds b len cap (some (.int k l)) none none).run P w= .ok (l.toNat,len,cap) w:=by
 have e2:=fun code=>s0 (P:=P) (w:=w) (k:=k) (n:=l) (y:=len) (code:=code) h0 U
 simp[Instr.sliceBounds,e2]
theorem ye {b:Bool} {len cap:Nat} {k:IntKind} {h:Int} (h0:0<=h) (h2:h<=cap):
  (Instr.sliceBounds b len cap none (some (.int k h)) none).run P w= .ok (0,h.toNat,cap) w:=by
 have e1:=fun code=>s0 (P:=P) (w:=w) (k:=k) (n:=h) (y:=cap) (code:=code) h0 h2
 simp[Instr.sliceBounds,e1]
theorem DX {t:TypeId} {s:ByteArray} {plo phi:Option Value} {l h:Nat} (ht:tk P t= .str) (hb:(Instr.sliceBounds false s.size s.size plo phi none).run P w= .ok (l,h,s.size) w):
  (Instr.sliceAt t (.string s) plo phi none).run P w= .ok (.string (s.extract l h)) w:=by
 simp[Instr.sliceAt,Instr.slice,run_underlying (mJ ht),hb]
theorem s3 {t e:TypeId} {es n c:Nat} {p:Option Addr} {plo phi:Option Value} {l h:Nat} (ht:tk P t= .slice e) (bW:sz P e=some es) (hb:(Instr.sliceBounds true n c plo phi none).run P w= .ok (l,h,c) w):
  (Instr.sliceAt t (.slice p n c) plo phi none).run P w= .ok (.slice (if c=l then p else p.map (·.add (l*es))) (h-l) (c-l)) w:=by
 simp[Instr.sliceAt,Instr.slice,run_underlying (eU ht),hb,run_sizeOf bW]
theorem Er {t:TypeId} {lo hi:Option AV} {x:AV} {p:Value} {plo phi:Option Value} {sc:Prop} {v:AV} (h:vm P t lo hi x=some (sc,v)) (ay:sc) (hx:AV.den w φ I x p)
  (dH:∀y,lo=some y->∃u,plo=some u/\AV.den w φ I y u) (MS:lo=none->plo=none) (Cq:∀y,hi=some y->∃u,phi=some u/\AV.den w φ I y u) (MB:hi=none->phi=none):
  eI P w (Instr.sliceAt t p plo phi none) φ I v:=by
 unfold vm at h
 split at h
 ·rename_i s
  rw[ma]at hx
  subst hx
  split at h
  ·rename_i ht
   obtain⟨_,rfl,hl⟩:=dH _ rfl
   obtain⟨_,rfl,hh⟩:=Cq _ rfl
   rw[fU]at hl hh
   subst hl;subst hh
   simp only[Option.some.injEq,Prod.mk.injEq]at h
   obtain⟨rfl,rfl⟩:=h
   obtain⟨h0,U,h2⟩:=ay
   exact⟨_,DX ht (EC h0 U h2),qj⟩
  ·rename_i ht
   obtain⟨_,rfl,hl⟩:=dH _ rfl
   obtain rfl:=MB rfl
   rw[fU]at hl
   subst hl
   simp only[Option.some.injEq,Prod.mk.injEq]at h
   obtain⟨rfl,rfl⟩:=h
   obtain⟨h0,U⟩:=ay
   exact⟨_,DX ht (EB h0 U),qj⟩
  ·rename_i ht
   obtain⟨_,rfl,hh⟩:=Cq _ rfl
   obtain rfl:=MS rfl
   rw[fU]at hh
   subst hh
   simp only[Option.some.injEq,Prod.mk.injEq]at h
   obtain⟨rfl,rfl⟩:=h
   obtain⟨h0,U⟩:=ay
   exact⟨_,DX ht (ye h0 U),qj⟩
  ·cases h
 ·rename_i es rows
  simp only[AV.den,IV.den]at hx
  obtain⟨pp,c,ae,rfl,hc,hr,hl,ha⟩:=hx
  split at h
  ·rename_i e _ lv _ hv ht
   cases hd:decide (sz P e=some es)with
   |false=>rw[hd]at h;simp at h
   |true=>
    rw[hd]at h
    simp only[cond_true,Option.some.injEq,Prod.mk.injEq]at h
    obtain⟨rfl,rfl⟩:=h
    have aO:=of_decide_eq_true hd
    obtain⟨_,rfl,fD⟩:=dH _ rfl
    obtain⟨_,rfl,hh⟩:=Cq _ rfl
    rw[fU]at fD hh
    subst fD;subst hh
    obtain⟨h0,U,h2⟩:=ay
    exact⟨_,s3 ht aO (EC h0 U (by omega)),DW hr hl ha (by omega) (by omega) hc⟩
  ·rename_i e _ lv ht
   cases hd:decide (sz P e=some es)with
   |false=>rw[hd]at h;simp at h
   |true=>
    rw[hd]at h
    simp only[cond_true,Option.some.injEq,Prod.mk.injEq]at h
    obtain⟨rfl,rfl⟩:=h
    have aO:=of_decide_eq_true hd
    obtain⟨_,rfl,fD⟩:=dH _ rfl
    obtain rfl:=MB rfl
    rw[fU]at fD
    subst fD
    obtain⟨h0,U⟩:=ay
    refine⟨_,s3 ht aO (EB h0 U),?_⟩
    have:=DW (φ:=φ) (l:=lv.toNat) (h:=rows.length) hr hl ha (by omega) (Nat.le_refl _) hc
    rw[List.take_length]at this
    exact this
  ·rename_i e _ hv ht
   cases hd:decide (sz P e=some es)with
   |false=>rw[hd]at h;simp at h
   |true=>
    rw[hd]at h
    simp only[cond_true,Option.some.injEq,Prod.mk.injEq]at h
    obtain⟨rfl,rfl⟩:=h
    have aO:=of_decide_eq_true hd
    obtain⟨_,rfl,hh⟩:=Cq _ rfl
    obtain rfl:=MS rfl
    rw[fU]at hh
    subst hh
    obtain⟨h0,U⟩:=ay
    refine⟨_,s3 ht aO (ye h0 (by omega)),?_⟩
    have:=DW (φ:=φ) (l:=0) (h:=hv.toNat) hr hl ha (by omega) (by omega) hc
    rw[List.drop_zero]at this
    exact this
  ·cases h
 ·cases h
end
section
variable {P:Program} {w:World} {φ:ai} {I:Nat->Prop} {E:Env} {H:aa} {a:Act}
def lj (cs:List Value) (off:Nat):List Value->List Value
 |[]=>cs
 |x::xs=>lj (cs.set off x) (off+1) xs
theorem OH {α:Type}:∀(l:List α) (k:Nat) (f:Nat->α->α×Nat),(∀i x,f i x=(x,i+k))->l.mapIdx f=l.zipIdx k
 |[],_,_,_=>rfl
 |x::l,k,f,hf=>by
  rw[List.mapIdx_cons,List.zipIdx_cons,hf 0 x,Nat.zero_add,OH l (k+1) (fun i=>f (i+1)) (fun i x=>by rw[hf];simp;omega)]
theorem Yv {α:Type} (l:List α):l.mapIdx (fun i a=>(a,i))=l.zipIdx:=OH l 0 _ (fun _ _=>rfl)
theorem Lr:∀(ws:List Value) (k off:Nat) (cs:List Value),
  ((ws.zipIdx k).foldl (fun(cs:Array Value) (p:Value×Nat)=>cs.setIfInBounds (off+p.2) p.1) cs.toArray)=(lj cs (off+k) ws).toArray
 |[],_,_,_=>rfl
 |x::ws,k,off,cs=>by
  simp only[List.zipIdx_cons,List.foldl_cons,lj,List.setIfInBounds_toArray]
  rw[Lr ws (k+1) off (cs.set (off+k) x)]
  rfl
theorem JI:∀(cs:List AV) (us:List Value) (i:Nat) (x:AV) (u:Value),AV.ab w φ I cs us->AV.den w φ I x u->AV.ab w φ I (cs.set i x) (us.set i u)
 |[],us,i,x,u,h,_=>by simp only[AV.ab]at h;subst h;simp[AV.ab]
 |c::cs,us,i,x,u,h,hx=>by
  simp only[AV.ab]at h
  obtain⟨u0,ak,rfl,U,h2⟩:=h
  cases i with
  |zero=>simp only[List.set_cons_zero,AV.ab];exact⟨u,ak,rfl,hx,h2⟩
  |succ i=>simp only[List.set_cons_succ,AV.ab];exact⟨u0,_,rfl,U,JI cs ak i x u h2 hx⟩
theorem IM:∀(ys:List AV) (ws:List Value) (off:Nat) (cs:List AV) (us:List Value),AV.ab w φ I cs us->AV.ab w φ I ys ws->AV.ab w φ I (setAt cs off ys) (lj us off ws)
 |[],ws,off,cs,us,h,hy=>by simp only[AV.ab]at hy;subst hy;exact h
 |y::ys,ws,off,cs,us,h,hy=>by
  simp only[AV.ab]at hy
  obtain⟨u0,ak,rfl,U,h2⟩:=hy
  simp only[setAt,lj]
  exact IM ys ak (off+1) _ _ (JI cs us off y u0 h U) h2
theorem IL:∀(ws:List Value) (off:Nat) (us:List Value),(∀x∈us,x.oneCell'=true)->(∀x∈ws,x.oneCell'=true)->∀x∈lj us off ws,x.oneCell'=true
 |[],_,_,h,_=>h
 |y::ws,off,us,h,hw=>IL ws (off+1) _ (fun x hx=>by
   rcases List.mem_or_eq_of_mem_set hx with h'|rfl
   ·exact h x h'
   ·exact hw _ (by simp)) (fun x hx=>hw x (by simp[hx]))
theorem DS:∀(ws:List Value) (off:Nat) (us:List Value),(lj us off ws).length=us.length
 |[],_,_=>rfl
 |y::ws,off,us=>by simp only[lj];rw[DS ws (off+1)];simp
theorem tw {u:Value} (h:u.oneCell'=true):u.cells=#[u]:=by cases u<;>first|rfl|cases h
theorem Bq {x:AV} {ys:List AV} {u:Value} (h:tv x=some ys) (hx:AV.den w φ I x u):∃ws,u.cells=ws.toArray/\AV.ab w φ I ys ws/\∀x∈ws,x.oneCell'=true:=by
 unfold tv at h
 split at h
 ·simp only[Option.some.injEq]at h;subst h
  simp only[AV.den]at hx
  obtain⟨us,hd,rfl,U⟩:=hx
  exact⟨us,rfl,hd,U⟩
 ·rename_i y
  simp only[Option.some.injEq]at h;subst h
  have U:=N3 y u (by simpa only[AV.den]using hx)
  exact⟨[u],tw U,by simp only[AV.ab];exact⟨u,[],rfl,hx,rfl⟩,by simpa using U⟩
 ·simp only[Option.some.injEq]at h;subst h
  have U:u.oneCell'=true:=by simp only[AV.den]at hx;obtain⟨_,_,rfl⟩:=hx;rfl
  exact⟨[u],tw U,by simp only[AV.ab];exact⟨u,[],rfl,hx,rfl⟩,by simpa using U⟩
 ·simp only[Option.some.injEq]at h;subst h
  have U:u.oneCell'=true:=by simp only[AV.den]at hx;rcases hx with⟨_,_,_,rfl⟩|⟨_,_,_,rfl,_⟩<;>rfl
  exact⟨[u],tw U,by simp only[AV.ab];exact⟨u,[],rfl,hx,rfl⟩,by simpa using U⟩
 ·simp only[Option.some.injEq]at h;subst h
  have U:u.oneCell'=true:=by simp only[AV.den]at hx;obtain⟨_,_,rfl⟩:=hx;rfl
  exact⟨[u],tw U,by simp only[AV.ab];exact⟨u,[],rfl,hx,rfl⟩,by simpa using U⟩
 ·simp only[Option.some.injEq]at h;subst h
  have U:u.oneCell'=true:=by simp only[AV.den]at hx;obtain⟨_,_,_,_,rfl⟩:=hx;rfl
  exact⟨[u],tw U,by simp only[AV.ab];exact⟨u,[],rfl,hx,rfl⟩,by simpa using U⟩
 ·simp only[Option.some.injEq]at h;subst h
  have U:u.oneCell'=true:=by simp only[AV.den]at hx;obtain⟨_,_,rfl⟩:=hx;rfl
  exact⟨[u],tw U,by simp only[AV.ab];exact⟨u,[],rfl,hx,rfl⟩,by simpa using U⟩
 ·simp only[Option.some.injEq]at h;subst h
  have U:u.oneCell'=true:=by simp only[AV.den,WK.rel]at hx;obtain⟨_,rfl,_⟩:=hx;rfl
  exact⟨[u],tw U,by simp only[AV.ab];exact⟨u,[],rfl,hx,rfl⟩,by simpa using U⟩
 ·simp only[Option.some.injEq]at h;subst h
  simp only[AV.den]at hx
  obtain⟨us,hd,rfl⟩:=hx
  refine⟨us,rfl,?_,ss _ us hd⟩
  have:∀(cs:List IV) (us:List Value),IV.ab w I cs us->AV.ab w φ I (cs.map .im) us:=by
   intro cs
   induction cs with
   |nil=>intro us h;simpa only[IV.ab,AV.ab,List.map_nil]using h
   |cons c cs ih=>
    intro us h
    simp only[IV.ab]at h
    obtain⟨u,ak,rfl,U,h2⟩:=h
    simp only[List.map_cons,AV.ab]
    exact⟨u,ak,rfl,by simpa only[AV.den]using U,ih ak h2⟩
  exact this _ _ hd
 ·cases h
theorem Fa {place:Nat->Option (Nat×Nat)} (hE:dS w φ I E a):∀(parts:List (Nat×Operand)) (cs cs':List AV) (us:List Value),fillParts place E cs parts=some cs'->AV.ab w φ I cs us->(∀x∈us,x.oneCell'=true)->
  ∃ak,Instr.fill place us.toArray (parts.map fun p=>(p.1,a.eval p.2))=some ak.toArray/\AV.ab w φ I cs' ak/\(∀x∈ak,x.oneCell'=true)/\ak.length=us.length
 |[],cs,cs',us,h,hd,U=>by
  simp only[fillParts,Option.some.injEq]at h
  subst h
  exact⟨us,rfl,hd,U,rfl⟩
 |(i,x)::parts,cs,cs',us,h,hd,U=>by
  simp only[fillParts]at h
  split at h
  ·rename_i off n av hp mX
   split at h
   ·rename_i ys hy
    cases hb:(Nat.beq ys.length n&&decide (off+n<=cs.length))with
    |false=>rw[hb]at h;simp at h
    |true=>
     rw[hb]at h
     simp only[cond_true]at h
     simp only[Bool.and_eq_true,decide_eq_true_eq]at hb
     have hn:=Nat.eq_of_beq_eq_true hb.1
     obtain⟨ws,hw,kQ,cL⟩:=Bq hy (aH hE mX)
     have hlen:=jm cs us hd
     have mr:ws.length=n:=by rw[jm ys ws kQ];exact hn
     obtain⟨ak,h2,h3,h4,h5⟩:=Fa hE parts _ cs' (lj us off ws) h (IM ys ws off cs us hd kQ) (IL ws off us U cL)
     refine⟨ak,?_,h3,h4,by rw[h5,DS]⟩
     simp only[List.map_cons,Instr.fill,hp]
     rw[if_neg (by simp[hw,mr];omega)]
     rw[hw]
     have:=Lr ws 0 off us
     simp only[Nat.add_zero]at this
     have e2:(Array.foldl (fun(cs:Array Value) (x:Value×Nat)=>cs.setIfInBounds (off+x.2) x.1) us.toArray ws.toArray.zipIdx)=(lj us off ws).toArray:=by
      rw[<-this,Array.zipIdx,<-Array.foldl_toList];simp[Yv]
     rw[<-h2]
     congr 1
   ·cases h
  ·cases h
theorem va {t:TypeId} {z:List Value} (h:aA P t=some z):∃i zv,P.info? t=some i/\i.zero=some zv/\zv.cells.toList=z:=by
 unfold aA at h
 cases hi:P.info? t with
 |none=>rw[hi]at h;cases h
 |some i=>
  rw[hi]at h
  simp only[Option.bind_some]at h
  cases hz:i.zero with
  |none=>rw[hz]at h;cases h
  |some zv=>rw[hz]at h;exact⟨i,zv,rfl,hz,by simpa using h⟩
theorem Pz:∀(F:List Field) (pl:List (Nat×Nat)),placesOf P (F.map fun f=>(f.offset,f.type))=some pl->F.mapM (fun f=>(P.info? f.type).map fun i=>(f.offset,i.size))=some pl
 |[],pl,h=>by simpa[placesOf]using h
 |f::F,pl,h=>by
  simp only[List.map_cons,placesOf]at h
  split at h
  ·rename_i n l hn hl
   simp only[Option.some.injEq]at h
   subst h
   obtain⟨_,i,hi,rfl⟩:=nH hn
   simp[List.mapM_cons,hi,Pz F l hl]
  ·cases h
theorem Ir (parts:Array (Nat×Operand)) (a:Act):(parts.map fun(i,x)=>(i,a.eval x)).toList=parts.toList.map fun p=>(p.1,a.eval p.2):=by simp
theorem R8 (hE:dS w φ I E a) {t:TypeId} {parts:Array (Nat×Operand)} {sc:Prop} {v:AV} (h:aBuild P t parts.toList E=some (sc,v)):
  eI P w (Instr.build t (parts.map fun(i,x)=>(i,a.eval x))) φ I v:=by
 unfold aBuild at h
 split at h
 ·rename_i fs z ht hz
  obtain⟨F,hF,rfl⟩:=AD ht
  obtain⟨it,zv,hit,ov,rfl⟩:=va hz
  split at h
  ·rename_i pl lQ
   split at h
   ·rename_i cs gY
    cases hb:zv.cells.toList.all Value.oneCell' with
    |false=>rw[hb]at h;simp at h
    |true=>
     rw[hb]at h
     simp only[cond_true,Option.some.injEq,Prod.mk.injEq]at h
     obtain⟨_,rfl⟩:=h
     obtain⟨ak,h2,h3,h4,h5⟩:=Fa (w:=w) (φ:=φ) (I:=I) hE _ _ _ zv.cells.toList gY (yq _ hb) (List.all_eq_true.1 hb)
     refine⟨.agg ak.toArray,run_build w t _ _ ?_,by simp only[AV.den];exact⟨ak,h3,rfl,h4⟩⟩
     simp only[Program.built,hit,hF,ov,Pz _ _ lQ]
     rw[Ir,<-h2]
     simp
   ·cases h
  ·cases h
 ·rename_i m e z ht hz
  obtain⟨it,zv,hit,ov,rfl⟩:=va hz
  split at h
  ·rename_i n hn
   obtain⟨_,ie,fM,rfl⟩:=nH hn
   split at h
   ·rename_i cs gY
    cases hb:zv.cells.toList.all Value.oneCell' with
    |false=>rw[hb]at h;simp at h
    |true=>
     rw[hb]at h
     simp only[cond_true,Option.some.injEq,Prod.mk.injEq]at h
     obtain⟨_,rfl⟩:=h
     obtain⟨ak,h2,h3,h4,h5⟩:=Fa (w:=w) (φ:=φ) (I:=I) hE _ _ _ zv.cells.toList gY (yq _ hb) (List.all_eq_true.1 hb)
     refine⟨.agg ak.toArray,run_build w t _ _ ?_,by simp only[AV.den];exact⟨ak,h3,rfl,h4⟩⟩
     simp only[Program.built,hit,uZ ht,ov,fM]
     rw[Ir,<-h2]
   ·cases h
  ·cases h
 ·cases h
theorem SK (hE:dS w φ I E a) (hR:Real w φ I H) {o:Oper} {sc:Prop} {v:AV} (h:e7 P E H o.op=some (sc,v)) (ay:sc):
  ∃u,(execOp a.eval o).run P w= .ok (.value u) w/\AV.den w φ I v u:=by
 have fin:∀{s:Sem Value},eI P w s φ I v->(execOp a.eval o=do pure (.value (<-s)))->∃u,(execOp a.eval o).run P w= .ok (.value u) w/\AV.den w φ I v u:=by
  intro s ⟨u,hu,hd⟩ he
  exact⟨u,by rw[he];simp[hu],hd⟩
 obtain⟨dst,op,ty,pos,after,guard⟩:=o
 simp only at h⊢
 unfold e7 at h
 split at h
 ·rename_i x
  split at h
  ·rename_i av hx
   simp only[Option.some.injEq,Prod.mk.injEq]at h
   obtain⟨_,rfl⟩:=h
   exact⟨_,rfl,aH hE hx⟩
  ·cases h
 ·rename_i x
  split at h
  ·rename_i av hx
   simp only[Option.some.injEq,Prod.mk.injEq]at h
   obtain⟨_,rfl⟩:=h
   exact⟨_,rfl,aH hE hx⟩
  ·cases h
 ·rename_i c x y
  split at h
  ·rename_i cv xv yv hc hx hy
   obtain⟨b,hb,hd⟩:=Sn h ay (aH hE hc) (aH hE hx) (aH hE hy)
   refine⟨_,?_,hd⟩
   simp[execOp,hb,asBool]
  ·cases h
 ·rename_i op t x y _
  obtain⟨xa,ya,cW,hx,hy,hf,cI,g1,g2⟩:=oV h ay
  exact fin (R6 (ox:=x) (oy:=y) hf cI (ca (aH hE hx) g1) (ca (aH hE hy) g2)) rfl
 ·rename_i op t x
  obtain⟨xa,cW,hx,hf,cI,g1⟩:=jL h ay
  exact fin (Ss hf (ca (aH hE hx) g1)) rfl
 ·rename_i s d x
  obtain⟨xa,cW,hx,hf,cI,g1⟩:=jL h ay
  split at hf
  ·exact fin (R_ hf (ca (aH hE hx) g1) (by rename_i hs;exact Option.isSome_iff_exists.1 hs)) rfl
  ·cases hf
 ·rename_i x
  obtain⟨xa,cW,hx,hf,cI,g1⟩:=jL h ay
  exact⟨_,Sm (o:=⟨dst,.nilCheck x,ty,pos,after,guard⟩) rfl hf (ca (aH hE hx) g1) rfl⟩
 ·obtain⟨xa,ya,cW,hx,hy,hf,cI,g1,g2⟩:=oV h ay
  exact fin (Sf hf cI (ca (aH hE hx) g1) (ca (aH hE hy) g2)) rfl
 ·obtain⟨xa,ya,cW,hx,hy,hf,cI,g1,g2⟩:=oV h ay
  exact fin (Se hf cI (ca (aH hE hx) g1) (ca (aH hE hy) g2)) rfl
 ·obtain⟨xa,cW,hx,hf,cI,g1⟩:=jL h ay
  exact fin (Sb hf (ca (aH hE hx) g1)) rfl
 ·obtain⟨xa,cW,hx,hf,cI,g1⟩:=jL h ay
  exact fin (Sc hf cI (ca (aH hE hx) g1)) rfl
 ·obtain⟨xa,cW,hx,hf,cI,g1⟩:=jL h ay
  exact fin (Ep hR hf cI (ca (aH hE hx) g1)) rfl
 ·obtain⟨xa,cW,hx,hf,cI,g1⟩:=jL h ay
  exact fin (Sa hf (ca (aH hE hx) g1)) rfl
 ·exact fin (R8 hE h) rfl
 ·rename_i args ts
  split at h
  ·rename_i x t de W9
   obtain⟨xa,cW,hx,hf,cI,g1⟩:=jL h ay
   obtain rfl:args=#[x]:=by cases args;simpa using de
   obtain rfl:ts=#[t]:=by cases ts;simpa using W9
   obtain⟨u,hu,hd⟩:=Sj (ty:=ty) hf (ca (aH hE hx) g1)
   exact⟨u,by simp[execOp,resolve,invoke,builtin,hu],hd⟩
  ·cases h
 ·rename_i args ts
  split at h
  ·rename_i x y de
   obtain⟨xa,ya,cW,hx,hy,hf,cI,g1,g2⟩:=oV h ay
   obtain rfl:args=#[x,y]:=by cases args;simpa using de
   obtain⟨u,hu,hd⟩:=Sl (P:=P) (ts:=ts) (ty:=ty) hf (ca (aH hE hx) g1) (ca (aH hE hy) g2)
   exact⟨u,by simp[execOp,resolve,invoke,builtin,hu],hd⟩
  ·cases h
 ·rename_i args ts
  split at h
  ·rename_i x y de
   obtain⟨xa,ya,cW,hx,hy,hf,cI,g1,g2⟩:=oV h ay
   obtain rfl:args=#[x,y]:=by cases args;simpa using de
   obtain⟨u,hu,hd⟩:=Sk (P:=P) (ts:=ts) (ty:=ty) hf (ca (aH hE hx) g1) (ca (aH hE hy) g2)
   exact⟨u,by simp[execOp,resolve,invoke,builtin,hu],hd⟩
  ·cases h
 ·rename_i t x lo hi
  split at h
  ·rename_i l hh
   split at h
   ·rename_i lv hv U h2
    obtain⟨xa,cW,hx,hf,cI,g1⟩:=jL h ay
    refine fin (Er (plo:=some (a.eval l)) (phi:=some (a.eval hh)) hf cI (ca (aH hE hx) g1) (fun y hy=>?_) (fun e=>by cases e) (fun y hy=>?_) (fun e=>by cases e)) rfl
    ·cases hy;exact⟨_,rfl,aH hE U⟩
    ·cases hy;exact⟨_,rfl,aH hE h2⟩
   ·cases h
  ·rename_i l
   split at h
   ·rename_i lv U
    obtain⟨xa,cW,hx,hf,cI,g1⟩:=jL h ay
    refine fin (Er (plo:=some (a.eval l)) (phi:=none) hf cI (ca (aH hE hx) g1) (fun y hy=>?_) (fun e=>by cases e) (fun y hy=>by cases hy) (fun _=>rfl)) rfl
    cases hy;exact⟨_,rfl,aH hE U⟩
   ·cases h
  ·rename_i hh
   split at h
   ·rename_i hv h2
    obtain⟨xa,cW,hx,hf,cI,g1⟩:=jL h ay
    refine fin (Er (plo:=none) (phi:=some (a.eval hh)) hf cI (ca (aH hE hx) g1) (fun y hy=>by cases hy) (fun _=>rfl) (fun y hy=>?_) (fun e=>by cases e)) rfl
    cases hy;exact⟨_,rfl,aH hE h2⟩
   ·cases h
  ·cases h
 ·cases h
end
def dT (E:Env):List Operand->Option (List AV)
 |[]=>some []
 |x::r=>match ev E x,dT E r with
  |some a,some l=>some (a::l)
  |_,_=>none
def gs:List AV->Bool
 |[]=>true
 |a::r=>a.g&&gs r
inductive NL where
 |nil|oI|ob (b o:Nat)
def lT:AV->Option (Prop×NL)
 | .im (.v (.pointer none))=>some (True,.nil)
 | .im (.v (.slice none _ _))=>some (True,.nil)
 | .im (.v .nilFunc)=>some (True,.nil)
 | .im (.pt _)=>some (True,.oI)
 | .im (.sl _ rows)=>some (rows≠[],.oI)
 | .ob b o=>some (True,.ob b o)
 | .oe _ _ _ _=>some (True,.oI)
 | .fn _ _ _=>some (True,.oI)
 |_=>none
def jG:AV->Nat
 | .im (.v (.pointer _))=>1
 | .im (.pt _)=>1
 | .ob _ _=>1
 | .oe _ _ _ _=>1
 | .im (.v (.slice _ _ _))=>2
 | .im (.sl _ _)=>2
 | .im (.v .nilFunc)=>3
 | .fn _ _ _=>3
 |_=>0
def sO:TK->Nat
 | .ptr _=>1
 | .slice _=>2
 | .func=>3
 |_=>4
def lS (P:Program) (t:TypeId):NL->NL->Option Bool
 | .nil,.nil=>some true
 | .nil,_=>some false
 |_,.nil=>some false
 | .ob b o,.ob b' o'=>match tk P t with
  | .ptr e=>match sz P e with
   |some (_+1)=>bif Nat.beq b b' then some (Nat.beq o o')else none
   |_=>none
  |_=>none
 |_,_=>none
def xY (P:Program) (t:TypeId) (neg:Bool) (x y:AV):Option (Prop×AV):=
 bif Nat.beq (jG x) (sO (tk P t))&&Nat.beq (jG y) (sO (tk P t))then match lT x,lT y with
  |some (p,a),some (q,b)=>match lS P t a b with
   |some r=>some (p/\q,.im (.v (.bool (r !=neg))))
   |none=>none
  |_,_=>none
 else none
def Kc:List IV->UInt8
 |[.v (.int .u8 n)]=>UInt8.ofNat n.toNat
 |_=>0
def N0 (r:List IV):Prop:=∃n:Int,r=[.v (.int .u8 n)]
def A0 (P:Program) (src dst:TypeId):AV->Option (Prop×AV)
 | .im (.v (.int _ n))=>match tk P dst with
  | .str=>some (True,.im (.v (.string (Utf8.encode n))))
  |_=>none
 | .im (.sl 1 rows)=>match tk P src,tk P dst with
  | .slice e,.str=>match tk P e with
   | .int .u8=>some (∀r∈rows,N0 r,.im (.v (.string ⟨(rows.map Kc).toArray⟩)))
   |_=>none
  |_,_=>none
 | .im (.v (.slice none _ _))=>match tk P src,tk P dst with
  | .slice e,.str=>match tk P e with
   | .int .u8=>some (True,.im (.v (.string ⟨#[]⟩)))
   |_=>none
  |_,_=>none
 |_=>none
def AW (P:Program) (arr:TypeId):AV->Option (Prop×AV)
 | .im (.sl _ rows)=>match tk P arr with
  | .arr (n+1) _=>some (n+1<=rows.length,.im (.pt rows.flatten))
  |_=>none
 |_=>none
def xZ (P:Program) (t:TypeId):AV->AV->Option AV->Option (Prop×AV)
 | .os b es i n,.im (.v (.int _ h)),none=>match tk P t with
  | .slice e=>bif decide (sz P e=some es)then some (0<=h/\h<=n,.os b es i h.toNat)else none
  |_=>none
 | .os b es i n,.im (.v (.int _ h)),some (.im (.v (.int _ m)))=>match tk P t with
  | .slice e=>bif decide (sz P e=some es)then some (0<=h/\h<=m/\m<=n,.os b es i h.toNat)else none
  |_=>none
 |_,_,_=>none
def jM (P:Program) (E:Env):Op->Option (Prop×AV)
 | .makeFunc (.func f) first cap=>match dT E first.toList,dT E cap.toList with
  |some l1,some l2=>some (gs l1=true/\gs l2=true,.fn f (l1.map AV.st) (l2.map AV.st))
  |_,_=>none
 | .sliceToArrayPointer arr x=>un (AW P arr) (ev E x)
 | .convert s d x=>un (fun a=>match(P.underlying s).isSome with
  |true=>A0 P s d a
  |false=>none) (ev E x)
 | .binOp op t x y _=>match op with
  | .eql=>bi (xY P t false) (ev E x) (ev E y)
  | .neq=>bi (xY P t true) (ev E x) (ev E y)
  |_=>none
 | .slice t x none (some h) none=>bi (fun a b=>xZ P t a b none) (ev E x) (ev E h)
 | .slice t x none (some h) (some m)=>match ev E m with
  |some mv=>match mv.g with
   |true=>bi (fun a b=>xZ P t a b (some mv.st)) (ev E x) (ev E h)
   |false=>none
  |none=>none
 |_=>none
def gw (E:Env) (d:Nat):Option Operand->Option (Prop×Nat)
 |none=>some (True,d)
 |some o=>match ev E o with
  |some a=>match a.st with
   | .im (.v (.int _ n))=>some (a.g=true/\0<=n,n.toNat)
   |_=>none
  |none=>none
def tm (P:Program) (H:aa) (t:TypeId) (E:Env) (lo hi:Option Operand):AV->Option (Prop×AV)
 | .im (.pt cs)=>match tk P t with
  | .arr n e=>bif decide (sz P e=some 1)then match gw E 0 lo,gw E n hi with
   |some (p,l),some (q,h)=>some (p/\q/\l<=h/\h<=n/\l<=n/\cs.length=n,.im (.sl 1 (((cs.drop l).take (h-l)).map fun c=>[c])))
   |_,_=>none
   else none
  |_=>none
 | .ob b 0=>match lk H b with
  |some (.vec _ 1 rows)=>match tk P t with
   | .arr n e=>bif decide (sz P e=some 1)then match gw E 0 lo,gw E n hi with
    |some (p,l),some (q,h)=>some (p/\q/\l<=h/\h<=n/\l<n/\n<=rows.length/\n<=1000000,.os b 1 l (h-l))
    |_,_=>none
    else none
   |_=>none
  |_=>none
 | .os b es j n=>match tk P t with
  | .slice e=>bif decide (sz P e=some es)then match gw E 0 lo,gw E n hi with
   |some (p,l),some (q,h)=>some (p/\q/\l<=h/\h<=n/\(l<n\/l=0),.os b es (j+l) (h-l))
   |_,_=>none
   else none
  |_=>none
 | .im (.v (.string s))=>match tk P t,gw E 0 lo,gw E s.size hi with
  | .str,some (p,l),some (q,h)=>some (p/\q/\l<=h/\h<=s.size,.im (.v (.string (s.extract l h))))
  |_,_,_=>none
 | .im (.sl es rows)=>match tk P t,gw E 0 lo,gw E rows.length hi with
  | .slice e,some (p,l),some (q,h)=>bif decide (sz P e=some es)then some (p/\q/\l<=h/\h<=rows.length,.im (.sl es ((rows.take h).drop l)))else none
  |_,_,_=>none
 |_=>none
def A5 (P:Program) (t:TypeId):AV->AV->Option (Prop×AV)
 | .im (.pt cs),.im (.v (.int _ i))=>match tk P t with
  | .arr n e=>bif decide (2<=n)then bif decide (sz P e=some 1)then some (0<=i/\i<n/\cs.length=n,.im (.pt [cs.getD i.toNat (.v (.bool false))]))else none else none
  |_=>none
 |_,_=>none
def xX (neg:Bool):AV->Option (Prop×AV)
 | .im (.v .nilIface)=>some (True,.im (.v (.bool (!neg))))
 | .wr (.iface _) _=>some (True,.im (.v (.bool neg)))
 |_=>none
def wH:Operand->Bool
 | .const .nilIface=>true
 |_=>false
def nN (P:Program) (E:Env) (H:aa):Op->Option (Prop×AV)
 | .slice t x lo hi none=>un (tm P H t E lo hi) (ev E x)
 | .indexAddr t x i=>bi (A5 P t) (ev E x) (ev E i)
 | .binOp op t x y _=>match wH y,op,tk P t with
  |true,.eql,.iface=>un (xX false) (ev E x)
  |true,.neq,.iface=>un (xX true) (ev E x)
  |_,_,_=>none
 |_=>none
def iu (P:Program) (E:Env) (H:aa) (op:Op):Option (Prop×AV):=match e7 P E H op with
 |some r=>some r
 |none=>match jM P E op with
  |some r=>some r
  |none=>nN P E H op
section
variable {P:Program} {w:World} {φ:ai} {I:Nat->Prop} {E:Env} {H:aa} {a:Act}
theorem mU {w:World} {φ:ai} {I:Nat->Prop} {a:Act} (hE:dS w φ I E a):∀(xs:List Operand) (l:List AV),dT E xs=some l->gs l=true->AV.ab w φ I (l.map AV.st) (xs.map a.eval)
 |[],l,h,_=>by simp only[dT,Option.some.injEq]at h;subst h;simp[AV.ab]
 |x::r,l,h,hg=>by
  simp only[dT]at h
  split at h
  ·rename_i av l' hx hl
   simp only[Option.some.injEq]at h
   subst h
   simp only[gs,Bool.and_eq_true]at hg
   simp only[List.map_cons,AV.ab]
   exact⟨_,_,rfl,ca (aH hE hx) hg.1,mU hE r l' hl hg.2⟩
  ·cases h
def NL.at (φ:ai):NL->Option Addr->Prop
 | .nil,p=>p=none
 | .oI,p=>∃q,p=some q
 | .ob b o,p=>∃g,φ b=some (some g)/\p=some ⟨g,o,none⟩
theorem Ib {x:AV} {u:Value} {p:Prop} {n:NL} (hk:jG x=1) (h:lT x=some (p,n)) (hp:p) (hx:AV.den w φ I x u):∃q,u= .pointer q/\n.at φ q:=by
 unfold lT at h
 split at h<;>simp only[jG]at hk<;>first|(exact absurd hk (by decide))|skip
 ·simp only[Option.some.injEq,Prod.mk.injEq]at h;obtain⟨_,rfl⟩:=h
  simp only[AV.den,IV.den]at hx;exact⟨none,hx.1,rfl⟩
 ·simp only[Option.some.injEq,Prod.mk.injEq]at h;obtain⟨_,rfl⟩:=h
  simp only[AV.den,IV.den]at hx
  obtain⟨g,off,us,rfl,_⟩:=hx
  exact⟨_,rfl,_,rfl⟩
 ·simp only[Option.some.injEq,Prod.mk.injEq]at h;obtain⟨_,rfl⟩:=h
  simp only[AV.den]at hx
  obtain⟨g,U,rfl⟩:=hx
  exact⟨_,rfl,g,U,rfl⟩
 ·simp only[Option.some.injEq,Prod.mk.injEq]at h;obtain⟨_,rfl⟩:=h
  simp only[AV.den]at hx
  obtain⟨g,U,rfl⟩:=hx
  exact⟨_,rfl,_,rfl⟩
 ·cases h
theorem Ic {x:AV} {u:Value} {p:Prop} {n:NL} (hk:jG x=2) (h:lT x=some (p,n)) (hp:p) (hx:AV.den w φ I x u):∃q l c,u= .slice q l c/\((n= .nil/\q=none)\/(n= .oI/\∃r,q=some r)):=by
 unfold lT at h
 split at h<;>simp only[jG]at hk<;>first|(exact absurd hk (by decide))|skip
 ·simp only[Option.some.injEq,Prod.mk.injEq]at h;obtain⟨_,rfl⟩:=h
  simp only[AV.den,IV.den]at hx;exact⟨_,_,_,hx.1,.inl ⟨rfl,rfl⟩⟩
 ·simp only[Option.some.injEq,Prod.mk.injEq]at h;obtain⟨rfl,rfl⟩:=h
  simp only[AV.den,IV.den]at hx
  obtain⟨q,c,ae,rfl,_,_,_,ha⟩:=hx
  obtain⟨g,off,rfl,_⟩:=ha hp
  exact⟨_,_,_,rfl,.inr ⟨rfl,_,rfl⟩⟩
 ·cases h
theorem Ie {x:AV} {u:Value} {p:Prop} {n:NL} (hk:jG x=3) (h:lT x=some (p,n)) (hx:AV.den w φ I x u):(n= .nil/\u= .nilFunc)\/(n= .oI/\∃f a b,u= .func f a b):=by
 unfold lT at h
 split at h<;>simp only[jG]at hk<;>first|(exact absurd hk (by decide))|skip
 ·simp only[Option.some.injEq,Prod.mk.injEq]at h;obtain⟨_,rfl⟩:=h
  simp only[AV.den,IV.den]at hx;exact .inl ⟨rfl,hx.1⟩
 ·simp only[Option.some.injEq,Prod.mk.injEq]at h;obtain⟨_,rfl⟩:=h
  simp only[AV.den]at hx
  obtain⟨us,vs,_,_,rfl⟩:=hx
  exact .inr ⟨rfl,_,_,_,rfl⟩
 ·cases h
theorem u5 {t e:TypeId} (h:tk P t= .ptr e):P.underlying t=some (.pointer e):=by
 obtain⟨u,hu,hk⟩:=q_ h (by simp)
 cases u<;>simp[TK.of]at hk
 subst hk;exact hu
theorem aa0 {t:TypeId} (h:tk P t= .func):∃a b c,P.underlying t=some (.func a b c):=by
 obtain⟨u,hu,hk⟩:=q_ h (by simp)
 cases u<;>simp[TK.of]at hk
 exact⟨_,_,_,hu⟩
theorem ZZ {t:TypeId} {x y:AV} {u v:Value} {p q:Prop} {n m:NL} {r:Bool} (iH:jG x=sO (tk P t)) (we:jG y=sO (tk P t)) (hx:lT x=some (p,n)) (hy:lT y=some (q,m)) (hp:p) (hq:q)
  (hr:lS P t n m=some r) (dx:AV.den w φ I x u) (dy:AV.den w φ I y v):(∀d,(Op.equalIn (d+1) t u v).run P w= .ok r w)/\(∀c,u≠ .agg c)/\u≠ .nilIface:=by
 cases ht:tk P t with
 |ptr e=>
  rw[ht]at iH we
  obtain⟨a,rfl,ha⟩:=Ib iH hx hp dx
  obtain⟨b,rfl,hb⟩:=Ib we hy hq dy
  refine⟨fun d=>?_,by simp,by simp⟩
  cases n with
  |nil=>
   simp only[NL.at]at ha;subst ha
   cases m with
   |nil=>simp only[NL.at]at hb;subst hb;simp only[lS,Option.some.injEq]at hr;subst hr;simp[Op.equalIn,run_underlying (u5 ht)]
   |oI=>simp only[NL.at]at hb;obtain⟨b',rfl⟩:=hb;simp only[lS,Option.some.injEq]at hr;subst hr;simp[Op.equalIn,run_underlying (u5 ht)]
   |ob b0 o0=>simp only[NL.at]at hb;obtain⟨g,_,rfl⟩:=hb;simp only[lS,Option.some.injEq]at hr;subst hr;simp[Op.equalIn,run_underlying (u5 ht)]
  |oI=>
   simp only[NL.at]at ha;obtain⟨a',rfl⟩:=ha
   cases m with
   |nil=>simp only[NL.at]at hb;subst hb;simp only[lS,Option.some.injEq]at hr;subst hr;simp[Op.equalIn,run_underlying (u5 ht)]
   |oI=>simp[lS]at hr
   |ob b0 o0=>simp[lS]at hr
  |ob b1 o1=>
   simp only[NL.at]at ha;obtain⟨g1,oa,rfl⟩:=ha
   cases m with
   |nil=>simp only[NL.at]at hb;subst hb;simp only[lS,Option.some.injEq]at hr;subst hr;simp[Op.equalIn,run_underlying (u5 ht)]
   |oI=>simp[lS]at hr
   |ob b0 o0=>
    simp only[NL.at]at hb;obtain⟨g0,Ci,rfl⟩:=hb
    simp only[lS,ht]at hr
    split at hr
    ·rename_i aO
     cases aj:Nat.beq b1 b0 with
     |false=>rw[aj]at hr;simp at hr
     |true=>
      rw[aj]at hr
      simp only[cond_true,Option.some.injEq]at hr
      subst hr
      have e1:=Nat.eq_of_beq_eq_true aj
      subst e1
      rw[oa]at Ci;cases Ci
      have hz:∀W,(sizeOf e).run P W= .ok _ W:=fun W=>run_sizeOf aO W
      simp[Op.equalIn,run_underlying (u5 ht),hz,sameAddr]
      by_cases ho:o1=o0
      ·subst ho;simp
      ·have:Nat.beq o1 o0=false:=by
        cases hq:Nat.beq o1 o0 with
        |false=>rfl
        |true=>exact absurd (Nat.eq_of_beq_eq_true hq) ho
       simp[this,ho]
    ·cases hr
 |slice e=>
  rw[ht]at iH we
  obtain⟨a,l1,c1,rfl,ha⟩:=Ic iH hx hp dx
  obtain⟨b,l2,c2,rfl,hb⟩:=Ic we hy hq dy
  refine⟨fun d=>?_,by simp,by simp⟩
  rcases ha with⟨rfl,rfl⟩|⟨rfl,a',rfl⟩<;>rcases hb with⟨rfl,rfl⟩|⟨rfl,b',rfl⟩<;>simp only[lS,Option.some.injEq,reduceCtorEq]at hr<;>subst hr<;>simp[Op.equalIn,run_underlying (eU ht)]
 |func=>
  rw[ht]at iH we
  obtain⟨q1,q2,q3,hu⟩:=aa0 ht
  rcases Ie iH hx dx with⟨rfl,rfl⟩|⟨rfl,f1,f2,f3,rfl⟩<;>rcases Ie we hy dy with⟨rfl,rfl⟩|⟨rfl,f4,f5,f6,rfl⟩<;>simp only[lS,Option.some.injEq,reduceCtorEq]at hr<;>subst hr<;>refine⟨fun d=>?_,by simp,by simp⟩<;>simp[Op.equalIn,run_underlying hu]
 |_=>
  rw[ht]at iH
  exfalso
  unfold lT at hx
  split at hx<;>simp_all [jG,sO]
theorem JF {t:TypeId} {neg:Bool} {x y:AV} {u v:Value} {ox oy:Operand} {sc:Prop} {r:AV} (h:xY P t neg x y=some (sc,r)) (ay:sc) (hx:AV.den w φ I x u) (hy:AV.den w φ I y v):
  eI P w (do eqGuard (if neg then .neq else .eql) t ox oy u v;binOp (if neg then .neq else .eql) t u v) φ I r:=by
 unfold xY at h
 cases hk:(Nat.beq (jG x) (sO (tk P t))&&Nat.beq (jG y) (sO (tk P t)))with
 |false=>rw[hk]at h;cases h
 |true=>
  rw[hk]at h
  simp only[Bool.and_eq_true]at hk
  simp only[cond_true]at h
  split at h
  ·rename_i p a q b ha hb
   split at h
   ·rename_i e he
    simp only[Option.some.injEq,Prod.mk.injEq]at h
    obtain⟨rfl,rfl⟩:=h
    obtain⟨U,h2,h3⟩:=ZZ (P:=P) (w:=w) (φ:=φ) (I:=I) (Nat.eq_of_beq_eq_true hk.1) (Nat.eq_of_beq_eq_true hk.2) ha hb ay.1 ay.2 he hx hy
    have U:(Op.equal t u v).run P w= .ok e w:=U 9999
    refine⟨_,?_,qi⟩
    have hn:∀op,(op= .eql\/op= .neq)->binOp op t u v=(if op= .eql then(do pure (.bool (<-Op.equal t u v)):Sem Value)else(do pure (.bool (!(<-Op.equal t u v))))):=by
     intro op nh
     obtain⟨kx,iH⟩:∃k,jG x=k:=⟨_,rfl⟩
     have hu:(∃q,u= .pointer q)\/(∃q l c,u= .slice q l c)\/u= .nilFunc\/∃f a b,u= .func f a b:=by
      match kx,iH with
      |1,iH=>obtain⟨q,hq,_⟩:=Ib iH ha ay.1 hx;exact .inl ⟨q,hq⟩
      |2,iH=>obtain⟨q,l,c,hq,_⟩:=Ic iH ha ay.1 hx;exact .inr (.inl ⟨q,l,c,hq⟩)
      |3,iH=>
            rcases Ie iH ha hx with⟨_,hq⟩|⟨_,f,a,b,hq⟩
            ·exact .inr (.inr (.inl hq))
            ·exact .inr (.inr (.inr ⟨f,a,b,hq⟩))
      |0,iH=>exfalso;unfold lT at ha;split at ha<;>simp_all [jG]
      |k+4,iH=>exfalso;unfold lT at ha;split at ha<;>simp_all [jG]
     rcases hu with⟨q,rfl⟩|⟨q,l,c,rfl⟩|rfl|⟨f,a,b,rfl⟩<;>rcases nh with rfl|rfl<;>rfl
    cases neg with
    |false=>simp only[Bool.false_eq_true,if_false,Sem.run_bind,tG _ _ _ _ _ _ h2 h3,Result.andThen_ok,hn _ (.inl rfl),if_true,U,Sem.run_pure,Bool.bne_false]
    |true=>simp only[if_true,Sem.run_bind,tG _ _ _ _ _ _ h2 h3,Result.andThen_ok,hn _ (.inr rfl),reduceCtorEq,if_false,U,Sem.run_pure,Bool.bne_true]
   ·cases h
  ·cases h
end
section
variable {P:Program} {w:World} {φ:ai} {I:Nat->Prop} {E:Env} {H:aa} {a:Act}
theorem foldl_push (l:List Int):∀(s:ByteArray),l.foldl (fun r n=>r.push (UInt8.ofNat n.toNat)) s=⟨(s.data.toList++l.map fun n=>UInt8.ofNat n.toNat).toArray⟩:=by
 induction l with
 |nil=>intro s;simp
 |cons n l ih=>intro s;rw[List.foldl_cons,ih];simp[ByteArray.push]
theorem Kd:∀(rows:List (List IV)) (ae:List (List Value)),IV.aE w I rows ae->(∀r∈rows,N0 r)->∃ns:List Int,ae.flatten=ns.map (Value.int .u8)/\rows.map Kc=ns.map fun n=>UInt8.ofNat n.toNat
 |[],ae,h,_=>by simp only[IV.aE]at h;subst h;exact⟨[],rfl,rfl⟩
 |r::rows,ae,h,hb=>by
  simp only[IV.aE]at h
  obtain⟨vs,Ea,rfl,U,h2⟩:=h
  obtain⟨ns,e1,e2⟩:=Kd rows Ea h2 (fun r hr=>hb r (by simp[hr]))
  obtain⟨n,rfl⟩:=hb r (by simp)
  simp only[IV.ab,IV.den]at U
  obtain⟨u,ak,rfl,⟨rfl,_⟩,rfl⟩:=U
  exact⟨n::ns,by rw[List.flatten_cons,e1];rfl,by rw[List.map_cons,e2];rfl⟩
theorem Tj {g off:Nat} {us:List Value} (h:cQ w g off us) (n:Nat) (hn:n=us.length):(loadCells ⟨g,off,none⟩ n).run P w= .ok us.toArray w:=by
 subst hn
 exact run_loadCells_list (P:=P) (w:=w) ⟨g,off,none⟩ us (fun j v hj=>by
  have:=h j v hj
  by_cases hz:j=0
  ·subst hz;simpa[Addr.add]using this
  ·simpa[Addr.add,hz]using this)
theorem R9 {s d:TypeId} {x:AV} {p:Value} {sc:Prop} {v:AV} (h:A0 P s d x=some (sc,v)) (ay:sc) (hx:AV.den w φ I x p) (hs:∃u,P.underlying s=some u):eI P w (convert s d p) φ I v:=by
 obtain⟨su,wy⟩:=hs
 unfold A0 at h
 split at h
 ·rw[fU]at hx
  subst hx
  split at h
  ·rename_i hk
   simp only[Option.some.injEq,Prod.mk.injEq]at h
   obtain⟨_,rfl⟩:=h
   exact⟨_,by simp[convert,run_underlying wy,run_underlying (mJ hk),Conv.intToString],qj⟩
  ·cases h
 ·rename_i rows
  split at h
  ·rename_i e U h2
   split at h
   ·rename_i h3
    simp only[Option.some.injEq,Prod.mk.injEq]at h
    obtain⟨rfl,rfl⟩:=h
    simp only[AV.den,IV.den]at hx
    obtain⟨q,c,ae,rfl,hc,hr,hl,ha⟩:=hx
    obtain⟨ns,e1,e2⟩:=Kd rows ae hr ay
    refine⟨_,?_,qj⟩
    rw[run_convert_bytes_string w s d e q rows.length c (eU U) (u4 h3) (mJ h2)]
    cases GK:rows with
    |nil=>
     subst GK
     cases q with
     |none=>rfl
     |some ad=>
      have om:(loadCells ad 0).run P w= .ok #[] w:=by simp[loadCells,loadCellsFrom]
      have:=run_bytesToString (P:=P) w ad 0 c [] (by simpa using om)
      rw[show(Conv.bytesToString (Value.slice (some ad) ([]:List (List IV)).length c))=Conv.bytesToString (Value.slice (some ad) 0 c) from rfl,this]
      rfl
    |cons r rs=>
     rw[<-GK]
     obtain⟨g,off,rfl,_,dp⟩:=ha (by rw[GK];simp)
     have hn:ae.flatten.length=rows.length:=by
      rw[e1,List.length_map]
      have:=congrArg List.length e2
      rw[List.length_map,List.length_map]at this;exact this.symm
     have MP:=Tj (P:=P) dp rows.length hn.symm
     rw[e1]at MP
     rw[run_bytesToString w _ _ c ns MP,foldl_push,e2]
     rfl
   ·cases h
  ·cases h
 ·split at h
  ·rename_i e U h2
   split at h
   ·rename_i h3
    simp only[Option.some.injEq,Prod.mk.injEq]at h
    obtain⟨_,rfl⟩:=h
    simp only[AV.den,IV.den]at hx
    obtain⟨rfl,_⟩:=hx
    exact⟨_,by rw[run_convert_bytes_string w s d e _ _ _ (eU U) (u4 h3) (mJ h2)];rfl,qj⟩
   ·cases h
  ·cases h
 ·cases h
theorem R5 {arr:TypeId} {x:AV} {p:Value} {sc:Prop} {v:AV} (h:AW P arr x=some (sc,v)) (ay:sc) (hx:AV.den w φ I x p):eI P w (Instr.arrayAt arr p) φ I v:=by
 unfold AW at h
 split at h
 ·rename_i es rows
  split at h
  ·rename_i n e ht
   simp only[Option.some.injEq,Prod.mk.injEq]at h
   obtain⟨rfl,rfl⟩:=h
   simp only[AV.den,IV.den]at hx
   obtain⟨q,c,ae,rfl,hc,hr,hl,ha⟩:=hx
   obtain⟨g,off,rfl,hg,dp⟩:=ha (fun e=>by rw[e]at ay;simp at ay)
   have ag:¬rows.length<n+1:=by omega
   refine⟨.pointer (some ⟨g,off,none⟩),by simp[Instr.arrayAt,run_underlying (uZ ht),ag],?_⟩
   simp only[AV.den,IV.den]
   exact⟨g,off,ae.flatten,rfl,hg,rG rows ae hr,dp⟩
  ·cases h
 ·cases h
theorem JG {t:TypeId} {x hi:AV} {mx:Option AV} {p ph:Value} {pm:Option Value} {sc:Prop} {v:AV} (h:xZ P t x hi mx=some (sc,v)) (ay:sc) (hx:AV.den w φ I x p) (hh:AV.den w φ I hi ph)
  (hm:∀y,mx=some y->∃u,pm=some u/\AV.den w φ I y u) (wh:mx=none->pm=none):eI P w (Instr.sliceAt t p none (some ph) pm) φ I v:=by
 unfold xZ at h
 split at h
 ·rename_i b es i n kh h'
  obtain rfl:=wh rfl
  split at h
  ·rename_i e ht
   cases hd:decide (sz P e=some es)with
   |false=>rw[hd]at h;simp at h
   |true=>
    rw[hd]at h
    simp only[cond_true,Option.some.injEq,Prod.mk.injEq]at h
    obtain⟨rfl,rfl⟩:=h
    have aO:=of_decide_eq_true hd
    rw[fU]at hh
    subst hh
    simp only[AV.den]at hx
    rcases hx with⟨U,rfl,rfl,rfl⟩|⟨g,c,U,rfl,h3,h4,h5⟩
    ·obtain rfl:h'=0:=by omega
     refine⟨_,s3 ht aO (ye (by omega) (by omega)),?_⟩
     simp only[AV.den]
     exact .inl ⟨U,by simp⟩
    ·refine⟨_,s3 ht aO (ye (by omega) (by omega)),?_⟩
     simp only[AV.den]
     refine .inr ⟨g,c,U,?_,by omega,h4,h5⟩
     simp[Addr.add]
  ·cases h
 ·rename_i b es i n kh h' km m
  obtain⟨_,rfl,pn⟩:=hm _ rfl
  split at h
  ·rename_i e ht
   cases hd:decide (sz P e=some es)with
   |false=>rw[hd]at h;simp at h
   |true=>
    rw[hd]at h
    simp only[cond_true,Option.some.injEq,Prod.mk.injEq]at h
    obtain⟨rfl,rfl⟩:=h
    have aO:=of_decide_eq_true hd
    rw[fU]at hh pn
    subst hh;subst pn
    simp only[AV.den]at hx
    rcases hx with⟨U,rfl,rfl,rfl⟩|⟨g,c,U,rfl,h3,h4,h5⟩
    ·obtain rfl:h'=0:=by omega
     obtain rfl:m=0:=by omega
     have e1:=fun code=>s0 (P:=P) (w:=w) (k:=km) (n:=0) (y:=0) (code:=code) (by omega) (by omega)
     have e2:=fun code=>s0 (P:=P) (w:=w) (k:=kh) (n:=0) (y:=0) (code:=code) (by omega) (by omega)
     refine⟨.slice none 0 0,?_,?_⟩
     ·simp[Instr.sliceAt,Instr.slice,run_underlying (eU ht),Instr.sliceBounds,e1,e2,run_sizeOf aO]
     ·simp only[AV.den]
      exact .inl ⟨U,by simp⟩
    ·have e1:=fun code=>s0 (P:=P) (w:=w) (k:=km) (n:=m) (y:=c) (code:=code) (by omega) (by omega)
     have e2:=fun code=>s0 (P:=P) (w:=w) (k:=kh) (n:=h') (y:=m.toNat) (code:=code) (by omega) (by omega)
     refine⟨.slice (some ⟨g,i*es,none⟩) h'.toNat m.toNat,?_,?_⟩
     ·simp[Instr.sliceAt,Instr.slice,run_underlying (eU ht),Instr.sliceBounds,e1,e2,run_sizeOf aO,Addr.add]
     ·simp only[AV.den]
      refine .inr ⟨g,m.toNat,U,rfl,by omega,by omega,?_⟩
      obtain⟨cc,ee,q1,q2⟩:=h5
      exact⟨cc,ee,q1,Nat.le_trans (Nat.mul_le_mul_right es (by omega)) q2⟩
  ·cases h
 ·cases h
theorem SM (hE:dS w φ I E a) {o:Oper} {sc:Prop} {v:AV} (h:jM P E o.op=some (sc,v)) (ay:sc):
  ∃u,(execOp a.eval o).run P w= .ok (.value u) w/\AV.den w φ I v u:=by
 have fin:∀{s:Sem Value},eI P w s φ I v->(execOp a.eval o=do pure (.value (<-s)))->∃u,(execOp a.eval o).run P w= .ok (.value u) w/\AV.den w φ I v u:=by
  intro s ⟨u,hu,hd⟩ he
  exact⟨u,by rw[he];simp[hu],hd⟩
 obtain⟨dst,op,ty,pos,after,guard⟩:=o
 simp only at h⊢
 unfold jM at h
 split at h
 ·rename_i f first cap
  split at h
  ·rename_i l1 l2 U h2
   simp only[Option.some.injEq,Prod.mk.injEq]at h
   obtain⟨rfl,rfl⟩:=h
   refine fin (s:=Instr.makeFunc (.func f) (first.map a.eval) (cap.map a.eval)) ⟨.func (.func f) (first.map a.eval) (cap.map a.eval),rfl,?_⟩ rfl
   simp only[AV.den]
   exact⟨_,_,mU hE _ _ U ay.1,mU hE _ _ h2 ay.2,by cases first;cases cap;simp⟩
  ·cases h
 ·obtain⟨xa,cW,hx,hf,cI,g1⟩:=jL h ay
  exact fin (R5 hf cI (ca (aH hE hx) g1)) rfl
 ·rename_i s d x
  obtain⟨xa,cW,hx,hf,cI,g1⟩:=jL h ay
  split at hf
  ·exact fin (R9 hf cI (ca (aH hE hx) g1) (by rename_i hs;exact Option.isSome_iff_exists.1 hs)) rfl
  ·cases hf
 ·rename_i op t x y _
  split at h
  ·obtain⟨xa,ya,cW,hx,hy,hf,cI,g1,g2⟩:=oV h ay
   exact fin (JF (neg:=false) (ox:=x) (oy:=y) hf cI (ca (aH hE hx) g1) (ca (aH hE hy) g2)) rfl
  ·obtain⟨xa,ya,cW,hx,hy,hf,cI,g1,g2⟩:=oV h ay
   exact fin (JF (neg:=true) (ox:=x) (oy:=y) hf cI (ca (aH hE hx) g1) (ca (aH hE hy) g2)) rfl
  ·cases h
 ·obtain⟨xa,ya,cW,hx,hy,hf,cI,g1,g2⟩:=oV h ay
  exact fin (JG (pm:=none) hf cI (ca (aH hE hx) g1) (ca (aH hE hy) g2) (fun _ h=>by cases h) (fun _=>rfl)) rfl
 ·split at h
  ·rename_i mv hm
   split at h
   ·rename_i hg
    obtain⟨xa,ya,cW,hx,hy,hf,cI,g1,g2⟩:=oV h ay
    exact fin (JG (pm:=some _) hf cI (ca (aH hE hx) g1) (ca (aH hE hy) g2) (fun _ h=>by cases h;exact⟨_,rfl,ca (aH hE hm) hg⟩) (fun h=>by cases h)) rfl
   ·cases h
  ·cases h
 ·cases h
theorem vE {hE:dS w φ I E a} {b:Bool} {n c:Nat} {lo hi:Option Operand} {p q:Prop} {l h:Nat} (hl:gw E 0 lo=some (p,l)) (hh:gw E n hi=some (q,h)) (hp:p) (hq:q) (U:l<=h) (h2:h<=n) (h3:n<=c):
  (Instr.sliceBounds b n c (lo.map a.eval) (hi.map a.eval) none).run P w= .ok (l,h,c) w:=by
 have val:∀{o:Operand} {d:Nat} {p:Prop} {l:Nat},gw E d (some o)=some (p,l)->p->∃k m,a.eval o= .int k m/\0<=m/\m.toNat=l:=by
  intro o d p l ho hp
  simp only[gw]at ho
  split at ho
  ·rename_i av he
   split at ho
   ·rename_i k m bG
    cases ho
    have:=ca (aH hE he) hp.1
    rw[bG]at this
    simp only[AV.den,IV.den]at this
    exact⟨k,m,this.1,hp.2,rfl⟩
   ·cases ho
  ·cases ho
 cases lo with
 |none=>
  simp only[gw,Option.some.injEq,Prod.mk.injEq]at hl
  obtain⟨_,rfl⟩:=hl
  cases hi with
  |none=>
   simp only[gw,Option.some.injEq,Prod.mk.injEq]at hh
   obtain⟨_,rfl⟩:=hh
   simp[Instr.sliceBounds]
  |some o=>
   obtain⟨k,m,e,h0,rfl⟩:=val hh hq
   simp only[Option.map_none,Option.map_some,e]
   exact ye h0 (by omega)
 |some o=>
  obtain⟨k,m,e,h0,rfl⟩:=val hl hp
  cases hi with
  |none=>
   simp only[gw,Option.some.injEq,Prod.mk.injEq]at hh
   obtain⟨_,rfl⟩:=hh
   simp only[Option.map_none,Option.map_some,e]
   exact EB h0 (by omega)
  |some o'=>
   obtain⟨k',m',e',LX,rfl⟩:=val hh hq
   simp only[Option.map_some,e,e']
   exact EC h0 (by omega) (by omega)
theorem Qa {P:Program} {w:World} {t e:TypeId} {n:Nat} {a:Addr} {plo phi:Option Value} {l h:Nat} (ht:tk P t= .arr n e) (bW:sz P e=some 1) (hb:(Instr.sliceBounds false n n plo phi none).run P w= .ok (l,h,n) w):
  (Instr.sliceAt t (.pointer (some a)) plo phi none).run P w= .ok (.slice (some (if n=l then a else a.add (l*1))) (h-l) (n-l)) w:=by
 simp[Instr.sliceAt,Instr.sureAddr,run_underlying (uZ ht),hb,run_sizeOf bW]
theorem Lj:∀ws:List (List Value),(∀v∈ws,v.length=1)->ws.flatten.length=ws.length
 |[],_=>rfl
 |v::ws,h=>by rw[List.flatten_cons,List.length_append,Lj ws (fun x hx=>h x (by simp[hx])),h v (by simp),List.length_cons];omega
theorem KK {w:World} {I:Nat->Prop}:∀(cs:List IV) (us:List Value),IV.ab w I cs us->IV.aE w I (cs.map fun c=>[c]) (us.map fun u=>[u])
 |[],us,h=>by simp only[IV.ab]at h;subst h;simp[IV.aE]
 |c::cs,us,h=>by
  simp only[IV.ab]at h
  obtain⟨u,ak,rfl,U,h2⟩:=h
  simp only[List.map_cons,IV.aE,IV.ab]
  exact⟨_,_,rfl,⟨_,_,rfl,U,rfl⟩,KK cs ak h2⟩
theorem G_ {w:World} {I:Nat->Prop}:∀(cs:List IV) (us:List Value),IV.ab w I cs us->us.length=cs.length
 |[],us,h=>by simp only[IV.ab]at h;subst h;rfl
 |c::cs,us,h=>by
  simp only[IV.ab]at h
  obtain⟨u,ak,rfl,U,h2⟩:=h
  simp[G_ cs ak h2]
theorem NN {w:World} {I:Nat->Prop}:∀(k:Nat) (cs:List IV) (us:List Value),IV.ab w I cs us->IV.ab w I (cs.take k) (us.take k)
 |0,cs,us,_=>by simp[IV.ab]
 |k+1,[],us,h=>by simp only[IV.ab]at h;subst h;simp[IV.ab]
 |k+1,c::cs,us,h=>by
  simp only[IV.ab]at h
  obtain⟨u,ak,rfl,U,h2⟩:=h
  simp only[List.take_succ_cons,IV.ab]
  exact⟨_,_,rfl,U,NN k cs ak h2⟩
theorem NI {w:World} {I:Nat->Prop}:∀(k:Nat) (cs:List IV) (us:List Value),IV.ab w I cs us->IV.ab w I (cs.drop k) (us.drop k)
 |0,cs,us,h=>h
 |k+1,[],us,h=>by simp only[IV.ab]at h;subst h;simp[IV.ab]
 |k+1,c::cs,us,h=>by
  simp only[IV.ab]at h
  obtain⟨u,ak,rfl,U,h2⟩:=h
  exact NI k cs ak h2
theorem Sq (hE:dS w φ I E a) (hR:Real w φ I H) {t:TypeId} {lo hi:Option Operand} {x:AV} {u:Value} {sc:Prop} {v:AV} (h:tm P H t E lo hi x=some (sc,v)) (ay:sc) (hx:AV.den w φ I x u):
  eI P w (Instr.sliceAt t u (lo.map a.eval) (hi.map a.eval) none) φ I v:=by
 unfold tm at h
 split at h
 ·rename_i cs
  split at h
  ·rename_i n e ht
   cases hd:decide (sz P e=some 1)with
   |false=>rw[hd]at h;simp at h
   |true=>
    rw[hd]at h
    have bW:=of_decide_eq_true hd
    simp only[cond_true]at h
    split at h
    ·rename_i p l q h' hl hh
     simp only[Option.some.injEq,Prod.mk.injEq]at h
     obtain⟨rfl,rfl⟩:=h
     obtain⟨hp,hq,U,h2,h3,h4⟩:=ay
     simp only[AV.den,IV.den]at hx
     obtain⟨g,off,us,rfl,hI,mg,dp⟩:=hx
     have aB:=Qa (P:=P) (a:=⟨g,off,none⟩) ht bW (vE (hE:=hE) (b:=false) (c:=n) hl hh hp hq U h2 (Nat.le_refl _))
     refine⟨_,aB,?_⟩
     have cY:=G_ cs us mg
     have ff:=NN (h'-l) _ _ (NI l _ _ mg)
     simp only[AV.den,IV.den]
     have wg:((cs.drop l).take (h'-l)).length=h'-l:=by rw[List.length_take,List.length_drop];omega
     refine⟨_,n-l,_,by rw[List.length_map,wg],by rw[List.length_map,wg];omega,KK _ _ ff,fun vs dr=>by obtain⟨u,_,rfl⟩:=List.mem_map.1 dr;rfl,fun aC=>⟨g,off+l,?_,hI,?_⟩⟩
     ·have ag:l<n:=by
       rcases Nat.lt_or_ge l n with ag|cq
       ·exact ag
       ·exact absurd (List.eq_nil_of_length_eq_zero (by rw[List.length_map,wg];omega)) aC
      rw[if_neg (by omega)]
      simp only[Addr.add,Nat.mul_one]
      by_cases hz:l=0<;>simp[hz]
     ·have dO:∀vs:List Value,(vs.map fun u=>[u]).flatten=vs:=fun vs=>by induction vs with
       |nil=>rfl
       |cons v vs ih=>simp only[List.map_cons,List.flatten_cons,ih];rfl
      rw[dO]
      exact(dp.drop l).take _
    ·cases h
  ·cases h
 ·rename_i b
  split at h
  ·rename_i el rows hH
   split at h
   ·rename_i n e ht
    cases hd:decide (sz P e=some 1)with
    |false=>rw[hd]at h;simp at h
    |true=>
     rw[hd]at h
     have bW:=of_decide_eq_true hd
     simp only[cond_true]at h
     split at h
     ·rename_i p l q h' hl hh
      simp only[Option.some.injEq,Prod.mk.injEq]at h
      obtain⟨rfl,rfl⟩:=h
      obtain⟨hp,hq,U,h2,h3,h4,h5⟩:=ay
      simp only[AV.den]at hx
      obtain⟨g,hb,rfl⟩:=hx
      have aB:=Qa (P:=P) (a:=⟨g,0,none⟩) ht bW (vE (hE:=hE) (b:=false) (c:=n) hl hh hp hq U h2 (Nat.le_refl _))
      refine⟨_,aB,?_⟩
      simp only[AV.den]
      have ba:=hR.own b _ _ hH hb
      simp only[Ob.at]at ba
      rcases ba with⟨hn,_⟩|⟨g',ae,rest,hg,dp,mg,hQ⟩
      ·cases hn
      cases hg
      refine .inr ⟨g,n-l,hb,?_,by omega,by unfold maxLen;omega,⟨_,_,dp,?_⟩⟩
      ·rw[if_neg (by omega)]
       by_cases hz:l=0<;>simp[Addr.add,hz]
      ·have hlen:=lA rows ae mg
       have dO:=Lj ae hQ
       simp only[List.size_toArray,List.length_append,dO]
       omega
     ·cases h
   ·cases h
  ·cases h
 ·rename_i b es j n
  split at h
  ·rename_i e ht
   cases hd:decide (sz P e=some es)with
   |false=>rw[hd]at h;simp at h
   |true=>
    rw[hd]at h
    have bW:=of_decide_eq_true hd
    simp only[cond_true]at h
    split at h
    ·rename_i p l q h' hl hh
     simp only[Option.some.injEq,Prod.mk.injEq]at h
     obtain⟨rfl,rfl⟩:=h
     obtain⟨hp,hq,U,h2,h3⟩:=ay
     simp only[AV.den]at hx
     rcases hx with⟨hb,rfl,rfl,rfl⟩|⟨g,c,hb,rfl,h4,h5,h6⟩
     ·have om:l=0:=by omega
      subst om
      have V3:h'=0:=by omega
      subst V3
      refine⟨_,s3 (P:=P) (p:=none) ht bW (vE (hE:=hE) (b:=true) (c:=0) hl hh hp hq U h2 (Nat.le_refl _)),?_⟩
      simp only[AV.den]
      exact .inl ⟨hb,by simp⟩
     ·refine⟨_,s3 (P:=P) (p:=some ⟨g,j*es,none⟩) ht bW (vE (hE:=hE) (b:=true) (c:=c) hl hh hp hq U h2 h4),?_⟩
      simp only[AV.den]
      refine .inr ⟨g,c-l,hb,?_,by omega,by omega,?_⟩
      ·by_cases cz:c=l
       ·have:l=0:=by omega
        subst this
        simp[cz]
       ·rw[if_neg cz]
        simp only[Option.map_some,Addr.add]
        by_cases hz:l*es=0
        ·rw[Nat.add_mul,hz];simp
        ·rw[Nat.add_mul];simp[hz]
      ·obtain⟨cc,ee,q1,q2⟩:=h6
       exact⟨cc,ee,q1,Nat.le_trans (Nat.mul_le_mul_right es (by omega)) q2⟩
    ·cases h
  ·cases h
 ·rename_i s
  rw[ma]at hx
  subst hx
  split at h
  ·rename_i p l q h' ht hl hh
   simp only[Option.some.injEq,Prod.mk.injEq]at h
   obtain⟨rfl,rfl⟩:=h
   obtain⟨hp,hq,U,h2⟩:=ay
   exact⟨_,DX ht (vE (hE:=hE) (b:=false) (c:=s.size) hl hh hp hq U h2 (Nat.le_refl _)),qj⟩
  ·cases h
 ·rename_i es rows
  split at h
  ·rename_i e p l q h' ht hl hh
   cases hd:decide (sz P e=some es)with
   |false=>rw[hd]at h;simp at h
   |true=>
    rw[hd]at h
    simp only[cond_true,Option.some.injEq,Prod.mk.injEq]at h
    obtain⟨rfl,rfl⟩:=h
    obtain⟨hp,hq,U,h2⟩:=ay
    simp only[AV.den,IV.den]at hx
    obtain⟨pp,c,ae,rfl,hc,hr,aD,ha⟩:=hx
    exact⟨_,s3 ht (of_decide_eq_true hd) (vE (hE:=hE) (b:=true) (c:=c) hl hh hp hq U h2 hc),DW hr aD ha U h2 hc⟩
  ·cases h
 ·cases h
theorem Sd {t:TypeId} {x i:AV} {p q:Value} {sc:Prop} {v:AV} (h:A5 P t x i=some (sc,v)) (ay:sc) (hx:AV.den w φ I x p) (hi:AV.den w φ I i q):eI P w (Instr.indexAt t p q) φ I v:=by
 unfold A5 at h
 split at h
 ·rename_i cs k n
  rw[fU]at hi
  subst hi
  split at h
  ·rename_i m e ht
   cases hm:decide (2<=m)with
   |false=>rw[hm]at h;simp at h
   |true=>
    rw[hm]at h
    have gC:=of_decide_eq_true hm
    simp only[cond_true]at h
    cases hd:decide (sz P e=some 1)with
    |false=>rw[hd]at h;simp at h
    |true=>
     rw[hd]at h
     have aO:=of_decide_eq_true hd
     simp only[cond_true,Option.some.injEq,Prod.mk.injEq]at h
     obtain⟨rfl,rfl⟩:=h
     obtain⟨h0,U,h2⟩:=ay
     simp only[AV.den,IV.den]at hx
     obtain⟨g,off,us,rfl,hI,mg,dp⟩:=hx
     have cY:=G_ cs us mg
     have ag:n.toNat<us.length:=by omega
     refine⟨.pointer (some ⟨g,off+n.toNat*1,none⟩),?_,?_⟩
     ·have wh:¬m<2:=by omega
      have wi:(m==1)=false:=by simp;omega
      simp[Instr.indexAt,Instr.sureAddr,asIntOf,run_underlying (uZ ht),h0,U,run_sizeOf aO,addr_add,wi]
     ·simp only[AV.den,IV.den,IV.ab]
      have gen:∀(k:Nat) (cs:List IV) (us:List Value),IV.ab w I cs us->∀u,us[k]?=some u->IV.den w I (cs.getD k (.v (.bool false))) u:=fun k=>by
       induction k with
       |zero=>
        intro cs us h u hu
        cases cs with
        |nil=>simp only[IV.ab]at h;subst h;simp at hu
        |cons c cs=>
         simp only[IV.ab]at h
         obtain⟨u1,rp,rfl,U,h2⟩:=h
         simp only[List.getElem?_cons_zero,Option.some.injEq]at hu
         subst hu
         exact U
       |succ k ih=>
        intro cs us h u hu
        cases cs with
        |nil=>simp only[IV.ab]at h;subst h;simp at hu
        |cons c cs=>
         simp only[IV.ab]at h
         obtain⟨u1,rp,rfl,U,h2⟩:=h
         simp only[List.getElem?_cons_succ]at hu
         exact ih cs rp h2 u hu
      refine⟨g,off+n.toNat*1,[us[n.toNat]],rfl,hI,⟨_,_,rfl,gen _ _ _ mg _ (List.getElem?_eq_getElem ag),rfl⟩,fun j u hu=>?_⟩
      cases j with
      |zero=>
       simp only[List.getElem?_cons_zero,Option.some.injEq]at hu
       subst hu
       rw[Nat.mul_one,Nat.add_zero]
       exact dp _ _ (List.getElem?_eq_getElem ag)
      |succ j=>simp at hu
  ·cases h
 ·cases h
theorem JE {t:TypeId} {neg:Bool} {x y:Operand} {xa:AV} {u v:Value} {sc:Prop} {r:AV} (hy:wH y=true) (hv:v= .nilIface) (ht:tk P t= .iface) (h:xX neg xa=some (sc,r)) (hx:AV.den w φ I xa u):
  eI P w (do eqGuard (if neg then .neq else .eql) t x y u v;binOp (if neg then .neq else .eql) t u v) φ I r:=by
 subst hv
 obtain⟨d,hu,hd⟩:=q_ ht (by simp)
 obtain⟨ms,rfl⟩:∃ms,d= .interface ms:=by cases d<;>simp[TK.of]at hd;exact⟨_,rfl⟩
 obtain⟨c,rfl⟩:∃c,y= .const c:=by unfold wH at hy;split at hy;exact⟨_,rfl⟩;cases hy
 have key:∀(r:Bool),(∀d,(Op.equalIn (d+1) t u .nilIface).run P w= .ok r w)->(binOp .eql t u .nilIface=(do pure (.bool (<-Op.equal t u .nilIface)):Sem Value))->(binOp .neq t u .nilIface=(do pure (.bool (!(<-Op.equal t u .nilIface))):Sem Value))->
   (∀op,(eqGuard op t x (.const c) u .nilIface).run P w= .ok () w)->
   (do eqGuard (if neg then .neq else .eql) t x (.const c) u .nilIface;binOp (if neg then .neq else .eql) t u .nilIface:Sem Value).run P w= .ok (.bool (r !=neg)) w:=by
  intro r U h2 h3 h4
  have U:(Op.equal t u .nilIface).run P w= .ok r w:=U 9999
  cases neg with
  |false=>simp only[Bool.false_eq_true,if_false,Sem.run_bind,h4,Result.andThen_ok,h2,U,Sem.run_pure,Bool.bne_false]
  |true=>simp only[if_true,Sem.run_bind,h4,Result.andThen_ok,h3,U,Sem.run_pure,Bool.bne_true]
 unfold xX at h
 split at h
 ·simp only[Option.some.injEq,Prod.mk.injEq]at h
  obtain⟨_,rfl⟩:=h
  simp only[AV.den,IV.den]at hx
  obtain⟨rfl,_⟩:=hx
  refine⟨_,key true (fun d=>by simp[Op.equalIn,run_underlying hu]) rfl rfl (fun op=>by cases op<;>first|rfl|(cases x<;>simp[eqGuard])),?_⟩
  cases neg<;>exact qi
 ·simp only[Option.some.injEq,Prod.mk.injEq]at h
  obtain⟨_,rfl⟩:=h
  simp only[AV.den,WK.rel]at hx
  obtain⟨v,rfl,_⟩:=hx
  refine⟨_,key false (fun d=>by simp[Op.equalIn,run_underlying hu]) rfl rfl (fun op=>by cases op<;>rfl),?_⟩
  cases neg<;>exact qi
 ·cases h
theorem SO (hE:dS w φ I E a) (hR:Real w φ I H) {o:Oper} {sc:Prop} {v:AV} (h:nN P E H o.op=some (sc,v)) (ay:sc):
  ∃u,(execOp a.eval o).run P w= .ok (.value u) w/\AV.den w φ I v u:=by
 obtain⟨dst,op,ty,pos,after,guard⟩:=o
 simp only at h⊢
 unfold nN at h
 split at h
 ·rename_i t x lo hi
  obtain⟨xa,cW,hx,hf,cI,g1⟩:=jL h ay
  obtain⟨u,hu,hd⟩:=Sq hE hR hf cI (ca (aH hE hx) g1)
  exact⟨u,by simp only[execOp,Sem.run_bind,Option.map_none,hu,Result.andThen_ok,Sem.run_pure],hd⟩
 ·rename_i t x i
  obtain⟨xa,ya,cW,hx,hy,hf,cI,g1,g2⟩:=oV h ay
  obtain⟨u,hu,hd⟩:=Sd hf cI (ca (aH hE hx) g1) (ca (aH hE hy) g2)
  exact⟨u,by simp only[execOp,Sem.run_bind,hu,Result.andThen_ok,Sem.run_pure],hd⟩
 ·rename_i op t x y _
  have hc:wH y=true->a.eval y= .nilIface:=by
   intro hy
   unfold wH at hy
   split at hy
   ·rfl
   ·cases hy
  split at h
  ·rename_i hy ht
   obtain⟨xa,cW,hx,hf,cI,g1⟩:=jL h ay
   obtain⟨u,hu,hd⟩:=JE (x:=x) (v:=a.eval y) hy (hc hy) ht hf (ca (aH hE hx) g1)
   refine⟨u,?_,hd⟩
   simp only[Bool.false_eq_true,if_false]at hu
   simp only[Sem.run_bind]at hu
   simp only[execOp,Sem.run_bind]
   revert hu
   cases(eqGuard .eql t x y (a.eval x) (a.eval y)).run P w with
   |ok _ w1=>intro hu;simp only[Result.andThen_ok]at hu⊢;rw[hu];rfl
   |halt _ _=>intro hu;cases hu
  ·rename_i hy ht
   obtain⟨xa,cW,hx,hf,cI,g1⟩:=jL h ay
   obtain⟨u,hu,hd⟩:=JE (x:=x) (v:=a.eval y) hy (hc hy) ht hf (ca (aH hE hx) g1)
   refine⟨u,?_,hd⟩
   simp only[if_true]at hu
   simp only[Sem.run_bind]at hu
   simp only[execOp,Sem.run_bind]
   revert hu
   cases(eqGuard .neq t x y (a.eval x) (a.eval y)).run P w with
   |ok _ w1=>intro hu;simp only[Result.andThen_ok]at hu⊢;rw[hu];rfl
   |halt _ _=>intro hu;cases hu
  ·cases h
 ·cases h
theorem x6 (hE:dS w φ I E a) (hR:Real w φ I H) {o:Oper} {sc:Prop} {v:AV} (h:iu P E H o.op=some (sc,v)) (ay:sc):
  ∃u,(execOp a.eval o).run P w= .ok (.value u) w/\AV.den w φ I v u:=by
 unfold iu at h
 split at h
 ·rename_i r hr
  simp only[Option.some.injEq]at h
  subst h
  exact SK hE hR hr ay
 ·split at h
  ·rename_i r hr
   simp only[Option.some.injEq]at h
   subst h
   exact SM hE hr ay
  ·exact SO hE hR h ay
end
def aT (φ:ai) (b:Nat) (p:Option Nat):ai:=fun i=>if i=b then some p else φ i
def aN:aa->Nat->Ob->aa
 |[],_,_=>[]
 |(j,x)::r,i,o=>bif Nat.beq j i then(j,o)::r else(j,x)::aN r i o
theorem cV:∀(H:aa) (b:Nat) (o:Ob) {x:Ob},lk H b=some x->lk (aN H b o) b=some o
 |[],_,_,_,h=>by simp[lk]at h
 |(j,y)::r,b,o,x,h=>by
  simp only[lk,aN]at h⊢
  cases hb:Nat.beq j b with
  |true=>simp[lk,hb]
  |false=>
   rw[hb]at h
   simp only[cond_false]at h
   simp only[cond_false,lk,hb]
   exact cV r b o h
theorem cm:∀(H:aa) (b b':Nat) (o:Ob),b'≠b->lk (aN H b o) b'=lk H b'
 |[],_,_,_,_=>rfl
 |(j,y)::r,b,b',o,aC=>by
  simp only[aN]
  cases hb:Nat.beq j b with
  |true=>
   have hj:=Nat.eq_of_beq_eq_true hb
   subst hj
   have:Nat.beq j b'=false:=by
    cases hq:Nat.beq j b' with
    |false=>rfl
    |true=>exact absurd (Nat.eq_of_beq_eq_true hq).symm aC
   simp[lk,this]
  |false=>
   simp only[cond_false,lk]
   rw[cm r b b' o aC]
def bB:aa->Nat
 |[]=>0
 |(j,_)::r=>bif Nat.ble (bB r) j then j+1 else bB r
theorem bU:∀(H:aa) (b:Nat) (o:Ob),lk H b=some o->b<bB H
 |[],_,_,h=>by simp[lk]at h
 |(j,y)::r,b,o,h=>by
  simp only[lk,bB]at h⊢
  cases hb:Nat.beq j b with
  |true=>
   have hj:=Nat.eq_of_beq_eq_true hb
   subst hj
   cases hq:Nat.ble (bB r) j with
   |true=>simp
   |false=>
         simp only[cond_false];have:¬bB r<=j:=fun h=>by rw[Nat.ble_eq_true_of_le h]at hq;cases hq
         omega
  |false=>
   rw[hb]at h
   simp only[cond_false]at h
   have:=bU r b o h
   cases hq:Nat.ble (bB r) j with
   |true=>simp only[cond_true];have:=Nat.le_of_ble_eq_true hq;omega
   |false=>simpa using this
def au (nb:Nat) (H:aa):Nat:=bif Nat.ble nb (bB H)then bB H else nb
theorem dh (nb:Nat) (H:aa):nb<=au nb H/\bB H<=au nb H:=by
 unfold au
 cases h:Nat.ble nb (bB H)with
 |true=>have:=Nat.le_of_ble_eq_true h;simpa using this
 |false=>
  have:¬nb<=bB H:=fun h'=>by rw[Nat.ble_eq_true_of_le h']at h;cases h
  simp only[cond_false];omega
theorem k_ (nb:Nat) (H:aa):lk H (au nb H)=none:=by
 cases h:lk H (au nb H)with
 |none=>rfl
 |some o=>have:=bU H _ o h;have:=(dh nb H).2;omega
section
variable {B:Bs} {w:World} {φ:ai} {I:Nat->Prop} {H:aa}
theorem tI (o':Nat->Prop) (w:World) (o:Obj):Ext o' w (w.alloc o):=
 ⟨by
   simp,fun g hg _=>heap_alloc_old w o hg,fun g c e fz h=>⟨c,fz,(heap_alloc_old w o (by
   rcases Nat.lt_or_ge g w.heap.size with h'|h'
   ·exact h'
   ·rw[Array.getElem?_eq_none h']at h;cases h)).trans h,rfl⟩,rfl,rfl,rfl⟩
theorem Ob.kF {w':World} {φ φ':ai} {I I':Nat->Prop} (hw:∀g,I g->w'.heap[g]?=w.heap[g]?) (hI:∀g,I g->I' g) (ax:∀b p,φ b=some p->φ' b=some p)
  (hs:∀b g n,φ b=some (some g)->shaped w g n->shaped w' g n) {o:Ob} {p:Option Nat} (hp:∀g,p=some g->w'.heap[g]?=w.heap[g]?) (h:o.at w φ I p):o.at w' φ' I' p:=by
 cases o with
 |var e cs=>
  simp only[Ob.at]at h⊢
  obtain⟨g,us,rfl,h2,h3,h4⟩:=h
  exact⟨g,us,rfl,h2.b_ (hp g rfl),AV.fb hw hI ax hs cs us h3,h4⟩
 |vec e es rows=>
  simp only[Ob.at]at h⊢
  rcases h with h|⟨g,ae,rest,rfl,h2,h3,h4⟩
  ·exact .inl h
  ·exact .inr ⟨g,ae,rest,rfl,(hp g rfl).trans h2,IV.iD hw hI rows ae h3,h4⟩
 |lp l n st fn q ps E=>
  simp only[Ob.at]at h⊢
  obtain⟨rfl,T,D,cf,U,h2,h3⟩:=h
  exact⟨rfl,T,D,cf,U,(hp l rfl).trans h2,fun i x hx=>let⟨u,hu,hd⟩:=h3 i x hx;⟨u,hu,AV.jO hw hI ax hs x u hd⟩⟩
structure bC (w:World) (φ:ai) (I:Nat->Prop) (w':World) (φ':ai) (I':Nat->Prop):Prop where
 im:∀g,I g->w'.heap[g]?=w.heap[g]?
 I:∀g,I g->I' g
 phi:∀b p,φ b=some p->φ' b=some p
 sh:∀b g n,φ b=some (some g)->shaped w g n->shaped w' g n
theorem bC.den {w':World} {φ':ai} {I':Nat->Prop} (k:bC w φ I w' φ' I') {x:AV} {u:Value} (h:AV.den w φ I x u):AV.den w' φ' I' x u:=AV.jO k.im k.I k.phi k.sh x u h
theorem bC.refl (w:World) (φ:ai) (I:Nat->Prop):bC w φ I w φ I:=⟨fun _ _=>rfl,fun _ h=>h,fun _ _ h=>h,fun _ _ _ _ h=>h⟩
theorem St.Bh (h:St B φ I H w) {b:Nat} (hb:lk H b=none) (Gu:B.nb<=b) {ob:Obj} {o:Ob}
  (ho:o.at (w.alloc ob) (aT φ b (some w.heap.size)) I (some w.heap.size)):
  St B (aT φ b (some w.heap.size)) I ((b,o)::H) (w.alloc ob)/\bC w φ I (w.alloc ob) (aT φ b (some w.heap.size)) I:=by
 have hnb:φ b=none:=by
  have:=h.real.bj b
  rw[hb]at this
  cases ax:φ b with
  |none=>rfl
  |some x=>rw[ax]at this;cases this
 have k:bC w φ I (w.alloc ob) (aT φ b (some w.heap.size)) I:=by
  refine⟨fun g hg=>heap_alloc_old w _ (h.real.bM g hg),fun _ h=>h,fun b' p hp=>?_,fun _ g n _ hs=>(tI (fun _=>False) w _).shaped (fun h=>h) hs⟩
  unfold aT
  rw[if_neg (by intro e;subst e;rw[hnb]at hp;cases hp)]
  exact hp
 refine⟨⟨⟨fun b'=>?_,fun b' o' p hl hp=>?_,fun b' g hp=>?_,fun b1 b2 g U h2=>?_,fun g hg=>?_⟩,h.ext.trans (tI (fun _=>False) w _) (fun g hf=>hf.elim),fun b' g hp=>?_,h.cZ,h.cj,fun b' g o' ag h0 hl=>?_⟩,k⟩
 ·simp only[aT,lk]
  by_cases aj:b'=b
  ·subst aj;simp
  ·rw[if_neg aj]
   have:Nat.beq b b'=false:=by
    cases hq:Nat.beq b b' with
    |false=>rfl
    |true=>exact absurd (Nat.eq_of_beq_eq_true hq).symm aj
   rw[this]
   exact h.real.bj b'
 ·by_cases aj:b'=b
  ·subst aj
   simp only[aT,if_true,Option.some.injEq]at hp
   subst hp
   simp[lk]at hl
   subst hl
   exact ho
  ·have hq:Nat.beq b b'=false:=by
    cases hq:Nat.beq b b' with
    |false=>rfl
    |true=>exact absurd (Nat.eq_of_beq_eq_true hq).symm aj
   simp only[lk,hq,cond_false]at hl
   simp only[aT,if_neg aj]at hp
   refine Ob.kF k.im k.I k.phi k.sh (fun g hg=>?_) (h.real.own b' o' p hl hp)
   subst hg
   exact heap_alloc_old w _ (h.real.off b' g hp).2
 ·by_cases aj:b'=b
  ·subst aj
   simp only[aT,if_true,Option.some.injEq]at hp
   subst hp
   exact⟨fun hi=>absurd (h.real.bM _ hi) (by omega),by simp⟩
  ·simp only[aT,if_neg aj]at hp
   have:=h.real.off b' g hp
   exact⟨this.1,by simp;omega⟩
 ·by_cases e1:b1=b<;>by_cases e2:b2=b
  ·rw[e1,e2]
  ·subst e1
   simp only[aT,if_true,Option.some.injEq]at U
   subst U
   simp only[aT,if_neg e2]at h2
   exact absurd (h.real.off b2 _ h2).2 (by omega)
  ·subst e2
   simp only[aT,if_true,Option.some.injEq]at h2
   subst h2
   simp only[aT,if_neg e1]at U
   exact absurd (h.real.off b1 _ U).2 (by omega)
  ·simp only[aT,if_neg e1]at U
   simp only[aT,if_neg e2]at h2
   exact h.real.inj b1 b2 g U h2
 ·have:=h.real.bM g hg
  simp;omega
 ·by_cases aj:b'=b
  ·subst aj
   simp only[aT,if_true,Option.some.injEq]at hp
   subst hp
   exact .inr h.ext.size
  ·simp only[aT,if_neg aj]at hp
   exact h.b9 b' g hp
 ·have aj:b'≠b:=by omega
  have hq:Nat.beq b b'=false:=by
   cases hq:Nat.beq b b' with
   |false=>rfl
   |true=>exact absurd (Nat.eq_of_beq_eq_true hq).symm aj
  simp only[lk,hq,cond_false]at hl
  simp only[aT,if_neg aj]
  exact h.cE b' g o' ag h0 hl
theorem St.tn (h:St B φ I H w) {b:Nat} (hb:lk H b=none) (Gu:B.nb<=b) {cs:Array Value} {e:TypeId} {o:Ob}
  (ho:o.at (w.alloc (.cells cs e)) (aT φ b (some w.heap.size)) I (some w.heap.size)):
  St B (aT φ b (some w.heap.size)) I ((b,o)::H) (w.alloc (.cells cs e))/\bC w φ I (w.alloc (.cells cs e)) (aT φ b (some w.heap.size)) I:=h.Bh hb Gu ho
theorem St.JO (h:St B φ I H w) (cs:Array Value) (e:TypeId):
  St B φ (fun g=>I g\/g=w.heap.size) H (w.alloc (.cells cs e))/\bC w φ I (w.alloc (.cells cs e)) φ (fun g=>I g\/g=w.heap.size):=by
 have k:bC w φ I (w.alloc (.cells cs e)) φ (fun g=>I g\/g=w.heap.size):=
  ⟨fun g hg=>heap_alloc_old w _ (h.real.bM g hg),fun _ h=> .inl h,fun _ _ h=>h,fun _ g n _ hs=>(tI (fun _=>False) w _).shaped (fun h=>h) hs⟩
 refine⟨⟨⟨h.real.bj,fun b' o' p hl hp=>?_,fun b' g hp=>?_,h.real.inj,fun g hg=>?_⟩,h.ext.trans (tI (fun _=>False) w _) (fun g hf=>hf.elim),h.b9,fun g hg=>?_,fun g hg=> .inl (h.cj g hg),h.cE⟩,k⟩
 ·refine Ob.kF k.im k.I k.phi k.sh (fun g hg=>?_) (h.real.own b' o' p hl hp)
  subst hg
  exact heap_alloc_old w _ (h.real.off b' g hp).2
 ·have:=h.real.off b' g hp
  exact⟨fun hi=>hi.elim this.1 (by omega),by simp;omega⟩
 ·rcases hg with hg|rfl
  ·have:=h.real.bM g hg;simp;omega
  ·simp
 ·rcases hg with hg|rfl
  ·exact h.cZ g hg
  ·exact .inr (.inr h.ext.size)
theorem St.write (h:St B φ I H w) {b g:Nat} {o o':Ob} (hl:lk H b=some o) (hg:φ b=some (some g)) {cur cs:Array Value} {e:TypeId} (hc:w.heap[g]?=some (.cells cur e (0,0))) (aO:cs.size=cur.size)
  (hk:∀el cs,o'= .var el cs->∃TV cs',o= .var TV cs') (ho:o'.at (w.setRow g cs) φ I (some g)):
  St B φ I (aN H b o') (w.setRow g cs)/\bC w φ I (w.setRow g cs) φ I:=by
 have VY:∀(g':Nat) (c:Array Value) (e':TypeId) (fz:Nat×Nat),w.heap[g']?=some (Obj.cells c e' fz)->∃(c':Array Value) (jU:Nat×Nat),(w.setRow g cs).heap[g']?=some (Obj.cells c' e' jU)/\c'.size=c.size:=by
  intro g' c e' fz dU
  by_cases cC:g'=g
  ·subst cC
   rw[hc]at dU
   cases dU
   exact⟨cs,_,setRow_heap w g' cur cs e (0,0) hc,aO⟩
  ·exact⟨c,_,(setRow_other w g g' cs cC).trans dU,rfl⟩
 have cK:∀g' n,shaped w g' n->shaped (w.setRow g cs) g' n:=by
  rintro g' n ⟨c,e',dU,hn⟩
  by_cases cC:g'=g
  ·subst cC
   rw[hc]at dU
   cases dU
   exact⟨cs,_,setRow_heap w g' cur cs e (0,0) hc,by rw[aO];exact hn⟩
  ·exact⟨c,e',(setRow_other w g g' cs cC).trans dU,hn⟩
 have dF:Ext (fun x=>x=g) w (w.setRow g cs):=
  ⟨by simp,fun g' _ hn=>setRow_other w g g' cs hn,VY,rfl,rfl,rfl⟩
 have k:bC w φ I (w.setRow g cs) φ I:=
  ⟨fun g' bO=>setRow_other w g g' cs (fun e=>by subst e;exact(h.real.off b g' hg).1 bO),fun _ h=>h,fun _ _ h=>h,fun _ _ _ _ hs=>cK _ _ hs⟩
 refine⟨⟨⟨fun b'=>?_,fun b' o1 p aD hp=>?_,fun b' g' hp=>?_,h.real.inj,fun g' bO=>?_⟩,h.ext.trans dF (fun g' bO=>?_),h.b9,h.cZ,h.cj,fun b' g' oo ag h0 aD=>?_⟩,k⟩
 ·by_cases aj:b'=b
  ·subst aj
   rw[cV H b' o' hl,hg];rfl
  ·rw[cm H b b' o' aj];exact h.real.bj b'
 ·by_cases aj:b'=b
  ·subst aj
   rw[cV H b' o' hl]at aD
   cases aD
   rw[hg]at hp
   cases hp
   exact ho
  ·rw[cm H b b' o' aj]at aD
   refine Ob.kF k.im k.I k.phi k.sh (fun g' bO=>?_) (h.real.own b' o1 p aD hp)
   subst bO
   exact setRow_other w g g' cs (fun e=>aj (h.real.inj b' b g' hp (by rw[e];exact hg)))
 ·have:=h.real.off b' g' hp
  exact⟨this.1,by simpa using this.2⟩
 ·have:=h.real.bM g' bO
  simpa using this
 ·subst bO
  exact h.b9 b g' hg
 ·by_cases aj:b'=b
  ·subst aj
   exact h.cE b' g' o ag h0 hl
  ·rw[cm H b b' o' aj]at aD
   exact h.cE b' g' oo ag h0 aD
end
mutual
def k6:AV->Option IV
 | .im x=>some x
 | .fn f fs aF=>match mw fs,mw aF with
  |some a,some b=>some (.fn f a b)
  |_,_=>none
 |_=>none
def mw:List AV->Option (List IV)
 |[]=>some []
 |y::r=>match k6 y,mw r with
  |some x,some l=>some (x::l)
  |_,_=>none
end
def uD:AV->Option (List IV)
 | .ar cs=>some cs
 |a=>match tv a with
  |some ys=>mw ys
  |none=>none
def rowsOf (E:Env) (es:Nat):Nat->List (Nat×Operand)->Option (List (List IV))
 |_,[]=>some []
 |k,(i,x)::r=>bif Nat.beq i k then match ev E x with
  |some a=>match uD a,rowsOf E es (k+1) r with
   |some c,some l=>bif Nat.beq c.length es then some (c::l)else none
   |_,_=>none
  |none=>none
  else none
def bT:List Nat->Nat->Bool
 |[],_=>false
 |j::r,i=>bif Nat.beq j i then true else bT r i
def zT (l:List Nat):Option Nat->Bool
 |some d=>bT l d
 |none=>false
def setRowI (row:List IV) (j:Nat) (c:List IV):List IV:=row.take j++c++row.drop (j+c.length)
def TK.Hf:TK->Bool
 | .func=>true
 |_=>false
def qa (P:Program) (nb:Nat) (pO:List Nat) (E:Env) (H:aa) (o:Oper):Option (Prop×AV×aa):=
 match o.op with
 | .alloc t=>match aA P t with
  |some z=>bif z.all Value.oneCell' then match tk P t with
   | .arr _ e=>bif decide (sz P e=some 1)&&!(tk P e).Hf then some (True,.ob (au nb H) 0,(au nb H,.vec t 1 (z.map fun c=>[.v c]))::H)else some (True,.ob (au nb H) 0,(au nb H,.var t (z.map fun c=> .im (.v c)))::H)
   |_=>some (True,.ob (au nb H) 0,(au nb H,.var t (z.map fun c=> .im (.v c)))::H)
   else none
  |none=>none
 | .box t x=>match ev E x with
  |some a=>bif zT pO o.dst then match tv a with
    |some ys=>some (True,.ob (au nb H) 0,(au nb H,.var t ys)::H)
    |none=>none
   else match uD a with
    |some cs=>some (True,.im (.pt cs),H)
    |none=>none
  |none=>none
 | .buildSlice t len parts=>match tk P t with
  | .slice e=>match len with
   |0=>match sz P e,parts.toList with
    |some es,[]=>some (True,.os (au nb H) es 0 0,(au nb H,.vec e es [])::H)
    |_,_=>none
   |k+1=>match sz P e,aA P e with
    |some (es+1),some z=>bif Nat.beq parts.toList.length (k+1)&&Nat.beq z.length (es+1)&&Nat.ble ((k+1)*(es+1)) 16777216 then match rowsOf E (es+1) 0 parts.toList with
     |some rows=>bif zT pO o.dst then some (True,.os (au nb H) (es+1) 0 (k+1),(au nb H,.vec e (es+1) rows)::H)else some (True,.im (.sl (es+1) rows),H)
     |none=>none
     else none
    |_,_=>none
  |_=>none
 | .store t p x=>match ev E p,ev E x,sz P t with
  |some (.ob b off),some a,some n=>match lk H b with
   |some (.var (.cell el) cs)=>match tv a with
    |some ys=>bif Nat.beq ys.length n then some (off+n<=cs.length,.top,aN H b (.var (.cell el) (setAt cs off ys)))else none
    |none=>none
   |some (.vec el 1 rows)=>match uD a with
    |some cs=>bif Nat.beq off 0 then some (cs.length=n/\rows.length=n,.top,aN H b (.vec el 1 (cs.map fun c=>[c])))else none
    |none=>none
   |_=>none
  |some (.oe b es i j),some a,some n=>match lk H b,uD a with
   |some (.vec el ef rows),some c=>bif Nat.beq es ef&&Nat.beq c.length n then some (i<rows.length/\j+n<=es,.top,aN H b (.vec el ef (rows.set i (setRowI (rows.getD i []) j c))))else none
   |_,_=>none
  |_,_,_=>none
 |_=>none
section
variable {P:Program} {B:Bs} {w:World} {φ:ai} {I:Nat->Prop} {E:Env} {H:aa} {a:Act}
theorem ir (w:World) (o:Obj):(w.alloc o).heap[w.heap.size]?=some o:=heap_alloc_new w o
def Jt (P:Program) (B:Bs) (w:World) (φ:ai) (I:Nat->Prop) (s:Sem Next) (v:AV) (H':aa):Prop:=
 ∃nx w' φ' I',s.run P w= .ok nx w'/\((∃u,nx= .value u/\AV.den w' φ' I' v u)\/(nx= .skip/\AV.den w' φ' I' v undef))/\St B φ' I' H' w'/\bC w φ I w' φ' I'
theorem IF:∀(us:List Value),us.all Value.oneCell'=true->IV.aE w I (us.map fun c=>[.v c]) (us.map fun c=>[c])
 |[],_=>by simp[IV.aE]
 |x::us,h=>by
  simp only[List.all_cons,Bool.and_eq_true]at h
  simp only[List.map_cons,IV.aE,IV.ab]
  exact⟨[x],_,rfl,⟨x,[],rfl,by simp only[IV.den];exact⟨by simp,h.1⟩,rfl⟩,IF us h.2⟩
theorem yA:∀(us:List Value),(us.map fun c=>[c]).flatten=us
 |[]=>rfl
 |x::us=>by simp[yA us]
mutual
theorem Xx:∀(y:AV) (x:IV) (u:Value),k6 y=some x->AV.den w φ I y u->IV.den w I x u
 | .im x',x,u,h,hd=>by
  simp only[k6,Option.some.injEq]at h
  subst h
  simpa only[AV.den]using hd
 | .fn f fs aF,x,u,h,hd=>by
  simp only[k6]at h
  split at h
  ·rename_i a b ha hb
   simp only[Option.some.injEq]at h
   subst h
   simp only[AV.den]at hd
   obtain⟨us,vs,U,h2,e⟩:=hd
   simp only[IV.den]
   exact⟨us,vs,zR fs a us ha U,zR aF b vs hb h2,e⟩
  ·cases h
 | .mp _,_,_,h,_=>by simp[k6]at h
 | .wr _ _,_,_,h,_=>by simp[k6]at h
 | .ob _ _,_,_,h,_=>by simp[k6]at h
 | .oe _ _ _ _,_,_,h,_=>by simp[k6]at h
 | .os _ _ _ _,_,_,h,_=>by simp[k6]at h
 | .agg _,_,_,h,_=>by simp[k6]at h
 | .ar _,_,_,h,_=>by simp[k6]at h
 | .aG _,_,_,h,_=>by simp[k6]at h
 | .opt _ _,_,_,h,_=>by simp[k6]at h
 | .top,_,_,h,_=>by simp[k6]at h
theorem zR:∀(ys:List AV) (l:List IV) (us:List Value),mw ys=some l->AV.ab w φ I ys us->IV.ab w I l us
 |[],l,us,h,hd=>by simp only[mw,Option.some.injEq]at h;subst h;simpa[AV.ab,IV.ab]using hd
 |y::ys,l,us,h,hd=>by
  simp only[mw]at h
  split at h
  ·rename_i x l' hx hl
   simp only[Option.some.injEq]at h
   subst h
   simp only[AV.ab]at hd
   obtain⟨u,ak,rfl,U,h2⟩:=hd
   simp only[IV.ab]
   exact⟨u,ak,rfl,Xx y x u hx U,zR ys l' ak hl h2⟩
  ·cases h
end
theorem CW {x:AV} {l:List IV} {u:Value} (h:uD x=some l) (hx:AV.den w φ I x u):∃us,u.cells=us.toArray/\IV.ab w I l us:=by
 unfold uD at h
 split at h
 ·simp only[Option.some.injEq]at h;subst h
  simp only[AV.den]at hx
  obtain⟨us,hd,rfl⟩:=hx
  exact⟨us,rfl,hd⟩
 ·split at h
  ·rename_i ys hy
   obtain⟨ws,hw,hd,_⟩:=Bq hy hx
   exact⟨ws,hw,zR ys l ws h hd⟩
  ·cases h
theorem P4 (hE:dS w φ I E a) {es:Nat}:∀(parts:List (Nat×Operand)) (k:Nat) (rows:List (List IV)),rowsOf E es k parts=some rows->
  ∃vs:List Value,parts.map (fun p=>(p.1,a.eval p.2))=(vs.zipIdx k).map (fun x=>(x.2,x.1))/\(∀v∈vs,v.cells.size=es)/\vs.length=parts.length/\
   IV.aE w I rows (vs.map fun v=>v.cells.toList)
 |[],k,rows,h=>by
  simp only[rowsOf,Option.some.injEq]at h
  subst h
  exact⟨[],rfl,by simp,rfl,by simp[IV.aE]⟩
 |(i,x)::r,k,rows,h=>by
  simp only[rowsOf]at h
  cases hb:Nat.beq i k with
  |false=>rw[hb]at h;simp at h
  |true=>
   rw[hb]at h
   have hi:=Nat.eq_of_beq_eq_true hb
   subst hi
   simp only[cond_true]at h
   split at h
   ·rename_i av mX
    split at h
    ·rename_i c l hc hl
     cases hq:Nat.beq c.length es with
     |false=>rw[hq]at h;simp at h
     |true=>
      rw[hq]at h
      simp only[cond_true,Option.some.injEq]at h
      subst h
      have cz:=Nat.eq_of_beq_eq_true hq
      obtain⟨us,hu,hd⟩:=CW hc (aH hE mX)
      obtain⟨vs,U,h2,h3,h4⟩:=P4 hE r (i+1) l hl
      refine⟨a.eval x::vs,by simp[List.zipIdx_cons,U],fun v hv=>?_,by simp[h3],?_⟩
      ·rcases List.mem_cons.1 hv with rfl|hv
       ·rw[hu];simp;rw[qO c us hd];exact cz
       ·exact h2 v hv
      ·simp only[List.map_cons,IV.aE]
       exact⟨_,_,rfl,by rw[hu];exact hd,h4⟩
    ·cases h
   ·cases h
theorem TR {row:List IV} {us:List Value} {c:List IV} {ws:List Value} {j:Nat} (hd:IV.ab w I row us) (hc:IV.ab w I c ws) (hj:j+c.length<=row.length):
  IV.ab w I (setRowI row j c) (us.take j++ws++us.drop (j+ws.length)):=by
 unfold setRowI
 rw[qO c ws hc]
 exact rG.CU _ _ _ _ (rG.CU _ _ _ _ (CV j _ _ hd) hc) (wF _ _ _ hd)
theorem KQ:∀(rows:List (List IV)) (ae:List (List Value)) (i:Nat) (r:List IV) (vs:List Value),IV.aE w I rows ae->IV.ab w I r vs->IV.aE w I (rows.set i r) (ae.set i vs)
 |[],ae,i,r,vs,h,_=>by simp only[IV.aE]at h;subst h;simp[IV.aE]
 |c::cs,ae,i,r,vs,h,hx=>by
  simp only[IV.aE]at h
  obtain⟨u0,ak,rfl,U,h2⟩:=h
  cases i with
  |zero=>simp only[List.set_cons_zero,IV.aE];exact⟨vs,ak,rfl,hx,h2⟩
  |succ i=>simp only[List.set_cons_succ,IV.aE];exact⟨u0,_,rfl,U,KQ cs ak i r vs h2 hx⟩
theorem Fb:∀(ae:List (List Value)) (es i:Nat) (vs:List Value),(∀v∈ae,v.length=es)->vs.length=es->i<ae.length->
  (ae.set i vs).flatten=ae.flatten.take (i*es)++vs++ae.flatten.drop (i*es+es)
 |[],_,_,_,_,_,h=>by simp at h
 |x::xs,es,0,vs,hl,hv,_=>by
  have hx:x.length=es:=hl x (by simp)
  simp[List.flatten_cons,List.drop_append,<-hx]
 |x::xs,es,i+1,vs,hl,hv,h=>by
  have hx:x.length=es:=hl x (by simp)
  have ih:=Fb xs es i vs (fun v hv=>hl v (by simp[hv])) hv (by simpa using h)
  rw[List.set_cons_succ,List.flatten_cons,List.flatten_cons,ih]
  have e1:(i+1)*es=x.length+i*es:=by rw[hx,Nat.add_mul];omega
  rw[e1,List.take_append,List.drop_append,List.take_of_length_le (l:=x) (by omega),List.drop_eq_nil_of_le (as:=x) (by omega)]
  have e2:x.length+i*es-x.length=i*es:=by omega
  have e3:x.length+i*es+es-x.length=i*es+es:=by omega
  rw[e2,e3]
  simp
theorem IJ {t:TypeId} {n g o:Nat} {u:Value} {ws:List Value} {cur:Array Value} {e:TypeId} (hn:sz P t=some n) (hu:u.cells=ws.toArray) (hl:ws.length=n) (U:∀x∈ws,x.oneCell'=true)
  (hg:w.heap[g]?=some (.cells cur e (0,0))) (y0:o+n<=cur.size):
  (Instr.storeAt t (.pointer (some ⟨g,o,none⟩)) u).run P w= .ok () (w.setRow g (cur.toList.take o++ws++cur.toList.drop (o+n)).toArray):=by
 have bG:=run_storeCells_at P g o e ws 0 cur w hg (by simp only[Nat.add_zero];omega) U
 simp only[Nat.add_zero]at bG
 simp[Instr.storeAt,Instr.sureAddr,storeVar,hu,hl,run_sizeOf hn,bG]
theorem Qm:∀(ws:List Value) (off:Nat) (us:List Value),off+ws.length<=us.length->lj us off ws=us.take off++ws++us.drop (off+ws.length)
 |[],off,us,_=>by simp[lj]
 |x::ws,off,us,h=>by
  simp only[lj]
  rw[Qm ws (off+1) (us.set off x) (by simp at h⊢;omega)]
  have ag:off<us.length:=by simp at h;omega
  have e1:(us.set off x).take (off+1)=us.take off++[x]:=by
   rw[List.take_succ_eq_append_getElem (by simpa using ag),List.take_set_of_le (Nat.le_refl _)]
   simp
  have e2:(us.set off x).drop (off+1+ws.length)=us.drop (off+1+ws.length):=by rw[List.drop_set_of_lt (by omega)]
  rw[e1,e2]
  rw[List.length_cons,show off+(ws.length+1)=off+1+ws.length by omega]
  simp
theorem JJ (hE:dS w φ I E a) (hS:St B φ I H w) {pO:List Nat} {o:Oper} {sc:Prop} {v:AV} {H':aa} (h:qa P B.nb pO E H o=some (sc,v,H')) (ay:sc):
  Jt P B w φ I (execOp a.eval o) v H':=by
 obtain⟨dst,op,ty,pos,after,guard⟩:=o
 unfold qa at h
 simp only at h
 split at h
 ·
  rename_i t
  split at h
  ·rename_i z hz
   obtain⟨it,zv,hit,ov,rfl⟩:=va hz
   cases hb:zv.cells.toList.all Value.oneCell' with
   |false=>rw[hb]at h;simp at h
   |true=>
    rw[hb]at h
    simp only[cond_true]at h
    have aB:(execOp a.eval ⟨dst,.alloc t,ty,pos,after,guard⟩).run P w= .ok (.value (.pointer (some ⟨w.heap.size,0,none⟩))) (w.alloc (.cells zv.cells t)):=by
     simp[execOp,Instr.alloc,zeroValue,typeInfo,hit,ov,newVar,newRow]
    have wB:∀{H'},H'=(au B.nb H,Ob.var t (zv.cells.toList.map fun c=> .im (.v c)))::H->Jt P B w φ I (execOp a.eval ⟨dst,.alloc t,ty,pos,after,guard⟩) (.ob (au B.nb H) 0) H':=by
     intro H' e
     subst e
     obtain⟨U,h2⟩:=hS.tn (k_ B.nb H) (dh B.nb H).1 (cs:=zv.cells) (e:=t) (o:= .var t (zv.cells.toList.map fun c=> .im (.v c))) (by
      simp only[Ob.at,Sh.has,Sh.one]
      exact⟨_,zv.cells.toList,rfl,by simpa using ir w _,yq _ hb,List.all_eq_true.1 hb⟩)
     exact⟨_,_,_,_,aB,.inl ⟨_,rfl,by simp only[AV.den,aT];exact⟨_,by simp,rfl⟩⟩,U,h2⟩
    split at h
    ·rename_i m e _
     cases hd:(decide (sz P e=some 1)&&!(tk P e).Hf)with
     |true=>
      rw[hd]at h
      simp only[cond_true,Option.some.injEq,Prod.mk.injEq]at h
      obtain⟨_,rfl,rfl⟩:=h
      obtain⟨U,h2⟩:=hS.tn (k_ B.nb H) (dh B.nb H).1 (cs:=zv.cells) (e:=t) (o:= .vec t 1 (zv.cells.toList.map fun c=>[.v c])) (by
       simp only[Ob.at,Sh.has,Sh.one]
       refine .inr ⟨_,zv.cells.toList.map fun c=>[c],[],rfl,?_,IF _ hb,by simp⟩
       rw[yA]
       simpa using ir w _)
      exact⟨_,_,_,_,aB,.inl ⟨_,rfl,by simp only[AV.den,aT];exact⟨_,by simp,rfl⟩⟩,U,h2⟩
     |false=>
      rw[hd]at h
      simp only[cond_false,Option.some.injEq,Prod.mk.injEq]at h
      obtain⟨_,rfl,rfl⟩:=h
      exact wB rfl
    ·simp only[Option.some.injEq,Prod.mk.injEq]at h
     obtain⟨_,rfl,rfl⟩:=h
     exact wB rfl
  ·cases h
 ·
  rename_i t x
  split at h
  ·rename_i av hx
   have hd:=aH (w:=w) (φ:=φ) (I:=I) hE hx
   have aB:(execOp a.eval ⟨dst,.box t x,ty,pos,after,guard⟩).run P w= .ok (.value (.pointer (some ⟨w.heap.size,0,none⟩))) (w.alloc (.cells (a.eval x).cells t)):=by
    simp[execOp,Instr.box,newVar,newRow]
   cases hb:zT pO dst with
   |true=>
    rw[hb]at h
    simp only[cond_true]at h
    split at h
    ·rename_i ys hy
     simp only[Option.some.injEq,Prod.mk.injEq]at h
     obtain⟨_,rfl,rfl⟩:=h
     obtain⟨ws,hw,kQ,cL⟩:=Bq hy hd
     rw[hw]at aB
     have hnb:φ (au B.nb H)=none:=by
      have:=hS.real.bj (au B.nb H)
      rw[k_ B.nb H]at this
      cases hq:φ (au B.nb H)with
      |none=>rfl
      |some _=>rw[hq]at this;cases this
     obtain⟨U,h2⟩:=hS.tn (k_ B.nb H) (dh B.nb H).1 (cs:=ws.toArray) (e:=t) (o:= .var t ys) (by
      simp only[Ob.at,Sh.has,Sh.one]
      refine⟨_,ws,rfl,by simpa using ir w _,?_,cL⟩
      refine AV.fb (fun g hg=>heap_alloc_old w _ (hS.real.bM g hg)) (fun _ h=>h) (fun b p hp=>?_) (fun _ g n _ hs=>(tI (fun _=>False) w _).shaped (fun h=>h) hs) ys ws kQ
      unfold aT
      rw[if_neg (by intro e;rw[e,hnb]at hp;cases hp)]
      exact hp)
     exact⟨_,_,_,_,aB,.inl ⟨_,rfl,by simp only[AV.den,aT];exact⟨_,by simp,rfl⟩⟩,U,h2⟩
    ·cases h
   |false=>
    rw[hb]at h
    simp only[cond_false]at h
    split at h
    ·rename_i cs hc
     simp only[Option.some.injEq,Prod.mk.injEq]at h
     obtain⟨_,rfl,rfl⟩:=h
     obtain⟨us,hu,dz⟩:=CW hc hd
     rw[hu]at aB
     obtain⟨U,h2⟩:=hS.JO us.toArray t
     refine⟨_,_,_,_,aB,.inl ⟨_,rfl,?_⟩,U,h2⟩
     simp only[AV.den,IV.den]
     refine⟨_,0,us,rfl,.inr rfl,IV.fb h2.im h2.I cs us dz,fun j u hu=>?_⟩
     rw[Nat.zero_add]
     simp only[World.cell?,ir w,Option.isSome_none,Bool.false_eq_true,if_false,List.getElem?_toArray]
     exact hu
    ·cases h
  ·cases h
 ·
  rename_i t len parts
  split at h
  ·rename_i e ht
   split at h
   ·split at h
    ·rename_i es bW WE
     simp only[Option.some.injEq,Prod.mk.injEq]at h
     obtain⟨_,rfl,rfl⟩:=h
     obtain rfl:parts=#[]:=by cases parts;simpa using WE
     have aB:(execOp a.eval ⟨dst,.buildSlice t 0 #[],ty,pos,after,guard⟩).run P w= .ok (.value (.slice (some ⟨w.heap.size,0,none⟩) 0 0)) (w.alloc (.cells #[] e)):=by
      have h0:Array.range 0=#[]:=by decide
      simp[execOp,Instr.buildSlice,run_underlying (eU ht),run_sizeOf bW,Instr.fill,newRow,h0]
     obtain⟨U,h2⟩:=hS.tn (k_ B.nb H) (dh B.nb H).1 (cs:=#[]) (e:=e) (o:= .vec e es []) (by
       simp only[Ob.at,Sh.has,Sh.one]
       exact .inr ⟨_,[],[],rfl,by simpa using ir w _,by simp[IV.aE],by simp⟩)
     refine⟨_,_,_,_,aB,.inl ⟨_,rfl,?_⟩,U,h2⟩
     simp only[AV.den,aT]
     exact .inr ⟨_,0,by simp,by simp,Nat.le_refl _,Nat.zero_le _,#[],e,ir w _,by simp⟩
    ·cases h
   ·rename_i k
    split at h
    ·rename_i es z bW hz
     cases hb:(Nat.beq parts.toList.length (k+1)&&Nat.beq z.length (es+1)&&Nat.ble ((k+1)*(es+1)) 16777216)with
     |false=>rw[hb]at h;simp at h
     |true=>
      rw[hb]at h
      simp only[cond_true]at h
      simp only[Bool.and_eq_true]at hb
      have lQ:=Nat.eq_of_beq_eq_true hb.1.1
      have Nl:=Nat.le_of_ble_eq_true hb.2
      split at h
      ·rename_i rows WW
       obtain⟨vs,hQ,k4,zF,GU⟩:=P4 (w:=w) (φ:=φ) (I:=I) hE _ _ _ WW
       obtain⟨_,ie,fM,aO⟩:=nH bW
       obtain⟨ie',zv,ME,ov,_⟩:=va hz
       rw[fM]at ME
       cases ME
       have aB:(execOp a.eval ⟨dst,.buildSlice t (k+1) parts,ty,pos,after,guard⟩).run P w= .ok (.value (.slice (some ⟨w.heap.size,0,none⟩) (k+1) (k+1))) (w.alloc (.cells (vs.flatMap fun v=>v.cells.toList).toArray e)):=by
        have:=run_buildSlice (P:=P) w t e (k+1) (parts.map fun(i,x)=>(i,a.eval x)) (vs.flatMap fun v=>v.cells.toList).toArray ie zv (eU ht) fM ov (by rw[aO];show¬(k+1)*(es+1)>2^24;omega) (by rw[aO];simp) (by
         rw[Ir,hQ,aO]
         exact Great.fill_whole (Nat.succ_pos _) vs _ k4 (by rw[zF,lQ];simp))
        simp only[execOp,Sem.run_bind,this,Result.andThen_ok,Sem.run_pure]
       have dO:(vs.flatMap fun v=>v.cells.toList)=(vs.map fun v=>v.cells.toList).flatten:=by simp[List.flatMap]
       have r_:rows.length=k+1:=by rw[<-lA _ _ GU,List.length_map,zF,lQ]
       cases hq:zT pO dst with
       |true=>
        rw[hq]at h
        simp only[cond_true,Option.some.injEq,Prod.mk.injEq]at h
        obtain⟨_,rfl,rfl⟩:=h
        obtain⟨U,h2⟩:=hS.tn (k_ B.nb H) (dh B.nb H).1 (cs:=(vs.flatMap fun v=>v.cells.toList).toArray) (e:=e) (o:= .vec e (es+1) rows) (by
         simp only[Ob.at,Sh.has,Sh.one]
         refine .inr ⟨_,vs.map fun v=>v.cells.toList,[],rfl,?_,IV.iD (fun g hg=>heap_alloc_old w _ (hS.real.bM g hg)) (fun _ h=>h) rows _ GU,?_⟩
         ·rw[List.append_nil,<-dO];exact ir w _
         ·intro us dI
          obtain⟨v,hv,rfl⟩:=List.mem_map.1 dI
          simpa using k4 v hv)
        refine⟨_,_,_,_,aB,.inl ⟨_,rfl,?_⟩,U,h2⟩
        simp only[AV.den,aT]
        refine .inr ⟨_,k+1,by simp,by simp,Nat.le_refl _,?_,_,e,ir w _,?_⟩
        ·have:k+1<=(k+1)*(es+1):=Nat.le_mul_of_pos_right _ (Nat.succ_pos _)
         unfold maxLen;omega
        ·rw[dO]
         have:∀(l:List (List Value)),(∀x∈l,x.length=es+1)->l.flatten.length=l.length*(es+1):=by
          intro l
          induction l with
          |nil=>simp
          |cons x l ih=>intro hx;simp only[List.flatten_cons,List.length_append,List.length_cons];rw[ih (fun y hy=>hx y (by simp[hy])),hx x (by simp),Nat.add_mul];omega
         rw[List.size_toArray,this _ (by intro us dI;obtain⟨v,hv,rfl⟩:=List.mem_map.1 dI;simpa using k4 v hv),List.length_map,zF,lQ]
         simp
       |false=>
        rw[hq]at h
        simp only[cond_false,Option.some.injEq,Prod.mk.injEq]at h
        obtain⟨_,rfl,rfl⟩:=h
        obtain⟨U,h2⟩:=hS.JO (vs.flatMap fun v=>v.cells.toList).toArray e
        refine⟨_,_,_,_,aB,.inl ⟨_,rfl,?_⟩,U,h2⟩
        simp only[AV.den,IV.den]
        refine⟨_,k+1,vs.map fun v=>v.cells.toList,by rw[r_],by omega,IV.iD h2.im h2.I rows _ GU,?_,fun _=>⟨w.heap.size,0,rfl,.inr rfl,fun j u hu=>?_⟩⟩
        ·intro us dI
         obtain⟨v,hv,rfl⟩:=List.mem_map.1 dI
         simpa using k4 v hv
        ·rw[Nat.zero_add]
         rw[<-dO]at hu
         simp only[World.cell?,ir w,Option.isSome_none,Bool.false_eq_true,if_false,List.getElem?_toArray]
         exact hu
      ·cases h
    ·cases h
  ·cases h
 ·
  rename_i t p x
  split at h
  ·rename_i b off av n hp hx hn
   have Cb:=aH (w:=w) (φ:=φ) (I:=I) hE hx
   have tX:=aH (w:=w) (φ:=φ) (I:=I) hE hp
   simp only[AV.den]at tX
   obtain⟨g,hg,nj⟩:=tX
   split at h
   ·rename_i el cs cH
    split at h
    ·rename_i ys hy
     cases hq:Nat.beq ys.length n with
     |false=>rw[hq]at h;simp at h
     |true=>
      rw[hq]at h
      simp only[cond_true,Option.some.injEq,Prod.mk.injEq]at h
      obtain⟨rfl,rfl,rfl⟩:=h
      have Xs:=Nat.eq_of_beq_eq_true hq
      obtain⟨ws,hw,kQ,cL⟩:=Bq hy Cb
      have ba:=hS.real.own b _ _ cH hg
      simp only[Ob.at,Sh.has,Sh.one]at ba
      obtain⟨g',us,cC,cg,hd,U⟩:=ba
      cases cC
      have cY:=jm cs us hd
      have mr:ws.length=n:=by rw[jm ys ws kQ];exact Xs
      have aB:=IJ (P:=P) (w:=w) (o:=off) hn hw mr cL cg (by simp;omega)
      have e1:=Qm ws off us (by omega)
      rw[mr]at e1
      rw[<-e1]at aB
      have nc:∀(y:AV) (u:Value),True:=fun _ _=>trivial
      obtain⟨h2,h3⟩:=hS.write (o':= .var el (setAt cs off ys)) cH hg cg (cs:=(lj us off ws).toArray) (by simp[DS]) (fun _ _ _=>⟨_,_,rfl⟩) (by
       simp only[Ob.at,Sh.has,Sh.one]
       refine⟨g,lj us off ws,rfl,setRow_heap w g _ _ el (0,0) cg,?_,IL ws off us U cL⟩
       refine AV.fb (fun g' bO=>setRow_other w g g' _ (fun e=>by subst e;exact(hS.real.off b g' hg).1 bO)) (fun _ h=>h) (fun _ _ h=>h) (fun _ g' n' _ hs=>?_) _ _ (IM ys ws off cs us hd kQ)
       obtain⟨c,e,hc,B8⟩:=hs
       by_cases cC:g'=g
       ·subst cC
        rw[cg]at hc
        cases hc
        exact⟨_,el,setRow_heap w g' _ _ el (0,0) cg,by simpa[DS]using B8⟩
       ·exact⟨c,e,(setRow_other w g g' _ cC).trans hc,B8⟩)
      refine⟨.skip,_,_,_,?_,.inr ⟨rfl,by simp only[AV.den]⟩,h2,h3⟩
      simp only[execOp,nj,Sem.run_bind,aB,Result.andThen_ok,Sem.run_pure]
    ·cases h
   ·rename_i el rows cH
    split at h
    ·rename_i cs jt
     cases hq:Nat.beq off 0 with
     |false=>rw[hq]at h;simp at h
     |true=>
      rw[hq]at h
      have ho:=Nat.eq_of_beq_eq_true hq
      subst ho
      simp only[cond_true,Option.some.injEq,Prod.mk.injEq]at h
      obtain⟨rfl,rfl,rfl⟩:=h
      obtain⟨cz,r_⟩:=ay
      obtain⟨ws,eX,kQ⟩:=CW jt Cb
      have ba:=hS.real.own b _ _ cH hg
      simp only[Ob.at,Sh.has,Sh.one]at ba
      rcases ba with⟨a6,_⟩|⟨g',ae,rest,cC,cg,hd,hl⟩
      ·cases a6
      cases cC
      have mr:ws.length=n:=by rw[qO cs ws kQ];exact cz
      have fF:=lA rows ae hd
      have dO:∀(l:List (List Value)),(∀x∈l,x.length=1)->l.flatten.length=l.length:=by
       intro l
       induction l with
       |nil=>simp
       |cons x l ih=>intro hx;simp only[List.flatten_cons,List.length_append,List.length_cons];rw[ih (fun y hy=>hx y (by simp[hy])),hx x (by simp)];omega
      have Nv:=dO ae hl
      have aB:=IJ (P:=P) (w:=w) (o:=0) (u:=a.eval x) hn eX mr (ss cs ws kQ) cg (by simp only[List.size_toArray,List.length_append];omega)
      have e1:((ae.flatten++rest).toArray.toList.take 0++ws++(ae.flatten++rest).toArray.toList.drop (0+n))=(ws.map fun c=>[c]).flatten++rest:=by
       rw[yA]
       simp only[List.take_zero,List.nil_append,Nat.zero_add]
       rw[List.drop_append,List.drop_eq_nil_of_le (as:=ae.flatten) (by omega),show n-ae.flatten.length=0 from by omega]
       rfl
      rw[e1]at aB
      obtain⟨h2,h3⟩:=hS.write (o':= .vec el 1 (cs.map fun c=>[c])) cH hg cg (cs:=((ws.map fun c=>[c]).flatten++rest).toArray) (by rw[yA];simp only[List.size_toArray,List.length_append];omega) (fun _ _ e=>by cases e) (by
       simp only[Ob.at,Sh.has,Sh.one]
       refine .inr ⟨g,ws.map fun c=>[c],rest,rfl,setRow_heap w g _ _ el (0,0) cg,?_,by simp⟩
       refine IV.iD (fun g' bO=>setRow_other w g g' _ (fun e=>by subst e;exact(hS.real.off b g' hg).1 bO)) (fun _ h=>h) _ _ ?_
       have:∀(xs:List IV) (us:List Value),IV.ab w I xs us->IV.aE w I (xs.map fun c=>[c]) (us.map fun c=>[c]):=by
        intro xs
        induction xs with
        |nil=>intro us h;simp only[IV.ab]at h;subst h;simp[IV.aE]
        |cons x xs ih=>
         intro us h
         simp only[IV.ab]at h
         obtain⟨u,ak,rfl,U,h2⟩:=h
         simp only[List.map_cons,IV.aE,IV.ab]
         exact⟨[u],_,rfl,⟨u,[],rfl,U,rfl⟩,ih ak h2⟩
       exact this cs ws kQ)
      refine⟨.skip,_,_,_,?_,.inr ⟨rfl,by simp only[AV.den]⟩,h2,h3⟩
      simp only[execOp,nj,Sem.run_bind,aB,Result.andThen_ok,Sem.run_pure]
    ·cases h
   ·cases h
  ·rename_i b es i j av n hp hx hn
   have Cb:=aH (w:=w) (φ:=φ) (I:=I) hE hx
   have tX:=aH (w:=w) (φ:=φ) (I:=I) hE hp
   simp only[AV.den]at tX
   obtain⟨g,hg,nj⟩:=tX
   split at h
   ·rename_i el ef rows c cH hc
    cases hq:(Nat.beq es ef&&Nat.beq c.length n)with
    |false=>rw[hq]at h;simp at h
    |true=>
     rw[hq]at h
     simp only[cond_true,Option.some.injEq,Prod.mk.injEq]at h
     obtain⟨rfl,rfl,rfl⟩:=h
     simp only[Bool.and_eq_true]at hq
     have bW:=Nat.eq_of_beq_eq_true hq.1
     subst bW
     have cz:=Nat.eq_of_beq_eq_true hq.2
     obtain⟨hi,hj⟩:=ay
     obtain⟨ws,hw,kQ⟩:=CW hc Cb
     have ba:=hS.real.own b _ _ cH hg
     simp only[Ob.at,Sh.has,Sh.one]at ba
     rcases ba with⟨a6,_⟩|⟨g',ae,rest,cC,cg,hd,hl⟩
     ·cases a6
     cases cC
     have mr:ws.length=n:=by rw[qO c ws kQ];exact cz
     have fF:=lA rows ae hd
     obtain⟨vs,dr,a8⟩:=Bz rows ae i _ hd (List.getElem?_eq_getElem hi)
     have e0:rows.getD i []=rows[i]:=by simp[List.getD,hi]
     have Xk:vs.length=es:=hl vs (List.mem_of_getElem? dr)
     have r_:rows[i].length=es:=by rw[<-qO _ vs a8];exact Xk
     have Cs:i<ae.length:=by omega
     have dO:∀(l:List (List Value)),(∀x∈l,x.length=es)->l.flatten.length=l.length*es:=by
      intro l
      induction l with
      |nil=>simp
      |cons x l ih=>intro hx;simp only[List.flatten_cons,List.length_append,List.length_cons];rw[ih (fun y hy=>hx y (by simp[hy])),hx x (by simp),Nat.add_mul];omega
     have Nv:=dO ae hl
     have ac1:i*es+es<=ae.flatten.length:=by
      rw[Nv]
      have:=Nat.mul_le_mul_right es (show i+1<=ae.length by omega)
      rw[Nat.add_mul]at this;omega
     have aB:=IJ (P:=P) (w:=w) (o:=i*es+j) (u:=a.eval x) hn hw mr (ss c ws kQ) cg (by simp only[List.size_toArray,List.length_append];omega)
     have mi:(vs.take j++ws++vs.drop (j+n)).length=es:=by simp only[List.length_append,List.length_take,List.length_drop];omega
     have aX:ae.flatten.drop (i*es)=vs++ae.flatten.drop (i*es+es):=by
      have mf:=vH i ae es hl (by omega)
      rw[<-mf,List.drop_eq_getElem_cons Cs,List.flatten_cons]
      have F0:=vH (i+1) ae es hl (by omega)
      have Xh:ae[i]=vs:=by
       have:=List.getElem?_eq_getElem Cs
       rw[this]at dr
       exact Option.some.inj dr
      rw[Xh,F0,Nat.add_mul,Nat.one_mul]
     have e1:((ae.flatten++rest).toArray.toList.take (i*es+j)++ws++(ae.flatten++rest).toArray.toList.drop (i*es+j+n))=(ae.set i (vs.take j++ws++vs.drop (j+n))).flatten++rest:=by
      rw[Fb ae es i _ hl mi Cs]
      simp only[]
      have t1:(ae.flatten++rest).take (i*es+j)=ae.flatten.take (i*es)++vs.take j:=by
       rw[List.take_append_of_le_length (by omega)]
       have:i*es+j=i*es+j:=rfl
       rw[List.take_add,aX,List.take_append_of_le_length (by omega)]
      have t2:(ae.flatten++rest).drop (i*es+j+n)=vs.drop (j+n)++ae.flatten.drop (i*es+es)++rest:=by
       rw[List.drop_append_of_le_length (by omega),show i*es+j+n=i*es+(j+n) by omega,<-List.drop_drop,aX,List.drop_append_of_le_length (by omega)]
      rw[t1,t2]
      simp
     rw[e1]at aB
     obtain⟨h2,h3⟩:=hS.write (o':= .vec el es (rows.set i (setRowI (rows.getD i []) j c))) cH hg cg (cs:=((ae.set i (vs.take j++ws++vs.drop (j+n))).flatten++rest).toArray) (by
       rw[Fb ae es i _ hl mi Cs]
       simp only[List.size_toArray,List.length_append,List.length_take,List.length_drop]
       omega) (fun _ _ e=>by cases e) (by
      simp only[Ob.at,Sh.has,Sh.one]
      refine .inr ⟨g,ae.set i (vs.take j++ws++vs.drop (j+n)),rest,rfl,setRow_heap w g _ _ el (0,0) cg,?_,?_⟩
      ·refine IV.iD (fun g' bO=>setRow_other w g g' _ (fun e=>by subst e;exact(hS.real.off b g' hg).1 bO)) (fun _ h=>h) _ _ ?_
       rw[e0]
       have fZ:=TR a8 kQ (j:=j) (by omega)
       rw[mr]at fZ
       exact KQ rows ae i _ _ hd fZ
      ·intro us dI
       rcases List.mem_or_eq_of_mem_set dI with h'|rfl
       ·exact hl us h'
       ·exact mi)
     refine⟨.skip,_,_,_,?_,.inr ⟨rfl,by simp only[AV.den]⟩,h2,h3⟩
     simp only[execOp,nj,Sem.run_bind,aB,Result.andThen_ok,Sem.run_pure]
   ·cases h
  ·cases h
 ·cases h
end
def bw (want b:Bool):Bool:=bif want then b else !b
def gd (ds:List (Nat×Nat)) (E:Env):Option (Nat×Bool)->Option Bool
 |none=>some true
 |some (j,want)=>match lk ds j with
  |some d=>match lk E d with
   |some (.im (.v (.bool b)))=>some (bw want b)
   |some (.opt g (.im (.v (.bool b))))=>some (g&&bw want b)
   |some (.opt false _)=>some false
   |_=>none
  |none=>none
def aY (d:Option Nat) (v:AV) (E:Env):Env:=
 match d with
 |some d=>(d,v)::E
 |none=>E
def aW (d:Option Nat) (i:Nat) (ds:List (Nat×Nat)):List (Nat×Nat):=
 match d with
 |some d=>(i,d)::ds
 |none=>ds
def wrap (g:Option (Nat×Bool)) (G:Bool) (v:AV):AV:=
 match g with
 |none=>v
 |some _=>match v with
  | .opt g' x=> .opt (G&&g') x
  |x=> .opt G x
def vc (P:Program) (nb:Nat) (pO:List Nat) (k:List Oper->List (Nat×Nat)->Nat->Env->aa->Prop):List Oper->List (Nat×Nat)->Nat->Env->aa->Prop
 |[],ds,i,E,H=>k [] ds i E H
 |o::os,ds,i,E,H=>match gd ds E o.guard with
  |none=>k (o::os) ds i E H
  |some G=>match iu P E H o.op with
   |some (sc,v)=>(G=true->sc)/\vc P nb pO k os (aW o.dst i ds) (i+1) (aY o.dst (wrap o.guard G v) E) H
   |none=>match o.guard with
    |some _=>k (o::os) ds i E H
    |none=>match qa P nb pO E H o with
     |some (sc,v,H')=>sc/\vc P nb pO k os (aW o.dst i ds) (i+1) (aY o.dst v E) H'
     |none=>k (o::os) ds i E H
def a7 (n:Nat) (ops:List Oper):Bool:=ops.all fun o=>oH o&&match o.dst with
 |some d=>Nat.blt d n
 |none=>true
theorem EY {n:Nat} {ops:List Oper} (h:a7 n ops=true):ops.all oH=true:=by
 rw[a7,List.all_eq_true]at h
 rw[List.all_eq_true]
 intro o ho
 have:=h o ho
 simp only[Bool.and_eq_true]at this
 exact this.1
theorem tD {n:Nat} {ops:List Oper} (h:a7 n ops=true) {o:Oper} (ho:o∈ops):∀x,o.dst=some x->x<n:=fun x hx=>by
 rw[a7,List.all_eq_true]at h
 have U:=h o ho
 rw[hx]at U
 simp only[Bool.and_eq_true,Nat.blt_eq]at U
 exact U.2
def AO (C:Cx) (ds:List (Nat×Nat)) (i:Nat) (rest:List Oper) (K:List KI) (E:Env) (H:aa):Prop:=
 ∀ops:Array Oper,(∀j d,lk ds j=some d->(ops[j]?).bind (·.dst)=some d)->(∀j o,rest[j]?=some o->(ops[i+j]?).bind (·.dst)=o.dst)->
  ∀φ I a w,bt C φ I E H a w->gK C.P ops (dL C K) rest a w
section
variable {C:Cx} {K:List KI} {E:Env} {H:aa}
theorem bt.put {φ:ai} {I:Nat->Prop} {a:Act} {w:World} (h:bt C φ I E H a w) {φ':ai} {I':Nat->Prop} {w':World} {H':aa} (hS:St C.B φ' I' H' w') (k:bC w φ I w' φ' I') {d:Option Nat} {v:AV} {u:Value}
  (hd:∀x,d=some x->x<C.n) (hv:AV.den w' φ' I' v u):bt C φ' I' (aY d v E) H' (a.put d u) w':=by
 cases d with
 |none=>
  refine⟨h.bD.mono k.im k.I,h.bA,fun i x hx=>?_,hS⟩
  obtain⟨y,hy,F3⟩:=h.env i x hx
  exact⟨y,hy,k.den F3⟩
 |some d=>
  refine⟨h.bD.mono k.im k.I,by simpa[Act.put]using h.bA,fun i x hx=>?_,hS⟩
  simp only[aY,lk]at hx
  cases hb:Nat.beq d i with
  |true=>
   rw[hb]at hx
   have VI:=Nat.eq_of_beq_eq_true hb
   subst VI
   simp only[cond_true,Option.some.injEq]at hx
   subst hx
   have:=hd d rfl
   exact⟨u,by simp only[Act.put];rw[Array.getElem?_setIfInBounds_self_of_lt (by rw[h.bA];exact this)],hv⟩
  |false=>
   rw[hb]at hx
   simp only[cond_false]at hx
   obtain⟨y,hy,F3⟩:=h.env i x hx
   refine⟨y,?_,k.den F3⟩
   simp only[Act.put]
   rw[Array.getElem?_setIfInBounds_ne (by intro e;subst e;simp at hb)]
   exact hy
theorem yD {φ:ai} {I:Nat->Prop} {a:Act} {w:World} {ds:List (Nat×Nat)} {ops:Array Oper} (hE:dS w φ I E a) (aQ:∀j d,lk ds j=some d->(ops[j]?).bind (·.dst)=some d) {o:Oper} {G:Bool}
  (h:gd ds E o.guard=some G):Region.wanted o (yielded ops a.tmps)=G:=by
 unfold gd at h
 unfold Region.wanted
 split at h
 ·rename_i hg
  simp only[Option.some.injEq]at h
  rw[hg];exact h
 ·rename_i j want hg
  rw[hg]
  simp only
  split at h
  ·rename_i d hd
   have ff:=aQ j d hd
   split at h
   ·rename_i b hb
    simp only[Option.some.injEq]at h
    obtain⟨u,hu,aS⟩:=hE d _ hb
    rw[rF]at aS
    subst aS
    simp only[yielded,ff,Option.bind_some,hu]
    subst h
    cases want<;>cases b<;>rfl
   ·rename_i g b hb
    simp only[Option.some.injEq]at h
    obtain⟨u,hu,aS⟩:=hE d _ hb
    simp only[AV.den]at aS
    simp only[yielded,ff,Option.bind_some,hu]
    subst h
    cases g with
    |true=>
     have:=aS.1 rfl
     rw[show(IV.den w I (IV.v (Value.bool b)) u)=(AV.den w φ I (.im (.v (.bool b))) u) from by simp only[AV.den],rF]at this
     subst this
     cases want<;>cases b<;>rfl
    |false=>
     have:=aS.2 rfl
     subst this
     rfl
   ·rename_i x _ hb
    simp only[Option.some.injEq]at h
    obtain⟨u,hu,aS⟩:=hE d _ hb
    simp only[AV.den]at aS
    simp only[yielded,ff,Option.bind_some,hu]
    subst h
    have:=aS.2 trivial
    subst this
    rfl
   ·cases h
  ·cases h
theorem AO.step {ds:List (Nat×Nat)} {i:Nat} {o:Oper} {os:List Oper}
  (
   h:∀(ops:Array Oper) φ I a w,(∀j d,lk ds j=some d->(ops[j]?).bind (·.dst)=some d)->(ops[i]?).bind (·.dst)=o.dst->bt C φ I E H a w->
   ∀Kn:Act->World->Prop,(∀E' H' φ' I' a' w',AO C (aW o.dst i ds) (i+1) os K E' H'->bt C φ' I' E' H' a' w'->Kn a' w')->
    if Region.wanted o (yielded ops a.tmps)then o.wp C.P a w Kn (dL C K)else Kn (a.put o.dst undef) w):AO C ds i (o::os) K E H:=by
 intro ops aQ en φ I a w hs
 have h0:(ops[i]?).bind (·.dst)=o.dst:=en 0 o (by simp)
 refine abj fun Kn bE=>h ops φ I a w aQ h0 hs Kn fun E' H' φ' I' a' w' fW cS=>bE _ _ (fW ops (fun j d hj=>?_) (fun j o' hj=>?_) φ' I' a' w' cS)
 ·unfold aW at hj
  split at hj
  ·rename_i d' eM
   simp only[lk]at hj
   cases hb:Nat.beq i j with
   |true=>
    rw[hb]at hj
    have:=Nat.eq_of_beq_eq_true hb
    subst this
    simp only[cond_true,Option.some.injEq]at hj
    subst hj
    rw[h0,eM]
   |false=>
    rw[hb]at hj
    exact aQ j d hj
  ·exact aQ j d hj
 ·have:=en (j+1) o' (by simpa using hj)
  rw[<-this]
  congr 2
  omega
theorem AO.aau {ds:List (Nat×Nat)} {i:Nat} {o:Oper} {os:List Oper}
  (
   h:∀(ops:Array Oper) φ I a w,(∀j d,lk ds j=some d->(ops[j]?).bind (·.dst)=some d)->(ops[i]?).bind (·.dst)=o.dst->bt C φ I E H a w->
   ∀Kn:Act->World->Prop,(∀E' H' φ' I' a' w',AO C (aW o.dst i ds) (i+1) os K E' H'->bt C φ' I' E' H' a' w'->Kn a' w')->
    if Region.wanted o (yielded ops a.tmps)then pM C.P o a w Kn (dL C K)else Kn (a.put o.dst undef) w):AO C ds i (o::os) K E H:=by
 intro ops aQ en φ I a w hs
 have h0:(ops[i]?).bind (·.dst)=o.dst:=en 0 o (by simp)
 refine abk fun Kn bE=>h ops φ I a w aQ h0 hs Kn fun E' H' φ' I' a' w' fW cS=>bE _ _ (fW ops (fun j d hj=>?_) (fun j o' hj=>?_) φ' I' a' w' cS)
 ·unfold aW at hj
  split at hj
  ·rename_i d' eM
   simp only[lk]at hj
   cases hb:Nat.beq i j with
   |true=>
    rw[hb]at hj
    have:=Nat.eq_of_beq_eq_true hb
    subst this
    simp only[cond_true,Option.some.injEq]at hj
    subst hj
    rw[h0,eM]
   |false=>
    rw[hb]at hj
    exact aQ j d hj
  ·exact aQ j d hj
 ·have:=en (j+1) o' (by simpa using hj)
  rw[<-this]
  congr 2
  omega
theorem dM {n:Nat} {o:Oper} {os:List Oper} (h:a7 n (o::os)=true):(∀x,o.dst=some x->x<n)/\a7 n os=true:=by
 refine⟨tD h (by simp),?_⟩
 simp only[a7,List.all_cons,Bool.and_eq_true]at h
 exact h.2
theorem TQ {w:World} {φ:ai} {I:Nat->Prop} {x:AV}:AV.den w φ I (.opt false x) undef:=by simp[AV.den]
theorem Jn {w:World} {φ:ai} {I:Nat->Prop} {g:Option (Nat×Bool)} {v:AV} {u:Value} (h:AV.den w φ I v u):AV.den w φ I (wrap g true v) u:=by
 unfold wrap
 split
 ·exact h
 ·split
  ·simpa using h
  ·simp only[AV.den];exact⟨fun _=>h,fun e=>by cases e⟩
theorem Jo {w:World} {φ:ai} {I:Nat->Prop} {p:Nat×Bool} {v:AV}:AV.den w φ I (wrap (some p) false v) undef:=by
 cases v<;>simp[wrap,AV.den]
theorem xH:∀(rest:List Oper) (ds:List (Nat×Nat)) (i:Nat) (E:Env) (H:aa),a7 C.n rest=true->
  vc C.P C.B.nb C.ob (fun rest ds i E H=>AO C ds i rest K E H) rest ds i E H->AO C ds i rest K E H
 |[],ds,i,E,H,_,h=>h
 |o::os,ds,i,E,H,ah,h=>by
  obtain⟨hd,bX⟩:=dM ah
  simp only[vc]at h
  split at h
  ·exact h
  ·rename_i G hG
   split at h
   ·rename_i sc v hv
    obtain⟨ay,um⟩:=h
    have fW:=xH os _ _ _ _ bX um
    refine AO.step fun ops φ I a w aQ _ hs Kn bE=>?_
    rw[yD hs.env aQ hG]
    cases G with
    |true=>
     obtain⟨u,hu,aS⟩:=x6 hs.env hs.st.real hv (ay rfl)
     rw[if_pos rfl]
     unfold Oper.wp
     rw[hu,Oper.upon_value]
     exact bE _ _ φ I _ _ fW (hs.put hs.st (bC.refl _ _ _) hd (Jn aS))
    |false=>
     rw[if_neg (by simp)]
     refine bE _ _ φ I _ _ fW (hs.put hs.st (bC.refl _ _ _) hd ?_)
     cases hg:o.guard with
     |none=>rw[hg]at hG;simp[gd]at hG
     |some p=>exact Jo
   ·split at h
    ·exact h
    ·split at h
     ·rename_i hg _ sc v H' he
      obtain⟨ay,um⟩:=h
      have fW:=xH os _ _ _ _ bX um
      refine AO.step fun ops φ I a w aQ _ hs Kn bE=>?_
      have hw:Region.wanted o (yielded ops a.tmps)=true:=by simp[Region.wanted,hg]
      rw[if_pos hw]
      obtain⟨nx,w',φ',I',aB,oq,hS,hk⟩:=JJ (P:=C.P) hs.env hs.st he ay
      unfold Oper.wp
      rw[aB]
      rcases oq with⟨u,rfl,aS⟩|⟨rfl,aS⟩
      ·rw[Oper.upon_value]
       exact bE _ _ φ' I' _ _ fW (hs.put hS hk hd aS)
      ·rw[Oper.upon_skip]
       exact bE _ _ φ' I' _ _ fW (hs.put hS hk hd aS)
     ·exact h
theorem AR.region {id:Nat} {ops:Array Oper} (ah:a7 C.n ops.toList=true) (h:vc C.P C.B.nb C.ob (fun rest ds i E H=>AO C ds i rest K E H) ops.toList [] 0 E H):AR C (.region id ops false) K E H:=by
 have fW:=xH (C:=C) (K:=K) ops.toList [] 0 E H ah h
 intro φ I a w hs
 refine abn (EY ah) (fW ops (fun j d hj=>by simp[lk]at hj) (fun j o hj=>?_) φ I a w hs)
 rw[Nat.zero_add]
 rw[Array.getElem?_toList]at hj
 simp[hj]
theorem AO.nil {ds:List (Nat×Nat)} {i:Nat} (h:AX C .normal K E H):AO C ds i [] K E H:=fun _ _ _ φ I a w hs=>abi (h φ I a w hs)
def mB:List Nat->Env->Env
 |[],_=>[]
 |i::r,E=>match lk E i with
  |some x=>(i,x)::mB r E
  |none=>mB r E
theorem C3:∀(l:List Nat) (E:Env),Sub E (mB l E)
 |[],_,i,x,h=>by simp[mB,lk]at h
 |j::r,E,i,x,h=>by
  simp only[mB]at h
  split at h
  ·rename_i y hy
   simp only[lk]at h
   cases hb:Nat.beq j i with
   |true=>
    rw[hb]at h
    have:=Nat.eq_of_beq_eq_true hb
    subst this
    simp only[cond_true,Option.some.injEq]at h
    subst h
    exact hy
   |false=>rw[hb]at h;exact C3 r E i x h
  ·exact C3 r E i x h
theorem AO.done {ds:List (Nat×Nat)} {i:Nat} (h:AX C .normal K (mB C.kp E) H):AO C ds i [] K E H:=AO.nil (AX.weaken h (C3 _ _))
theorem AO.nW {ds:List (Nat×Nat)} {i:Nat} {o:Oper} {os:List Oper} (hG:gd ds E o.guard=some true) (h:AO C ds i ({o with guard:=none}::os) K E H):AO C ds i (o::os) K E H:=by
 intro ops aQ en φ I a w hs
 have:=h ops aQ (fun j o' hj=>by
  cases j with
  |zero=>simp at hj;subst hj;exact en 0 o (by simp)
  |succ j=>exact en (j+1) o' (by simpa using hj)) φ I a w hs
 unfold gK at this⊢
 rw[if_pos (yD hs.env aQ hG)]
 rw[if_pos (by simp[Region.wanted])]at this
 exact this
theorem AO.vM {ds:List (Nat×Nat)} {i:Nat} {o:Oper} {os:List Oper} (ah:∀x,o.dst=some x->x<C.n) (hG:gd ds E o.guard=some false) (h:AO C (aW o.dst i ds) (i+1) os K (aY o.dst (.opt false .top) E) H):AO C ds i (o::os) K E H:=
 AO.step fun ops φ I a w aQ _ hs Kn bE=>by
  rw[yD hs.env aQ hG,if_neg (by simp)]
  exact bE _ _ φ I _ _ h (hs.put hs.st (bC.refl _ _ _) ah TQ)
end
def cN (φ:ai) (g:Nat):Prop:=∃b,φ b=some (some g)
def enters (P:Program) (f:FuncId):Bool:=
 match P.funcs[f]? with
 |some fn=>fn.name != "runtime.NumGoroutine" &&fn.body.isSome
 |none=>false
structure ao (P:Program) (f:FuncId) (args:List AV) (H:aa) (R:AV->aa->Prop):Prop where
 gv:enters P f=true
 run:∀(w:World) (φ:ai) (I:Nat->Prop) (vs:List Value),AV.ab w φ I args vs->Real w φ I H->VK P w I->Calls P f vs.toArray w (mL ⟨w,cN φ,I,φ,bB H⟩ R)
theorem ao.mono {P:Program} {f:FuncId} {args:List AV} {H:aa} {R R':AV->aa->Prop} (h:ao P f args H R) (hr:∀r H',R r H'->R' r H'):ao P f args H R':=
 ⟨h.gv,fun w φ I vs hd hR hV=>(h.run w φ I vs hd hR hV).mono fun _ _ ⟨r,H',φ',I',v,U,h2⟩=>⟨r,H',φ',I',v,hr _ _ U,h2⟩⟩
def enum:Nat->List AV->Env
 |_,[]=>[]
 |i,x::r=>(i,x)::enum (i+1) r
theorem tE:∀(l:List AV) (k i:Nat) (x:AV),lk (enum k l) i=some x->∃j,i=k+j/\l[j]?=some x
 |[],_,_,_,h=>by simp[enum,lk]at h
 |y::l,k,i,x,h=>by
  simp only[enum,lk]at h
  cases hb:Nat.beq k i with
  |true=>
   rw[hb]at h
   have:=Nat.eq_of_beq_eq_true hb
   subst this
   exact⟨0,rfl,by simpa using h⟩
  |false=>
   rw[hb]at h
   obtain⟨j,hj,hx⟩:=tE l (k+1) i x h
   exact⟨j+1,by omega,by simpa using hx⟩
theorem sV {w:World} {φ:ai} {I:Nat->Prop} {H:aa} (h:Real w φ I H) (nb:Nat):St ⟨w,cN φ,I,φ,nb⟩ φ I H w:=
 ⟨h,Ext.refl _ w,fun b g hg=> .inl ⟨b,hg⟩,fun g hg=> .inl hg,fun g hg=>hg,fun _ _ _ _ h0 _=>h0⟩
theorem EE {C:Cx} {f:FuncId} {c:Code} {args:Array Value} {w:World} (hf:C.P.funcs[f]?=some C.fn) (hb:C.fn.body=some c)
  (aQ:C.ds=[]) (h:nK none C.P c (Bm C) {tmps:=args++Array.replicate (C.fn.ntmps-args.size) undef,defers:=[]} w):Calls C.P f args w (kB C):=by
 refine callsIn_wide.1 (callsIn_of_wp_marks (F:=Fence.wide) (n:=3) hf hb trivial (Go.wpIn_mono (F:=Fence.wide) h fun e a w he=>?_))
 cases e with
 |normal=>exact he aQ
 |ret=>exact he aQ
 |panic c=>exact he aQ
 |_=>exact he.elim
theorem kB.only {C:Cx} (hX:∀r H,C.X r H->False) {e:Ending} {w':World} (h:kB C e w'):mL C.B C.R e w':=by
 rcases h with h|⟨r,H',_,_,_,h,_⟩
 ·exact h
 ·exact(hX r H' h).elim
structure dw (P:Program) (f:FuncId) (args:List AV) (H:aa) (R X:AV->aa->Prop):Prop where
 gv:enters P f=true
 run:∀(w:World) (φ:ai) (I:Nat->Prop) (vs:List Value),AV.ab w φ I args vs->Real w φ I H->VK P w I->Calls P f vs.toArray w (fun e w'=>mL ⟨w,cN φ,I,φ,bB H⟩ R e w'\/JB ⟨w,cN φ,I,φ,bB H⟩ X e w')
theorem dw.toA {P:Program} {f:FuncId} {args:List AV} {H:aa} {R X:AV->aa->Prop} (h:dw P f args H R X) (hX:∀r H,X r H->False):ao P f args H R:=
 ⟨h.gv,fun w φ I vs hd hR hV=>(h.run w φ I vs hd hR hV).mono fun _ _ h=>h.elim id fun⟨r,H',_,_,_,h,_⟩=>(hX r H' h).elim⟩
theorem dw.intro {P:Program} {f:FuncId} {fn:Func} {c:Code} {n nb:Nat} {args:List AV} {H:aa} {R X:AV->aa->Prop} (kp ob:List Nat) (hf:P.funcs[f]?=some fn) (hb:fn.body=some c) (hn:fn.ntmps=n)
  (kT:enters P f=true) (de:Nat.ble args.length n=true) (hnb:bB H=nb)
  (h:∀(w:World) (own I0:Nat->Prop) (aq:ai) (lay:Lay P ⟨w,own,I0,aq,nb⟩),AR ⟨P,fn,n,⟨w,own,I0,aq,nb⟩,kp,ob,R,none,X,[],lay⟩ c [] (enum 0 args) H):dw P f args H R X:=by
 refine⟨kT,fun w φ I vs hd hR hV=>?_⟩
 subst hnb
 have hl:=jm args vs hd
 have yQ:=Nat.le_of_ble_eq_true de
 refine EE (C:=⟨P,fn,n,⟨w,cN φ,I,φ,bB H⟩,kp,ob,R,none,X,[],hR.lay hV _⟩) hf hb rfl (h w (cN φ) I φ (hR.lay hV _) φ I _ w ⟨Marks.nil,?_,fun i x hx=>?_,sV hR _⟩)
 ·simp only[Array.size_append,List.size_toArray,Array.size_replicate,hn];omega
 ·obtain⟨j,rfl,hj⟩:=tE args 0 i x hx
  obtain⟨u,hu,dz⟩:=gP args vs j x hd hj
  refine⟨u,?_,dz⟩
  have ag:j<vs.length:=by
   rcases Nat.lt_or_ge j vs.length with h|h
   ·exact h
   ·rw[List.getElem?_eq_none h]at hu;cases hu
  rw[Nat.zero_add,Array.getElem?_append_left (by simpa using ag)]
  simpa using hu
theorem ao.intro {P:Program} {f:FuncId} {fn:Func} {c:Code} {n nb:Nat} {args:List AV} {H:aa} {R:AV->aa->Prop} (kp ob:List Nat) (hf:P.funcs[f]?=some fn) (hb:fn.body=some c) (hn:fn.ntmps=n)
  (kT:enters P f=true) (de:Nat.ble args.length n=true) (hnb:bB H=nb)
  (h:∀(w:World) (own I0:Nat->Prop) (aq:ai) (lay:Lay P ⟨w,own,I0,aq,nb⟩),AR ⟨P,fn,n,⟨w,own,I0,aq,nb⟩,kp,ob,R,none,fun _ _=>False,[],lay⟩ c [] (enum 0 args) H):ao P f args H R:=by
 refine⟨kT,fun w φ I vs hd hR hV=>?_⟩
 subst hnb
 have hl:=jm args vs hd
 have yQ:=Nat.le_of_ble_eq_true de
 refine Calls.mono ?_ fun e w' he=>kB.only (C:=⟨P,fn,n,⟨w,cN φ,I,φ,bB H⟩,kp,ob,R,none,fun _ _=>False,[],hR.lay hV _⟩) (fun _ _ h=>h) he
 refine EE (C:=⟨P,fn,n,⟨w,cN φ,I,φ,bB H⟩,kp,ob,R,none,fun _ _=>False,[],hR.lay hV _⟩) hf hb rfl (h w (cN φ) I φ (hR.lay hV _) φ I _ w ⟨Marks.nil,?_,fun i x hx=>?_,sV hR _⟩)
 ·simp only[Array.size_append,List.size_toArray,Array.size_replicate,hn];omega
 ·obtain⟨j,rfl,hj⟩:=tE args 0 i x hx
  obtain⟨u,hu,dz⟩:=gP args vs j x hd hj
  refine⟨u,?_,dz⟩
  have ag:j<vs.length:=by
   rcases Nat.lt_or_ge j vs.length with h|h
   ·exact h
   ·rw[List.getElem?_eq_none h]at hu;cases hu
  rw[Nat.zero_add,Array.getElem?_append_left (by simpa using ag)]
  simpa using hu
def eG (P:Program) (E:Env) (H:aa):List ResultVar->Option (Prop×List AV)
 |[]=>some (True,[])
 | .tmp t::r=>match lk E t,eG P E H r with
  |some x,some (sc,xs)=>some (x.g=true/\sc,x.st::xs)
  |_,_=>none
 | .cell t T::r=>match lk E t with
  |some x=>match un (tj P H T) (some x),eG P E H r with
   |some (cW,v),some (sc,xs)=>some (cW/\sc,v::xs)
   |_,_=>none
  |none=>none
def eH:List AV->AV
 |[x]=>x
 |xs=> .aG xs
section
variable {C:Cx} {K:List KI} {E:Env} {H:aa}
theorem Ym {P:Program} {t:TypeId} {p u:Value} {w:World} (h:(Instr.loadAt t p).run P w= .ok u w):∃ad,p= .pointer (some ad)/\(loadVar t ad).run P w= .ok u w:=by
 cases p with
 |pointer ad=>
  cases ad with
  |some ad=>exact⟨ad,rfl,by simpa[Instr.loadAt,Instr.sureAddr]using h⟩
  |none=>simp[Instr.loadAt,Instr.sureAddr,stuck]at h
 |_=>simp[Instr.loadAt,Instr.sureAddr,stuck]at h
def rf (tmps:Array Value):ResultVar->Sem Value
 | .tmp t=>pure (tmps.getD t undef)
 | .cell c t=>do loadVar t (<-asAddr (tmps.getD c undef))
theorem ZH (fn:Func) (tmps:Array Value):results fn tmps=(do
 let vs<-fn.results.mapM (rf tmps)
 pure (if h:vs.size=1 then vs[0]else .tuple vs)):=by
 unfold results
 congr 2
theorem IC {φ:ai} {I:Nat->Prop} {a:Act} {w:World} (hE:dS w φ I E a) (hR:Real w φ I H):∀(rs:List ResultVar) (sc:Prop) (xs:List AV),eG C.P E H rs=some (sc,xs)->sc->
  ∃us:List Value,(rs.mapM (rf a.tmps)).run C.P w= .ok us w/\AV.ab w φ I xs us
 |[],sc,xs,h,_=>by
  simp only[eG,Option.some.injEq,Prod.mk.injEq]at h
  obtain⟨_,rfl⟩:=h
  exact⟨[],by simp,by simp[AV.ab]⟩
 | .tmp t::r,sc,xs,h,ay=>by
  simp only[eG]at h
  split at h
  ·rename_i x cW Jp hx hr
   simp only[Option.some.injEq,Prod.mk.injEq]at h
   obtain⟨rfl,rfl⟩:=h
   obtain⟨us,U,h2⟩:=IC hE hR r cW Jp hr ay.2
   obtain⟨u,hu,hd⟩:=hE t x hx
   have e:a.tmps.getD t undef=u:=by rw[Array.getD_eq_getD_getElem?,hu];rfl
   refine⟨u::us,?_,by simp only[AV.ab];exact⟨u,us,rfl,ca hd ay.1,h2⟩⟩
   have e1:(rf a.tmps (.tmp t)).run C.P w= .ok u w:=by simp only[rf,e,Sem.run_pure]
   simp only[List.mapM_cons,Sem.run_bind,e1,Result.andThen_ok,U,Sem.run_pure]
  ·cases h
 | .cell t T::r,sc,xs,h,ay=>by
  simp only[eG]at h
  split at h
  ·rename_i x hx
   split at h
   ·rename_i sc1 v Z_ Jp hv hr
    simp only[Option.some.injEq,Prod.mk.injEq]at h
    obtain⟨rfl,rfl⟩:=h
    obtain⟨us,U,h2⟩:=IC hE hR r Z_ Jp hr ay.2
    obtain⟨xa,cW,Xq,hf,cI,hg⟩:=jL hv ay.1
    cases Xq
    obtain⟨p,hp,hd⟩:=hE t x hx
    have e:a.tmps.getD t undef=p:=by rw[Array.getD_eq_getD_getElem?,hp];rfl
    obtain⟨u,hu,dz⟩:=Ep hR hf cI (ca hd hg)
    obtain⟨ad,rfl,hl⟩:=Ym hu
    refine⟨u::us,?_,by simp only[AV.ab];exact⟨u,us,rfl,dz,h2⟩⟩
    have e1:(rf a.tmps (.cell t T)).run C.P w= .ok u w:=by simp only[rf,e,asAddr,Sem.run_bind,Sem.run_pure,Result.andThen_ok,hl]
    simp only[List.mapM_cons,Sem.run_bind,e1,Result.andThen_ok,U,Sem.run_pure]
   ·cases h
  ·cases h
theorem uT {φ:ai} {I:Nat->Prop} {a:Act} {w:World} (hE:dS w φ I E a) (hR:Real w φ I H) {sc:Prop} {xs:List AV} (h:eG C.P E H C.fn.results.toList=some (sc,xs)) (ay:sc):
  ∃v,(results C.fn a.tmps).run C.P w= .ok v w/\AV.den w φ I (eH xs) v:=by
 obtain⟨us,U,h2⟩:=IC (C:=C) hE hR _ _ _ h ay
 have hl:=jm xs us h2
 rw[ZH,Array.mapM_eq_mapM_toList]
 match xs,us,h2,hl with
 |[x],[u],h2,_=>
  refine⟨u,by simp only[Sem.run_bind,Sem.run_map,U,Result.andThen_ok,Sem.run_pure];rfl,?_⟩
  simp only[AV.ab]at h2
  obtain⟨u',ak,e,hx,_⟩:=h2
  cases e
  exact hx
 |[],[],h2,_=>
  refine⟨.tuple #[],by simp only[Sem.run_bind,Sem.run_map,U,Result.andThen_ok,Sem.run_pure];rfl,?_⟩
  simp only[eH,AV.den]
  exact⟨[],h2,rfl⟩
 |x::y::xs,u1::u2::us,h2,_=>
  refine⟨.tuple (u1::u2::us).toArray,by simp only[Sem.run_bind,Sem.run_map,U,Result.andThen_ok,Sem.run_pure];rfl,?_⟩
  simp only[eH,AV.den]
  exact⟨_,h2,rfl⟩
theorem EI {w:World} {D:Nat} {x y:Option (List Deferred)} (hD:w.heap[D]?=some (.deferred x)) (g off:Nat) (us:List Value) (h:cQ w g off us):cQ (w.putObj D (.deferred y)) g off us:=by
 intro j u hj
 have U:=h j u hj
 by_cases hg:g=D
 ·subst hg;simp[World.cell?,hD]at U
 ·rw[<-U];exact EF (World.putObj_heap_other hg) _
theorem Qu {w:World} {D:Nat} {x y:Option (List Deferred)} (hD:w.heap[D]?=some (.deferred x)) (g n:Nat) (h:shaped w g n):shaped (w.putObj D (.deferred y)) g n:=by
 obtain⟨c,e,hc,hn⟩:=h
 have hg:g≠D:=fun h=>by subst h;rw[hD]at hc;cases hc
 exact⟨c,e,(World.putObj_heap_other hg).trans hc,hn⟩
theorem Bw {w:World} {φ:ai} {I:Nat->Prop} {D:Nat} {x y:Option (List Deferred)} (hD:w.heap[D]?=some (.deferred x)) (a:AV) (u:Value) (h:AV.den w φ I a u):AV.den (w.putObj D (.deferred y)) φ I a u:=
 AV.oY (fun g off us _=>EI hD g off us) (fun _ h=>h) (fun _ _ h=>h) (fun _ g n _=>Qu hD g n) a u h
theorem St.Iw {B:Bs} {φ:ai} {I:Nat->Prop} {H:aa} {w:World} (h:St B φ I H w) {D:Nat} {x y:Option (List Deferred)} (aO:B.w0.heap.size<=D) (hD:w.heap[D]?=some (.deferred x)):St B φ I H (w.putObj D (.deferred y)):=by
 refine⟨⟨h.real.bj,fun b o p hl hp=>?_,fun b g hb=>?_,h.real.inj,fun g hg=>?_⟩,?_,h.b9,h.cZ,h.cj,h.cE⟩
 ·have:=h.real.own b o p hl hp
  cases o with
  |var e cs=>
   simp only[Ob.at]at this⊢
   obtain⟨g,us,rfl,h2,h3,h4⟩:=this
   have hg:g≠D:=fun h=>by subst h;exact h2.YI hD
   exact⟨g,us,rfl,h2.b_ (World.putObj_heap_other hg),AV.kJ (fun g off us _=>EI hD g off us) (fun _ h=>h) (fun _ _ h=>h) (fun _ g n _=>Qu hD g n) cs us h3,h4⟩
  |vec e es rows=>
   simp only[Ob.at]at this⊢
   rcases this with h|⟨g,ae,rest,rfl,h2,h3,h4⟩
   ·exact .inl h
   ·have hg:g≠D:=fun h=>by subst h;rw[hD]at h2;cases h2
    exact .inr ⟨g,ae,rest,rfl,(World.putObj_heap_other hg).trans h2,IV.BB (fun g off us _=>EI hD g off us) (fun _ h=>h) rows ae h3,h4⟩
  |lp l n st fn q ps E=>
   simp only[Ob.at]at this⊢
   obtain⟨rfl,T,D',cf,U,h2,h3⟩:=this
   have hg:l≠D:=fun h=>by subst h;rw[hD]at h2;cases h2
   exact⟨rfl,T,D',cf,U,(World.putObj_heap_other hg).trans h2,fun i x hx=>let⟨u,hu,hd⟩:=h3 i x hx;⟨u,hu,Bw hD x u hd⟩⟩
 ·have:=h.real.off b g hb
  exact⟨this.1,by rw[World.putObj_size];exact this.2⟩
 ·rw[World.putObj_size];exact h.real.bM g hg
 ·refine⟨by rw[World.putObj_size];exact h.ext.size,fun g hg hn=>?_,fun g c e fz hc=>?_,h.ext.os,h.ext.tape,h.ext.output⟩
  ·rw[World.putObj_heap_other (by omega)];exact h.ext.b_ g hg hn
  ·have hg:g<B.w0.heap.size:=by
    rcases Nat.lt_or_ge g B.w0.heap.size with h|h
    ·exact h
    ·rw[Array.getElem?_eq_none h]at hc;cases hc
   rw[World.putObj_heap_other (by omega)]
   exact h.ext.form g c e fz hc
theorem Oc {Q:Ending->World->Prop} {u:FrameMode} {φ:ai} {I:Nat->Prop} {a:Act} (hu:u≠ .run) (hK:∀w,St C.B φ I H w->dS w φ I E a->LeavesInM Fence.wide 3 C.P C.fn a.tmps Q [] u w):
  ∀(ms:List Nat) (w:World),ms.Nodup->(∀D∈ms,C.B.w0.heap.size<=D/\w.heap[D]?=some (.deferred (some [])))->St C.B φ I H w->dS w φ I E a->
   LeavesInM Fence.wide 3 C.P C.fn a.tmps Q (ms.map wU) u w
 |[],w,_,_,hS,hE=>by
  simp only[List.map_nil]
  exact hK w hS hE
 |D::ms,w,hn,hd,hS,hE=>by
  simp only[List.map_cons,LeavesInM]
  obtain⟨U,h2⟩:=hd D (by simp)
  rw[List.nodup_cons]at hn
  refine⟨hu,.inl ⟨D,_,rfl,run_takeDeferred h2,Oc hu hK ms _ hn.2 (fun D' mV=>?_) (hS.Iw U h2) (fun i x hx=>?_)⟩⟩
  ·obtain⟨h3,h4⟩:=hd D' (by simp[mV])
   exact⟨h3,(World.putObj_heap_other (fun e=>hn.1 (by rw[<-e];exact mV))).trans h4⟩
  ·obtain⟨u,hu,fO⟩:=hE i x hx
   exact⟨u,hu,Bw h2 x u fO⟩
theorem bt.leave {φ:ai} {I:Nat->Prop} {a:Act} {w:World} (hs:bt C φ I E H a w) (hK:∀w,St C.B φ I H w->dS w φ I E a->∃v,(results C.fn a.tmps).run C.P w= .ok v w/\mL C.B C.R (.returned v) w):
  C.ds=[]->LeavesInM Fence.wide 3 C.P C.fn a.tmps (kB C) a.defers .returning w:=by
 intro aQ
 obtain⟨ms,U,h2,h3,_⟩:=hs.bD
 rw[U,aQ,List.filterMap_nil,List.append_nil]
 refine Oc (by simp) (fun w hS hE=>?_) ms w h2 (fun D hD=>(h3 D hD).2) hs.st hs.env
 simp only[LeavesInM,LeavesIn]
 obtain⟨v,hv,hc⟩:=hK w hS hE
 exact⟨v,hv,.inl hc⟩
theorem AX.ret {sc:Prop} {xs:List AV} (h:eG C.P E H C.fn.results.toList=some (sc,xs)) (ay:sc) (hR:C.R (eH xs) H):AX C .ret [] E H:=fun φ I a w hs=>by
 refine hs.leave fun w' hS hE=>?_
 obtain⟨v,hv,hd⟩:=uT hE hS.real h ay
 exact⟨v,hv,eH xs,H,φ,I,v,hR,rfl,hd,hS⟩
theorem AX.jQ {sc:Prop} {xs:List AV} (h:eG C.P E H C.fn.results.toList=some (sc,xs)) (ay:sc) (hR:C.R (eH xs) H):AX C .normal [] E H:=fun φ I a w hs=>by
 refine hs.leave fun w' hS hE=>?_
 obtain⟨v,hv,hd⟩:=uT hE hS.real h ay
 exact⟨v,hv,eH xs,H,φ,I,v,hR,rfl,hd,hS⟩
theorem AX.panic {v:Value} {r:AV} (hv:∀φ I a w,bt C φ I E H a w->AV.den w φ I r v) (hX:C.X r H):∀φ I a w,bt C φ I E H a w->dL C [] (.panic [{v:=v,recovered:=false}]) a w:=fun φ I a w hs=>by
 intro aQ
 obtain⟨ms,U,h2,h3,_⟩:=hs.bD
 rw[U,aQ,List.filterMap_nil,List.append_nil]
 have a8:=hv φ I a w hs
 obtain⟨t0,wz⟩:∃P:World->Prop,P=fun w=>AV.den w φ I r v:=⟨_,rfl⟩
 have key:∀(ms:List Nat) (w:World),ms.Nodup->(∀D∈ms,C.B.w0.heap.size<=D/\w.heap[D]?=some (.deferred (some [])))->St C.B φ I H w->AV.den w φ I r v->
   LeavesInM Fence.wide 3 C.P C.fn a.tmps (kB C) (ms.map wU) (.panicking [{v:=v,recovered:=false}]) w:=by
  intro ms
  induction ms with
  |nil=>
   intro w _ _ hS hd
   simp only[List.map_nil,LeavesInM,LeavesIn]
   exact .inr ⟨r,H,φ,I,v,hX,rfl,hd,hS⟩
  |cons D ms ih=>
   intro w hn hd hS a8
   simp only[List.map_cons,LeavesInM]
   obtain⟨U,h2⟩:=hd D (by simp)
   rw[List.nodup_cons]at hn
   refine⟨by simp,.inl ⟨D,_,rfl,run_takeDeferred h2,ih _ hn.2 (fun D' mV=>?_) (hS.Iw U h2) (Bw h2 r v a8)⟩⟩
   obtain⟨h3,h4⟩:=hd D' (by simp[mV])
   exact⟨h3,(World.putObj_heap_other (fun e=>hn.1 (by rw[<-e];exact mV))).trans h4⟩
 exact key ms w h2 (fun D hD=>(h3 D hD).2) hs.st a8
end
mutual
def AV.free:AV->Bool
 | .ob _ _=>false
 | .oe _ _ _ _=>false
 | .os _ _ _ _=>false
 | .fn _ fs aF=>AV.frees fs&&AV.frees aF
 | .agg cs=>AV.frees cs
 | .aG cs=>AV.frees cs
 | .opt _ x=>AV.free x
 | .im _=>true
 | .ar _=>true
 | .top=>true
 | .mp _=>false
 | .wr _ x=>AV.free x
def AV.frees:List AV->Bool
 |[]=>true
 |x::xs=>AV.free x&&AV.frees xs
end
mutual
theorem AV.qm {w:World} {φ φ':ai} {I:Nat->Prop}:∀(x:AV) (u:Value),x.free=true->AV.den w φ I x u->AV.den w φ' I x u
 | .ob _ _,_,h,_=>by simp[AV.free]at h
 | .oe _ _ _ _,_,h,_=>by simp[AV.free]at h
 | .os _ _ _ _,_,h,_=>by simp[AV.free]at h
 | .fn f fs aF,u,h,hd=>by simp only[AV.free,Bool.and_eq_true]at h;simp only[AV.den]at hd⊢;obtain⟨us,vs,U,h2,h3⟩:=hd;exact⟨us,vs,AV.rL fs us h.1 U,AV.rL aF vs h.2 h2,h3⟩
 | .agg cs,u,h,hd=>by simp only[AV.free]at h;simp only[AV.den]at hd⊢;obtain⟨us,U,h2⟩:=hd;exact⟨us,AV.rL cs us h U,h2⟩
 | .aG cs,u,h,hd=>by simp only[AV.free]at h;simp only[AV.den]at hd⊢;obtain⟨us,U,h2⟩:=hd;exact⟨us,AV.rL cs us h U,h2⟩
 | .opt g x,u,h,hd=>by simp only[AV.free]at h;simp only[AV.den]at hd⊢;exact⟨fun hg=>AV.qm x u h (hd.1 hg),hd.2⟩
 | .im x,u,_,hd=>by simpa only[AV.den]using hd
 | .ar x,u,_,hd=>by simpa only[AV.den]using hd
 | .top,_,_,_=>by simp only[AV.den]
 | .mp _,_,h,_=>by simp[AV.free]at h
 | .wr k x,u,h,hd=>by simp only[AV.free]at h;simp only[AV.den]at hd⊢;obtain⟨v,U,h2⟩:=hd;exact⟨v,U,AV.qm x v h h2⟩
theorem AV.rL {w:World} {φ φ':ai} {I:Nat->Prop}:∀(xs:List AV) (us:List Value),AV.frees xs=true->AV.ab w φ I xs us->AV.ab w φ' I xs us
 |[],us,_,h=>by simpa only[AV.ab]using h
 |x::xs,us,h,hd=>by
  simp only[AV.frees,Bool.and_eq_true]at h
  simp only[AV.ab]at hd⊢
  obtain⟨u,ak,e,U,h2⟩:=hd
  exact⟨u,ak,e,AV.qm x u h.1 U,AV.rL xs ak h.2 h2⟩
end
section
variable {C:Cx} {K:List KI} {E:Env} {H:aa}
theorem xi {P:Program} {f:FuncId} (h:enters P f=true) (args:Array Value) (w:World):(callFunc f args).run P w= .ok (.enter f args) w:=by
 unfold enters at h
 split at h
 ·rename_i fn hf
  simp only[Bool.and_eq_true,bne_iff_ne,ne_eq]at h
  have U:(fn.name== "runtime.NumGoroutine")=false:=by simpa using h.1
  have h2:fn.body.isNone=false:=by cases hb:fn.body<;>simp_all
  have h3:fn.body≠none:=by intro e;rw[e]at h2;cases h2
  simp[callFunc,program,Sem.run,hf,h.1,h3]
 ·cases h
theorem St.JK {B:Bs} {φ a_:ai} {I I1:Nat->Prop} {H:aa} {w w1:World} (h:St B φ I H w) (U:St ⟨w,cN (fun _=>none),I,fun _=>none,0⟩ a_ I1 [] w1):
  St B φ I1 H w1/\bC w φ I w1 φ I1:=by
 have a6:∀g,¬cN (fun _=>none) g:=fun g ⟨b,hb⟩=>by cases hb
 have hk:∀g,g<w.heap.size->w1.heap[g]?=w.heap[g]?:=fun g hg=>U.ext.b_ g hg (a6 g)
 have k:bC w φ I w1 φ I1:=⟨fun g hg=>hk g (h.real.bM g hg),U.cj,fun _ _ h=>h,fun _ g n _ hs=>U.ext.shaped (a6 g) hs⟩
 have y8:∀g,I1 g->I g\/w.heap.size<=g:=fun g hg=>by
  rcases U.cZ g hg with h|h|h
  ·exact .inl h
  ·exact absurd h (a6 g)
  ·exact .inr h
 refine⟨⟨⟨h.real.bj,fun b o p hl hp=>?_,fun b g hp=>?_,h.real.inj,U.real.bM⟩,h.ext.trans U.ext (fun g hg=>absurd hg (a6 g)),h.b9,fun g hg=>?_,fun g hg=>U.cj g (h.cj g hg),h.cE⟩,k⟩
 ·refine Ob.kF k.im k.I k.phi k.sh (fun g hg=>?_) (h.real.own b o p hl hp)
  subst hg
  exact hk g (h.real.off b g hp).2
 ·have:=h.real.off b g hp
  exact⟨fun hi=>(y8 g hi).elim this.1 (by omega),Nat.lt_of_lt_of_le this.2 U.ext.size⟩
 ·rcases y8 g hg with hg|hg
  ·exact h.cZ g hg
  ·exact .inr (.inr (Nat.le_trans h.ext.size hg))
theorem DG {w:World} {φ:ai} {I:Nat->Prop} {H:aa} (h:Real w φ I H):Real w (fun _=>none) I []:=
 ⟨fun b=>rfl,fun b o p hl=>(by simp[lk]at hl),fun b g hp=>(by cases hp),fun b b' g hp=>(by cases hp),h.bM⟩
theorem AO.call {ds:List (Nat×Nat)} {i:Nat} {o:Oper} {os:List Oper} {f:FuncId} {xs aZ:Array _} {l:List AV} {R:AV->aa->Prop} (nh:o.op= .call {callee:= .value (.func f),args:=xs,argTypes:=aZ}) (hg:o.guard=none)
  (hd:∀x,o.dst=some x->x<C.n) (hl:dT E xs.toList=some l) (dG:gs l=true) (fg:AV.frees (l.map AV.st)=true) (hc:ao C.P f (l.map AV.st) [] R)
  (hR:∀r H',R r H'->H'=[]/\r.free=true) (h:∀r,R r []->AO C (aW o.dst i ds) (i+1) os K (aY o.dst r E) H):AO C ds i (o::os) K E H:=
 AO.step fun ops φ I a w aQ _ hs Kn bE=>by
  have hw:Region.wanted o (yielded ops a.tmps)=true:=by simp[Region.wanted,hg]
  rw[if_pos hw]
  have aS:=AV.rL (φ':=fun _=>none) _ _ fg (mU hs.env _ _ hl dG)
  have aB:(execOp a.eval o).run C.P w= .ok (.enter f (xs.toList.map a.eval).toArray) w:=by
   have:execOp a.eval o=callFunc f (#[]++xs.map a.eval++#[]):=by simp only[execOp,nh];rfl
   rw[this,xi hc.gv]
   cases xs
   simp
  unfold Oper.wp
  rw[aB,Oper.upon_enter]
  refine(hc.run w (fun _=>none) I _ aS (DG hs.st.real) hs.st.vk).mono fun e w' ⟨r,H',φ',I',v,hr,he,a8,hS⟩=>?_
  subst he
  obtain⟨rfl,y3⟩:=hR r H' hr
  obtain⟨lG,hk⟩:=hs.st.JK hS
  exact bE _ _ φ I' _ _ (h r hr) (hs.put lG hk hd (AV.qm r v y3 a8))
mutual
def AV.men (b:Nat):AV->Bool
 | .ob b' _=>Nat.beq b' b
 | .oe b' _ _ _=>Nat.beq b' b
 | .os b' _ _ _=>Nat.beq b' b
 | .fn _ fs aF=>AV.mens b fs||AV.mens b aF
 | .agg cs=>AV.mens b cs
 | .aG cs=>AV.mens b cs
 | .opt _ x=>AV.men b x
 | .im _=>false
 | .ar _=>false
 | .top=>false
 | .mp b'=>Nat.beq b' b
 | .wr _ x=>AV.men b x
def AV.mens (b:Nat):List AV->Bool
 |[]=>false
 |x::xs=>AV.men b x||AV.mens b xs
end
mutual
theorem AV.qT {w:World} {φ φ':ai} {I:Nat->Prop} {b:Nat} (ax:∀b',b'≠b->φ' b'=φ b'):∀(x:AV) (u:Value),x.men b=false->AV.den w φ I x u->AV.den w φ' I x u
 | .ob b' _,u,h,hd=>by
  simp only[AV.men]at h;simp only[AV.den]at hd⊢
  rw[ax b' (by intro e;subst e;simp at h)];exact hd
 | .oe b' _ _ _,u,h,hd=>by
  simp only[AV.men]at h;simp only[AV.den]at hd⊢
  rw[ax b' (by intro e;subst e;simp at h)];exact hd
 | .os b' _ _ _,u,h,hd=>by
  simp only[AV.men]at h;simp only[AV.den]at hd⊢
  rw[ax b' (by intro e;subst e;simp at h)];exact hd
 | .fn f fs aF,u,h,hd=>by simp only[AV.men,Bool.or_eq_false_iff]at h;simp only[AV.den]at hd⊢;obtain⟨us,vs,U,h2,h3⟩:=hd;exact⟨us,vs,AV.oE ax fs us h.1 U,AV.oE ax aF vs h.2 h2,h3⟩
 | .agg cs,u,h,hd=>by simp only[AV.men]at h;simp only[AV.den]at hd⊢;obtain⟨us,U,h2⟩:=hd;exact⟨us,AV.oE ax cs us h U,h2⟩
 | .aG cs,u,h,hd=>by simp only[AV.men]at h;simp only[AV.den]at hd⊢;obtain⟨us,U,h2⟩:=hd;exact⟨us,AV.oE ax cs us h U,h2⟩
 | .opt g x,u,h,hd=>by simp only[AV.men]at h;simp only[AV.den]at hd⊢;exact⟨fun hg=>AV.qT ax x u h (hd.1 hg),hd.2⟩
 | .im x,u,_,hd=>by simpa only[AV.den]using hd
 | .ar x,u,_,hd=>by simpa only[AV.den]using hd
 | .top,_,_,_=>by simp only[AV.den]
 | .mp b',u,h,hd=>by
  simp only[AV.men]at h;simp only[AV.den]at hd⊢
  rw[ax b' (by intro e;subst e;simp at h)];exact hd
 | .wr k x,u,h,hd=>by simp only[AV.men]at h;simp only[AV.den]at hd⊢;obtain⟨v,U,h2⟩:=hd;exact⟨v,U,AV.qT ax x v h h2⟩
theorem AV.oE {w:World} {φ φ':ai} {I:Nat->Prop} {b:Nat} (ax:∀b',b'≠b->φ' b'=φ b'):∀(xs:List AV) (us:List Value),AV.mens b xs=false->AV.ab w φ I xs us->AV.ab w φ' I xs us
 |[],us,_,h=>by simpa only[AV.ab]using h
 |x::xs,us,h,hd=>by
  simp only[AV.mens,Bool.or_eq_false_iff]at h
  simp only[AV.ab]at hd⊢
  obtain⟨u,ak,e,U,h2⟩:=hd
  exact⟨u,ak,e,AV.qT ax x u h.1 U,AV.oE ax xs ak h.2 h2⟩
end
def killE (b:Nat):Env->Env
 |[]=>[]
 |(i,x)::r=>bif x.men b then(i,.top)::killE b r else(i,x)::killE b r
def iO (b:Nat):List AV->List AV
 |[]=>[]
 |x::r=>bif x.men b then .top::iO b r else x::iO b r
theorem pF {w:World} {φ φ':ai} {I:Nat->Prop} {b:Nat} (ax:∀b',b'≠b->φ' b'=φ b'):∀(E:Env) (i:Nat) (x:AV),lk (killE b E) i=some x->∃y,lk E i=some y/\∀u,AV.den w φ I y u->AV.den w φ' I x u
 |[],i,x,h=>by simp[killE,lk]at h
 |(j,y)::r,i,x,h=>by
  simp only[killE]at h
  cases hm:y.men b with
  |true=>
   rw[hm]at h
   simp only[cond_true,lk]at h⊢
   cases hb:Nat.beq j i with
   |true=>
    rw[hb]at h
    simp only[cond_true,Option.some.injEq]at h⊢
    subst h
    exact⟨y,rfl,fun u _=>by simp only[AV.den]⟩
   |false=>rw[hb]at h;exact pF ax r i x h
  |false=>
   rw[hm]at h
   simp only[cond_false,lk]at h⊢
   cases hb:Nat.beq j i with
   |true=>
    rw[hb]at h
    simp only[cond_true,Option.some.injEq]at h⊢
    subst h
    exact⟨y,rfl,fun u hu=>AV.qT ax y u hm hu⟩
   |false=>rw[hb]at h;exact pF ax r i x h
def menE (b:Nat):Env->Bool
 |[]=>false
 |(_,x)::r=>x.men b||menE b r
theorem Dj {b:Nat}:∀(E:Env),menE b E=false->∀i x,lk E i=some x->x.men b=false
 |[],_,_,_,h=>by simp[lk]at h
 |(j,y)::r,hm,i,x,h=>by
  simp only[menE,Bool.or_eq_false_iff]at hm
  simp only[lk]at h
  cases hb:Nat.beq j i with
  |true=>rw[hb]at h;simp only[cond_true,Option.some.injEq]at h;subst h;exact hm.1
  |false=>rw[hb]at h;exact Dj r hm.2 i x h
def noMen (b:Nat):aa->Bool
 |[]=>true
 |(j,.var _ cs)::r=>!(AV.mens b cs)&&noMen b r
 |(_,.vec _ _ _)::r=>noMen b r
 |(_,.lp _ _ _ _ _ _ E)::r=>!(menE b E)&&noMen b r
theorem Dp {b:Nat}:∀(H:aa),noMen b H=true->∀b' l n st fn q ps E,lk H b'=some (.lp l n st fn q ps E)->menE b E=false
 |[],_,_,_,_,_,_,_,_,_,h=>by simp[lk]at h
 |(j,o)::r,hn,b',l,n,st,fn,q,ps,E,h=>by
  simp only[lk]at h
  cases hb:Nat.beq j b' with
  |true=>
   rw[hb]at h
   simp only[cond_true,Option.some.injEq]at h
   subst h
   simp only[noMen,Bool.and_eq_true,Bool.not_eq_true']at hn
   exact hn.1
  |false=>
   rw[hb]at h
   refine Dp r ?_ b' l n st fn q ps E h
   cases o with
   |var _ _=>simp only[noMen,Bool.and_eq_true]at hn;exact hn.2
   |vec _ _ _=>simpa only[noMen]using hn
   |lp _ _ _ _ _ _ _=>simp only[noMen,Bool.and_eq_true]at hn;exact hn.2
theorem uM {b:Nat}:∀(H:aa),noMen b H=true->∀b' el cs,lk H b'=some (.var el cs)->AV.mens b cs=false
 |[],_,_,_,_,h=>by simp[lk]at h
 |(j,o)::r,hn,b',el,cs,h=>by
  simp only[lk]at h
  cases hb:Nat.beq j b' with
  |true=>
   rw[hb]at h
   simp only[cond_true,Option.some.injEq]at h
   subst h
   simp only[noMen,Bool.and_eq_true,Bool.not_eq_true']at hn
   exact hn.1
  |false=>
   rw[hb]at h
   refine uM r ?_ b' el cs h
   cases o with
   |var _ _=>simp only[noMen,Bool.and_eq_true]at hn;exact hn.2
   |vec _ _ _=>simpa only[noMen]using hn
   |lp _ _ _ _ _ _ _=>simp only[noMen,Bool.and_eq_true]at hn;exact hn.2
end
section
variable {C:Cx} {K:List KI} {E:Env} {H:aa}
theorem St.move {B:Bs} {φ:ai} {I:Nat->Prop} {w w':World} (h:St B φ I H w) {b:Nat} (hnb:B.nb<=b) {el K3:TypeId} {es ef:Nat} {rows DL:List (List IV)} {p':Option Nat} (hl:lk H b=some (.vec el es rows)) (hn:noMen b H=true)
  (hk:∀g,g<w.heap.size->φ b≠some (some g)->w'.heap[g]?=w.heap[g]?) (hx:Ext (fun g=>φ b=some (some g)) w w') (ho:(Ob.vec K3 ef DL).at w' (aT φ b p') I p')
  (bH:∀g,p'=some g->φ b=some (some g)\/w.heap.size<=g) (lQ:∀g,p'=some g->g<w'.heap.size):
  St B (aT φ b p') I (aN H b (.vec K3 ef DL)) w':=by
 have ax:∀b',b'≠b->aT φ b p' b'=φ b':=fun b' hb=>by simp[aT,hb]
 have yV:∃p,φ b=some p:=by
  have:=h.real.bj b
  rw[hl]at this
  cases hq:φ b with
  |none=>rw[hq]at this;cases this
  |some p=>exact⟨p,rfl⟩
 have hI:∀g,I g->w'.heap[g]?=w.heap[g]?:=fun g hg=>hk g (h.real.bM g hg) (fun e=>(h.real.off b g e).1 hg)
 refine⟨⟨fun b'=>?_,fun b' o p aD hp=>?_,fun b' g hp=>?_,fun b1 b2 g U h2=>?_,fun g hg=>Nat.lt_of_lt_of_le (h.real.bM g hg) hx.size⟩,h.ext.trans hx (fun g hg=>h.b9 b g hg),fun b' g hp=>?_,h.cZ,h.cj,fun b' g oo ag h0 aD=>?_⟩
 ·by_cases aj:b'=b
  ·subst aj;rw[cV H b' _ hl];simp[aT]
  ·rw[ax b' aj,cm H b b' _ aj];exact h.real.bj b'
 ·by_cases aj:b'=b
  ·subst aj
   rw[cV H b' _ hl]at aD
   cases aD
   simp only[aT,if_true,Option.some.injEq]at hp
   subst hp
   exact ho
  ·rw[cm H b b' _ aj]at aD
   rw[ax b' aj]at hp
   have ba:=h.real.own b' o p aD hp
   have jy:∀g,p=some g->w'.heap[g]?=w.heap[g]?:=fun g hg=>by
    subst hg
    exact hk g (h.real.off b' g hp).2 (fun e=>aj (h.real.inj b' b g hp e))
   cases o with
   |var e cs=>
    simp only[Ob.at]at ba⊢
    obtain⟨g,us,rfl,h2,h3,h4⟩:=ba
    refine⟨g,us,rfl,h2.b_ (jy g rfl),?_,h4⟩
    have Fs:=AV.oE (φ':=fun c=>if c=b then none else φ c) (fun b1 cp=>by simp[cp]) cs us (uM H hn b' e cs aD) h3
    refine AV.fb hI (fun _ h=>h) (fun c p hc=>?_) (fun c g1 n hc hs=>?_) cs us Fs
    ·by_cases e1:c=b
     ·simp[e1]at hc
     ·rw[ax c e1];simpa[e1]using hc
    ·by_cases e1:c=b
     ·simp[e1]at hc
     ·exact hx.shaped (fun ho=>e1 (h.real.inj c b g1 (by simpa[e1]using hc) ho)) hs
   |vec e eV P2=>
    simp only[Ob.at]at ba⊢
    rcases ba with h'|⟨g,ae,rest,rfl,h2,h3,h4⟩
    ·exact .inl h'
    ·exact .inr ⟨g,ae,rest,rfl,(jy g rfl).trans h2,IV.iD hI (fun _ h=>h) P2 ae h3,h4⟩
   |lp l n st fn q ps E=>
    simp only[Ob.at]at ba⊢
    obtain⟨rfl,T,D,cf,U,h2,h3⟩:=ba
    refine⟨rfl,T,D,cf,U,(jy l rfl).trans h2,fun i x fO=>?_⟩
    obtain⟨u,hu,hd⟩:=h3 i x fO
    refine⟨u,hu,?_⟩
    have Fs:=AV.qT (φ':=fun c=>if c=b then none else φ c) (b:=b) (fun b1 cp=>by simp[cp]) x u (Dj E (Dp H hn b' l n st fn q ps E aD) i x fO) hd
    refine AV.jO hI (fun _ h=>h) (fun c p hc=>?_) (fun c g1 n hc hs=>?_) x u Fs
    ·by_cases e1:c=b
     ·simp[e1]at hc
     ·rw[ax c e1];simpa[e1]using hc
    ·by_cases e1:c=b
     ·simp[e1]at hc
     ·exact hx.shaped (fun ho=>e1 (h.real.inj c b g1 (by simpa[e1]using hc) ho)) hs
 ·by_cases aj:b'=b
  ·subst aj
   simp only[aT,if_true,Option.some.injEq]at hp
   refine⟨fun hi=>?_,lQ g hp⟩
   rcases bH g hp with U|U
   ·exact(h.real.off b' g U).1 hi
   ·exact absurd (h.real.bM g hi) (by omega)
  ·rw[ax b' aj]at hp
   have:=h.real.off b' g hp
   exact⟨this.1,Nat.lt_of_lt_of_le this.2 hx.size⟩
 ·by_cases e1:b1=b<;>by_cases e2:b2=b
  ·rw[e1,e2]
  ·subst e1
   simp only[aT,if_true,Option.some.injEq]at U
   rw[ax b2 e2]at h2
   rcases bH g U with h3|h3
   ·exact h.real.inj b1 b2 g h3 h2
   ·exact absurd (h.real.off b2 g h2).2 (by omega)
  ·subst e2
   simp only[aT,if_true,Option.some.injEq]at h2
   rw[ax b1 e1]at U
   rcases bH g h2 with h3|h3
   ·exact h.real.inj b1 b2 g U h3
   ·exact absurd (h.real.off b1 g U).2 (by omega)
  ·rw[ax b1 e1]at U
   rw[ax b2 e2]at h2
   exact h.real.inj b1 b2 g U h2
 ·by_cases aj:b'=b
  ·subst aj
   simp only[aT,if_true,Option.some.injEq]at hp
   rcases bH g hp with U|U
   ·exact h.b9 b' g U
   ·exact .inr (Nat.le_trans h.ext.size U)
  ·rw[ax b' aj]at hp
   exact h.b9 b' g hp
 ·by_cases aj:b'=b
  ·subst aj
   omega
  ·rw[cm H b b' _ aj]at aD
   rw[ax b' aj]
   exact h.cE b' g oo ag h0 aD
theorem ql:∀(l:List (List Value)) (es:Nat),(∀x∈l,x.length=es)->l.flatten.length=l.length*es
 |[],es,_=>by simp
 |x::l,es,h=>by
  simp only[List.flatten_cons,List.length_append,List.length_cons]
  rw[ql l es (fun y hy=>h y (by simp[hy])),h x (by simp),Nat.add_mul];omega
theorem tC {w:World} {I:Nat->Prop}:∀(a b:List (List IV)) (us vs:List (List Value)),IV.aE w I a us->IV.aE w I b vs->IV.aE w I (a++b) (us++vs)
 |[],b,us,vs,U,h2=>by simp only[IV.aE]at U;subst U;simpa using h2
 |x::a,b,us,vs,U,h2=>by
  simp only[IV.aE]at U
  obtain⟨u,ak,rfl,h3,h4⟩:=U
  simp only[List.cons_append,IV.aE]
  exact⟨u,_,rfl,h3,tC a b ak vs h4 h2⟩
theorem P_ {P:Program} {t ty e:TypeId} {es:Nat} (ht:tk P t= .slice e) (bW:sz P e=some es) (base p:Option Addr) (n c c':Nat) (uk:n<=c) (w:World):
  (Builtin.append_ #[t,t] ty #[.slice base n c,.slice p 0 c']).run P w= .ok (.slice base n c) w:=by
 obtain⟨_,i,hi,_⟩:=nH bW
 cases base with
 |none=>cases p<;>simp[Builtin.append_,run_underlying (eU ht),sizeOf,typeInfo,hi,Builtin.lenOf,Builtin.firstCells,loadCells,loadCellsFrom,uk]
 |some ad=>cases p<;>simp[Builtin.append_,run_underlying (eU ht),sizeOf,typeInfo,hi,Builtin.lenOf,Builtin.firstCells,loadCells,loadCellsFrom,uk,storeCells]
end
theorem yy {own:Nat->Prop} {w:World} (o:Obj):Ext own w (w.drew.alloc o):=by
 have e:=tI own w.drew o
 exact⟨e.size,e.b_,e.form,e.os,e.tape,e.output⟩
theorem Lh {w:World} {g:Nat} {cur cs:Array Value} {e:TypeId} (hc:w.heap[g]?=some (.cells cur e (0,0))) (aO:cs.size=cur.size):Ext (fun x=>x=g) w (w.setRow g cs):=
 ⟨by simp,fun g' _ hn=>setRow_other w g g' cs hn,fun g' c e' fz dU=>by
  by_cases cC:g'=g
  ·subst cC
   rw[hc]at dU
   cases dU
   exact⟨cs,_,setRow_heap w g' cur cs e (0,0) hc,aO⟩
  ·exact⟨c,_,(setRow_other w g g' cs cC).trans dU,rfl⟩,rfl,rfl,rfl⟩
theorem Ext.Jl {own Ag:Nat->Prop} {w w':World} (h:Ext own w w') (ho:∀g,own g->Ag g):Ext Ag w w':=⟨h.size,fun g hg hn=>h.b_ g hg (fun h'=>hn (ho g h')),h.form,h.os,h.tape,h.output⟩
def Src (w:World) (I:Nat->Prop) (es:Nat) (xs:List (List IV)) (u:Value):Prop:=
 ∃p c ae,u= .slice p xs.length c/\xs.length<=c/\IV.aE w I xs ae/\(∀vs∈ae,vs.length=es)/\(xs≠[]->∃g off,p=some ⟨g,off,none⟩/\cQ w g off ae.flatten)
theorem Src.im {w:World} {I:Nat->Prop} {es:Nat} {xs:List (List IV)} {u:Value} (h:IV.den w I (.sl es xs) u):Src w I es xs u:=by
 simp only[IV.den]at h
 obtain⟨p,c,ae,U,h2,h3,h4,h5⟩:=h
 exact⟨p,c,ae,U,h2,h3,h4,fun hn=>let⟨g,off,e,_,hc⟩:=h5 hn;⟨g,off,e,hc⟩⟩
theorem KH {w:World} {I:Nat->Prop}:∀(i:Nat) (rows:List (List IV)) (ae:List (List Value)),IV.aE w I rows ae->IV.aE w I (rows.drop i) (ae.drop i)
 |0,_,_,h=>h
 |i+1,[],ae,h=>by simp only[IV.aE]at h;subst h;simp[IV.aE]
 |i+1,x::r,ae,h=>by
  simp only[IV.aE]at h
  obtain⟨u,us,rfl,_,h2⟩:=h
  exact KH i r us h2
theorem KM {w:World} {I:Nat->Prop}:∀(i:Nat) (rows:List (List IV)) (ae:List (List Value)),IV.aE w I rows ae->IV.aE w I (rows.take i) (ae.take i)
 |0,_,_,_=>by simp[IV.aE]
 |i+1,[],ae,h=>by simp only[IV.aE]at h;subst h;simp[IV.aE]
 |i+1,x::r,ae,h=>by
  simp only[IV.aE]at h
  obtain⟨u,us,rfl,U,h2⟩:=h
  simp only[List.take_succ_cons,IV.aE]
  exact⟨u,_,rfl,U,KM i r us h2⟩
theorem Src.own {w:World} {φ:ai} {I:Nat->Prop} {H:aa} (hR:Real w φ I H) {b es i n:Nat} {el:TypeId} {rows:List (List IV)} {u:Value} (h:AV.den w φ I (.os b es i n) u) (hl:lk H b=some (.vec el es rows)) (hn:i+n<=rows.length):
  Src w I es ((rows.drop i).take n) u:=by
 have hlen:((rows.drop i).take n).length=n:=by rw[List.length_take,List.length_drop];omega
 simp only[AV.den]at h
 rcases h with⟨U,rfl,rfl,rfl⟩|⟨g,c,U,rfl,h2,h3,h4⟩
 ·exact⟨none,0,[],by simp,by simp,by simp[IV.aE],(fun vs h=>absurd h (List.not_mem_nil)),fun h=>absurd (by simp) h⟩
 ·have aP:=hR.own b _ _ hl U
  simp only[Ob.at]at aP
  rcases aP with⟨h,_⟩|⟨g',ae,rest,hg,hh,hd,bW⟩
  ·cases h
  ·cases hg
   refine⟨_,c,(ae.drop i).take n,by rw[hlen],by rw[hlen];exact h2,KM n _ _ (KH i _ _ hd),fun vs hv=>bW vs (List.mem_of_mem_drop (List.mem_of_mem_take hv)),fun _=>⟨g,i*es,rfl,fun j v hj=>?_⟩⟩
   have jY:((ae.drop i).flatten++rest)[j]?=some v:=by
    have e:(ae.drop i)=(ae.drop i).take n++(ae.drop i).drop n:=(List.take_append_drop n _).symm
    rw[e,List.flatten_append,List.append_assoc,List.getElem?_append_left (by
     rcases Nat.lt_or_ge j ((ae.drop i).take n).flatten.length with h|h
     ·exact h
     ·rw[List.getElem?_eq_none h]at hj;cases hj)]
    exact hj
   have dO:(ae.take i).flatten.length=i*es:=by
    have h5:=ql (ae.take i) es (fun vs hv=>bW vs (List.mem_of_mem_take hv))
    have h6:=lA rows ae hd
    rw[h5,List.length_take,Nat.min_eq_left (by omega)]
   simp only[World.cell?,hh,Option.isSome_none,Bool.false_eq_true,if_false,List.getElem?_toArray]
   rw[show ae.flatten=(ae.take i).flatten++(ae.drop i).flatten from by rw[<-List.flatten_append,List.take_append_drop],List.append_assoc,List.getElem?_append_right (by rw[dO];omega),dO,Nat.add_sub_cancel_left]
   exact jY
theorem Eu {P:Program} {B:Bs} {φ:ai} {I:Nat->Prop} {H:aa} {w:World} (hS:St B φ I H w) {b n:Nat} {e t ty:TypeId} {es bytes:Nat} {rows xs:List (List IV)} {s x:Value}
  (hs:AV.den w φ I (.os b (es+1) 0 n) s) (hx:Src w I (es+1) xs x) (hH:lk H b=some (.vec e (es+1) rows)) (hn:n=rows.length)
  (ht:tk P t= .slice e) (bW:sz P e=some (es+1)) (hz:(aA P e).map List.length=some (es+1)) (fA:aI P e=some bytes)
  (cp:(rows.length+xs.length)*bytes<=140737488355328) (fY:rows.length+xs.length<=maxLen):
  ∃u w' p',(Builtin.append_ #[t,t] ty #[s,x]).run P w= .ok u w'/\Ext (fun g=>φ b=some (some g)) w w'/\(Ob.vec e (es+1) (rows++xs)).at w' (aT φ b p') I p'/\
   (∀g,p'=some g->φ b=some (some g)\/w.heap.size<=g)/\(∀g,p'=some g->g<w'.heap.size)/\AV.den w' (aT φ b p') I (.os b (es+1) 0 (rows.length+xs.length)) u:=by
 subst hn
 simp only[AV.den]at hs
 obtain⟨px,cx,ig,rfl,B9,zt,ug,Vx⟩:=hx
 obtain⟨_,ie,fM,oc⟩:=nH bW
 have y6:ie.bytes=bytes:=by
  unfold aI at fA
  rw[fM]at fA
  simpa using fA
 obtain⟨z,fk,np⟩:∃z,ie.zero=some z/\z.cells.size=es+1:=by
  unfold aA at hz
  rw[fM]at hz
  simp only[Option.bind_some]at hz
  cases zP:ie.zero with
  |none=>rw[zP]at hz;cases hz
  |some z=>rw[zP]at hz;exact⟨z,rfl,by simpa using hz⟩
 have rR:∀{w':World},Ext (fun g=>φ b=some (some g)) w w'->∀g,I g->w'.heap[g]?=w.heap[g]?:=fun hx g hg=>hx.b_ g (hS.real.bM g hg) (fun e=>(hS.real.off b g e).1 hg)
 have pB:∀p,aT φ b p b=some p:=fun p=>by simp[aT]
 have aP:=fun p hp=>hS.real.own b _ p hH hp
 simp only[Ob.at]at aP
 have Xl:=lA xs ig zt
 have Ch:=ql ig (es+1) ug
 by_cases qL:xs=[]
 ·
  subst qL
  rcases hs with⟨U,_,h2,rfl⟩|⟨g,c,U,rfl,h2,h3,h4⟩
  ·refine⟨_,w,none,P_ ht bW none px 0 0 cx (Nat.le_refl _) w,Ext.refl _ w,?_,fun g hg=>(by cases hg),fun g hg=>(by cases hg),?_⟩
   ·simp only[Ob.at]
    rcases aP none U with⟨_,hr⟩|⟨g,_,_,hg,_⟩
    ·exact .inl ⟨by simp,by rw[hr];simp⟩
    ·cases hg
   ·simp only[AV.den]
    exact .inl ⟨pB _,by simp,by simpa using h2,by simp⟩
  ·refine⟨_,w,some g,P_ ht bW _ px _ c cx h2 w,Ext.refl _ w,?_,fun g' hg=> .inl (by cases hg;exact U),fun g' hg=>(by cases hg;exact(hS.real.off b g U).2),?_⟩
   ·simp only[Ob.at,List.append_nil]
    rcases aP (some g) U with⟨a6,_⟩|⟨g',ae,rest,hg,hr⟩
    ·cases a6
    ·exact .inr ⟨g',ae,rest,hg,hr⟩
   ·simp only[AV.den]
    exact .inr ⟨g,c,pB _,by simp,by simpa using h2,h3,h4⟩
 ·obtain⟨gx,ox,rfl,dp⟩:=Vx qL
  have jv:0<xs.length:=List.length_pos_iff.2 qL
  have Gv:∀j u,ig.flatten[j]?=some u->w.cell? ((⟨gx,ox,none⟩:Addr).add j)=some u:=fun j u hu=>by rw[addr_add];exact dp j u hu
  have g_:ig.flatten.length=xs.length*ie.size:=by rw[Ch,Xl,oc]
  have Nl:rows.length+xs.length<=9223372036854775807:=by simp only[maxLen]at fY;omega
  have UH:∀u∈ig.flatten,u.oneCell'=true:=ss _ _ (rG _ _ zt)
  rcases hs with⟨U,_,h2,rfl⟩|⟨g,c,U,rfl,h2,h3,h4⟩
  ·
   have qI:rows=[]:=List.eq_nil_of_length_eq_zero h2
   subst qI
   have aB:=run_append_nil (P:=P) w t ty e ie z (eU ht) fM fk ⟨gx,ox,none⟩ xs.length cx ig.flatten g_ Gv jv (by simp at Nl;omega) (by rw[y6];simp at cp;omega)
   have cq:=grownCap_ge w xs.length 0 e
   have hle:=grownCap_le_maxLen w xs.length 0 e (by simp at fY;exact fY)
   have fO:=yy (own:=fun g=>φ b=some (some g)) (w:=w) (.cells (ig.flatten.toArray++Builtin.zeroCells z.cells (grownCap w xs.length 0 e-xs.length)) e)
   refine⟨_,_,some w.heap.size,aB,fO,?_,fun g hg=> .inr (by cases hg;exact Nat.le_refl _),fun g hg=>(by cases hg;simp),?_⟩
   ·simp only[Ob.at,List.nil_append]
    refine .inr ⟨_,ig,(Builtin.zeroCells z.cells (grownCap w xs.length 0 e-xs.length)).toList,rfl,?_,IV.iD (rR fO) (fun _ h=>h) xs ig zt,ug⟩
    rw[show(w.heap.size:Nat)=w.drew.heap.size from rfl,ir w.drew]
    congr 2
    apply Array.ext'
    simp
   ·simp only[AV.den]
    refine .inr ⟨_,_,pB _,by simp,by simpa using cq,hle,_,e,ir w.drew _,?_⟩
    simp only[Array.size_append,List.size_toArray,size_zeroCells,np,g_,oc,Nat.zero_add,<-Nat.add_mul]
    exact Nat.mul_le_mul_right _ (by omega)
  ·rcases aP (some g) U with⟨a6,_⟩|⟨g',ae,rest,hg,cg,hr,hl⟩
   ·cases a6
   cases hg
   have fF:=lA rows ae hr
   have dO:=ql ae (es+1) hl
   obtain⟨cc,ee,jt,FY⟩:=h4
   rw[cg]at jt
   cases jt
   have v8:c*(es+1)<=(ae.flatten++rest).length:=by simpa using FY
   simp only[Nat.zero_mul]
   by_cases uv:rows.length+xs.length<=c
   ·have y0:rows.length*(es+1)+ig.flatten.length<=(ae.flatten++rest).toArray.size:=by
     rw[List.size_toArray,g_,oc,<-Nat.add_mul]
     exact Nat.le_trans (Nat.mul_le_mul_right _ uv) v8
    have aB:=run_append_room (P:=P) w t ty e ie (eU ht) fM g rows.length c (ae.flatten++rest).toArray cg ⟨gx,ox,none⟩ xs.length cx ig.flatten g_ Gv UH uv (by rw[oc];exact y0)
    rw[oc]at aB
    have e1:(ae.flatten++rest).toArray.toList.take (rows.length*(es+1))=ae.flatten:=by
     simp only[]
     rw[<-fF,<-dO];simp
    have e2:∃oL,(ae.flatten++rest).toArray.toList.drop (rows.length*(es+1)+ig.flatten.length)=oL:=⟨_,rfl⟩
    obtain⟨oL,e2⟩:=e2
    rw[e1,e2]at aB
    have zz:(ae.flatten++ig.flatten++oL).toArray.size=(ae.flatten++rest).toArray.size:=by
     rw[<-e2]
     simp only[List.size_toArray,List.length_append,List.length_drop]at y0⊢
     rw[dO,fF]at y0⊢
     omega
    have fO:Ext (fun g=>φ b=some (some g)) w (w.setRow g (ae.flatten++ig.flatten++oL).toArray):=(Lh cg zz).Jl (fun g' bO=>by rw[bO];exact U)
    refine⟨_,_,some g,aB,fO,?_,fun g' hg=> .inl (by cases hg;exact U),fun g' hg=>(by cases hg;simpa using(hS.real.off b g U).2),?_⟩
    ·simp only[Ob.at]
     refine .inr ⟨g,ae++ig,oL,rfl,?_,tC _ _ _ _ (IV.iD (rR fO) (fun _ h=>h) rows ae hr) (IV.iD (rR fO) (fun _ h=>h) xs ig zt),fun vs hv=>?_⟩
     ·rw[setRow_heap w g _ _ e (0,0) cg];simp
     ·rcases List.mem_append.1 hv with hv|hv
      ·exact hl vs hv
      ·exact ug vs hv
    ·simp only[AV.den]
     exact .inr ⟨g,c,pB _,by simp,uv,h3,_,e,setRow_heap w g _ _ e (0,0) cg,by rw[zz,List.size_toArray,Nat.zero_add];exact v8⟩
   ·have holds:∀j u,ae.flatten[j]?=some u->w.cell? ((⟨g,0,none⟩:Addr).add j)=some u:=fun j u hu=>by
     rw[addr_add,Nat.zero_add]
     have ag:j<ae.flatten.length:=by
      rcases Nat.lt_or_ge j ae.flatten.length with h|h
      ·exact h
      ·rw[List.getElem?_eq_none h]at hu;cases hu
     simp only[World.cell?,cg,Option.isSome_none,Bool.false_eq_true,if_false,List.getElem?_toArray]
     rw[List.getElem?_append_left ag];exact hu
    have eC:ae.flatten.length=rows.length*ie.size:=by rw[dO,fF,oc]
    have aB:=run_append_grow (P:=P) w t ty e ie z (eU ht) fM fk ⟨g,0,none⟩ rows.length c ae.flatten eC holds ⟨gx,ox,none⟩ xs.length cx ig.flatten g_ Gv (by omega) (by omega) (growslice_fits (by omega) (by rw[y6];exact cp))
    have cq:=grownCap_ge w (rows.length+xs.length) c e
    have hle:=grownCap_le_maxLen w (rows.length+xs.length) c e fY
    have fO:=yy (own:=fun g=>φ b=some (some g)) (w:=w) (.cells (ae.flatten.toArray++ig.flatten.toArray++Builtin.zeroCells z.cells (grownCap w (rows.length+xs.length) c e-(rows.length+xs.length))) e)
    refine⟨_,_,some w.heap.size,aB,fO,?_,fun g hg=> .inr (by cases hg;exact Nat.le_refl _),fun g hg=>(by cases hg;simp),?_⟩
    ·simp only[Ob.at]
     refine .inr ⟨_,ae++ig,(Builtin.zeroCells z.cells (grownCap w (rows.length+xs.length) c e-(rows.length+xs.length))).toList,rfl,?_,tC _ _ _ _ (IV.iD (rR fO) (fun _ h=>h) rows ae hr) (IV.iD (rR fO) (fun _ h=>h) xs ig zt),fun vs hv=>?_⟩
     ·rw[show(w.heap.size:Nat)=w.drew.heap.size from rfl,ir w.drew]
      congr 2
      apply Array.ext'
      simp
     ·rcases List.mem_append.1 hv with hv|hv
      ·exact hl vs hv
      ·exact ug vs hv
    ·simp only[AV.den]
     refine .inr ⟨_,_,pB _,by simp,cq,hle,_,e,ir w.drew _,?_⟩
     simp only[Array.size_append,List.size_toArray,size_zeroCells,np,g_,eC,oc,Nat.zero_add,<-Nat.add_mul]
     exact Nat.mul_le_mul_right _ (by omega)
section
variable {C:Cx} {K:List KI} {E:Env} {H:aa}
theorem SD {ds:List (Nat×Nat)} {i:Nat} {o:Oper} {os:List Oper} {x y:Operand} {t e:TypeId} {b n es bytes d:Nat} {rows xs:List (List IV)} {φ:ai} {I:Nat->Prop} {a:Act} {w:World}
  (hs:bt C φ I E H a w) {Kn:Act->World->Prop} (bE:∀E' H' φ' I' a' w',AO C (aW o.dst i ds) (i+1) os K E' H'->bt C φ' I' E' H' a' w'->Kn a' w')
  (hnb:Nat.ble C.B.nb b=true) (nh:o.op= .call {callee:= .builtin .append,args:=#[x,y],argTypes:=#[t,t]}) (hd:o.dst=some d) (mg:Nat.blt d C.n=true)
  (hx:AV.den w φ I (.os b (es+1) 0 n) (a.eval x)) (hy:Src w I (es+1) xs (a.eval y)) (hH:lk H b=some (.vec e (es+1) rows)) (a6:noMen b H=true)
  (ht:tk C.P t= .slice e) (bW:sz C.P e=some (es+1)) (hz:(aA C.P e).map List.length=some (es+1)) (fA:aI C.P e=some bytes)
  (hn:n=rows.length) (cp:(rows.length+xs.length)*bytes<=140737488355328) (fY:rows.length+xs.length<=70368744177664)
  (h:AO C ((i,d)::ds) (i+1) os K ((d,.os b (es+1) 0 (rows.length+xs.length))::killE b E) (aN H b (.vec e (es+1) (rows++xs)))):o.wp C.P a w Kn (dL C K):=by
  obtain⟨u,w',p',aB,dF,pw,dq,ej,aS⟩:=Eu (P:=C.P) (ty:=o.type) hs.st hx hy hH hn ht bW hz fA cp (by unfold maxLen;omega)
  have hS:=hs.st.move (Nat.le_of_ble_eq_true hnb) hH a6 (fun g hg aC=>dF.b_ g hg aC) dF pw dq ej
  have hI:∀g,I g->w'.heap[g]?=w.heap[g]?:=fun g hg=>dF.b_ g (hs.st.real.bM g hg) (fun e=>(hs.st.real.off b g e).1 hg)
  have tW:d<C.n:=by simpa[Nat.blt_eq]using mg
  have hex:(execOp a.eval o).run C.P w= .ok (.value u) w':=by
   simp only[execOp,nh,resolve,invoke,builtin,Sem.run_bind,Sem.run_pure,Result.andThen_ok,List.map_toArray,List.map_cons,List.map_nil,aB]
  unfold Oper.wp
  rw[hex,Oper.upon_value]
  have wa:aW o.dst i ds=(i,d)::ds:=by rw[hd];rfl
  rw[wa]at bE
  refine bE _ _ _ I _ _ h ⟨by rw[hd];exact hs.bD.mono hI (fun _ h=>h),by rw[hd];simpa[Act.put]using hs.bA,fun j y hj=>?_,hS⟩
  rw[hd]
  simp only[lk]at hj
  cases hb:Nat.beq d j with
  |true=>
   rw[hb]at hj
   have:=Nat.eq_of_beq_eq_true hb
   subst this
   simp only[cond_true,Option.some.injEq]at hj
   subst hj
   exact⟨u,by simp only[Act.put];rw[Array.getElem?_setIfInBounds_self_of_lt (by rw[hs.bA];exact tW)],aS⟩
  |false=>
   rw[hb]at hj
   simp only[cond_false]at hj
   obtain⟨y',uC,iL⟩:=pF (w:=w) (φ:=φ) (φ':=fun c=>if c=b then none else φ c) (I:=I) (b:=b) (fun b' bF=>by simp[bF]) E j y hj
   obtain⟨v,hv,a8⟩:=hs.env j y' uC
   refine⟨v,?_,AV.jO hI (fun _ h=>h) (fun c p hc=>?_) (fun c g1 n hc cS=>?_) _ _ (iL v a8)⟩
   rotate_left
   ·by_cases e1:c=b
    ·simp[e1]at hc
    ·simpa[aT,e1]using hc
   ·by_cases e1:c=b
    ·simp[e1]at hc
    ·exact dF.shaped (fun ho=>e1 (hs.st.real.inj c b g1 (by simpa[e1]using hc) ho)) cS
   simp only[Act.put]
   rw[Array.getElem?_setIfInBounds_ne (by intro e;subst e;simp at hb)]
   exact hv
theorem AO.append {ds:List (Nat×Nat)} {i:Nat} {o:Oper} {os:List Oper} {x y:Operand} {t e:TypeId} {b n es bytes d:Nat} {rows xs:List (List IV)}
  (hnb:Nat.ble C.B.nb b=true) (nh:o.op= .call {callee:= .builtin .append,args:=#[x,y],argTypes:=#[t,t]}) (hg:o.guard=none) (hd:o.dst=some d) (mg:Nat.blt d C.n=true)
  (hx:ev E x=some (.os b (es+1) 0 n)) (hy:∀φ I a w,bt C φ I E H a w->Src w I (es+1) xs (a.eval y)) (hH:lk H b=some (.vec e (es+1) rows)) (a6:noMen b H=true)
  (ht:tk C.P t= .slice e) (bW:sz C.P e=some (es+1)) (hz:(aA C.P e).map List.length=some (es+1)) (fA:aI C.P e=some bytes)
  (hn:n=rows.length) (cp:(rows.length+xs.length)*bytes<=140737488355328) (fY:rows.length+xs.length<=70368744177664)
  (h:AO C ((i,d)::ds) (i+1) os K ((d,.os b (es+1) 0 (rows.length+xs.length))::killE b E) (aN H b (.vec e (es+1) (rows++xs)))):AO C ds i (o::os) K E H:=
 AO.step fun ops φ I a w aQ _ hs Kn bE=>by
  have hw:Region.wanted o (yielded ops a.tmps)=true:=by simp[Region.wanted,hg]
  rw[if_pos hw]
  exact SD hs bE hnb nh hd mg (aH hs.env hx) (hy φ I a w hs) hH a6 ht bW hz fA hn cp fY h
end
end Go.AL
end
