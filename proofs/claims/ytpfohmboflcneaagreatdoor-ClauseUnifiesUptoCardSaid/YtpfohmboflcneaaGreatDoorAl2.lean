import Derived.Test.YtpfohmboflcneaaGreatDoorAl1
import Derived.StillTail
import Derived.OpenShut
import Derived.WideKeyArgs
import Derived.ChangeSame
import Derived.ProofKit
import Derived.JoinedCond
import Derived.Below
import Derived.Lib.ConvBytes
import Derived.Lib.AppendStr
import Derived.Lib.UnsafeStr
import Derived.Lib.Builder
import Derived.RangeFuncRecord
set_option linter.unusedSimpArgs false
set_option linter.unusedVariables false
set_option linter.unnecessarySimpa false
section
namespace Go.AL
open Go
inductive PK where
 |seq (p:List Nat)
 |dZ (id:Nat)
 |lp (J:Act->World->Prop)
 |sc
 |bot (Q:Exit->Act->World->Prop)
def PK.ki (fn:Func):PK->KI
 | .seq p=> .seq (b7 fn p)
 | .dZ id=> .dZ id
 | .lp J=> .lp J
 | .sc=> .sc
 | .bot Q=> .bot Q
def AP (C:Cx) (p:List Nat) (K:List PK) (E:Env) (H:aa):Prop:=AR C (b7 C.fn p) (K.map (PK.ki C.fn)) E H
def AE (C:Cx) (e:Exit) (K:List PK) (E:Env) (H:aa):Prop:=AX C e (K.map (PK.ki C.fn)) E H
def AQ (C:Cx) (ds:List (Nat×Nat)) (i:Nat) (rest:List Oper) (K:List PK) (E:Env) (H:aa):Prop:=AO C ds i rest (K.map (PK.ki C.fn)) E H
def vq (C:Cx) (K:List PK):List Oper->List (Nat×Nat)->Nat->Env->aa->Prop
 |[],ds,i,E,H=>AQ C ds i [] K E H
 |o::os,ds,i,E,H=>match gd ds E o.guard with
  |none=>AQ C ds i (o::os) K E H
  |some G=>match iu C.P E H o.op with
   |some (sc,v)=>(G=true->sc)/\vq C K os (aW o.dst i ds) (i+1) (aY o.dst (wrap o.guard G v) E) H
   |none=>match o.guard with
    |some _=>AQ C ds i (o::os) K E H
    |none=>match qa C.P C.B.nb C.ob E H o with
     |some (sc,v,H')=>sc/\vq C K os (aW o.dst i ds) (i+1) (aY o.dst v E) H'
     |none=>AQ C ds i (o::os) K E H
theorem xJ (C:Cx) (K:List PK):∀(rest:List Oper) (ds:List (Nat×Nat)) (i:Nat) (E:Env) (H:aa),vq C K rest ds i E H->vc C.P C.B.nb C.ob (fun rest ds i E H=>AO C ds i rest (K.map (PK.ki C.fn)) E H) rest ds i E H
 |[],ds,i,E,H,h=>h
 |o::os,ds,i,E,H,h=>by
  simp only[vq]at h
  simp only[vc]
  cases hG:gd ds E o.guard with
  |none=>simp only[hG]at h⊢;exact h
  |some G=>
   simp only[hG]at h⊢
   cases hv:iu C.P E H o.op with
   |some q=>
    obtain⟨sc,v⟩:=q
    simp only[hv]at h⊢
    exact⟨h.1,xJ C K os _ _ _ _ h.2⟩
   |none=>
    simp only[hv]at h⊢
    cases hg:o.guard with
    |some q=>simp only[hg]at h⊢;exact h
    |none=>
     simp only[hg]at h⊢
     cases he:qa C.P C.B.nb C.ob E H o with
     |some q=>
      obtain⟨sc,v,H'⟩:=q
      simp only[he]at h⊢
      exact⟨h.1,xJ C K os _ _ _ _ h.2⟩
     |none=>simp only[he]at h⊢;exact h
section
variable {C:Cx} {K:List PK} {E:Env} {H:aa} {p:List Nat}
theorem AP.seq {a b:Code} (hc:b7 C.fn p= .seq a b) (h:AP C (0::p) (.seq (1::p)::K) E H):AP C p K E H:=by
 unfold AP at h⊢
 simp only[b7,hc,child,List.map_cons,PK.ki]at h⊢
 exact AR.seq h
theorem AP.block {id:Nat} {a:Code} (hc:b7 C.fn p= .block id a) (h:AP C (0::p) (.dZ id::K) E H):AP C p K E H:=by
 unfold AP at h⊢
 simp only[b7,hc,child,List.map_cons,PK.ki]at h⊢
 exact AR.block h
theorem AP.scope {a:Code} (hc:b7 C.fn p= .scope a) (h:AP C (0::p) (.sc::K) E H):AP C p K E H:=by
 unfold AP at h⊢
 simp only[b7,hc,child,List.map_cons,PK.ki]at h⊢
 exact AR.scope h
theorem AP.skip (hc:b7 C.fn p= .skip) (h:AE C .normal K E H):AP C p K E H:=by
 unfold AP;rw[hc];exact AR.skip h
theorem AP.ret (hc:b7 C.fn p= .ret) (h:AE C .ret K E H):AP C p K E H:=by
 unfold AP;rw[hc];exact AR.ret h
theorem AP.exit {id:Nat} (hc:b7 C.fn p= .exit id) (h:AE C (.exit id) K E H):AP C p K E H:=by
 unfold AP;rw[hc];exact AR.exit h
theorem AP.label {id:Nat} (hc:b7 C.fn p= .label id) (h:AE C .normal K E H):AP C p K E H:=by
 unfold AP;rw[hc];exact AR.label h
theorem AP.region {id:Nat} {ops:List Oper} (hc:b7 C.fn p= .region id ops.toArray false) (ah:a7 C.n ops=true) (h:vq C K ops [] 0 E H):AP C p K E H:=by
 unfold AP;rw[hc]
 exact AR.region ah (by simpa using xJ C K ops [] 0 E H h)
theorem AP.cond {t:Tmp} {x y:Code} {b:Bool} (hc:b7 C.fn p= .cond (.tmp t) x y) (hb:lk E t=some (.im (.v (.bool b)))) (ht:b=true->AP C (0::p) K E H) (hf:b=false->AP C (1::p) K E H):AP C p K E H:=by
 unfold AP at ht hf⊢
 simp only[b7,hc,child]at ht hf⊢
 exact AR.cond rfl hb ht hf
theorem AP.cond_true {t:Tmp} {x y:Code} (hc:b7 C.fn p= .cond (.tmp t) x y) (hb:lk E t=some (.im (.v (.bool true)))) (ht:AP C (0::p) K E H):AP C p K E H:=
 AP.cond hc hb (fun _=>ht) (fun h=>by cases h)
theorem AP.cond_false {t:Tmp} {x y:Code} (hc:b7 C.fn p= .cond (.tmp t) x y) (hb:lk E t=some (.im (.v (.bool false)))) (hf:AP C (1::p) K E H):AP C p K E H:=
 AP.cond hc hb (fun h=>by cases h) (fun _=>hf)
theorem AP.loop {α:Type} {c:Code} (hc:b7 C.fn p= .loop c) (LE:α->Env) (LH:α->aa) (ok:α->Prop) (μ:α->Nat) (p0:α) (h0:ok p0) (hE:Sub E (LE p0)) (hH:H=LH p0)
  (round:∀q,ok q->AP C (0::p) (.lp (vi C LE LH ok μ (μ q))::K) (LE q) (LH q)):AP C p K E H:=by
 unfold AP at round⊢
 simp only[b7,hc,child,List.map_cons,PK.ki]at round⊢
 exact AR.loop LE LH ok μ p0 h0 hE hH round
theorem AE.seq {q:List Nat} (h:AP C q K E H):AE C .normal (.seq q::K) E H:=h
theorem AE.Qk {q:List Nat} {id:Nat} (h:AE C (.exit id) K E H):AE C (.exit id) (.seq q::K) E H:=h
theorem AE.Ql {q:List Nat} (h:AE C .ret K E H):AE C .ret (.seq q::K) E H:=h
theorem AE.dZ {id:Nat} (h:AE C .normal K E H):AE C .normal (.dZ id::K) E H:=h
theorem AE.Ez {id:Nat} (h:AE C .normal K E H):AE C (.exit id) (.dZ id::K) E H:=AX.Ez h
theorem AE.EA {id mu:Nat} (aC:(mu==id)=false) (h:AE C (.exit mu) K E H):AE C (.exit mu) (.dZ id::K) E H:=AX.EA aC h
theorem AE.J8 {id:Nat} (h:AE C .ret K E H):AE C .ret (.dZ id::K) E H:=h
theorem AE.sc (h:AE C .normal K E H):AE C .normal (.sc::K) E H:=h
theorem AE.Qh {id:Nat} (h:AE C (.exit id) K E H):AE C (.exit id) (.sc::K) E H:=h
theorem AE.Qi (h:AE C .ret K E H):AE C .ret (.sc::K) E H:=h
theorem AE.OC {J:Act->World->Prop} {id:Nat} (h:AE C (.exit id) K E H):AE C (.exit id) (.lp J::K) E H:=h
theorem AE.OD {J:Act->World->Prop} (h:AE C .ret K E H):AE C .ret (.lp J::K) E H:=h
theorem AE.round {α:Type} {LE:α->Env} {LH:α->aa} {ok:α->Prop} {μ:α->Nat} {m:Nat} (q:α) (ah:ok q) (G9:μ q<m) (hE:Sub E (LE q)) (hH:H=LH q):
  AE C .normal (.lp (vi C LE LH ok μ m)::K) E H:=AX.round q ah G9 hE hH
theorem AE.ret {sc:Prop} {xs:List AV} (h:eG C.P E H C.fn.results.toList=some (sc,xs)) (ay:sc) (hR:C.R (eH xs) H):AE C .ret [] E H:=AX.ret h ay hR
theorem AE.jQ {sc:Prop} {xs:List AV} (h:eG C.P E H C.fn.results.toList=some (sc,xs)) (ay:sc) (hR:C.R (eH xs) H):AE C .normal [] E H:=AX.jQ h ay hR
theorem AQ.done {ds:List (Nat×Nat)} {i:Nat} (h:AE C .normal K (mB C.kp E) H):AQ C ds i [] K E H:=AO.done h
theorem AQ.go {ds:List (Nat×Nat)} {i:Nat} {rest:List Oper} (ah:a7 C.n rest=true) (h:vq C K rest ds i E H):AQ C ds i rest K E H:=xH rest ds i E H ah (xJ C K rest ds i E H h)
theorem AQ.nW {ds:List (Nat×Nat)} {i:Nat} {o:Oper} {os:List Oper} (hG:gd ds E o.guard=some true) (h:AQ C ds i ({o with guard:=none}::os) K E H):AQ C ds i (o::os) K E H:=AO.nW hG h
theorem AQ.vM {ds:List (Nat×Nat)} {i:Nat} {o:Oper} {os:List Oper} (ah:∀x,o.dst=some x->x<C.n) (hG:gd ds E o.guard=some false) (h:AQ C (aW o.dst i ds) (i+1) os K (aY o.dst (.opt false .top) E) H):AQ C ds i (o::os) K E H:=AO.vM ah hG h
theorem AQ.call {ds:List (Nat×Nat)} {i:Nat} {d:Option Nat} {ty:TypeId} {pos:String} {af:Array Edge} {os:List Oper} {f:FuncId} {xs:List Operand} {aZ:Array TypeId} {l:List AV} {R:AV->aa->Prop}
  (ah:a7 C.n ({dst:=d,op:= .call {callee:= .value (.func f),args:=xs.toArray,argTypes:=aZ},type:=ty,pos:=pos,after:=af,guard:=none}::os)=true)
  (hl:dT E xs=some l) (dG:gs l=true) (fg:AV.frees (l.map AV.st)=true) (hc:ao C.P f (l.map AV.st) [] R)
  (hR:∀r H',R r H'->H'=[]/\r.free=true) (h:∀r,R r []->vq C K os (aW d i ds) (i+1) (aY d r E) H):
  AQ C ds i ({dst:=d,op:= .call {callee:= .value (.func f),args:=xs.toArray,argTypes:=aZ},type:=ty,pos:=pos,after:=af,guard:=none}::os) K E H:=by
 obtain⟨hd,bX⟩:=dM ah
 exact AO.call rfl rfl hd (by simpa using hl) dG fg hc hR fun r hr=>AQ.go bX (h r hr)
theorem AQ.append {ds:List (Nat×Nat)} {i:Nat} {d:Nat} {ty:TypeId} {pos:String} {af:Array Edge} {os:List Oper} {x y:Operand} {t e:TypeId} {b n es bytes:Nat} {rows xs:List (List IV)} (hnb:Nat.ble C.B.nb b=true)
  (ah:a7 C.n ({dst:=some d,op:= .call {callee:= .builtin .append,args:=#[x,y],argTypes:=#[t,t]},type:=ty,pos:=pos,after:=af,guard:=none}::os)=true)
  (hx:ev E x=some (.os b (es+1) 0 n)) (hy:ev E y=some (.im (.sl (es+1) xs))) (hH:lk H b=some (.vec e (es+1) rows)) (a6:noMen b H=true)
  (ht:tk C.P t= .slice e) (bW:sz C.P e=some (es+1)) (hz:(aA C.P e).map List.length=some (es+1)) (fA:aI C.P e=some bytes)
  (hn:n=rows.length) (cp:(rows.length+xs.length)*bytes<=140737488355328) (fY:rows.length+xs.length<=70368744177664)
  (h:vq C K os ((i,d)::ds) (i+1) ((d,.os b (es+1) 0 (rows.length+xs.length))::killE b E) (aN H b (.vec e (es+1) (rows++xs)))):
  AQ C ds i ({dst:=some d,op:= .call {callee:= .builtin .append,args:=#[x,y],argTypes:=#[t,t]},type:=ty,pos:=pos,after:=af,guard:=none}::os) K E H:=by
 obtain⟨hd,bX⟩:=dM ah
 exact AO.append hnb rfl rfl rfl (by rw[Nat.blt_eq];exact hd d rfl) hx (fun φ I a w hs=>Src.im (by have:=aH hs.env hy;simpa only[AV.den]using this)) hH a6 ht bW hz fA hn cp fY (AQ.go bX h)
theorem AQ.fn {ds:List (Nat×Nat)} {i:Nat} {d:Option Nat} {ty:TypeId} {pos:String} {af:Array Edge} {os:List Oper} {f:FuncId} {xs:List Operand} {aZ:Array TypeId} {l:List AV} {r:AV}
  (ah:a7 C.n ({dst:=d,op:= .call {callee:= .value (.func f),args:=xs.toArray,argTypes:=aZ},type:=ty,pos:=pos,after:=af,guard:=none}::os)=true)
  (hl:dT E xs=some l) (dG:gs l=true) (fg:AV.frees (l.map AV.st)=true) (hc:ao C.P f (l.map AV.st) [] (fun r' H'=>H'=[]/\r'=r)) (hr:r.free=true)
  (h:vq C K os (aW d i ds) (i+1) (aY d r E) H):
  AQ C ds i ({dst:=d,op:= .call {callee:= .value (.func f),args:=xs.toArray,argTypes:=aZ},type:=ty,pos:=pos,after:=af,guard:=none}::os) K E H:=
 AQ.call ah hl dG fg hc (fun r' H' ⟨U,h2⟩=>⟨U,by rw[h2];exact hr⟩) fun r' ⟨_,h2⟩=>by rw[h2];exact h
theorem AP.weaken {E':Env} (h:AP C p K E' H) (hE:Sub E E'):AP C p K E H:=AR.weaken h hE
theorem AE.weaken {e:Exit} {E':Env} (h:AE C e K E' H) (hE:Sub E E'):AE C e K E H:=AX.weaken h hE
end
theorem ao.walk {P:Program} {f:FuncId} {fn:Func} {c:Code} {n nb:Nat} {args:List AV} {H:aa} {R:AV->aa->Prop} (kp ob:List Nat) (hf:P.funcs[f]?=some fn) (hb:fn.body=some c) (hn:fn.ntmps=n)
  (kT:enters P f=true) (de:Nat.ble args.length n=true) (hnb:bB H=nb)
  (h:∀(w:World) (own I0:Nat->Prop) (aq:ai) (lay:Lay P ⟨w,own,I0,aq,nb⟩),AP ⟨P,fn,n,⟨w,own,I0,aq,nb⟩,kp,ob,R,none,fun _ _=>False,[],lay⟩ [] [] (enum 0 args) H):ao P f args H R:=
 ao.intro kp ob hf hb hn kT de hnb fun w own I0 aq lay=>by
  have:=h w own I0 aq lay
  unfold AP at this
  simp only[b7,hb,Option.getD_some]at this
  exact this
def bh (P:Program) (f:FuncId) (args:List AV) (r:AV):Prop:=ao P f args [] (fun r' H'=>H'=[]/\r'=r)
theorem wr {x:Int} (h:-9223372036854775808<=x/\x<=9223372036854775807):IntKind.i64.wrap x=x:=by
 simp only[IntKind.wrap,IntKind.bits,IntKind.signed]
 simp only[Bool.true_and,decide_eq_true_eq,ge_iff_le]
 split<;>omega
theorem Sub.nil (E:Env):Sub E []:=fun i x h=>by simp[lk]at h
theorem Sub.cons {E E':Env} {i:Nat} {x:AV} (h:lk E i=some x) (h':Sub E E'):Sub E ((i,x)::E'):=fun j y hj=>by
 simp only[lk]at hj
 cases hb:Nat.beq i j with
 |true=>
  rw[hb]at hj
  have:=Nat.eq_of_beq_eq_true hb
  subst this
  simp only[cond_true,Option.some.injEq]at hj
  subst hj
  exact h
 |false=>rw[hb]at hj;exact h' j y hj
theorem Sub.refl (E:Env):Sub E E:=fun _ _ h=>h
attribute [go_sem] vq gd bw aY aW wrap iu e7 jM nN gw tm A5 lT jG sO lS xY A0 AW xZ Nat.beq_refl ev cn un bi AV.g AV.st A7 Bc zU xX wH yx o5 tF HY TK.Hf x5 xV AY Be Bb AZ A8 A4 A6 vG A3 Ba pJ sJ tj A2 A1 vm A_ A9 lk enum TK.agg mB cond_true cond_false zT bT au bB qa tv uD k6 mw setAt aN eG eH dT gs
 killE menE AV.men AV.mens noMen AV.free AV.frees rowsOf fillParts placesOf aBuild setRowI
attribute [go_sem] Int.toNat_natCast Zm Zl UD UE cond Bool.false_or Bool.or_false Bool.true_or Bool.or_true decide_true decide_false eq_self Bool.false_and Bool.and_false true_and and_true imp_self forall_const implies_true Bool.and_true Bool.true_and Bool.not_true Bool.not_false Bool.and_self Bool.or_self
attribute [irreducible] AP AE AQ
def BA (l:List UInt8):ByteArray:=⟨l.toArray⟩
theorem RS (l:List UInt8):ByteArray.mk (List.toArray l)=BA l:=rfl
theorem RU (s:ByteArray):s=BA s.data.toList:=by cases s;simp[BA]
theorem Ej (l:List UInt8):(BA l).size=l.length:=rfl
theorem ve (l:List UInt8):(BA l).data.toList=l:=by simp[BA]
theorem RV (l:List UInt8):(BA l).toList=l:=by rw[ByteArray.toList_eq,ve]
theorem RR (l:List UInt8) (a b:Nat):(BA l).extract a b=BA ((l.drop a).take (b-a)):=ByteArray.extract_mk l a b
theorem RQ (l m:List UInt8):BA l++BA m=BA (l++m):=ByteArray.mk_append_mk l m
abbrev Sv (l:List UInt8):AV:= .im (.v (.string (BA l)))
abbrev Iv (n:Int):AV:= .im (.v (.int .i64 n))
abbrev Bv (b:Bool):AV:= .im (.v (.bool b))
abbrev Si (l:List UInt8):IV:= .v (.string (BA l))
abbrev Ii (n:Int):IV:= .v (.int .i64 n)
attribute [go_sem] RS Ej ve RV RR RQ
mutual
def dN (b eV:Nat) (rows:List (List IV)):AV->AV
 | .os b' es i n=>bif Nat.beq b' b then bif Nat.beq es eV then .im (.sl es ((rows.drop i).take n))else .top else .os b' es i n
 | .oe b' es i j=>bif Nat.beq b' b then .top else .oe b' es i j
 | .ob b' o=>bif Nat.beq b' b then(bif Nat.beq o 0 then .im (.pt rows.flatten)else .top)else .ob b' o
 | .fn f fs aF=> .fn f (gy b eV rows fs) (gy b eV rows aF)
 | .agg cs=> .agg (gy b eV rows cs)
 | .aG cs=> .aG (gy b eV rows cs)
 | .opt g x=> .opt g (dN b eV rows x)
 | .im x=> .im x
 | .ar x=> .ar x
 | .top=> .top
 | .mp b'=>bif Nat.beq b' b then .top else .mp b'
 | .wr k x=> .wr k (dN b eV rows x)
def gy (b eV:Nat) (rows:List (List IV)):List AV->List AV
 |[]=>[]
 |x::xs=>dN b eV rows x::gy b eV rows xs
end
mutual
def eh (b:Nat) (rows:List (List IV)):AV->Prop
 | .os b' _ i n=>bif Nat.beq b' b then i+n<=rows.length else True
 | .fn _ fs aF=>fx b rows fs/\fx b rows aF
 | .agg cs=>fx b rows cs
 | .aG cs=>fx b rows cs
 | .opt _ x=>eh b rows x
 | .wr _ x=>eh b rows x
 |_=>True
def fx (b:Nat) (rows:List (List IV)):List AV->Prop
 |[]=>True
 |x::xs=>eh b rows x/\fx b rows xs
end
def kM (b eV:Nat) (rows:List (List IV)):Env->Env
 |[]=>[]
 |(i,x)::r=>(i,dN b eV rows x)::kM b eV rows r
def kN (b:Nat) (rows:List (List IV)):Env->Prop
 |[]=>True
 |(_,x)::r=>eh b rows x/\kN b rows r
def fL (b eV:Nat) (rows:List (List IV)):aa->aa
 |[]=>[]
 |(j,.var e cs)::r=>bif Nat.beq j b then fL b eV rows r else(j,.var e (gy b eV rows cs))::fL b eV rows r
 |(j,.vec e es rs)::r=>bif Nat.beq j b then fL b eV rows r else(j,.vec e es rs)::fL b eV rows r
 |(j,.lp l n st fn q ps E)::r=>bif Nat.beq j b then fL b eV rows r else(j,.lp l n st fn q ps (kM b eV rows E))::fL b eV rows r
def jS (b:Nat) (rows:List (List IV)):aa->Prop
 |[]=>True
 |(_,.var _ cs)::r=>fx b rows cs/\jS b rows r
 |(_,.vec _ _ _)::r=>jS b rows r
 |(_,.lp _ _ _ _ _ _ E)::r=>kN b rows E/\jS b rows r
section
variable {w:World} {φ φ':ai} {I I':Nat->Prop} {b:Nat} {es:Nat} {rows:List (List IV)}
mutual
theorem vK (ax:∀b',b'≠b->φ' b'=φ b') (hI:∀g,I g->I' g) (hb:(φ b=some none/\rows=[])\/∃g ae,φ b=some (some g)/\I' g/\IV.aE w I rows ae/\(∀vs∈ae,vs.length=es)/\cQ w g 0 ae.flatten):∀(x:AV) (u:Value),eh b rows x->AV.den w φ I x u->AV.den w φ' I' (dN b es rows x) u
 | .os b' ef i n,u,h,hx=>by
  simp only[dN,eh]at h⊢
  cases hq:Nat.beq b' b with
  |true=>
   rw[hq]at h
   have:=Nat.eq_of_beq_eq_true hq
   subst this
   cases WO:Nat.beq ef es with
   |false=>simp only[cond_true,cond_false,AV.den]
   |true=>
    have VT:=Nat.eq_of_beq_eq_true WO
    subst VT
    simp only[cond_true]at h⊢
    simp only[AV.den]at hx
    have wg:((rows.drop i).take n).length=n:=by rw[List.length_take,List.length_drop];omega
    rcases hx with⟨U,rfl,rfl,rfl⟩|⟨g',c,U,rfl,h2,h3,h4⟩
    ·simp only[AV.den,IV.den,List.take_zero]
     exact⟨none,0,[],rfl,by simp,by simp only[IV.aE],by simp,fun e=>absurd rfl e⟩
    ·rcases hb with⟨hb,_⟩|⟨g,ae,hb,hg,hd,hl,hc⟩
     ·rw[hb]at U;cases U
     rw[hb]at U
     cases U
     have fF:=lA rows ae hd
     simp only[AV.den,IV.den]
     refine⟨_,c,(ae.drop i).take n,by rw[wg],by rw[wg];exact h2,?_,fun vs hv=>hl vs (List.mem_of_mem_drop (List.mem_of_mem_take hv)),fun _=>⟨g',i*ef,rfl,hg,?_⟩⟩
     ·exact IV.iD (fun _ _=>rfl) hI _ _ (BC n _ _ (By i _ _ hd))
     ·rw[yB n _ ef (fun vs hv=>hl vs (List.mem_of_mem_drop hv)) (by rw[List.length_drop];omega),vH i ae ef hl (by omega)]
      have:=(hc.drop (i*ef)).take (n*ef)
      rw[Nat.zero_add]at this
      exact this
  |false=>
   simp only[cond_false]
   simp only[AV.den]at hx⊢
   rw[ax b' (by intro e;subst e;simp at hq)]
   exact hx
 | .oe b' ef i j,u,_,hx=>by
  simp only[dN]
  cases hq:Nat.beq b' b with
  |true=>simp only[cond_true,AV.den]
  |false=>
   simp only[cond_false]
   simp only[AV.den]at hx⊢
   rw[ax b' (by intro e;subst e;simp at hq)]
   exact hx
 | .ob b' o,u,_,hx=>by
  simp only[dN]
  cases hq:Nat.beq b' b with
  |true=>
   simp only[cond_true]
   cases ho:Nat.beq o 0 with
   |false=>simp only[cond_false,AV.den]
   |true=>
    have:=Nat.eq_of_beq_eq_true hq
    subst this
    have:=Nat.eq_of_beq_eq_true ho
    subst this
    simp only[cond_true]
    simp only[AV.den,IV.den]at hx⊢
    obtain⟨g',U,rfl⟩:=hx
    rcases hb with⟨hb,_⟩|⟨g,ae,hb,hg,hd,hl,hc⟩
    ·rw[hb]at U;cases U
    rw[hb]at U
    cases U
    exact⟨g',0,ae.flatten,rfl,hg,IV.fb (fun _ _=>rfl) hI _ _ (rG rows ae hd),hc⟩
  |false=>
   simp only[cond_false]
   simp only[AV.den]at hx⊢
   rw[ax b' (by intro e;subst e;simp at hq)]
   exact hx
 | .fn f fs aF,u,h,hx=>by simp only[dN,eh]at h⊢;simp only[AV.den]at hx⊢;obtain⟨us,vs,U,h2,h3⟩:=hx;exact⟨us,vs,vL ax hI hb fs us h.1 U,vL ax hI hb aF vs h.2 h2,h3⟩
 | .agg cs,u,h,hx=>by simp only[dN,eh]at h⊢;simp only[AV.den]at hx⊢;obtain⟨us,U,h2⟩:=hx;exact⟨us,vL ax hI hb cs us h U,h2⟩
 | .aG cs,u,h,hx=>by simp only[dN,eh]at h⊢;simp only[AV.den]at hx⊢;obtain⟨us,U,h2⟩:=hx;exact⟨us,vL ax hI hb cs us h U,h2⟩
 | .opt q x,u,h,hx=>by simp only[dN,eh]at h⊢;simp only[AV.den]at hx⊢;exact⟨fun hq=>vK ax hI hb x u h (hx.1 hq),hx.2⟩
 | .im x,u,_,hx=>by simp only[dN];simp only[AV.den]at hx⊢;exact IV.jO (fun _ _=>rfl) hI x u hx
 | .ar x,u,_,hx=>by simp only[dN];simp only[AV.den]at hx⊢;obtain⟨us,U,h2⟩:=hx;exact⟨us,IV.fb (fun _ _=>rfl) hI x us U,h2⟩
 | .top,_,_,_=>by simp only[dN,AV.den]
 | .mp b',u,_,hx=>by
  simp only[dN]
  cases hq:Nat.beq b' b with
  |true=>simp only[cond_true,AV.den]
  |false=>
   simp only[cond_false]
   simp only[AV.den]at hx⊢
   rw[ax b' (by intro e;subst e;simp at hq)]
   exact hx
 | .wr k x,u,h,hx=>by simp only[dN,eh]at h⊢;simp only[AV.den]at hx⊢;obtain⟨v,U,h2⟩:=hx;exact⟨v,U,vK ax hI hb x v h h2⟩
theorem vL (ax:∀b',b'≠b->φ' b'=φ b') (hI:∀g,I g->I' g) (hb:(φ b=some none/\rows=[])\/∃g ae,φ b=some (some g)/\I' g/\IV.aE w I rows ae/\(∀vs∈ae,vs.length=es)/\cQ w g 0 ae.flatten):∀(xs:List AV) (us:List Value),fx b rows xs->AV.ab w φ I xs us->AV.ab w φ' I' (gy b es rows xs) us
 |[],us,_,h=>by simpa only[gy,AV.ab]using h
 |x::xs,us,h,hx=>by
  simp only[gy,fx]at h⊢
  simp only[AV.ab]at hx⊢
  obtain⟨u,ak,e,U,h2⟩:=hx
  exact⟨u,ak,e,vK ax hI hb x u h.1 U,vL ax hI hb xs ak h.2 h2⟩
end
theorem qS:∀(H:aa),lk (fL b es rows H) b=none
 |[]=>rfl
 |(j,.var e cs)::r=>by
  simp only[fL]
  cases hq:Nat.beq j b with
  |true=>simpa using qS r
  |false=>simpa[lk,hq]using qS r
 |(j,.vec e ef rs)::r=>by
  simp only[fL]
  cases hq:Nat.beq j b with
  |true=>simpa using qS r
  |false=>simpa[lk,hq]using qS r
 |(j,.lp l n st fn q ps E)::r=>by
  simp only[fL]
  cases hq:Nat.beq j b with
  |true=>simpa using qS r
  |false=>simpa[lk,hq]using qS r
def lC (b eV:Nat) (rows:List (List IV)):Ob->Ob
 | .var e cs=> .var e (gy b eV rows cs)
 | .vec e es rs=> .vec e es rs
 | .lp l n st fn q ps E=> .lp l n st fn q ps (kM b eV rows E)
theorem nz:∀(H:aa) (b':Nat),b'≠b->lk (fL b es rows H) b'=(lk H b').map (lC b es rows)
 |[],_,_=>rfl
 |(j,.var e cs)::r,b',aC=>by
  simp only[fL]
  cases hq:Nat.beq j b with
  |true=>
   have ud:=Nat.eq_of_beq_eq_true hq
   have iI:Nat.beq j b'=false:=by
    cases iI:Nat.beq j b' with
    |false=>rfl
    |true=>exact absurd ((Nat.eq_of_beq_eq_true iI).symm.trans ud) aC
   simp only[cond_true,lk,iI,cond_false]
   exact nz r b' aC
  |false=>
   simp only[cond_false,lk]
   cases iI:Nat.beq j b' with
   |true=>simp[lC]
   |false=>simpa using nz r b' aC
 |(j,.vec e ef rs)::r,b',aC=>by
  simp only[fL]
  cases hq:Nat.beq j b with
  |true=>
   have ud:=Nat.eq_of_beq_eq_true hq
   have iI:Nat.beq j b'=false:=by
    cases iI:Nat.beq j b' with
    |false=>rfl
    |true=>exact absurd ((Nat.eq_of_beq_eq_true iI).symm.trans ud) aC
   simp only[cond_true,lk,iI,cond_false]
   exact nz r b' aC
  |false=>
   simp only[cond_false,lk]
   cases iI:Nat.beq j b' with
   |true=>simp[lC]
   |false=>simpa using nz r b' aC
 |(j,.lp l n st fn q ps E)::r,b',aC=>by
  simp only[fL]
  cases hq:Nat.beq j b with
  |true=>
   have ud:=Nat.eq_of_beq_eq_true hq
   have iI:Nat.beq j b'=false:=by
    cases iI:Nat.beq j b' with
    |false=>rfl
    |true=>exact absurd ((Nat.eq_of_beq_eq_true iI).symm.trans ud) aC
   simp only[cond_true,lk,iI,cond_false]
   exact nz r b' aC
  |false=>
   simp only[cond_false,lk]
   cases iI:Nat.beq j b' with
   |true=>simp[lC]
   |false=>simpa using nz r b' aC
theorem BL:∀(H:aa),jS b rows H->∀b' e cs,lk H b'=some (.var e cs)->fx b rows cs
 |[],_,_,_,_,h=>by simp[lk]at h
 |(j,.var e0 cs0)::r,hc,b',e,cs,h=>by
  simp only[jS]at hc
  simp only[lk]at h
  cases hq:Nat.beq j b' with
  |true=>rw[hq]at h;simp at h;obtain⟨_,rfl⟩:=h;exact hc.1
  |false=>rw[hq]at h;exact BL r hc.2 b' e cs h
 |(j,.vec _ _ _)::r,hc,b',e,cs,h=>by
  simp only[jS]at hc
  simp only[lk]at h
  cases hq:Nat.beq j b' with
  |true=>rw[hq]at h;simp at h
  |false=>rw[hq]at h;exact BL r hc b' e cs h
 |(j,.lp _ _ _ _ _ _ _)::r,hc,b',e,cs,h=>by
  simp only[jS]at hc
  simp only[lk]at h
  cases hq:Nat.beq j b' with
  |true=>rw[hq]at h;simp at h
  |false=>rw[hq]at h;exact BL r hc.2 b' e cs h
theorem LC:∀(H:aa),jS b rows H->∀b' l n st fn q ps E,lk H b'=some (.lp l n st fn q ps E)->kN b rows E
 |[],_,_,_,_,_,_,_,_,_,h=>by simp[lk]at h
 |(j,o)::r,hc,b',l,n,st,fn,q,ps,E,h=>by
  simp only[lk]at h
  cases hq:Nat.beq j b' with
  |true=>
   rw[hq]at h
   simp only[cond_true,Option.some.injEq]at h
   subst h
   exact hc.1
  |false=>
   rw[hq]at h
   refine LC r ?_ b' l n st fn q ps E h
   cases o with
   |var _ _=>exact hc.2
   |vec _ _ _=>exact hc
   |lp _ _ _ _ _ _ _=>exact hc.2
theorem Fh:∀(E:Env),kN b rows E->∀i x,lk (kM b es rows E) i=some x->∃y,lk E i=some y/\eh b rows y/\x=dN b es rows y
 |[],_,i,x,h=>by simp[kM,lk]at h
 |(j,y)::r,hc,i,x,h=>by
  simp only[kN]at hc
  simp only[kM,lk]at h⊢
  cases hq:Nat.beq j i with
  |true=>rw[hq]at h;simp at h⊢;exact⟨hc.1,h.symm⟩
  |false=>rw[hq]at h;simpa using Fh r hc.2 i x h
theorem St.freeze {B:Bs} {H:aa} {el:TypeId} (h:St B φ I H w) (hl:lk H b=some (.vec el es rows)) (hC:jS b rows H):
  ∃φ' I',St B φ' I' (fL b es rows H) w/\(∀g,I g->I' g)/\∀(x:AV) (u:Value),eh b rows x->AV.den w φ I x u->AV.den w φ' I' (dN b es rows x) u:=by
 obtain⟨p,hp⟩:∃p,φ b=some p:=by
  have:=h.real.bj b
  rw[hl]at this
  cases hq:φ b with
  |none=>rw[hq]at this;cases this
  |some p=>exact⟨p,rfl⟩
 have aP:=h.real.own b _ p hl hp
 simp only[Ob.at]at aP
 let φ':ai:=fun i=>if i=b then none else φ i
 let I':Nat->Prop:=fun g=>I g\/φ b=some (some g)
 have ax:∀b',b'≠b->φ' b'=φ b':=fun b' hb=>by simp[φ',hb]
 have hI:∀g,I g->I' g:=fun g hg=> .inl hg
 have hb:(φ b=some none/\rows=[])\/∃g ae,φ b=some (some g)/\I' g/\IV.aE w I rows ae/\(∀vs∈ae,vs.length=es)/\cQ w g 0 ae.flatten:=by
  rcases aP with⟨rfl,hr⟩|⟨g,ae,rest,rfl,cg,hd,zg⟩
  ·exact .inl ⟨hp,hr⟩
  ·refine .inr ⟨g,ae,hp,.inr hp,hd,zg,fun j u hu=>?_⟩
   have ag:j<ae.flatten.length:=by
    rcases Nat.lt_or_ge j ae.flatten.length with h|h
    ·exact h
    ·rw[List.getElem?_eq_none h]at hu;cases hu
   simp only[World.cell?,cg,Option.isSome_none,Bool.false_eq_true,if_false,List.getElem?_toArray,Nat.zero_add]
   rw[List.getElem?_append_left ag];exact hu
 refine⟨φ',I',⟨⟨fun b'=>?_,fun b' o p' aD bH=>?_,fun b' g bH=>?_,fun b1 b2 g U h2=>?_,fun g hg=>?_⟩,h.ext,fun b' g bH=>?_,fun g hg=>?_,fun g hg=> .inl (h.cj g hg),fun b' g oo ag h0 aD=>?_⟩,hI,fun x u hc hx=>vK ax hI hb x u hc hx⟩
 ·by_cases aj:b'=b
  ·subst aj;rw[qS];simp[φ']
  ·rw[ax b' aj,nz H b' aj,Option.isSome_map];exact h.real.bj b'
 ·by_cases aj:b'=b
  ·subst aj;rw[qS]at aD;cases aD
  ·rw[ax b' aj]at bH
   rw[nz H b' aj]at aD
   cases hq:lk H b' with
   |none=>rw[hq]at aD;cases aD
   |some o1=>
    rw[hq]at aD
    simp only[Option.map_some,Option.some.injEq]at aD
    subst aD
    have ba:=h.real.own b' o1 p' hq bH
    cases o1 with
    |var e cs=>
     simp only[Ob.at,lC]at ba⊢
     obtain⟨g,us,U,h2,h3,h4⟩:=ba
     exact⟨g,us,U,h2,vL ax hI hb cs us (BL H hC b' e cs hq) h3,h4⟩
    |vec e ef rs=>
     simp only[Ob.at,lC]at ba⊢
     rcases ba with h'|⟨g,ae,rest,U,h2,h3,h4⟩
     ·exact .inl h'
     ·exact .inr ⟨g,ae,rest,U,h2,IV.iD (fun _ _=>rfl) hI rs ae h3,h4⟩
    |lp l n st fn q ps E=>
     simp only[Ob.at,lC]at ba⊢
     obtain⟨h0,T,D,cf,U,h2,h3⟩:=ba
     refine⟨h0,T,D,cf,U,h2,fun i x hx=>?_⟩
     obtain⟨y,hy,G5,rfl⟩:=Fh E (LC H hC b' l n st fn q ps E hq) i x hx
     obtain⟨u,hu,hd⟩:=h3 i y hy
     exact⟨u,hu,vK ax hI hb y u G5 hd⟩
 ·by_cases aj:b'=b
  ·subst aj;simp[φ']at bH
  ·rw[ax b' aj]at bH
   have:=h.real.off b' g bH
   refine⟨fun hg=>hg.elim this.1 (fun e=>aj (h.real.inj b' b g bH e)),this.2⟩
 ·by_cases e1:b1=b
  ·subst e1;simp[φ']at U
  ·by_cases e2:b2=b
   ·subst e2;simp[φ']at h2
   ·rw[ax b1 e1]at U
    rw[ax b2 e2]at h2
    exact h.real.inj b1 b2 g U h2
 ·rcases hg with hg|hg
  ·exact h.real.bM g hg
  ·exact(h.real.off b g hg).2
 ·by_cases aj:b'=b
  ·subst aj;simp[φ']at bH
  ·rw[ax b' aj]at bH;exact h.b9 b' g bH
 ·rcases hg with hg|hg
  ·exact h.cZ g hg
  ·exact .inr (h.b9 b g hg)
 ·by_cases aj:b'=b
  ·subst aj;rw[qS]at aD;cases aD
  ·rw[nz H b' aj]at aD
   rw[ax b' aj]
   cases hq:lk H b' with
   |none=>rw[hq]at aD;cases aD
   |some o1=>
    rw[hq]at aD
    exact h.cE b' g o1 ag h0 hq
theorem bt.freeze {C:Cx} {E:Env} {H:aa} {a:Act} {el:TypeId} (h:bt C φ I E H a w) (hl:lk H b=some (.vec el es rows)) (nX:kN b rows E) (hC:jS b rows H):
  ∃φ' I',bt C φ' I' (kM b es rows E) (fL b es rows H) a w:=by
 obtain⟨φ',I',hS,FD,hd⟩:=h.st.freeze hl hC
 refine⟨φ',I',h.bD.mono (fun _ _=>rfl) FD,h.bA,fun i x hx=>?_,hS⟩
 obtain⟨y,hy,G5,rfl⟩:=Fh E nX i x hx
 obtain⟨u,hu,dz⟩:=h.env i y hy
 exact⟨u,hu,hd y u G5 dz⟩
end
section
variable {C:Cx} {K:List PK} {E:Env} {H:aa}
theorem AE.freeze {e:Exit} (b:Nat) {el:TypeId} {es:Nat} {rows:List (List IV)} (hl:lk H b=some (.vec el es rows)) (hC:jS b rows H) (nX:kN b rows E) (h:AE C e K (kM b es rows E) (fL b es rows H)):AE C e K E H:=by
 unfold AE at h⊢
 intro φ I a w hs
 obtain⟨φ',I',cS⟩:=hs.freeze hl nX hC
 exact h φ' I' a w cS
theorem AQ.freeze {ds:List (Nat×Nat)} {i:Nat} {rest:List Oper} (b:Nat) {el:TypeId} {es:Nat} {rows:List (List IV)} (hl:lk H b=some (.vec el es rows)) (hC:jS b rows H) (nX:kN b rows E) (h:AQ C ds i rest K (kM b es rows E) (fL b es rows H)):AQ C ds i rest K E H:=by
 unfold AQ at h⊢
 intro ops U h2 φ I a w hs
 obtain⟨φ',I',cS⟩:=hs.freeze hl nX hC
 exact h ops U h2 φ' I' a w cS
end
attribute [go_sem] dN gy eh fx kM kN fL jS
theorem E_ {place:Nat->Option (Nat×Nat)} {E E':Env}:∀(parts:List (Nat×Operand)) (cs:List AV),(∀p∈parts,ev E p.2=ev E' p.2)->fillParts place E cs parts=fillParts place E' cs parts
 |[],_,_=>rfl
 |(i,x)::r,cs,h=>by
  have hx:ev E x=ev E' x:=h (i,x) (by simp)
  have ih:∀cs,fillParts place E cs r=fillParts place E' cs r:=fun cs=>E_ r cs (fun p hp=>h p (by simp[hp]))
  simp only[fillParts,hx,ih]
theorem R7 {P:Program} {t:TypeId} {E E':Env} (parts:List (Nat×Operand)) (h:∀p∈parts,ev E p.2=ev E' p.2):aBuild P t parts E=aBuild P t parts E':=by
 unfold aBuild
 split
 ·split
  ·rw[E_ parts _ h]
  ·rfl
 ·split
  ·rw[E_ parts _ h]
  ·rfl
 ·rfl
theorem SJ {P:Program} {E E':Env} {H:aa} (op:Op) (h:∀x∈op.operands,ev E x=ev E' x):e7 P E H op=e7 P E' H op:=by
 cases op with
 |build t parts=>
  simp only[e7]
  exact R7 _ fun p hp=>h p.2 (by simp only[Op.operands];simp;exact⟨p.1,by simpa using hp⟩)
 |call c=>
  obtain⟨callee,args,ts⟩:=c
  cases callee with
  |builtin b=>
   cases b<;>simp only[e7]<;>split<;>first
    |rfl
    |(
      rename_i x hx _
      rw[h x (
          by
            simp only[Op.operands,Call.operands];obtain rfl:args=#[x]:=by cases args;simpa using hx
            simp)];done)
    |(
      rename_i x t hx ht
      obtain rfl:args=#[x]:=by cases args;simpa using hx
      rw[h x (by simp[Op.operands,Call.operands])])
    |(
      rename_i x y hx
      obtain rfl:args=#[x,y]:=by cases args;simpa using hx
      rw[h x (by simp[Op.operands,Call.operands]),h y (by simp[Op.operands,Call.operands])])
  |value f=>simp only[e7]
  |invoke r m=>simp only[e7]
 |slice t x lo hi mx=>
  cases mx with
  |some _=>simp only[e7]
  |none=>
   cases lo<;>cases hi<;>simp only[e7]<;>first
    |rfl
    |(rename_i l r;rw[h l (by simp[Op.operands]),h r (by simp[Op.operands]),h x (by simp[Op.operands])])
    |(rename_i l;rw[h l (by simp[Op.operands]),h x (by simp[Op.operands])])
 |pick c a b=>simp only[e7];rw[h c (by simp[Op.operands]),h a (by simp[Op.operands]),h b (by simp[Op.operands])]
 |binOp o t x y u=>simp only[e7];rw[h x (by simp[Op.operands]),h y (by simp[Op.operands])]
 |index t x i=>simp only[e7];rw[h x (by simp[Op.operands]),h i (by simp[Op.operands])]
 |indexAddr t x i=>simp only[e7];rw[h x (by simp[Op.operands]),h i (by simp[Op.operands])]
 |move x=>simp only[e7];rw[h x (by simp[Op.operands])]
 |assign x=>simp only[e7];rw[h x (by simp[Op.operands])]
 |unOp o t x=>simp only[e7];rw[h x (by simp[Op.operands])]
 |convert s d x=>simp only[e7];rw[h x (by simp[Op.operands])]
 |nilCheck x=>simp only[e7];rw[h x (by simp[Op.operands])]
 |fieldAddr t x f=>simp only[e7];rw[h x (by simp[Op.operands])]
 |field t x f=>simp only[e7];rw[h x (by simp[Op.operands])]
 |load t x=>simp only[e7];rw[h x (by simp[Op.operands])]
 |extract x i=>simp only[e7];rw[h x (by simp[Op.operands])]
 |_=>simp only[e7]
theorem BJ {E E':Env}:∀(xs:List Operand),(∀x∈xs,ev E x=ev E' x)->dT E xs=dT E' xs
 |[],_=>rfl
 |x::r,h=>by
  simp only[dT]
  rw[h x (by simp),BJ r (fun y hy=>h y (by simp[hy]))]
theorem SL {P:Program} {E E':Env} (op:Op) (h:∀x∈op.operands,ev E x=ev E' x):jM P E op=jM P E' op:=by
 cases op with
 |makeFunc f first cap=>
  cases f with
  |func f=>
   simp only[jM]
   rw[BJ first.toList (fun x hx=>h x (by simp only[Op.operands];simp;exact .inl (by simpa using hx))),BJ cap.toList (fun x hx=>h x (by simp only[Op.operands];simp;exact .inr (by simpa using hx)))]
  |_=>simp only[jM]
 |sliceToArrayPointer t x=>simp only[jM];rw[h x (by simp[Op.operands])]
 |convert s d x=>simp only[jM];rw[h x (by simp[Op.operands])]
 |binOp o t x y u=>simp only[jM];rw[h x (by simp[Op.operands]),h y (by simp[Op.operands])]
 |slice t x lo hi mx=>
  cases lo with
  |some _=>simp only[jM]
  |none=>
   cases hi with
   |none=>simp only[jM]
   |some hh=>
    cases mx with
    |none=>simp only[jM];rw[h x (by simp[Op.operands]),h hh (by simp[Op.operands])]
    |some m=>simp only[jM];rw[h x (by simp[Op.operands]),h hh (by simp[Op.operands]),h m (by simp[Op.operands])]
 |_=>simp only[jM]
theorem K_ {E E':Env} {d:Nat} (o:Option Operand) (h:∀x∈o,ev E x=ev E' x):gw E d o=gw E' d o:=by
 cases o with
 |none=>rfl
 |some x=>simp only[gw];rw[h x rfl]
theorem Sp {P:Program} {E E':Env} {H:aa} {t:TypeId} (lo hi:Option Operand) (U:∀x∈lo,ev E x=ev E' x) (h2:∀x∈hi,ev E x=ev E' x):tm P H t E lo hi=tm P H t E' lo hi:=by
 funext v
 unfold tm
 simp only[K_ lo U,K_ hi h2]
theorem SN {P:Program} {E E':Env} {H:aa} (op:Op) (h:∀x∈op.operands,ev E x=ev E' x):nN P E H op=nN P E' H op:=by
 cases op with
 |slice t x lo hi mx=>
  cases mx with
  |none=>
   simp only[nN]
   rw[h x (by simp[Op.operands]),Sp lo hi (fun y hy=>h y (by cases hy;simp[Op.operands])) (fun y hy=>h y (by cases hy;simp[Op.operands]))]
  |some m=>simp only[nN]
 |indexAddr t x i=>simp only[nN];rw[h x (by simp[Op.operands]),h i (by simp[Op.operands])]
 |binOp op t x y yt=>simp only[nN];rw[h x (by simp[Op.operands])]
 |_=>simp only[nN]
theorem SP {P:Program} {E E':Env} {H:aa} (op:Op) (h:∀x∈op.operands,ev E x=ev E' x):iu P E H op=iu P E' H op:=by
 unfold iu
 rw[SJ op h,SL op h,SN op h]
def tmpsOf:List Operand->List Nat
 |[]=>[]
 | .tmp t::r=>t::tmpsOf r
 |_::r=>tmpsOf r
theorem HO {t:Tmp}:∀(l:List Operand),Operand.tmp t∈l->t∈tmpsOf l
 |[],h=>by cases h
 |x::r,h=>by
  rcases List.mem_cons.1 h with rfl|h
  ·simp[tmpsOf]
  ·have:=HO r h
   cases x<;>simp[tmpsOf,this]
def looks (ops:List Oper) (o:Oper):List Nat:=
 tmpsOf o.op.operands.toList++match o.guard with
  |some (j,_)=>match(ops[j]?).bind (·.dst)with
   |some d=>[d]
   |none=>[]
  |none=>[]
def canon (n m:Nat):Array Bool:=((List.range m).map fun i=>decide (i<n)).toArray
def Cd (ops:List Oper) (n:Nat) (F:List Nat):Bool:=
 decide (n<=ops.length)&&
 (
  (
  List.range n).all fun i=>match ops[i]? with
  |none=>false
  |some o=>(o.after.all fun e=>!Region.binds .any e||decide (e.on<i))&&
   (
    (
    looks ops o).all fun t=>(List.range n).all fun j=>match(ops[j]?).bind (·.dst)with
    |some d=>d !=t||bT F j||(decide (j<i)&&o.after.any fun e=>Region.binds .any e&&e.on==j)
    |none=>true)&&
   (
    (
    List.range n).all fun j=>match(ops[j]?).bind (·.dst),o.dst with
    |some d,some d'=>d !=d'||j==i
    |_,_=>true))&&
 (n==ops.length||(Region.sinkB .any ops.toArray n&&Region.chainB .any ops.toArray n))&&
 Region.seqB .any ops.toArray (ops.length-n) n (canon n ops.length)
def Mv (ops:List Oper) (n:Nat):Bool:=Cd ops n []
def vh (C:Cx) (H:aa) (cv:List (Nat×AV)) (k:Env->Prop):List Oper->List (Nat×Nat)->Nat->Env->Prop
 |[],_,_,E=>k E
 |o::os,ds,i,E=>match gd ds E o.guard with
  |none=>False
  |some G=>match iu C.P E H o.op with
   |some (sc,v)=>(G=true->sc)/\vh C H cv k os (aW o.dst i ds) (i+1) (aY o.dst (wrap o.guard G v) E)
   |none=>match o.op,o.guard with
    | .call {callee:= .value (.func f),args:=xs,.. },none=>match dT E xs.toList,lk cv i with
     |some l,some r=>(gs l=true/\AV.frees (l.map AV.st)=true/\r.free=true/\bh C.P f (l.map AV.st) r)/\vh C H cv k os (aW o.dst i ds) (i+1) (aY o.dst r E)
     |_,_=>False
    |_,_=>False
theorem sC (p:Nat->Bool):∀(E:Env) (t:Nat),lk (E.filter fun q=>p q.1) t=if p t then lk E t else none
 |[],t=>by simp[lk]
 |(j,x)::r,t=>by
  rw[List.filter_cons]
  cases hb:Nat.beq j t with
  |true=>
   have:=Nat.eq_of_beq_eq_true hb
   subst this
   cases hp:p j with
   |true=>simp[lk]
   |false=>
    have:=sC p r j
    rw[hp]at this
    simpa[hp]using this
  |false=>
   cases hp:p j with
   |true=>simp only[hp,if_true,lk,hb,cond_false];exact sC p r t
   |false=>simp only[hp,lk,hb,cond_false];exact sC p r t
def fu (listed:Array Bool):Nat->Nat
 |0=>0
 |k+1=>fu listed k+bif listed.getD k true then 0 else 1
theorem Kv (listed:Array Bool) (i:Nat):∀k,k<=i->fu (listed.setIfInBounds i true) k=fu listed k
 |0,_=>rfl
 |k+1,h=>by
  simp only[fu]
  rw[Kv listed i k (by omega),getD_set_ne true (by omega:i≠k)]
theorem EP (listed:Array Bool) (i:Nat) (hi:listed.getD i true=false):∀k,i<k->fu (listed.setIfInBounds i true) k+1=fu listed k
 |0,h=>by omega
 |k+1,h=>by
  simp only[fu]
  by_cases y7:i=k
  ·subst y7
   have ag:i<listed.size:=by
    rcases Nat.lt_or_ge i listed.size with h'|h'
    ·exact h'
    ·simp[Array.getElem?_eq_none h']at hi
   rw[Kv listed i i (Nat.le_refl _)]
   have e1:(listed.setIfInBounds i true).getD i true=true:=by simp[ag]
   rw[e1,hi]
   rfl
  ·rw[getD_set_ne true (by omega:i≠k)]
   have:=EP listed i hi k (by omega)
   omega
theorem Bu (listed:Array Bool):∀k,fu listed k=0->∀i,i<k->listed.getD i true=true
 |0,_,i,h=>by omega
 |k+1,h,i,hi=>by
  simp only[fu]at h
  by_cases y7:i=k
  ·subst y7
   cases hq:listed.getD i true with
   |true=>rfl
   |false=>rw[hq]at h;simp at h
  ·exact Bu listed k (by omega) i (by omega)
theorem EO (listed:Array Bool):∀k,0<fu listed k->∃i,i<k/\listed.getD i true=false/\∀j,j<i->listed.getD j true=true
 |0,h=>by simp[fu]at h
 |k+1,h=>by
  rcases Nat.eq_zero_or_pos (fu listed k)with h0|h0
  ·simp only[fu,h0]at h
   refine⟨k,by omega,?_,Bu listed k h0⟩
   cases hq:listed.getD k true with
   |true=>rw[hq]at h;simp at h
   |false=>rfl
  ·obtain⟨i,U,h2,h3⟩:=EO listed k h0
   exact⟨i,by omega,h2,h3⟩
structure p6 (ops:List Oper) (n:Nat) (F:List Nat):Prop where
 le:n<=ops.length
 back:∀i o,i<n->ops[i]?=some o->∀e∈o.after,Region.binds .any e=true->e.on<i
 sM:∀i o,i<n->ops[i]?=some o->∀t∈looks ops o,∀j d,j<n->(ops[j]?).bind (·.dst)=some d->d=t->bT F j=false->j<i/\∃e∈o.after,Region.binds .any e=true/\e.on=j
 KV:∀i j d,i<n->j<n->(ops[i]?).bind (·.dst)=some d->(ops[j]?).bind (·.dst)=some d->j=i
 tail:n=ops.length\/(Region.sinkB .any ops.toArray n=true/\Region.chainB .any ops.toArray n=true)
 seq:Region.seqB .any ops.toArray (ops.length-n) n (canon n ops.length)=true
theorem Mw {ops:List Oper} {n:Nat} {F:List Nat} (h:Cd ops n F=true):p6 ops n F:=by
 simp only[Cd,Bool.and_eq_true,decide_eq_true_eq,Bool.or_eq_true,beq_iff_eq]at h
 obtain⟨⟨⟨hle,iE⟩,ht⟩,hs⟩:=h
 have key:∀i o,i<n->ops[i]?=some o->((o.after.all fun e=>!Region.binds .any e||decide (e.on<i))=true/\
   (
    (
    looks ops o).all fun t=>(List.range n).all fun j=>match(ops[j]?).bind (·.dst)with
    |some d=>d !=t||bT F j||(decide (j<i)&&o.after.any fun e=>Region.binds .any e&&e.on==j)
    |none=>true)=true)/\((List.range n).all fun j=>match(ops[j]?).bind (·.dst),o.dst with
    |some d,some d'=>d !=d'||j==i
    |_,_=>true)=true:=fun i o hi ho=>by
  have:=List.all_eq_true.1 iE i (List.mem_range.2 hi)
  rw[ho]at this
  simpa only[Bool.and_eq_true]using this
 refine⟨hle,fun i o hi ho e he hb=>?_,fun i o hi ho t ht j d hj hd lJ hF=>?_,fun i j d hi hj U h2=>?_,ht.imp id id,hs⟩
 ·have:=Array.all_eq_true'.1 (key i o hi ho).1.1 e he
  simpa[hb]using this
 ·have U:=List.all_eq_true.1 (key i o hi ho).1.2 t ht
  have h2:=List.all_eq_true.1 U j (List.mem_range.2 hj)
  rw[hd]at h2
  subst lJ
  simp only[bne_self_eq_false,hF,Bool.false_or,Bool.and_eq_true,decide_eq_true_eq]at h2
  obtain⟨h3,h4⟩:=h2
  obtain⟨e,he,hb⟩:=Array.any_eq_true'.1 h4
  simp only[Bool.and_eq_true,beq_iff_eq]at hb
  exact⟨h3,e,he,hb.1,hb.2⟩
 ·cases ho:ops[i]? with
  |none=>rw[ho]at U;cases U
  |some o=>
   rw[ho]at U
   simp only[Option.bind_some]at U
   have h3:=List.all_eq_true.1 (key i o hi ho).2 j (List.mem_range.2 hj)
   rw[h2,U]at h3
   simpa using h3
theorem VP {ops:List Oper} {n:Nat} (h:Mv ops n=true):p6 ops n []:=Mw h
def pZ (ops:List Oper) (n:Nat) (listed:Array Bool) (t:Nat):Bool:=
 (
  List.range n).all fun j=>match(ops[j]?).bind (·.dst)with
  |some d=>d !=t||listed.getD j false
  |none=>true
theorem AH {ops:List Oper} {n:Nat} {listed:Array Bool} {t:Nat}:pZ ops n listed t=true↔∀j d,j<n->(ops[j]?).bind (·.dst)=some d->d=t->listed.getD j false=true:=by
 unfold pZ
 rw[List.all_eq_true]
 constructor
 ·intro h j d hj hd lJ
  have:=h j (List.mem_range.2 hj)
  rw[hd]at this
  subst lJ
  simpa using this
 ·intro h j hj
  cases hd:(ops[j]?).bind (·.dst)with
  |none=>simp
  |some d=>
   simp only[Bool.or_eq_true,bne_iff_ne,ne_eq]
   by_cases lJ:d=t
   ·exact .inr (h j d (List.mem_range.1 hj) hd lJ)
   ·exact .inl lJ
theorem St.yu {B:Bs} {φ:ai} {I:Nat->Prop} {H:aa} {w:World} (h:St B φ I H w):St B φ I H {w with drawn:=w.drawn+1}:=by
 have k:Ext (fun _=>False) w {w with drawn:=w.drawn+1}:=⟨Nat.le_refl _,fun _ _ _=>rfl,fun _ c _ _ h=>⟨c,_,h,rfl⟩,rfl,rfl,rfl⟩
 exact⟨⟨h.real.bj,fun b o p hl hp=>Ob.kF (w:=w) (w':={w with drawn:=w.drawn+1}) (fun _ _=>rfl) (fun _ h=>h) (fun _ _ h=>h) (fun _ _ _ _ hs=>k.shaped (fun h=>h) hs) (fun _ _=>rfl) (h.real.own b o p hl hp),h.real.off,h.real.inj,h.real.bM⟩,h.ext.trans k (fun g hf=>hf.elim),h.b9,h.cZ,h.cj,h.cE⟩
theorem bC.yu (w:World) (φ:ai) (I:Nat->Prop):bC w φ I {w with drawn:=w.drawn+1} φ I:=by
 have k:Ext (fun _=>False) w {w with drawn:=w.drawn+1}:=⟨Nat.le_refl _,fun _ _ _=>rfl,fun _ c _ _ h=>⟨c,_,h,rfl⟩,rfl,rfl,rfl⟩
 exact⟨fun _ _=>rfl,fun _ h=>h,fun _ _ h=>h,fun _ _ _ _ hs=>k.shaped (fun h=>h) hs⟩
def Ek (C:Cx) (H:aa) (ops:List Oper) (n:Nat) (En:Env) (i:Nat) (o:Oper):Prop:=
 ∃E' ds G val,(∀j d,lk ds j=some d->(ops[j]?).bind (·.dst)=some d)/\gd ds E' o.guard=some G/\(∀t,(∀j,i<=j->j<n->(ops[j]?).bind (·.dst)≠some t)->lk E' t=lk En t)/\
  (∀d,o.dst=some d->lk En d=some val)/\(∀j,ds.find? (fun q=>q.1==j)=ds.find? (fun q=>q.1==j))/\
  (
   (
   ∃sc v,iu C.P E' H o.op=some (sc,v)/\(G=true->sc)/\val=wrap o.guard G v)\/
   (o.guard=none/\∃f xs aZ l,o.op= .call {callee:= .value (.func f),args:=xs,argTypes:=aZ}/\dT E' xs.toList=some l/\gs l=true/\AV.frees (l.map AV.st)=true/\val.free=true/\bh C.P f (l.map AV.st) val))
theorem Rl {C:Cx} {H:aa} {cv:List (Nat×AV)} {k:Env->Prop} {ops:List Oper} {n:Nat} (ah:p6 ops n []):∀(rest:List Oper) (ds:List (Nat×Nat)) (i:Nat) (E:Env),(∀m,rest[m]?=(ops.take n)[i+m]?)->
  (∀j d,lk ds j=some d->(ops[j]?).bind (·.dst)=some d)->vh C H cv k rest ds i E->
  ∃En,k En/\(∀t,(∀j,i<=j->j<n->(ops[j]?).bind (·.dst)≠some t)->lk E t=lk En t)/\(∀m o,rest[m]?=some o->Ek C H ops n En (i+m) o)
 |[],ds,i,E,_,_,h=>⟨E,h,fun _ _=>rfl,fun m o hm=>by simp at hm⟩
 |o::os,ds,i,E,hr,aQ,h=>by
  have h0:=hr 0
  simp only[List.getElem?_cons_zero,Nat.add_zero]at h0
  have dC:i<n:=by
   rcases Nat.lt_or_ge i n with h'|h'
   ·exact h'
   ·rw[List.getElem?_eq_none (by rw[List.length_take];omega)]at h0;cases h0
  have jw:ops[i]?=some o:=by rw[List.getElem?_take,if_pos dC]at h0;exact h0.symm
  have kW:∀m,os[m]?=(ops.take n)[i+1+m]?:=fun m=>by
   have:=hr (m+1)
   rw[List.getElem?_cons_succ]at this
   rw[this];congr 1;omega
  have wa:∀j d,lk (aW o.dst i ds) j=some d->(ops[j]?).bind (·.dst)=some d:=fun j d hj=>by
   unfold aW at hj
   split at hj
   ·rename_i d' eM
    simp only[lk]at hj
    cases hb:Nat.beq i j with
    |true=>
     rw[hb]at hj
     have:=Nat.eq_of_beq_eq_true hb
     subst this
     simp only[cond_true,Option.some.injEq]at hj
     subst hj
     rw[jw];exact eM
    |false=>rw[hb]at hj;exact aQ j d hj
   ·exact aQ j d hj
  have fin:∀(G:Bool) (val:AV),gd ds E o.guard=some G->vh C H cv k os (aW o.dst i ds) (i+1) (aY o.dst val E)->
    (
     (
     ∃sc v,iu C.P E H o.op=some (sc,v)/\(G=true->sc)/\val=wrap o.guard G v)\/
     (o.guard=none/\∃f xs aZ l,o.op= .call {callee:= .value (.func f),args:=xs,argTypes:=aZ}/\dT E xs.toList=some l/\gs l=true/\AV.frees (l.map AV.st)=true/\val.free=true/\bh C.P f (l.map AV.st) val))->
    ∃En,k En/\(∀t,(∀j,i<=j->j<n->(ops[j]?).bind (·.dst)≠some t)->lk E t=lk En t)/\(∀m o',(o::os)[m]?=some o'->Ek C H ops n En (i+m) o'):=by
   intro G val hG hv FW
   obtain⟨En,U,h2,h3⟩:=Rl ah os _ (i+1) _ kW wa hv
   have nc:∀t,(∀j,i<=j->j<n->(ops[j]?).bind (·.dst)≠some t)->lk E t=lk En t:=fun t ht=>by
    rw[<-h2 t (fun j hj fh=>ht j (by omega) fh)]
    cases hd:o.dst with
    |none=>rfl
    |some d=>
     have aC:d≠t:=fun e=>ht i (Nat.le_refl _) dC (by rw[jw,<-e];exact hd)
     have:Nat.beq d t=false:=by
      cases hq:Nat.beq d t with
      |false=>rfl
      |true=>exact absurd (Nat.eq_of_beq_eq_true hq) aC
     simp[aY,lk,this]
   refine⟨En,U,nc,fun m o' hm=>?_⟩
   cases m with
   |succ m=>
    rw[List.getElem?_cons_succ]at hm
    have:=h3 m o' hm
    rw[show i+(m+1)=i+1+m by omega];exact this
   |zero=>
    simp only[List.getElem?_cons_zero,Option.some.injEq]at hm
    subst hm
    refine⟨E,ds,G,val,aQ,hG,nc,fun d hd=>?_,fun _=>rfl,FW⟩
    rw[<-h2 d (fun j hj fh V9=>?_)]
    ·rw[hd];simp[aY,lk]
    ·have:=ah.KV i j d dC fh (by rw[jw];exact hd) V9
     omega
  simp only[vh]at h
  split at h
  ·exact h.elim
  ·rename_i G hG
   split at h
   ·rename_i sc v hv
    exact fin G _ hG h.2 (.inl ⟨sc,v,hv,h.1,rfl⟩)
   ·split at h
    ·rename_i f xs aZ nh F9
     split at h
     ·rename_i l r hl Ni
      obtain⟨⟨U,h2,h3,h4⟩,h5⟩:=h
      exact fin G r hG h5 (.inr ⟨F9,f,xs,_,l,nh,hl,U,h2,h3,h4⟩)
     ·exact h.elim
    ·exact h.elim
theorem PN {ops:List Oper} {n:Nat} {F:List Nat} (ah:p6 ops n F) {listed:Array Bool} (inv:HeadInv .any ops.toArray n listed) {i:Nat} (hi:i<n) (kZ:listed.getD i true=false):∀j∈Region.ready .any ops.toArray listed,j<n:=by
 intro j hj
 rcases Nat.lt_or_ge j n with h|h
 ·exact h
 ·exfalso
  rcases ah.tail with he|⟨hs,hc⟩
  ·obtain⟨_,o,ho,_⟩:=mem_ready.1 hj
   have:=(Array.getElem?_eq_some_iff.1 ho).1
   simp at this;omega
  ·have y9:j<ops.toArray.size:=by
    obtain⟨_,o,ho,_⟩:=mem_ready.1 hj
    exact(Array.getElem?_eq_some_iff.1 ho).1
   exact tail_waits hs hc (by omega) inv _ i rfl hi kZ j h hj
theorem Mx {C:Cx} {H:aa} {ops:List Oper} {n:Nat} {En:Env} {Q:Exit->Act->World->Prop} (ah:p6 ops n []) (fB:a7 C.n ops=true) (hf:∀i o,i<n->ops[i]?=some o->Ek C H ops n En i o)
  (Nq:∀φ I a w,bt C φ I En H a w->gK C.P ops.toArray Q (ops.drop n) a w):
  ∀(c:Nat) (listed:Array Bool) (a:Act) (w:World),fu listed n=c->HeadInv .any ops.toArray n listed->
   (∃φ I,bt C φ I (En.filter fun q=>pZ ops n listed q.1) H a w)->pY C.P .any ops.toArray Q (c+(ops.length-n)) listed a w
 |0,listed,a,w,hc,inv,⟨φ,I,hs⟩=>by
  have iE:=Bu listed n hc
  have aO:listed.size=ops.length:=by simpa using inv.size
  have FV:listed=canon n ops.length:=by
   apply Array.ext
   ·simp[canon,aO]
   ·intro i U h2
    simp only[canon,List.getElem_toArray,List.getElem_map,List.getElem_range]
    by_cases hi:i<n
    ·have:=iE i hi
     simp[U]at this
     simp[hi,this]
    ·have:=inv.tail i (by omega) (by simpa using(by omega:i<ops.length))
     simp[U]at this
     simp[hi,this]
  rw[Nat.zero_add]
  have zu:=ah.seq
  rw[<-FV]at zu
  have U:=Jm (P:=C.P) (md:= .any) (ops:=ops.toArray) (Q:=Q) (ops.drop n) n listed a w (fun j=>by simp[List.getElem?_drop]) (by simpa using zu) (Nq φ I a w (by
   refine⟨hs.bD,hs.bA,fun t x hx=>hs.env t x ?_,hs.st⟩
   rw[sC]
   rw[if_pos (AH.2 fun j d hj _ _=>by
    have U:=iE j hj
    have ag:j<listed.size:=by rw[aO];have:=ah.le;omega
    simp[ag]at U⊢;exact U)]
   exact hx))
  simpa using U
 |c+1,listed,a,w,hc,inv,⟨φ,I,hs⟩=>by
  obtain⟨i0,ua,zE,Gn⟩:=EO listed n (by omega)
  have aO:listed.size=ops.length:=by simpa using inv.size
  have hle:=ah.le
  have zq:i0∈Region.ready .any ops.toArray listed:=by
   rw[mem_ready]
   have ag:i0<ops.length:=by omega
   refine⟨zE,ops[i0],by simp[ag],fun e he hb=>?_⟩
   have lN:=ah.back i0 ops[i0] ua (List.getElem?_eq_getElem ag) e he hb
   have U:=Gn e.on lN
   have Gl:e.on<listed.size:=by omega
   simp[Gl]at U⊢;exact U
  rw[show c+1+(ops.length-n)=(c+(ops.length-n))+1 by omega]
  refine⟨fun h=>(by rw[h]at zq;cases zq),fun i hi=>?_⟩
  have dC:=PN ah inv ua zE i hi
  obtain⟨kZ,o,ho,iE⟩:=mem_ready.1 hi
  have eC:ops[i]?=some o:=by simpa using ho
  have Xa:listed.getD i true=false:=kZ
  have CY:=inv.set hi dC
  have qw:fu (listed.setIfInBounds i true) n=c:=by have:=EP listed i Xa n dC;omega
  obtain⟨E',ds,G,val,aQ,hG,Vt,k5,_,FW⟩:=hf i o dC eC
  have zf:∀t∈looks ops o,pZ ops n listed t=true/\lk E' t=lk En t:=fun t ht=>by
   refine⟨AH.2 fun j d hj hd lJ=>?_,Vt t fun j fC fh og=>?_⟩
   ·obtain⟨_,e,he,hb,zl⟩:=ah.sM i o dC eC t ht j d hj hd lJ rfl
    rw[<-zl];exact iE e he hb
   ·have:=(ah.sM i o dC eC t ht j t fh og rfl rfl).1
    omega
  have cH:∀t∈looks ops o,lk (En.filter fun q=>pZ ops n listed q.1) t=lk E' t:=fun t ht=>by
   rw[sC,if_pos (zf t ht).1,(zf t ht).2]
  have mX:∀x∈o.op.operands,ev (En.filter fun q=>pZ ops n listed q.1) x=ev E' x:=fun x hx=>by
   cases x with
   |tmp t=>simp only[ev];exact cH t (by simp only[looks];exact List.mem_append.2 (.inl (HO _ (by simpa using hx))))
   |_=>rfl
  have mZ:gd ds (En.filter fun q=>pZ ops n listed q.1) o.guard=some G:=by
   rw[<-hG]
   unfold gd
   cases hg:o.guard with
   |none=>rfl
   |some p=>
    obtain⟨j,want⟩:=p
    simp only
    cases hj:lk ds j with
    |none=>rfl
    |some d=>
     simp only
     rw[cH d (by simp only[looks,hg];rw[aQ j d hj];simp)]
  have Xn:=yD (ops:=ops.toArray) hs.env (fun j d hj=>by simpa using aQ j d hj) mZ
  have VL:∀x,o.dst=some x->x<C.n:=fun x hx=>by
   exact tD fB (List.mem_of_getElem? eC) x hx
  have next:∀(φ':ai) (I':Nat->Prop) (w':World) (u:Value),St C.B φ' I' H w'->bC w φ I w' φ' I'->AV.den w' φ' I' val u->pY C.P .any ops.toArray Q (c+(ops.length-n)) (listed.setIfInBounds i true) (a.put o.dst u) w':=by
   intro φ' I' w' u hS hk aS
   refine Mx ah fB hf Nq c _ _ _ qw CY ⟨φ',I',?_⟩
   have ni:=hs.put (d:=o.dst) (v:=val) (u:=u) hS hk VL aS
   refine⟨ni.bD,ni.bA,fun t x hx=>?_,hS⟩
   rw[sC]at hx
   split at hx
   ·rename_i wE
    by_cases lJ:o.dst=some t
    ·rw[k5 t lJ]at hx
     cases hx
     exact ni.env t val (by rw[lJ];simp[aY,lk])
    ·refine ni.env t x ?_
     have aC:lk (aY o.dst val (En.filter fun q=>pZ ops n listed q.1)) t=lk (En.filter fun q=>pZ ops n listed q.1) t:=by
      cases hd:o.dst with
      |none=>rfl
      |some d=>
       have:Nat.beq d t=false:=by
        cases hq:Nat.beq d t with
        |false=>rfl
        |true=>exact absurd (by rw[hd,Nat.eq_of_beq_eq_true hq]) lJ
       simp[aY,lk,this]
     rw[aC,sC,if_pos (AH.2 fun j d hj hd ff=>?_)]
     ·exact hx
     ·have U:=AH.1 wE j d hj hd ff
      by_cases fC:i=j
      ·subst fC
       rw[eC]at hd
       exact absurd (by rw[<-ff];exact hd) lJ
      ·rwa [getD_set_ne false fC]at U
   ·cases hx
  unfold oK
  rw[ho]
  simp only
  rw[Xn]
  rcases FW with⟨sc,v,vW,ay,rfl⟩|⟨F9,f,xs,aZ,l,nh,hl,dG,fg,y3,dU⟩
  ·rw[<-SP o.op mX]at vW
   cases G with
   |true=>
    obtain⟨u,hu,aS⟩:=x6 hs.env hs.st.real vW (ay rfl)
    rw[if_pos rfl]
    refine Or.inl ?_
    unfold Oper.wp
    rw[hu,Oper.upon_value]
    exact next φ I w u hs.st (bC.refl _ _ _) (Jn aS)
   |false=>
    rw[if_neg (by simp)]
    refine next φ I w undef hs.st (bC.refl _ _ _) ?_
    cases hg:o.guard with
    |none=>rw[hg]at mZ;simp[gd]at mZ
    |some p=>exact Jo
  ·have U6:G=true:=by rw[F9]at mZ;simp[gd]at mZ;exact mZ
   subst U6
   rw[if_pos rfl]
   have aD:dT (En.filter fun q=>pZ ops n listed q.1) xs.toList=some l:=by
    rw[<-hl]
    exact BJ _ fun x hx=>mX x (by rw[nh];simp only[Op.operands,Call.operands];simp;exact .inr (by simpa using hx))
   have aS:=AV.rL (φ':=fun _=>none) _ _ fg (mU hs.env _ _ aD dG)
   have aB:(execOp a.eval o).run C.P w= .ok (.enter f (xs.toList.map a.eval).toArray) w:=by
    have:execOp a.eval o=callFunc f (#[]++xs.map a.eval++#[]):=by simp only[execOp,nh];rfl
    rw[this,xi dU.gv]
    cases xs
    simp
   refine Or.inl ?_
   unfold Oper.wp
   rw[aB,Oper.upon_enter]
   refine(dU.run w (fun _=>none) I _ aS (DG hs.st.real) hs.st.vk).mono fun e w' ⟨r,H',φ',I',v,hr,he,a8,hS⟩=>?_
   subst he
   obtain⟨rfl,rfl⟩:=hr
   obtain⟨lG,hk⟩:=hs.st.JK hS
   exact next φ I' w' v lG hk (AV.qm r v y3 a8)
section
variable {C:Cx} {K:List PK} {E:Env} {H:aa} {p:List Nat}
theorem AP.draw {id:Nat} {ops:List Oper} (n:Nat) (cv:List (Nat×AV)) (hm:C.P.follows .mixedOrders=true) (hc:b7 C.fn p= .region id ops.toArray true) (ah:a7 C.n ops=true) (hB:Mv ops n=true)
  (h:vh C H cv (fun En=>vq C K (ops.drop n) [] n En H) (ops.take n) [] 0 E):AP C p K E H:=by
 unfold AP
 rw[hc]
 intro φ I a w hs
 have bX:=VP hB
 obtain⟨En,hk,fy,hf⟩:=Rl bX (ops.take n) [] 0 E (fun m=>by rw[Nat.zero_add]) (fun j d hj=>by simp[lk]at hj) h
 refine RE hm (EY ah) ?_
 have qw:∀k,fu (Array.replicate ops.length false) k=min k ops.length:=by
  intro k
  induction k with
  |zero=>simp[fu]
  |succ k ih=>
   simp only[fu,ih]
   by_cases hk:k<ops.length
   ·simp[hk];omega
   ·simp[hk];omega
 have Hd:HeadInv .any ops.toArray n (Array.replicate ops.length false):=
  ⟨by simp,fun j oj _ hl=>(by rw[getD_replicate_false]at hl;cases hl),fun t _ ht=>getD_in (by simpa using ht) (getD_replicate_false _ _)⟩
 have hle:=bX.le
 have:=Mx (C:=C) (H:=H) (En:=En) (Q:=dL C (K.map (PK.ki C.fn))) bX ah (fun i o hi ho=>by
   have:=hf i o (by rw[List.getElem?_take,if_pos hi];exact ho)
   rwa [Nat.zero_add]at this) (fun φ I a w hs=>by
   have F2:a7 C.n (ops.drop n)=true:=by
    rw[a7,List.all_eq_true]
    exact fun o ho=>List.all_eq_true.1 ah o (List.mem_of_mem_drop ho)
   have fW:=xH (C:=C) (K:=K.map (PK.ki C.fn)) (ops.drop n) [] n En H F2 (xJ C K _ _ _ _ _ hk)
   exact fW ops.toArray (fun j d hj=>by simp[lk]at hj) (fun j o hj=>by rw[List.getElem?_drop]at hj;simp[hj]) φ I a w hs)
  n (Array.replicate ops.length false) a {w with drawn:=w.drawn+1} (by rw[qw];omega) Hd ⟨φ,I,?_⟩
 ·simp only[List.size_toArray]
  rwa [show n+(ops.length-n)=ops.length by omega]at this
 ·refine⟨hs.bD,hs.bA,fun t x hx=>?_,hs.st.yu⟩
  rw[sC]at hx
  split at hx
  ·rename_i wE
   rw[<-fy t (fun j _ hj hd=>by
    have:=AH.1 wE j t hj hd rfl
    rw[getD_replicate_false]at this;cases this)]at hx
   obtain⟨u,hu,hd⟩:=hs.env t x hx
   exact⟨u,hu,(bC.yu w φ I).den hd⟩
  ·cases hx
end
attribute [go_sem] vh List.drop List.take
end Go.AL
end
section
namespace Go.AL
open Go Go.ChangeShapes Go.WideShapes
def Typed (P:Program):Nat->TypeId->List IV->Prop
 |0,_,_=>False
 |n+1,t,xs=>match P.underlying t with
  |some .bool=>∃b,xs=[.v (.bool b)]
  |some (.int k)=>∃i,xs=[.v (.int k i)]/\(Lit.int k i).wf=true
  |some (.float k)=>∃b,xs=[.v (.float k b)]/\(Lit.float k b).wf=true
  |some .string=>∃s:ByteArray,xs=[.v (.string s)]/\s.size<=maxLen
  |some (.pointer e)=>xs=[.v (.pointer none)]\/∃cs,xs=[.pt cs]/\Typed P n e cs
  |some (.slice e)=>∃rows,xs=[.sl (P.cellsOf e) rows]/\rows.length<=maxLen/\∀r∈rows,Typed P n e r
  |some (.struct fs)=>xs.length=P.cellsOf t/\∀(i:Nat) (f:Field),fs.toList[i]?=some f->Typed P n f.type ((xs.drop f.offset).take (P.cellsOf f.type))
  |some (.array m e)=>xs.length=P.cellsOf t/\∀i,i<m->Typed P n e ((xs.drop (i*P.cellsOf e)).take (P.cellsOf e))
  |_=>False
def wJ (P:Program) (T:List TypeId) (t:TypeId):Bool:=
 match P.underlying t with
 |some .bool|some (.int _)|some (.float _)|some .string=>P.cellsOf t==1
 |some (.pointer e)=>P.cellsOf t==1&&T.contains e&&P.cellsOf e !=0
 |some (.slice e)=>P.cellsOf t==1&&T.contains e&&P.cellsOf e !=0
 |some (.struct fs)=>fs.toList.all (fun f=>T.contains f.type)&&P.cellsOf t==(fs.toList.map fun f=>P.cellsOf f.type).sum&&
   (List.range fs.toList.length).all fun j=>match fs.toList[j]? with|some f=>f.offset==((fs.toList.take j).map fun f=>P.cellsOf f.type).sum|none=>true
 |some (.array n e)=>T.contains e&&P.cellsOf t==n*P.cellsOf e
 |_=>false
theorem KF {w:World} {I:Nat->Prop}:∀(xs ys:List IV) (us vs:List Value),IV.ab w I xs us->IV.ab w I ys vs->IV.ab w I (xs++ys) (us++vs)
 |[],_,_,_,h,h'=>by simp only[IV.ab]at h;subst h;exact h'
 |x::xs,ys,us,vs,h,h'=>by
  simp only[IV.ab]at h
  obtain⟨u,ak,rfl,U,h2⟩:=h
  simp only[List.cons_append,IV.ab]
  exact⟨u,ak++vs,rfl,U,KF xs ys ak vs h2 h'⟩
theorem Bx {w:World} {I:Nat->Prop}:∀(xs:List IV) (us:List Value),IV.ab w I xs us->xs.length=us.length
 |[],_,h=>by simp only[IV.ab]at h;subst h;rfl
 |x::xs,us,h=>by
  simp only[IV.ab]at h
  obtain⟨u,ak,rfl,_,h2⟩:=h
  simp[Bx xs ak h2]
theorem Od {α:Type} {R:Nat->α->Prop}:∀(n:Nat),(∀i,i<n->∃a,R i a)->∃l:List α,l.length=n/\∀i a,l[i]?=some a->R i a
 |0,_=>⟨[],rfl,fun i a h=>by simp at h⟩
 |n+1,h=>by
  obtain⟨l,hl,hr⟩:=Od n (fun i hi=>h i (by omega))
  obtain⟨a,ha⟩:=h n (by omega)
  refine⟨l++[a],by simp[hl],fun i b hb=>?_⟩
  rcases Nat.lt_trichotomy i n with hi|hi|hi
  ·rw[List.getElem?_append_left (by omega)]at hb;exact hr i b hb
  ·subst hi
   rw[List.getElem?_append_right (by omega),hl]at hb
   simp at hb;subst hb;exact ha
  ·rw[List.getElem?_eq_none (by simp;omega)]at hb;cases hb
theorem P3 {w:World} {g es:Nat}:∀(ae:List (List Value)) (off:Nat),(∀i vs,ae[i]?=some vs->vs.length=es/\cQ w g (off+i*es) vs)->cQ w g off ae.flatten
 |[],_,_=>fun j u h=>by simp at h
 |vs::ae,off,h=>by
  obtain⟨hl,h0⟩:=h 0 vs rfl
  simp only[Nat.zero_mul,Nat.add_zero]at h0
  have hr:=P3 ae (off+es) (fun i us hu=>by
   obtain⟨U,h2⟩:=h (i+1) us (by simpa using hu)
   refine⟨U,?_⟩
   rw[Nat.add_assoc,Nat.add_comm es,<-Nat.succ_mul];exact h2)
  intro j u hu
  rw[List.flatten_cons]at hu
  rcases Nat.lt_or_ge j es with hj|hj
  ·rw[List.getElem?_append_left (by omega)]at hu
   exact h0 j u hu
  ·rw[List.getElem?_append_right (by omega),hl]at hu
   have:=hr (j-es) u hu
   rwa [Nat.add_assoc,Nat.add_sub_cancel' hj]at this
theorem Tk {w:World} {b n:Nat} {a:Addr} {cs:List Value} (h:w.cells? b a n=some cs):
  cs.length=n/\∀(i:Nat) u,cs[i]?=some u->w.cell? (a.add i)=some u:=by
 obtain⟨_,U,h2⟩:=World.cells?_some h
 refine⟨U,fun i u hu=>?_⟩
 rw[h2 i (by rw[<-U];exact(List.getElem?_eq_some_iff.1 hu).1)]
 exact hu
theorem EH {w:World} {b n:Nat} {a:Addr} {cs:List Value} (h:w.cells? b a n=some cs) (hn:0<n):
  a=⟨a.block,a.off,none⟩/\a.block<w.heap.size/\cQ w a.block a.off cs:=by
 obtain⟨hl,hc⟩:=Tk h
 have h0:∃u,cs[0]?=some u:=⟨cs[0]'(by omega),List.getElem?_eq_getElem _⟩
 obtain⟨u,hu⟩:=h0
 have hs:=hc 0 u hu
 have uz:a.spot=none:=by
  simp only[Addr.add,if_true,World.cell?]at hs
  split at hs
  ·split at hs
   ·cases hs
   ·rename_i hn;simpa using hn
  ·cases hs
 have ea:a=⟨a.block,a.off,none⟩:=by
  obtain⟨x,y,z⟩:=a
  simp only at uz
  subst uz;rfl
 refine⟨ea,World.cells?_block h hn,fun j u hu=>?_⟩
 have:=hc j u hu
 unfold Addr.add at this
 split at this
 ·rename_i hj;subst hj;rw[Nat.add_zero,<-ea];exact this
 ·exact this
section
variable {H:Type} {enc:TypeId×Value->H} {P:Program} {w:World}
end
section
variable {H:Type} {enc:TypeId×Value->H} {P:Program}
def tq (P:Program) (t:TypeId) (xs:List IV):AV:=match P.underlying t,xs with
 |some (.struct _),xs=> .ar xs
 |some (.array _ _),xs=> .ar xs
 |_,[x]=> .im x
 |_,_=> .top
def tr (P:Program):List TypeId->List (List IV)->List AV
 |t::ts,xs::ij=>tq P t xs::tr P ts ij
 |_,_=>[]
def AU (P:Program):List TypeId->List (List IV)->Prop
 |t::ts,xs::ij=>(∃n,Typed P n t xs)/\AU P ts ij
 |[],[]=>True
 |_,_=>False
theorem TP {w:World} {φ:ai} {I:Nat->Prop} {xs:List IV} {v:Value} (h:IV.ab w I xs v.cells.toList) (hv:v.oneCell'=true):∃x,xs=[x]/\AV.den w φ I (.im x) v:=by
 have e:v.cells.toList=[v]:=by cases v<;>simp_all [Value.cells,Value.oneCell']
 rw[e]at h
 match xs,h with
 |[],h=>simp[IV.ab]at h
 |[x],h=>
  simp only[IV.ab]at h
  obtain⟨u,us,he,U,h2⟩:=h
  simp only[List.cons.injEq]at he
  refine⟨x,rfl,?_⟩
  simp only[AV.den]
  rw[he.1];exact U
 |x::y::l,h=>
  simp only[IV.ab]at h
  obtain⟨u,us,he,U,u',ak,VO,_⟩:=h
  simp[VO]at he
theorem QG (hl:laidOutB P=true) {W W':World} {sp:Nat->Bool}:∀(ts:List TypeId) (vs:List Value) (ds:List (DataW H)) (p:List MemPlace),
  ts.all (fun t=>P.readableRec t&&decide (t<P.types.size))=true->DataW.TrodAll enc P W 0 (fun _=>true) true ts vs ds p->(∀q∈p,W.sameAt W' q)->(∀q∈p,sp q.block=true)->
  DataW.TrodAll enc P W' 0 sp true ts vs ds p
 |[],vs,ds,p,_,h,_,_=>by
  obtain⟨rfl,rfl,rfl⟩:=trodAll_nil h
  exact trodAll_mk0
 |t::ts,vs,ds,p,hr,h,hs,hp=>by
  obtain⟨v,u7,d,jn,p',q,rfl,rfl,rfl,U,h2⟩:=trodAll_cons h
  simp only[List.all_cons,Bool.and_eq_true,decide_eq_true_eq]at hr
  exact trodAll_cons_mk (WideElems.Trod_stays hl hr.1.1 hr.1.2 U (fun x hx=>hs x (List.mem_append_left _ hx)) (fun x hx=>hp x (List.mem_append_left _ hx)))
   (QG hl ts u7 jn q hr.2 h2 (fun x hx=>hs x (List.mem_append_right _ hx)) (fun x hx=>hp x (List.mem_append_right _ hx)))
def RY (P:Program) (f:FuncId) (args:Array Value) (W:World):Prop:=
 Calls P f args W fun e W'=>e= .returned (.bool true)/\W.heap.size<=W'.heap.size/\(∀g,g<W.heap.size->W'.heap[g]?=W.heap[g]?)/\W'.os=W.os/\W'.output=W.output
theorem X3 {f:FuncId} {JW:List AV} (h:bh P f JW (.im (.v (.bool true)))) {W:World} {vs:List Value} (hd:AV.ab W (fun _=>none) (fun g=>g<W.heap.size) JW vs) (hV:VK P W (fun g=>g<W.heap.size)):
  RY P f vs.toArray W:=by
 have hR:Real W (fun _=>none) (fun g=>g<W.heap.size) []:=by
  refine⟨fun b=>rfl,fun b o p hb=>?_,fun b g hg=>?_,fun b b' g hg=>?_,fun g hg=>hg⟩
  ·simp[lk]at hb
  ·cases hg
  ·cases hg
 refine(h.run W _ _ vs hd hR hV).mono fun e W' hq=>?_
 obtain⟨r,H',φ',I',v,⟨rfl,rfl⟩,rfl,hv,bG⟩:=hq
 simp only[AV.den,IV.den]at hv
 obtain⟨rfl,_⟩:=hv
 exact⟨rfl,bG.ext.size,fun g hg=>bG.ext.b_ g hg (fun⟨b,hb⟩=>by cases hb),bG.ext.os,bG.ext.output⟩
theorem X2 {fn:Func} {s:ChangeSpec} {again:Bool} {W W':World} {args:Array Value} {ds gs:List (DataW H)} {before:List MemPlace} {tb:TypeId}
  (hW:DataW.Whole enc P fn.params.toList s.vars false W args.toList ds gs before) (zG:s.vars=[])
  (y2:s.fn H ds={results:=[.lit (.bool true)],args:=ds}) (hl:laidOutB P=true) (hr:fn.params.toList.all (fun t=>P.readableRec t&&decide (t<P.types.size))=true)
  (CH:fn.resultTypes=#[tb]) (CL:P.underlying tb=some .bool)
  (aO:W.heap.size<=W'.heap.size) (hk:∀g,g<W.heap.size->W'.heap[g]?=W.heap[g]?) (uo:W'.os=W.os) (uq:W'.output=W.output):
  s.post enc P fn false true false again W args (.bool true) W':=by
 have yO:=hW
 obtain⟨p,q,hA,hV,rfl,hz,hn⟩:=hW
 rw[zG]at hV
 obtain⟨rfl,rfl⟩:=trodVars_none hV
 have ag:=yO.lt
 simp only[List.append_nil]at hz hn ag yO
 have GM:∀x∈p,W.sameAt W' x:=fun x hx=>by
  have:=hk x.block (ag x hx)
  cases x with
  |cell b off=>exact EF this off
  |map b=>exact this
 have de:∀sp:Nat->Bool,(∀x∈p,sp x.block=true)->DataW.TrodAll enc P W' 0 sp true fn.params.toList args.toList ds p:=fun sp uz=>QG hl _ _ _ _ hr hA GM uz
 have Nk:∀(b:Nat) (sp:Nat->Bool) (hd:Bool),DataW.TrodAll enc P W' b sp hd fn.resultTypes.toList ((Value.bool true).resultList fn.resultTypes.size) [.lit (.bool true)] []:=fun b sp hd=>by
  rw[CH]
  exact trodAll_cons_mk (Go.RowKit.shut_bool CL true) trodAll_mk0
 have hv:∀sp:Nat->Bool,DataW.TrodVars enc P W' sp s.vars [] []:=fun sp=>by rw[zG];rfl
 have F6:s.fn H (ds++[])={results:=[.lit (.bool true)],args:=ds}:=by rw[List.append_nil];exact y2
 refine⟨ds,[],p,[],p,[],yO,by rw[F6];exact Nk _ _ _,by rw[F6];exact de _ (fun x hx=>by simpa using ag x hx),by rw[F6];exact hv _,?_,fun _=>?_⟩
 ·refine⟨uo,uq,fun i hi=>?_⟩
  rw[hk i hi]
  cases hh:W.heap[i]? with
  |none=>rfl
  |some o=>
   cases o with
   |cells c t fr=>exact⟨rfl,rfl,rfl,fun _ _=>rfl⟩
   |map es clock=>exact .inr ⟨rfl,rfl⟩
   |_=>rfl
 ·refine⟨Go.RowKit.ok_one CH rfl (Go.RowKit.okWide_bool_mk CL true),_,_,([]++p)++[],⟨[]++p,[],trodAll_append (de _ (fun _ _=>rfl)) (Nk _ _ _),hv _,rfl,?_,fun h=>by cases h⟩,?_⟩
  ·intro b off hp
   have bH:MemPlace.cell b off∈p:=by simpa using hp
   have:=hk b (ag _ bH)
   have sq:=hz b off bH
   simp only[World.frozen?,this]at sq⊢
   exact sq
  ·intro x hx _
   simpa using hx
end
end Go.AL
end
section
namespace Go.AL
open Go
section
variable {C:Cx} {K:List PK} {E:Env} {H:aa}
theorem St.drop {B:Bs} {φ:ai} {I:Nat->Prop} {w:World} (h:St B φ I H w):St B (fun _=>none) I [] w:=
 ⟨DG h.real,h.ext,fun b g hg=>(by cases hg),h.cZ,h.cj,fun _ _ _ _ _ hl=>by simp[lk]at hl⟩
theorem AE.bz {sc:Prop} {xs:List AV} (h:eG C.P E H C.fn.results.toList=some (sc,xs)) (ay:sc) (hf:(eH xs).free=true) (hR:C.R (eH xs) []):AE C .ret [] E H:=by
 unfold AE
 intro φ I a w hs
 refine hs.leave fun w' hS hE=>?_
 obtain⟨v,hv,hd⟩:=uT hE hS.real h ay
 exact⟨v,hv,eH xs,[],fun _=>none,I,v,hR,rfl,AV.qm _ _ hf hd,hS.drop⟩
theorem St.Ah {B:Bs} {φ:ai} {I:Nat->Prop} {w:World} (h:St B φ I H w) {b:Nat} (hb:lk H b=none) (Gu:B.nb<=b) (el:TypeId) (es:Nat):
  St B (aT φ b none) I ((b,.vec el es [])::H) w/\bC w φ I w (aT φ b none) I:=by
 have hnb:φ b=none:=by
  have:=h.real.bj b
  rw[hb]at this
  cases ax:φ b with
  |none=>rfl
  |some x=>rw[ax]at this;cases this
 have k:bC w φ I w (aT φ b none) I:=by
  refine⟨fun g hg=>rfl,fun _ h=>h,fun b' p hp=>?_,fun _ g n _ hs=>hs⟩
  unfold aT
  rw[if_neg (by intro e;subst e;rw[hnb]at hp;cases hp)]
  exact hp
 have nq:∀b',b'≠b->Nat.beq b b'=false:=fun b' aj=>by
  cases hq:Nat.beq b b' with
  |false=>rfl
  |true=>exact absurd (Nat.eq_of_beq_eq_true hq).symm aj
 refine⟨⟨⟨fun b'=>?_,fun b' o' p hl hp=>?_,fun b' g hp=>?_,fun b1 b2 g U h2=>?_,h.real.bM⟩,h.ext,fun b' g hp=>?_,h.cZ,h.cj,fun b' g oo ag h0 hl=>?_⟩,k⟩
 ·simp only[aT,lk]
  by_cases aj:b'=b
  ·subst aj;simp
  ·rw[if_neg aj,nq b' aj]
   exact h.real.bj b'
 ·by_cases aj:b'=b
  ·subst aj
   simp only[aT,if_true,Option.some.injEq]at hp
   subst hp
   simp[lk]at hl
   subst hl
   exact .inl ⟨rfl,rfl⟩
  ·simp only[lk,nq b' aj,cond_false]at hl
   simp only[aT,if_neg aj]at hp
   exact Ob.kF k.im k.I k.phi k.sh (fun g hg=>rfl) (h.real.own b' o' p hl hp)
 ·by_cases aj:b'=b
  ·subst aj;simp[aT]at hp
  ·simp only[aT,if_neg aj]at hp
   exact h.real.off b' g hp
 ·by_cases e1:b1=b
  ·subst e1;simp[aT]at U
  ·by_cases e2:b2=b
   ·subst e2;simp[aT]at h2
   ·simp only[aT,if_neg e1]at U
    simp only[aT,if_neg e2]at h2
    exact h.real.inj b1 b2 g U h2
 ·by_cases aj:b'=b
  ·subst aj;simp[aT]at hp
  ·simp only[aT,if_neg aj]at hp
   exact h.b9 b' g hp
 ·have aj:b'≠b:=by omega
  simp only[lk,nq b' aj,cond_false]at hl
  simp only[aT,if_neg aj]
  exact h.cE b' g oo ag h0 hl
theorem bt.Ah {φ:ai} {I:Nat->Prop} {a:Act} {w:World} (h:bt C φ I E H a w) {t:Nat} (ht:lk E t=some (.im (.v (.slice none 0 0)))) (el:TypeId) (es:Nat):
  bt C (aT φ (au C.B.nb H) none) I ((t,.os (au C.B.nb H) es 0 0)::E) ((au C.B.nb H,.vec el es [])::H) a w:=by
 obtain⟨hS,hk⟩:=h.st.Ah (k_ C.B.nb H) (dh C.B.nb H).1 el es
 refine⟨h.bD,h.bA,fun i x hx=>?_,hS⟩
 simp only[lk]at hx
 cases hb:Nat.beq t i with
 |true=>
  rw[hb]at hx
  have:=Nat.eq_of_beq_eq_true hb
  subst this
  simp only[cond_true,Option.some.injEq]at hx
  subst hx
  obtain⟨u,hu,hd⟩:=h.env t _ ht
  refine⟨u,hu,?_⟩
  simp only[AV.den,IV.den]at hd⊢
  exact .inl ⟨by simp[aT],trivial,trivial,hd.1⟩
 |false=>
  rw[hb]at hx
  obtain⟨u,hu,hd⟩:=h.env i x hx
  exact⟨u,hu,hk.den hd⟩
theorem AE.own {e:Exit} (t:Nat) (el:TypeId) (es:Nat) (ht:lk E t=some (.im (.v (.slice none 0 0)))) (h:AE C e K ((t,.os (au C.B.nb H) es 0 0)::E) ((au C.B.nb H,.vec el es [])::H)):AE C e K E H:=by
 unfold AE at h⊢
 exact fun φ I a w hs=>h _ I a w (hs.Ah ht el es)
theorem AP.own {p:List Nat} (t:Nat) (el:TypeId) (es:Nat) (ht:lk E t=some (.im (.v (.slice none 0 0)))) (h:AP C p K ((t,.os (au C.B.nb H) es 0 0)::E) ((au C.B.nb H,.vec el es [])::H)):AP C p K E H:=by
 unfold AP at h⊢
 exact fun φ I a w hs=>h _ I a w (hs.Ah ht el es)
theorem AP.freeze {p:List Nat} (b:Nat) {el:TypeId} {es:Nat} {rows:List (List IV)} (hl:lk H b=some (.vec el es rows)) (hC:jS b rows H) (nX:kN b rows E) (h:AP C p K (kM b es rows E) (fL b es rows H)):AP C p K E H:=by
 unfold AP at h⊢
 intro φ I a w hs
 obtain⟨φ',I',cS⟩:=hs.freeze hl nX hC
 exact h φ' I' a w cS
end
theorem bh.Im {P:Program} {f:FuncId} {args:List AV} {r:AV} (he:enters P f=true) (hr:r.free=true)
  (
   h:∀(w:World) (φ:ai) (I:Nat->Prop) (vs:List Value),AV.ab w φ I args vs->(∀g,I g->g<w.heap.size)->VK P w I->
   Calls P f vs.toArray w fun e w'=>∃v,e= .returned v/\AV.den w' φ I r v/\Go.RowKit.Below w.heap.size w w'):bh P f args r:=by
 refine⟨he,fun w φ I vs hd hR hV=>(h w φ I vs hd hR.bM hV).mono fun e w' ⟨v,he,hv,hb⟩=>?_⟩
 refine⟨r,[],fun _=>none,I,v,⟨rfl,rfl⟩,he,AV.qm _ _ hr hv,?_⟩
 have hx:Ext (cN φ) w w':=by
  refine⟨hb.size,fun g hg _=>hb.block g hg,fun g c e fz hc=>?_,hb.os,hb.os,hb.output⟩
  have ag:g<w.heap.size:=by
   rcases Nat.lt_or_ge g w.heap.size with h|h
   ·exact h
   ·rw[Array.getElem?_eq_none h]at hc;cases hc
  exact⟨c,_,(hb.block g ag).trans hc,rfl⟩
 refine⟨⟨fun b=>rfl,fun b o p hl=>(by simp[lk]at hl),fun b g hp=>(by cases hp),fun b b' g hp=>(by cases hp),fun g hg=>Nat.lt_of_lt_of_le (hR.bM g hg) hb.size⟩,hx,fun b g hg=>(by cases hg),fun g hg=> .inl hg,fun g hg=>hg,fun _ _ _ _ _ hl=>by simp[lk]at hl⟩
theorem fR {C:Cx} {K:List PK} {os:List Oper} {ds:List (Nat×Nat)} {i:Nat} {E:Env} {H:aa} (h:vq C K os ds i E H):vq C K os ds i E H:=h
def upto (n:Nat):List Nat:=List.range n
theorem I_ (n:Nat):(upto n).length=n:=List.length_range
def sX (k:IntKind) (n:Nat) (f:Nat->Int):List (List IV):=(upto n).map fun j=>[.v (.int k (f j))]
def vx (k:IntKind) (n:Nat) (f:Nat->Int):List IV:=(upto n).map fun j=> .v (.int k (f j))
theorem ZT (k:IntKind) (n:Nat) (f:Nat->Int):(sX k n f).length=n:=by simp[sX,I_]
theorem TC (k:IntKind) (n:Nat) (f:Nat->Int):(vx k n f).length=n:=by simp[vx,I_]
theorem ZS (k:IntKind) (n:Nat) (f:Nat->Int):(sX k n f).flatten=vx k n f:=by
 unfold sX vx
 induction upto n with
 |nil=>rfl
 |cons n l ih=>simp[ih]
theorem TD (k:IntKind) (n:Nat) (f:Nat->Int):(vx k n f).map (fun c=>[c])=sX k n f:=by
 simp[vx,sX,Function.comp_def]
theorem ZU (k:IntKind) (n:Nat):(List.replicate n (Value.int k 0)).map (fun c=>[IV.v c])=sX k n (fun _=>0):=by
 unfold sX
 apply List.ext_getElem
 ·simp[I_]
 ·intro j U h2;simp
theorem Sx (k:IntKind) (n:Nat) (x:Int):(List.replicate n (Value.int k x)).all Value.oneCell'=true:=by
 rw[List.all_eq_true];intro v hv;rw[List.eq_of_mem_replicate hv];rfl
attribute [go_sem] Sx ZU ZT ZS TC TD List.nil_append List.cons_append List.length_cons List.length_nil Nat.zero_add
end Go.AL
namespace Go.AL
section
variable {C:Cx} {K:List PK} {E:Env} {H:aa}
end
attribute [go_sem] Int.toNat_natCast_add_one
end Go.AL
namespace Go.AL
theorem aaV {P:Program} {n:Nat} {t:TypeId} {xs:List IV} (ht:P.underlying t=some .string) (h:Typed P n t xs):∃s:ByteArray,xs=[.v (.string s)]/\s.size<=maxLen:=by
 cases n with
 |zero=>exact h.elim
 |succ n=>simpa only[Typed,ht]using h
theorem Q8 {P:Program} {n:Nat} {t:TypeId} {k:IntKind} {xs:List IV} (ht:P.underlying t=some (.int k)) (h:Typed P n t xs):∃i,xs=[.v (.int k i)]/\(Lit.int k i).wf=true:=by
 cases n with
 |zero=>exact h.elim
 |succ n=>simpa only[Typed,ht]using h
theorem IG {α:Type} {p:α->Prop} {f:α->List IV}:∀(rows:List (List IV)),(∀r∈rows,∃a,r=f a/\p a)->∃l:List α,rows=l.map f/\∀a∈l,p a
 |[],_=>⟨[],rfl,by simp⟩
 |r::rows,h=>by
  obtain⟨a,rfl,ha⟩:=h r (by simp)
  obtain⟨l,rfl,hl⟩:=IG rows (fun r hr=>h r (by simp[hr]))
  exact⟨a::l,rfl,by simpa using⟨ha,hl⟩⟩
section
variable {C:Cx} {K:List PK} {E:Env} {H:aa}
theorem AQ.imp {ds:List (Nat×Nat)} {i:Nat} {os:List Oper} {E':Env} (hE:∀w φ I a,dS w φ I E a->dS w φ I E' a) (h:AQ C ds i os K E' H):AQ C ds i os K E H:=by
 unfold AQ at h⊢
 intro ops U h2 φ I a w hs
 exact h ops U h2 φ I a w ⟨hs.bD,hs.bA,hE w φ I a hs.env,hs.st⟩
theorem Aj {w:World} {φ:ai} {I:Nat->Prop} {a:Act} {d:Option Nat} {x y:AV} (ga:∀u,AV.den w φ I x u->AV.den w φ I y u) (h:dS w φ I (aY d x E) a):dS w φ I (aY d y E) a:=by
 cases d with
 |none=>exact h
 |some d=>
  intro i z hz
  simp only[aY,lk]at hz
  cases hb:Nat.beq d i with
  |true=>
   rw[hb]at hz
   simp only[cond_true,Option.some.injEq]at hz
   subst hz
   obtain⟨u,hu,hd⟩:=h i x (by simp[aY,lk,hb])
   exact⟨u,hu,ga u hd⟩
  |false=>
   rw[hb]at hz
   exact h i z (by simpa[aY,lk,hb]using hz)
theorem AQ.rK {ds:List (Nat×Nat)} {i:Nat} {d:Option Nat} {ty:TypeId} {pos:String} {af:Array Edge} {os:List Oper} {f:FuncId} {xs:List Operand} {aZ:Array TypeId} {l:List AV} {r:AV} {gu:Option (Nat×Bool)} {G:Bool}
  (ah:a7 C.n ({dst:=d,op:= .call {callee:= .value (.func f),args:=xs.toArray,argTypes:=aZ},type:=ty,pos:=pos,after:=af,guard:=gu}::os)=true)
  (hG:gd ds E gu=some G)
  (hl:dT E xs=some l) (dG:G=true->gs l=true) (fg:AV.frees (l.map AV.st)=true) (hc:G=true->ao C.P f (l.map AV.st) [] (fun r' H'=>H'=[]/\r'=r)) (hr:r.free=true)
  (h:vq C K os (aW d i ds) (i+1) (aY d (.opt G r) E) H):
  AQ C ds i ({dst:=d,op:= .call {callee:= .value (.func f),args:=xs.toArray,argTypes:=aZ},type:=ty,pos:=pos,after:=af,guard:=gu}::os) K E H:=by
 obtain⟨hd,bX⟩:=dM ah
 have bl:=AQ.go bX h
 cases G with
 |true=>
  refine AQ.nW hG ?_
  unfold AQ
  refine AO.call (o:={dst:=d,op:= .call {callee:= .value (.func f),args:=xs.toArray,argTypes:=aZ},type:=ty,pos:=pos,after:=af,guard:=none}) rfl rfl hd (by simpa using hl) (dG rfl) fg (hc rfl) (fun r' H' ⟨U,h2⟩=>⟨U,by rw[h2];exact hr⟩) fun r' ⟨_,h2⟩=>?_
  subst h2
  have:=AQ.imp (fun w φ I a=>Aj (x:=r') (y:= .opt true r') fun u hu=>by simp only[AV.den];exact⟨fun _=>hu,fun h=>by cases h⟩) bl
  unfold AQ at this
  exact this
 |false=>
  refine AQ.vM hd hG ?_
  exact AQ.imp (fun w φ I a=>Aj fun u hu=>by simp only[AV.den]at hu⊢;exact⟨fun h=>(by cases h),hu.2⟩) bl
def eN (b:Nat):aa->aa
 |[]=>[]
 |(j,o)::r=>bif Nat.beq j b then eN b r else(j,o)::eN b r
theorem B_ (b:Nat):∀H:aa,lk (eN b H) b=none
 |[]=>rfl
 |(j,o)::r=>by
  simp only[eN]
  cases hb:Nat.beq j b with
  |true=>simpa using B_ b r
  |false=>simp only[cond_false,lk,hb];exact B_ b r
theorem yW (b:Nat):∀(H:aa) (b':Nat),b'≠b->lk (eN b H) b'=lk H b'
 |[],_,_=>rfl
 |(j,o)::r,b',aC=>by
  simp only[eN]
  cases hb:Nat.beq j b with
  |true=>
   have hj:=Nat.eq_of_beq_eq_true hb
   have:Nat.beq j b'=false:=by
    cases hq:Nat.beq j b' with
    |false=>rfl
    |true=>have:=Nat.eq_of_beq_eq_true hq;omega
   simp only[cond_true,lk,this,cond_false]
   exact yW b r b' aC
  |false=>
   simp only[cond_false,lk]
   cases hq:Nat.beq j b' with
   |true=>rfl
   |false=>simpa using yW b r b' aC
def gJ (φ:ai) (b:Nat):ai:=fun b'=>if b'=b then none else φ b'
theorem St.forget {B:Bs} {φ:ai} {I:Nat->Prop} {w:World} (h:St B φ I H w) (b:Nat) (hn:noMen b (eN b H)=true):St B (gJ φ b) I (eN b H) w:=by
 have ax:∀b',b'≠b->gJ φ b b'=φ b':=fun b' hb=>by simp[gJ,hb]
 have fX:gJ φ b b=none:=by simp[gJ]
 refine⟨⟨fun b'=>?_,fun b' o p hl hp=>?_,fun b' g hp=>?_,fun b1 b2 g U h2=>?_,h.real.bM⟩,h.ext,fun b' g hp=>?_,h.cZ,h.cj,fun b' g oo ag h0 hl=>?_⟩
 ·by_cases aj:b'=b
  ·subst aj;rw[fX,B_];rfl
  ·rw[ax b' aj,yW b H b' aj];exact h.real.bj b'
 ·by_cases aj:b'=b
  ·subst aj;rw[fX]at hp;cases hp
  ·have dH:=hl
   rw[yW b H b' aj]at hl
   rw[ax b' aj]at hp
   have ba:=h.real.own b' o p hl hp
   cases o with
   |var e cs=>
    simp only[Ob.at]at ba⊢
    obtain⟨g,us,rfl,h2,h3,h4⟩:=ba
    exact⟨g,us,rfl,h2,AV.oE ax cs us (uM _ hn b' e cs dH) h3,h4⟩
   |vec e eV P2=>exact ba
   |lp l n st fn q ps E=>
    simp only[Ob.at]at ba⊢
    obtain⟨h0,T,D,cf,U,h2,h3⟩:=ba
    exact⟨h0,T,D,cf,U,h2,fun i x hx=>let⟨u,hu,hd⟩:=h3 i x hx;⟨u,hu,AV.qT ax x u (Dj E (Dp _ hn b' l n st fn q ps E dH) i x hx) hd⟩⟩
 ·by_cases aj:b'=b
  ·subst aj;rw[fX]at hp;cases hp
  ·rw[ax b' aj]at hp;exact h.real.off b' g hp
 ·by_cases e1:b1=b
  ·subst e1;rw[fX]at U;cases U
  ·by_cases e2:b2=b
   ·subst e2;rw[fX]at h2;cases h2
   ·rw[ax b1 e1]at U;rw[ax b2 e2]at h2;exact h.real.inj b1 b2 g U h2
 ·by_cases aj:b'=b
  ·subst aj;rw[fX]at hp;cases hp
  ·rw[ax b' aj]at hp;exact h.b9 b' g hp
 ·by_cases aj:b'=b
  ·subst aj;rw[B_]at hl;cases hl
  ·rw[yW b H b' aj]at hl
   rw[ax b' aj];exact h.cE b' g oo ag h0 hl
theorem bt.forget {φ:ai} {I:Nat->Prop} {a:Act} {w:World} (h:bt C φ I E H a w) (b:Nat) (hn:noMen b (eN b H)=true):bt C (gJ φ b) I (killE b E) (eN b H) a w:=by
 refine⟨h.bD,h.bA,fun i x hx=>?_,h.st.forget b hn⟩
 obtain⟨y,hy,hd⟩:=pF (w:=w) (φ:=φ) (φ':=gJ φ b) (I:=I) (b:=b) (fun b' hb=>by simp[gJ,hb]) E i x hx
 obtain⟨u,hu,dz⟩:=h.env i y hy
 exact⟨u,hu,hd u dz⟩
theorem AE.forget {e:Exit} (b:Nat) (hn:noMen b (eN b H)=true) (h:AE C e K (killE b E) (eN b H)):AE C e K E H:=by
 unfold AE at h⊢
 exact fun φ I a w hs=>h _ I a w (hs.forget b hn)
theorem AP.forget {p:List Nat} (b:Nat) (hn:noMen b (eN b H)=true) (h:AP C p K (killE b E) (eN b H)):AP C p K E H:=by
 unfold AP at h⊢
 exact fun φ I a w hs=>h _ I a w (hs.forget b hn)
end
attribute [go_sem] eN List.map_cons List.map_nil List.getElem?_cons_zero List.getElem?_cons_succ
mutual
def AV.sh (k:Nat):AV->AV
 | .ob b o=> .ob (k+b) o
 | .oe b es i j=> .oe (k+b) es i j
 | .os b es i n=> .os (k+b) es i n
 | .fn f fs aF=> .fn f (AV.ln k fs) (AV.ln k aF)
 | .agg cs=> .agg (AV.ln k cs)
 | .aG cs=> .aG (AV.ln k cs)
 | .opt g x=> .opt g (AV.sh k x)
 | .im x=> .im x
 | .ar x=> .ar x
 | .top=> .top
 | .mp b=> .mp (k+b)
 | .wr q x=> .wr q (AV.sh k x)
def AV.ln (k:Nat):List AV->List AV
 |[]=>[]
 |x::xs=>AV.sh k x::AV.ln k xs
end
def xj (k:Nat):Env->Env
 |[]=>[]
 |(i,x)::r=>(i,AV.sh k x)::xj k r
theorem Qq (k:Nat):∀(E:Env) (i:Nat),lk (xj k E) i=(lk E i).map (AV.sh k)
 |[],_=>rfl
 |(j,x)::r,i=>by
  simp only[xj,lk]
  cases Nat.beq j i with
  |true=>rfl
  |false=>simpa using Qq k r i
def jI (k:Nat):aa->aa
 |[]=>[]
 |(j,.var e cs)::r=>(k+j,.var e (AV.ln k cs))::jI k r
 |(j,.vec e es rows)::r=>(k+j,.vec e es rows)::jI k r
 |(j,.lp l n st fn q ps E)::r=>(k+j,.lp l n st fn q ps (xj k E))::jI k r
def xk (k:Nat):Ob->Ob
 | .var e cs=> .var e (AV.ln k cs)
 | .vec e es rows=> .vec e es rows
 | .lp l n st fn q ps E=> .lp l n st fn q ps (xj k E)
mutual
theorem AV.Aq {w:World} {φ φ':ai} {I:Nat->Prop} {k:Nat} (h:∀b p,φ b=some p->φ' (k+b)=some p):∀(x:AV) (u:Value),AV.den w φ I x u->AV.den w φ' I (AV.sh k x) u
 | .ob b o,u,hd=>by simp only[AV.sh,AV.den]at hd⊢;obtain⟨g,U,h2⟩:=hd;exact⟨g,h _ _ U,h2⟩
 | .oe b es i j,u,hd=>by simp only[AV.sh,AV.den]at hd⊢;obtain⟨g,U,h2⟩:=hd;exact⟨g,h _ _ U,h2⟩
 | .os b es i n,u,hd=>by
  simp only[AV.sh,AV.den]at hd⊢
  rcases hd with⟨U,h2⟩|⟨g,c,U,h2⟩
  ·exact .inl ⟨h _ _ U,h2⟩
  ·exact .inr ⟨g,c,h _ _ U,h2⟩
 | .fn f fs aF,u,hd=>by simp only[AV.sh,AV.den]at hd⊢;obtain⟨us,vs,U,h2,h3⟩:=hd;exact⟨us,vs,AV.xl h fs us U,AV.xl h aF vs h2,h3⟩
 | .agg cs,u,hd=>by simp only[AV.sh,AV.den]at hd⊢;obtain⟨us,U,h2⟩:=hd;exact⟨us,AV.xl h cs us U,h2⟩
 | .aG cs,u,hd=>by simp only[AV.sh,AV.den]at hd⊢;obtain⟨us,U,h2⟩:=hd;exact⟨us,AV.xl h cs us U,h2⟩
 | .opt g x,u,hd=>by simp only[AV.sh,AV.den]at hd⊢;exact⟨fun hg=>AV.Aq h x u (hd.1 hg),hd.2⟩
 | .im x,u,hd=>by simpa only[AV.sh,AV.den]using hd
 | .ar x,u,hd=>by simpa only[AV.sh,AV.den]using hd
 | .top,_,_=>by simp only[AV.sh,AV.den]
 | .mp b,u,hd=>by simp only[AV.sh,AV.den]at hd⊢;obtain⟨g,U,h2⟩:=hd;exact⟨g,h _ _ U,h2⟩
 | .wr q x,u,hd=>by simp only[AV.sh,AV.den]at hd⊢;obtain⟨v,U,h2⟩:=hd;exact⟨v,U,AV.Aq h x v h2⟩
theorem AV.xl {w:World} {φ φ':ai} {I:Nat->Prop} {k:Nat} (h:∀b p,φ b=some p->φ' (k+b)=some p):∀(xs:List AV) (us:List Value),AV.ab w φ I xs us->AV.ab w φ' I (AV.ln k xs) us
 |[],us,hd=>by simpa only[AV.ln,AV.ab]using hd
 |x::xs,us,hd=>by
  simp only[AV.ln,AV.ab]at hd⊢
  obtain⟨u,ak,e,U,h2⟩:=hd
  exact⟨u,ak,e,AV.Aq h x u U,AV.xl h xs ak h2⟩
end
theorem Dd (k:Nat):∀(H:aa) (b:Nat),b<k->lk (jI k H) b=none
 |[],_,_=>rfl
 |(j,.var e cs)::r,b,h=>by
  have:Nat.beq (k+j) b=false:=by
   cases hq:Nat.beq (k+j) b with
   |false=>rfl
   |true=>have:=Nat.eq_of_beq_eq_true hq;omega
  simp only[jI,lk,this,cond_false];exact Dd k r b h
 |(j,.vec e es rows)::r,b,h=>by
  have:Nat.beq (k+j) b=false:=by
   cases hq:Nat.beq (k+j) b with
   |false=>rfl
   |true=>have:=Nat.eq_of_beq_eq_true hq;omega
  simp only[jI,lk,this,cond_false];exact Dd k r b h
 |(j,.lp l n st fn q ps E)::r,b,h=>by
  have:Nat.beq (k+j) b=false:=by
   cases hq:Nat.beq (k+j) b with
   |false=>rfl
   |true=>have:=Nat.eq_of_beq_eq_true hq;omega
  simp only[jI,lk,this,cond_false];exact Dd k r b h
theorem Ex (k j b:Nat):Nat.beq (k+j) (k+b)=Nat.beq j b:=by
 cases h:Nat.beq j b with
 |true=>have:=Nat.eq_of_beq_eq_true h;subst this;exact Nat.beq_refl _
 |false=>
  cases hq:Nat.beq (k+j) (k+b)with
  |false=>rfl
  |true=>
   have U:=Nat.eq_of_beq_eq_true hq
   have:j=b:=by omega
   subst this
   rw[Nat.beq_refl]at h;cases h
theorem Dc (k:Nat):∀(H:aa) (b:Nat),lk (jI k H) (k+b)=(lk H b).map (xk k)
 |[],_=>rfl
 |(j,.var e cs)::r,b=>by
  simp only[jI,lk,Ex]
  cases Nat.beq j b with
  |true=>rfl
  |false=>simpa using Dc k r b
 |(j,.vec e es rows)::r,b=>by
  simp only[jI,lk,Ex]
  cases Nat.beq j b with
  |true=>rfl
  |false=>simpa using Dc k r b
 |(j,.lp l n st fn q ps E)::r,b=>by
  simp only[jI,lk,Ex]
  cases Nat.beq j b with
  |true=>rfl
  |false=>simpa using Dc k r b
theorem zY:∀(H H':aa) (b:Nat),lk (H++H') b=match lk H b with|some o=>some o|none=>lk H' b
 |[],_,_=>rfl
 |(j,o)::r,H',b=>by
  simp only[List.cons_append,lk]
  cases Nat.beq j b with
  |true=>rfl
  |false=>simpa using zY r H' b
def sx (k:Nat) (φ a_:ai):ai:=fun b=>if b<k then φ b else a_ (b-k)
theorem aaa {w:World} {φ φ':ai} {I:Nat->Prop} {k:Nat} (h:∀b p,φ b=some p->φ' (k+b)=some p) {o:Ob} {p:Option Nat} (ho:o.at w φ I p):(xk k o).at w φ' I p:=by
 cases o with
 |var e cs=>
  simp only[xk,Ob.at]at ho⊢
  obtain⟨g,us,U,h2,h3,h4⟩:=ho
  exact⟨g,us,U,h2,AV.xl h cs us h3,h4⟩
 |vec e es rows=>exact ho
 |lp l n st fn q ps E=>
  simp only[xk,Ob.at]at ho⊢
  obtain⟨h0,T,D,cf,U,h2,h3⟩:=ho
  refine⟨h0,T,D,cf,U,h2,fun i x hx=>?_⟩
  rw[Qq]at hx
  cases hy:lk E i with
  |none=>rw[hy]at hx;cases hx
  |some y=>
   rw[hy]at hx
   simp only[Option.map_some,Option.some.injEq]at hx
   subst hx
   obtain⟨u,hu,hd⟩:=h3 i y hy
   exact⟨u,hu,AV.Aq h y u hd⟩
theorem St.Su {B:Bs} {φ a_:ai} {I I1:Nat->Prop} {H H1:aa} {w w1:World} (h:St B φ I H w) (U:St ⟨w,cN (fun _=>none),I,fun _=>none,0⟩ a_ I1 H1 w1):
  St B (sx (au B.nb H) φ a_) I1 (jI (au B.nb H) H1++H) w1/\bC w φ I w1 (sx (au B.nb H) φ a_) I1/\∀b p,a_ b=some p->sx (au B.nb H) φ a_ (au B.nb H+b)=some p:=by
 have hnb:=dh B.nb H
 have fg:∀b,au B.nb H<=b->lk H b=none:=fun b hb=>by
  cases hl:lk H b with
  |none=>rfl
  |some o=>have:=bU H b o hl;omega
 generalize hk:au B.nb H=k at*
 have Xu:∀b,k<=b->φ b=none:=fun b hb=>by
  have:=h.real.bj b
  rw[fg b hb]at this
  cases hq:φ b with
  |none=>rfl
  |some x=>rw[hq]at this;cases this
 have jl:∀b,b<k->sx k φ a_ b=φ b:=fun b hb=>by simp[sx,hb]
 have jr:∀b,sx k φ a_ (k+b)=a_ b:=fun b=>by
  have:¬k+b<k:=by omega
  simp[sx,this]
 have ag:∀b p,φ b=some p->b<k:=fun b p hp=>by
  rcases Nat.lt_or_ge b k with h'|h'
  ·exact h'
  ·rw[Xu b h']at hp;cases hp
 have a6:∀g,¬cN (fun _=>none) g:=fun g ⟨b,hb⟩=>by cases hb
 have nc:∀g,g<w.heap.size->w1.heap[g]?=w.heap[g]?:=fun g hg=>U.ext.b_ g hg (a6 g)
 have mi:∀b g,a_ b=some (some g)->w.heap.size<=g:=fun b g hb=>(U.b9 b g hb).resolve_left (a6 g)
 have y8:∀g,I1 g->I g\/w.heap.size<=g:=fun g hg=>by
  rcases U.cZ g hg with h|h|h
  ·exact .inl h
  ·exact absurd h (a6 g)
  ·exact .inr h
 have kp:bC w φ I w1 (sx k φ a_) I1:=⟨fun g hg=>nc g (h.real.bM g hg),U.cj,fun b p hp=>by rw[jl b (ag b p hp)];exact hp,fun _ g n _ hs=>U.ext.shaped (a6 g) hs⟩
 have split:∀b,b<k\/∃c,b=k+c:=fun b=>by
  rcases Nat.lt_or_ge b k with h'|h'
  ·exact .inl h'
  ·exact .inr ⟨b-k,by omega⟩
 have HI:∀b,b<k->lk (jI k H1++H) b=lk H b:=fun b hb=>by rw[zY,Dd k H1 b hb]
 have Om:∀c,lk (jI k H1++H) (k+c)=(lk H1 c).map (xk k):=fun c=>by
  rw[zY,Dc k H1 c]
  cases hl:lk H1 c with
  |none=>simpa using fg (k+c) (by omega)
  |some o=>rfl
 refine⟨⟨⟨fun b=>?_,fun b o p hl hp=>?_,fun b g hp=>?_,fun b1 b2 g dq ej=>?_,U.real.bM⟩,h.ext.trans U.ext (fun g hg=>absurd hg (a6 g)),fun b g hp=>?_,fun g hg=>?_,fun g hg=>U.cj g (h.cj g hg),fun b g oo hb h0 hl=>?_⟩,kp,fun b p hb=>by rw[jr];exact hb⟩
 ·rcases split b with hb|⟨c,rfl⟩
  ·rw[jl b hb,HI b hb];exact h.real.bj b
  ·rw[jr,Om]
   have:=U.real.bj c
   rw[this];cases lk H1 c<;>rfl
 ·rcases split b with hb|⟨c,rfl⟩
  ·rw[jl b hb]at hp;rw[HI b hb]at hl
   refine Ob.kF kp.im kp.I kp.phi kp.sh (fun g hg=>?_) (h.real.own b o p hl hp)
   subst hg
   exact nc g (h.real.off b g hp).2
  ·rw[jr]at hp;rw[Om]at hl
   cases fD:lk H1 c with
   |none=>rw[fD]at hl;cases hl
   |some o1=>
    rw[fD]at hl
    cases hl
    exact aaa (fun b p hb=>by rw[jr];exact hb) (U.real.own c o1 p fD hp)
 ·rcases split b with hb|⟨c,rfl⟩
  ·rw[jl b hb]at hp
   have:=h.real.off b g hp
   exact⟨fun hi=>(y8 g hi).elim this.1 (by omega),Nat.lt_of_lt_of_le this.2 U.ext.size⟩
  ·rw[jr]at hp;exact U.real.off c g hp
 ·rcases split b1 with e1|⟨c1,rfl⟩<;>rcases split b2 with e2|⟨c2,rfl⟩
  ·rw[jl b1 e1]at dq;rw[jl b2 e2]at ej;exact h.real.inj b1 b2 g dq ej
  ·rw[jl b1 e1]at dq;rw[jr]at ej
   have:=(h.real.off b1 g dq).2;have:=mi c2 g ej;omega
  ·rw[jr]at dq;rw[jl b2 e2]at ej
   have:=(h.real.off b2 g ej).2;have:=mi c1 g dq;omega
  ·rw[jr]at dq ej;rw[U.real.inj c1 c2 g dq ej]
 ·rcases split b with hb|⟨c,rfl⟩
  ·rw[jl b hb]at hp;exact h.b9 b g hp
  ·rw[jr]at hp;exact .inr (Nat.le_trans h.ext.size (mi c g hp))
 ·rcases y8 g hg with hg|hg
  ·exact h.cZ g hg
  ·exact .inr (.inr (Nat.le_trans h.ext.size hg))
 ·have bF:b<k:=by omega
  rw[jl b bF];rw[HI b bF]at hl
  exact h.cE b g oo hb h0 hl
section
variable {C:Cx} {K:List PK} {E:Env} {H:aa}
theorem AQ.Bp {ds:List (Nat×Nat)} {i:Nat} {d:Option Nat} {ty:TypeId} {pos:String} {af:Array Edge} {os:List Oper} {f:FuncId} {xs:List Operand} {aZ:Array TypeId} {l:List AV} {R:AV->aa->Prop}
  (ah:a7 C.n ({dst:=d,op:= .call {callee:= .value (.func f),args:=xs.toArray,argTypes:=aZ},type:=ty,pos:=pos,after:=af,guard:=none}::os)=true)
  (hl:dT E xs=some l) (dG:gs l=true) (fg:AV.frees (l.map AV.st)=true) (hc:ao C.P f (l.map AV.st) [] R)
  (h:∀r H',R r H'->vq C K os (aW d i ds) (i+1) (aY d (AV.sh (au C.B.nb H) r) E) (jI (au C.B.nb H) H'++H)):
  AQ C ds i ({dst:=d,op:= .call {callee:= .value (.func f),args:=xs.toArray,argTypes:=aZ},type:=ty,pos:=pos,after:=af,guard:=none}::os) K E H:=by
 obtain⟨hd,bX⟩:=dM ah
 have bl:∀r H',R r H'->AQ C (aW d i ds) (i+1) os K (aY d (AV.sh (au C.B.nb H) r) E) (jI (au C.B.nb H) H'++H):=fun r H' hr=>AQ.go bX (h r H' hr)
 unfold AQ at bl⊢
 refine AO.step (o:={dst:=d,op:= .call {callee:= .value (.func f),args:=xs.toArray,argTypes:=aZ},type:=ty,pos:=pos,after:=af,guard:=none}) fun ops φ I a w aQ _ hs Kn bE=>?_
 have hw:Region.wanted {dst:=d,op:= .call {callee:= .value (.func f),args:=xs.toArray,argTypes:=aZ},type:=ty,pos:=pos,after:=af,guard:=none} (yielded ops a.tmps)=true:=by simp[Region.wanted]
 rw[if_pos hw]
 have aS:=AV.rL (φ':=fun _=>none) _ _ fg (mU hs.env _ _ hl dG)
 have aB:(execOp a.eval {dst:=d,op:= .call {callee:= .value (.func f),args:=xs.toArray,argTypes:=aZ},type:=ty,pos:=pos,after:=af,guard:=none}).run C.P w= .ok (.enter f (xs.map a.eval).toArray) w:=by
  have:execOp a.eval {dst:=d,op:= .call {callee:= .value (.func f),args:=xs.toArray,argTypes:=aZ},type:=ty,pos:=pos,after:=af,guard:=none}=callFunc f (#[]++xs.toArray.map a.eval++#[]):=by simp only[execOp];rfl
  rw[this,xi hc.gv]
  simp
 unfold Oper.wp
 rw[aB,Oper.upon_enter]
 refine(hc.run w (fun _=>none) I _ aS (DG hs.st.real) hs.st.vk).mono fun e w' ⟨r,H',φ',I',v,hr,he,a8,hS⟩=>?_
 subst he
 obtain⟨lG,hk,hj⟩:=hs.st.Su hS
 exact bE _ _ _ I' _ _ (bl r H' hr) (hs.put lG hk hd (AV.Aq hj r v a8))
end
attribute [go_sem] AV.sh AV.ln jI xk xj
section
variable {C:Cx} {K:List PK} {E:Env} {H:aa}
def Ar:AV->AV
 | .opt true x=>x
 |x=>x
def s4:Env->Env
 |[]=>[]
 |(i,x)::r=>(i,Ar x)::s4 r
theorem aaq {w:World} {φ:ai} {I:Nat->Prop} {x:AV} {u:Value} (h:AV.den w φ I x u):AV.den w φ I (Ar x) u:=by
 unfold Ar
 split
 ·simp only[AV.den]at h;exact h.1 trivial
 ·exact h
theorem QB:∀(E:Env) (i:Nat) (x:AV),lk (s4 E) i=some x->∃y,lk E i=some y/\x=Ar y
 |[],i,x,h=>by simp[s4,lk]at h
 |(j,y)::r,i,x,h=>by
  simp only[s4,lk]at h⊢
  cases hb:Nat.beq j i with
  |true=>rw[hb]at h;simp at h⊢;exact h.symm
  |false=>rw[hb]at h;simpa using QB r i x h
end
attribute [go_sem] Ar s4
mutual
def AV.rn (ρ:Nat->Nat):AV->AV
 | .ob b o=> .ob (ρ b) o
 | .oe b es i j=> .oe (ρ b) es i j
 | .os b es i n=> .os (ρ b) es i n
 | .fn f fs aF=> .fn f (AV.cO ρ fs) (AV.cO ρ aF)
 | .agg cs=> .agg (AV.cO ρ cs)
 | .aG cs=> .aG (AV.cO ρ cs)
 | .opt g x=> .opt g (AV.rn ρ x)
 | .im x=> .im x
 | .ar x=> .ar x
 | .top=> .top
 | .mp b=> .mp (ρ b)
 | .wr q x=> .wr q (AV.rn ρ x)
def AV.cO (ρ:Nat->Nat):List AV->List AV
 |[]=>[]
 |x::xs=>AV.rn ρ x::AV.cO ρ xs
end
def q5 (ρ:Nat->Nat):Env->Env
 |[]=>[]
 |(i,x)::r=>(i,AV.rn ρ x)::q5 ρ r
theorem DH (ρ:Nat->Nat):∀(E:Env) (i:Nat),lk (q5 ρ E) i=(lk E i).map (AV.rn ρ)
 |[],_=>rfl
 |(j,x)::r,i=>by
  simp only[q5,lk]
  cases Nat.beq j i with
  |true=>rfl
  |false=>simpa using DH ρ r i
def dK (ρ:Nat->Nat):Ob->Ob
 | .var e cs=> .var e (AV.cO ρ cs)
 | .vec e es rows=> .vec e es rows
 | .lp l n st fn q ps E=> .lp l n st fn q ps (q5 ρ E)
mutual
theorem AV.uV {w:World} {φ φ':ai} {I:Nat->Prop} {ρ:Nat->Nat} (h:∀b p,φ b=some p->φ' (ρ b)=some p):∀(x:AV) (u:Value),AV.den w φ I x u->AV.den w φ' I (AV.rn ρ x) u
 | .ob b o,u,hd=>by simp only[AV.rn,AV.den]at hd⊢;obtain⟨g,U,h2⟩:=hd;exact⟨g,h _ _ U,h2⟩
 | .oe b es i j,u,hd=>by simp only[AV.rn,AV.den]at hd⊢;obtain⟨g,U,h2⟩:=hd;exact⟨g,h _ _ U,h2⟩
 | .os b es i n,u,hd=>by
  simp only[AV.rn,AV.den]at hd⊢
  rcases hd with⟨U,h2⟩|⟨g,c,U,h2⟩
  ·exact .inl ⟨h _ _ U,h2⟩
  ·exact .inr ⟨g,c,h _ _ U,h2⟩
 | .fn f fs aF,u,hd=>by simp only[AV.rn,AV.den]at hd⊢;obtain⟨us,vs,U,h2,h3⟩:=hd;exact⟨us,vs,AV.xe h fs us U,AV.xe h aF vs h2,h3⟩
 | .agg cs,u,hd=>by simp only[AV.rn,AV.den]at hd⊢;obtain⟨us,U,h2⟩:=hd;exact⟨us,AV.xe h cs us U,h2⟩
 | .aG cs,u,hd=>by simp only[AV.rn,AV.den]at hd⊢;obtain⟨us,U,h2⟩:=hd;exact⟨us,AV.xe h cs us U,h2⟩
 | .opt g x,u,hd=>by simp only[AV.rn,AV.den]at hd⊢;exact⟨fun hg=>AV.uV h x u (hd.1 hg),hd.2⟩
 | .im x,u,hd=>by simpa only[AV.rn,AV.den]using hd
 | .ar x,u,hd=>by simpa only[AV.rn,AV.den]using hd
 | .top,_,_=>by simp only[AV.rn,AV.den]
 | .mp b,u,hd=>by simp only[AV.rn,AV.den]at hd⊢;obtain⟨g,U,h2⟩:=hd;exact⟨g,h _ _ U,h2⟩
 | .wr q x,u,hd=>by simp only[AV.rn,AV.den]at hd⊢;obtain⟨v,U,h2⟩:=hd;exact⟨v,U,AV.uV h x v h2⟩
theorem AV.xe {w:World} {φ φ':ai} {I:Nat->Prop} {ρ:Nat->Nat} (h:∀b p,φ b=some p->φ' (ρ b)=some p):∀(xs:List AV) (us:List Value),AV.ab w φ I xs us->AV.ab w φ' I (AV.cO ρ xs) us
 |[],us,hd=>by simpa only[AV.cO,AV.ab]using hd
 |x::xs,us,hd=>by
  simp only[AV.cO,AV.ab]at hd⊢
  obtain⟨u,ak,e,U,h2⟩:=hd
  exact⟨u,ak,e,AV.uV h x u U,AV.xe h xs ak h2⟩
end
mutual
theorem AV.Al {w:World} {φ φ':ai} {I:Nat->Prop} {ρ:Nat->Nat} (h:∀b,φ b=φ' (ρ b)):∀(x:AV) (u:Value),AV.den w φ' I (AV.rn ρ x) u->AV.den w φ I x u
 | .ob b o,u,hd=>by simp only[AV.rn,AV.den]at hd⊢;rw[h];exact hd
 | .oe b es i j,u,hd=>by simp only[AV.rn,AV.den]at hd⊢;rw[h];exact hd
 | .os b es i n,u,hd=>by simp only[AV.rn,AV.den]at hd⊢;rw[h];exact hd
 | .fn f fs aF,u,hd=>by simp only[AV.rn,AV.den]at hd⊢;obtain⟨us,vs,U,h2,h3⟩:=hd;exact⟨us,vs,AV.q6 h fs us U,AV.q6 h aF vs h2,h3⟩
 | .agg cs,u,hd=>by simp only[AV.rn,AV.den]at hd⊢;obtain⟨us,U,h2⟩:=hd;exact⟨us,AV.q6 h cs us U,h2⟩
 | .aG cs,u,hd=>by simp only[AV.rn,AV.den]at hd⊢;obtain⟨us,U,h2⟩:=hd;exact⟨us,AV.q6 h cs us U,h2⟩
 | .opt g x,u,hd=>by simp only[AV.rn,AV.den]at hd⊢;exact⟨fun hg=>AV.Al h x u (hd.1 hg),hd.2⟩
 | .im x,u,hd=>by simpa only[AV.rn,AV.den]using hd
 | .ar x,u,hd=>by simpa only[AV.rn,AV.den]using hd
 | .top,_,_=>by simp only[AV.den]
 | .mp b,u,hd=>by simp only[AV.rn,AV.den]at hd⊢;rw[h];exact hd
 | .wr q x,u,hd=>by simp only[AV.rn,AV.den]at hd⊢;obtain⟨v,U,h2⟩:=hd;exact⟨v,U,AV.Al h x v h2⟩
theorem AV.q6 {w:World} {φ φ':ai} {I:Nat->Prop} {ρ:Nat->Nat} (h:∀b,φ b=φ' (ρ b)):∀(xs:List AV) (us:List Value),AV.ab w φ' I (AV.cO ρ xs) us->AV.ab w φ I xs us
 |[],us,hd=>by simpa only[AV.cO,AV.ab]using hd
 |x::xs,us,hd=>by
  simp only[AV.cO,AV.ab]at hd⊢
  obtain⟨u,ak,e,U,h2⟩:=hd
  exact⟨u,ak,e,AV.Al h x u U,AV.q6 h xs ak h2⟩
end
theorem DI {w:World} {φ φ':ai} {I:Nat->Prop} {ρ:Nat->Nat} (h:∀b p,φ b=some p->φ' (ρ b)=some p) {o:Ob} {p:Option Nat} (ho:o.at w φ I p):(dK ρ o).at w φ' I p:=by
 cases o with
 |var e cs=>
  simp only[dK,Ob.at]at ho⊢
  obtain⟨g,us,U,h2,h3,h4⟩:=ho
  exact⟨g,us,U,h2,AV.xe h cs us h3,h4⟩
 |vec e es rows=>exact ho
 |lp l n st fn q ps E=>
  simp only[dK,Ob.at]at ho⊢
  obtain⟨h0,T,D,cf,U,h2,h3⟩:=ho
  refine⟨h0,T,D,cf,U,h2,fun i x hx=>?_⟩
  rw[DH]at hx
  cases hy:lk E i with
  |none=>rw[hy]at hx;cases hx
  |some y=>
   rw[hy]at hx
   simp only[Option.map_some,Option.some.injEq]at hx
   subst hx
   obtain⟨u,hu,hd⟩:=h3 i y hy
   exact⟨u,hu,AV.uV h y u hd⟩
theorem ZL {w:World} {φ φ':ai} {I:Nat->Prop} {ρ:Nat->Nat} (h:∀b,φ b=φ' (ρ b)) {o:Ob} {p:Option Nat} (ho:(dK ρ o).at w φ' I p):o.at w φ I p:=by
 cases o with
 |var e cs=>
  simp only[dK,Ob.at]at ho⊢
  obtain⟨g,us,U,h2,h3,h4⟩:=ho
  exact⟨g,us,U,h2,AV.q6 h cs us h3,h4⟩
 |vec e es rows=>exact ho
 |lp l n st fn q ps E=>
  simp only[dK,Ob.at]at ho⊢
  obtain⟨h0,T,D,cf,U,h2,h3⟩:=ho
  refine⟨h0,T,D,cf,U,h2,fun i x hx=>?_⟩
  obtain⟨u,hu,hd⟩:=h3 i (AV.rn ρ x) (by rw[DH,hx];rfl)
  exact⟨u,hu,AV.Al h x u hd⟩
theorem St.HJ {B:Bs} {φ:ai} {I:Nat->Prop} {H:aa} {w:World} (h:St B φ I H w) {b:Nat} (hb:lk H b=none):φ b=none:=by
 have:=h.real.bj b
 rw[hb]at this
 cases hq:φ b with
 |none=>rfl
 |some x=>rw[hq]at this;cases this
def r1 (b b' c:Nat):Nat:=bif Nat.beq c b then b' else c
def mH (b b':Nat):aa->aa
 |[]=>[]
 |(c,o)::r=>(r1 b b' c,dK (r1 b b') o)::mH b b' r
theorem DD {b b' c:Nat} (h:c≠b):r1 b b' c=c:=by
 unfold r1
 cases hq:Nat.beq c b with
 |true=>exact absurd (Nat.eq_of_beq_eq_true hq) h
 |false=>rfl
theorem Ix {b b':Nat}:r1 b b' b=b':=by simp[r1]
theorem HG {b b':Nat} (aC:b≠b'):∀(H:aa),lk H b'=none->lk (mH b b' H) b'=(lk H b).map (dK (r1 b b'))
 |[],_=>rfl
 |(c,o)::r,h=>by
  simp only[lk]at h
  simp only[mH,lk]
  by_cases hc:c=b
  ·subst hc;simp[r1]
  ·rw[DD hc]
   cases hq:Nat.beq c b' with
   |true=>rw[hq]at h;simp at h
   |false=>
    rw[hq]at h
    have:Nat.beq c b=false:=by
     cases hz:Nat.beq c b with
     |false=>rfl
     |true=>exact absurd (Nat.eq_of_beq_eq_true hz) hc
    simp only[this,cond_false]at h⊢
    exact HG aC r h
theorem HH {b b':Nat} (aC:b≠b'):∀(H:aa),lk (mH b b' H) b=none
 |[]=>rfl
 |(c,o)::r=>by
  simp only[mH,lk]
  have:Nat.beq (r1 b b' c) b=false:=by
   cases hz:Nat.beq (r1 b b' c) b with
   |false=>rfl
   |true=>
    have:=Nat.eq_of_beq_eq_true hz
    by_cases hc:c=b
    ·subst hc;rw[Ix]at this;exact absurd this.symm aC
    ·rw[DD hc]at this;exact absurd this hc
  rw[this];exact HH aC r
theorem z7 {b b' c:Nat} (U:c≠b) (h2:c≠b'):∀(H:aa),lk (mH b b' H) c=(lk H c).map (dK (r1 b b'))
 |[]=>rfl
 |(d,o)::r=>by
  simp only[mH,lk]
  by_cases hd:d=b
  ·subst hd
   have e1:Nat.beq b' c=false:=by
    cases hz:Nat.beq b' c with
    |false=>rfl
    |true=>exact absurd (Nat.eq_of_beq_eq_true hz).symm h2
   have e2:Nat.beq d c=false:=by
    cases hz:Nat.beq d c with
    |false=>rfl
    |true=>exact absurd (Nat.eq_of_beq_eq_true hz).symm U
   rw[Ix,e1,e2];exact z7 U h2 r
  ·rw[DD hd]
   cases Nat.beq d c with
   |true=>rfl
   |false=>simpa using z7 U h2 r
def kf (b b':Nat) (φ:ai):ai:=fun c=>if c=b then none else if c=b' then φ b else φ c
theorem St.rename {B:Bs} {φ:ai} {I:Nat->Prop} {H:aa} {w:World} (h:St B φ I H w) (b b':Nat) (bF:lk H b'=none) (aC:b≠b') (hnb:B.nb<=b'):St B (kf b b' φ) I (mH b b' H) w/\∀c p,φ c=some p->kf b b' φ (r1 b b' c)=some p:=by
 have h0:=h.HJ bF
 have F7:∀c p,φ c=some p->kf b b' φ (r1 b b' c)=some p:=fun c p hc=>by
  by_cases e:c=b
  ·subst e;rw[Ix];simp only[kf,if_neg (Ne.symm aC),if_true];exact hc
  ·rw[DD e]
   have:c≠b':=fun e2=>by subst e2;rw[h0]at hc;cases hc
   simp only[kf,if_neg e,if_neg this];exact hc
 refine⟨⟨⟨fun c=>?_,fun c o p hl hp=>?_,fun c g hp=>?_,fun c1 c2 g U h2=>?_,h.real.bM⟩,h.ext,fun c g hp=>?_,h.cZ,h.cj,fun c p o ag zn hl=>?_⟩,F7⟩
 ·by_cases e1:c=b
  ·subst e1;rw[HH aC];simp[kf]
  ·by_cases e2:c=b'
   ·subst e2;rw[HG aC H bF];simp only[kf,if_neg e1,if_true];rw[h.real.bj b];cases lk H b<;>rfl
   ·rw[z7 e1 e2];simp only[kf,if_neg e1,if_neg e2];rw[h.real.bj c];cases lk H c<;>rfl
 ·by_cases e1:c=b
  ·subst e1;simp[kf]at hp
  ·by_cases e2:c=b'
   ·subst e2
    rw[HG aC H bF]at hl
    simp only[kf,if_neg e1,if_true]at hp
    cases hq:lk H b with
    |none=>rw[hq]at hl;cases hl
    |some o1=>rw[hq]at hl;cases hl;exact DI F7 (h.real.own b o1 p hq hp)
   ·rw[z7 e1 e2]at hl
    simp only[kf,if_neg e1,if_neg e2]at hp
    cases hq:lk H c with
    |none=>rw[hq]at hl;cases hl
    |some o1=>rw[hq]at hl;cases hl;exact DI F7 (h.real.own c o1 p hq hp)
 ·unfold kf at hp
  split at hp
  ·cases hp
  ·split at hp
   ·exact h.real.off b g hp
   ·exact h.real.off c g hp
 ·unfold kf at U h2
  split at U
  ·cases U
  ·split at h2
   ·cases h2
   ·split at U<;>split at h2
    ·rename_i e1 e2;rw[e1,e2]
    ·rename_i n1 n2 e1 e2;exact absurd (h.real.inj _ _ g U h2).symm n2
    ·rename_i n1 n2 e1 e2;exact absurd (h.real.inj _ _ g U h2) n1
    ·exact h.real.inj _ _ g U h2
 ·unfold kf at hp
  split at hp
  ·cases hp
  ·split at hp
   ·exact h.b9 b g hp
   ·exact h.b9 c g hp
 ·by_cases e1:c=b
  ·subst e1;rw[HH aC]at hl;cases hl
  ·have e2:c≠b':=by omega
   rw[z7 e1 e2]at hl
   simp only[kf,if_neg e1,if_neg e2]
   cases hq:lk H c with
   |none=>rw[hq]at hl;cases hl
   |some o1=>exact h.cE c p o1 ag zn hq
theorem bt.rename {C:Cx} {φ:ai} {I:Nat->Prop} {E:Env} {H:aa} {a:Act} {w:World} (h:bt C φ I E H a w) (b b':Nat) (bF:lk H b'=none) (aC:b≠b') (hnb:C.B.nb<=b'):bt C (kf b b' φ) I (q5 (r1 b b') E) (mH b b' H) a w:=by
 obtain⟨hS,hf⟩:=h.st.rename b b' bF aC hnb
 refine⟨h.bD,h.bA,fun i x hx=>?_,hS⟩
 rw[DH]at hx
 cases hq:lk E i with
 |none=>rw[hq]at hx;cases hx
 |some y=>
  rw[hq]at hx;cases hx
  obtain⟨u,hu,hd⟩:=h.env i y hq
  exact⟨u,hu,AV.uV hf y u hd⟩
theorem St.perm {B:Bs} {φ:ai} {I:Nat->Prop} {H H':aa} {w:World} (h:St B φ I H w) (hp:∀b,lk H b=lk H' b):St B φ I H' w:=
 ⟨⟨fun b=>by rw[<-hp];exact h.real.bj b,fun b o p hl=>h.real.own b o p (by rw[hp];exact hl),h.real.off,h.real.inj,h.real.bM⟩,h.ext,h.b9,h.cZ,h.cj,fun b p o ag h0 hl=>h.cE b p o ag h0 (by rw[hp];exact hl)⟩
section
variable {C:Cx} {K:List PK} {E:Env} {H:aa}
theorem AE.rename {e:Exit} (b b':Nat) (bF:lk H b'=none) (aC:Nat.beq b b'=false) (hnb:Nat.ble C.B.nb b'=true) (h:AE C e K (q5 (r1 b b') E) (mH b b' H)):AE C e K E H:=by
 unfold AE at h⊢
 exact fun φ I a w hs=>h _ _ _ _ (hs.rename b b' bF (fun e=>by subst e;simp at aC) (Nat.le_of_ble_eq_true hnb))
theorem AP.rename {p:List Nat} (b b':Nat) (bF:lk H b'=none) (aC:Nat.beq b b'=false) (hnb:Nat.ble C.B.nb b'=true) (h:AP C p K (q5 (r1 b b') E) (mH b b' H)):AP C p K E H:=by
 unfold AP at h⊢
 exact fun φ I a w hs=>h _ _ _ _ (hs.rename b b' bF (fun e=>by subst e;simp at aC) (Nat.le_of_ble_eq_true hnb))
theorem AQ.rename {ds:List (Nat×Nat)} {i:Nat} {rest:List Oper} (b b':Nat) (bF:lk H b'=none) (aC:Nat.beq b b'=false) (hnb:Nat.ble C.B.nb b'=true) (h:AQ C ds i rest K (q5 (r1 b b') E) (mH b b' H)):AQ C ds i rest K E H:=by
 unfold AQ at h⊢
 exact fun ops U h2 φ I a w hs=>h ops U h2 _ _ _ _ (hs.rename b b' bF (fun e=>by subst e;simp at aC) (Nat.le_of_ble_eq_true hnb))
theorem AE.perm {e:Exit} (H':aa) (hp:∀b,lk H b=lk H' b) (h:AE C e K E H'):AE C e K E H:=by
 unfold AE at h⊢
 exact fun φ I a w hs=>h _ _ _ _ ⟨hs.bD,hs.bA,hs.env,hs.st.perm hp⟩
theorem AP.perm {p:List Nat} (H':aa) (hp:∀b,lk H b=lk H' b) (h:AP C p K E H'):AP C p K E H:=by
 unfold AP at h⊢
 exact fun φ I a w hs=>h _ _ _ _ ⟨hs.bD,hs.bA,hs.env,hs.st.perm hp⟩
theorem AQ.perm {ds:List (Nat×Nat)} {i:Nat} {rest:List Oper} (H':aa) (hp:∀b,lk H b=lk H' b) (h:AQ C ds i rest K E H'):AQ C ds i rest K E H:=by
 unfold AQ at h⊢
 exact fun ops U h2 φ I a w hs=>h ops U h2 _ _ _ _ ⟨hs.bD,hs.bA,hs.env,hs.st.perm hp⟩
end
attribute [go_sem] AV.rn AV.cO dK q5 r1 mH
def br (m:List (Nat×Nat)) (k b:Nat):Nat:=match lk m b with
 |some c=>c
 |none=>k+b
def dJ:List (Nat×Nat)->Nat->Option Nat
 |[],_=>none
 |(b,c')::r,c=>bif Nat.beq c' c then some b else dJ r c
def fa:List (Nat×Nat)->List Nat
 |[]=>[]
 |(b,_)::r=>b::fa r
def kA:List (Nat×Nat)->List Nat
 |[]=>[]
 |(_,c)::r=>c::kA r
def nu:aa->List Nat
 |[]=>[]
 |(b,_)::r=>b::nu r
def gj:List Nat->Bool
 |[]=>true
 |x::r=>!(bT r x)&&gj r
def lh (ρ:Nat->Nat) (H:aa):aa->Prop
 |[]=>True
 |(b,o)::r=>lk H (ρ b)=some (dK ρ o)/\lh ρ H r
def cR (H1:aa):List (Nat×Nat)->List Nat
 |[]=>[]
 |(b,c)::r=>match lk H1 b with
  |some _=>cR H1 r
  |none=>c::cR H1 r
def en (m:List (Nat×Nat)):aa->aa
 |[]=>[]
 |(c,o)::r=>match dJ m c with
  |some _=>en m r
  |none=>(c,o)::en m r
def sN (m:List (Nat×Nat)) (k:Nat):aa->aa
 |[]=>[]
 |(b,o)::r=>match lk m b with
  |some _=>sN m k r
  |none=>(k+b,dK (br m k) o)::sN m k r
def uO (m:List (Nat×Nat)) (k:Nat) (H1:aa):aa->aa
 |[]=>[]
 |(c,o)::r=>match dJ m c with
  |none=>(c,o)::uO m k H1 r
  |some b=>match lk H1 b with
   |some o1=>(c,dK (br m k) o1)::uO m k H1 r
   |none=>uO m k H1 r
def h_ (m:List (Nat×Nat)) (k:Nat) (H H1:aa):aa:=sN m k H1++uO m k H1 H
def jD:List Nat->Env->Env
 |[],E=>E
 |d::r,E=>jD r (killE d E)
def lg:List Nat->aa->Bool
 |[],_=>true
 |d::r,H=>noMen d H&&lg r H
theorem iA {a b:Nat} (h:a≠b):Nat.beq a b=false:=by
 cases hq:Nat.beq a b with
 |false=>rfl
 |true=>exact absurd (Nat.eq_of_beq_eq_true hq) h
theorem He:∀(m:List (Nat×Nat)) (b c:Nat),dJ m c=some b->(b,c)∈m
 |[],_,_,h=>by cases h
 |(b',c')::r,b,c,h=>by
  simp only[dJ]at h
  cases hq:Nat.beq c' c with
  |true=>
   rw[hq]at h
   have:=Nat.eq_of_beq_eq_true hq
   subst this
   simp at h;subst h;simp
  |false=>rw[hq]at h;exact List.mem_cons_of_mem _ (He r b c h)
theorem Ol:∀(m:List (Nat×Nat)) (b c:Nat),lk m b=some c->(b,c)∈m
 |[],_,_,h=>by cases h
 |(b',c')::r,b,c,h=>by
  simp only[lk]at h
  cases hq:Nat.beq b' b with
  |true=>
   rw[hq]at h
   have:=Nat.eq_of_beq_eq_true hq
   subst this
   simp at h;subst h;simp
  |false=>rw[hq]at h;exact List.mem_cons_of_mem _ (Ol r b c h)
theorem CX:∀(l:List Nat) (x:Nat),bT l x=true↔x∈l
 |[],x=>by simp[bT]
 |y::l,x=>by
  simp only[bT]
  cases hq:Nat.beq y x with
  |true=>have:=Nat.eq_of_beq_eq_true hq;subst this;simp
  |false=>
   have:x≠y:=fun e=>by subst e;simp at hq
   simp[CX l x,this]
theorem Yy {m:List (Nat×Nat)} {b c:Nat} (h:(b,c)∈m):b∈fa m:=by
 induction m with
 |nil=>cases h
 |cons x r ih=>
  obtain⟨b',c'⟩:=x
  rcases List.mem_cons.1 h with e|h
  ·cases e;simp[fa]
  ·simp[fa,ih h]
theorem Yz {m:List (Nat×Nat)} {b c:Nat} (h:(b,c)∈m):c∈kA m:=by
 induction m with
 |nil=>cases h
 |cons x r ih=>
  obtain⟨b',c'⟩:=x
  rcases List.mem_cons.1 h with e|h
  ·cases e;simp[kA]
  ·simp[kA,ih h]
theorem Oj:∀(m:List (Nat×Nat)) (b c:Nat),gj (fa m)=true->(b,c)∈m->lk m b=some c
 |[],_,_,_,h=>by cases h
 |(b',c')::r,b,c,hn,h=>by
  simp only[fa,gj,Bool.and_eq_true,Bool.not_eq_true']at hn
  simp only[lk]
  rcases List.mem_cons.1 h with e|h
  ·cases e;simp
  ·have:b'≠b:=fun e=>by
    subst e
    have:=(CX (fa r) b').2 (Yy h)
    rw[hn.1]at this;cases this
   rw[iA this];exact Oj r b c hn.2 h
theorem NZ:∀(m:List (Nat×Nat)) (b c:Nat),gj (kA m)=true->(b,c)∈m->dJ m c=some b
 |[],_,_,_,h=>by cases h
 |(b',c')::r,b,c,hn,h=>by
  simp only[kA,gj,Bool.and_eq_true,Bool.not_eq_true']at hn
  simp only[dJ]
  rcases List.mem_cons.1 h with e|h
  ·cases e;simp
  ·have:c'≠c:=fun e=>by
    subst e
    have:=(CX (kA r) c').2 (Yz h)
    rw[hn.1]at this;cases this
   rw[iA this];exact NZ r b c hn.2 h
theorem Is {ρ:Nat->Nat} {H:aa}:∀(Hc:aa),lh ρ H Hc->∀b o,lk Hc b=some o->lk H (ρ b)=some (dK ρ o)
 |[],_,_,_,h=>by cases h
 |(b',o')::r,hp,b,o,h=>by
  simp only[lk]at h
  cases hq:Nat.beq b' b with
  |true=>
   rw[hq]at h
   have:=Nat.eq_of_beq_eq_true hq
   subst this
   simp at h;subst h;exact hp.1
  |false=>rw[hq]at h;exact Is r hp.2 b o h
theorem Og:∀(H:aa) (b:Nat),(lk H b).isSome=bT (nu H) b
 |[],_=>rfl
 |(b',o)::r,b=>by
  simp only[lk,nu,bT]
  cases Nat.beq b' b with
  |true=>rfl
  |false=>simpa using Og r b
theorem Oh:∀(m:List (Nat×Nat)) (b:Nat),(lk m b).isSome=bT (fa m) b
 |[],_=>rfl
 |(b',o)::r,b=>by
  simp only[lk,fa,bT]
  cases Nat.beq b' b with
  |true=>rfl
  |false=>simpa using Oh r b
theorem HE {m:List (Nat×Nat)} {k:Nat}:∀(H1:aa) (c:Nat),c<k->lk (sN m k H1) c=none
 |[],_,_=>rfl
 |(b,o)::r,c,h=>by
  simp only[sN]
  cases lk m b with
  |some _=>exact HE r c h
  |none=>simp only[lk,iA (show k+b≠c by omega),cond_false];exact HE r c h
theorem Oi {m:List (Nat×Nat)} {k:Nat}:∀(H1:aa) (b:Nat),lk (sN m k H1) (k+b)=match lk m b with|some _=>none|none=>(lk H1 b).map (dK (br m k))
 |[],b=>by cases lk m b<;>rfl
 |(b',o)::r,b=>by
  have ih:=Oi (m:=m) (k:=k) r b
  simp only[sN]
  by_cases e:b'=b
  ·subst e
   cases hm:lk m b' with
   |some c=>rw[hm]at ih;simpa using ih
   |none=>simp[lk]
  ·cases wh:lk m b' with
   |some c=>
    simp only
    rw[ih]
    simp only[lk,iA e,cond_false]
   |none=>simp only[lk,iA e,iA (show k+b'≠k+b by omega),cond_false];exact ih
theorem HF {m:List (Nat×Nat)} {k:Nat} {H1:aa}:∀(H:aa) (c:Nat),lk (uO m k H1 H) c=match dJ m c with|none=>lk H c|some b=>match lk H c with|none=>none|some _=>(lk H1 b).map (dK (br m k))
 |[],c=>by cases dJ m c<;>rfl
 |(c',o)::r,c=>by
  have ih:=HF (m:=m) (k:=k) (H1:=H1) r c
  simp only[uO]
  by_cases e:c'=c
  ·subst e
   cases hi:dJ m c' with
   |none=>simp[lk]
   |some b=>
    rw[hi]at ih
    simp only at ih⊢
    cases U:lk H1 b with
    |some o1=>simp[lk]
    |none=>
     rw[U]at ih
     simp only[Option.map_none]at ih⊢
     rw[ih]
     cases lk r c'<;>simp[lk]
  ·have hl:lk ((c',o)::r) c=lk r c:=by simp only[lk,iA e,cond_false]
   rw[hl]
   cases wc:dJ m c' with
   |none=>simp only[lk,iA e,cond_false];exact ih
   |some b'=>
    simp only
    cases U:lk H1 b' with
    |some o1=>simp only[lk,iA e,cond_false];exact ih
    |none=>exact ih
theorem OJ:∀(m:List (Nat×Nat)) (H1:aa) (c:Nat),c∈cR H1 m↔∃b,(b,c)∈m/\lk H1 b=none
 |[],H1,c=>by simp[cR]
 |(b',c')::r,H1,c=>by
  have ih:=OJ r H1 c
  simp only[cR]
  cases h:lk H1 b' with
  |some o=>
   simp only
   rw[ih]
   constructor
   ·rintro⟨b,U,h2⟩;exact⟨b,List.mem_cons_of_mem _ U,h2⟩
   ·rintro⟨b,U,h2⟩
    rcases List.mem_cons.1 U with e|U
    ·cases e;rw[h]at h2;cases h2
    ·exact⟨b,U,h2⟩
  |none=>
   simp only[List.mem_cons]
   rw[ih]
   constructor
   ·rintro(rfl|⟨b,U,h2⟩)
    ·exact⟨b',.inl rfl,h⟩
    ·exact⟨b,.inr U,h2⟩
   ·rintro⟨b,U,h2⟩
    rcases U with e|U
    ·cases e;exact .inl rfl
    ·exact .inr ⟨b,U,h2⟩
def lZ (l:List Nat) (φ:ai):ai:=fun c=>bif bT l c then none else φ c
theorem Js (d:Nat) (l:List Nat) (φ:ai):lZ (d::l) φ=lZ l (gJ φ d):=by
 funext c
 simp only[lZ,bT,gJ]
 by_cases e:c=d
 ·subst e;simp
 ·rw[iA (Ne.symm e),if_neg e];rfl
theorem C7 {w:World} {I:Nat->Prop}:∀(l:List Nat) (φ:ai) (E:Env) (i:Nat) (x:AV),lk (jD l E) i=some x->∃y,lk E i=some y/\∀u,AV.den w φ I y u->AV.den w (lZ l φ) I x u
 |[],φ,E,i,x,h=>⟨x,h,fun _ h=>h⟩
 |d::l,φ,E,i,x,h=>by
  obtain⟨y,hy,iL⟩:=C7 (w:=w) (I:=I) l (gJ φ d) (killE d E) i x h
  obtain⟨z,hz,G8⟩:=pF (w:=w) (φ:=φ) (φ':=gJ φ d) (I:=I) (b:=d) (fun b' bF=>by simp[gJ,bF]) E i y hy
  exact⟨z,hz,fun u hu=>by rw[Js];exact iL u (G8 u hu)⟩
theorem O2 {w:World} {I:Nat->Prop} {b:Nat} {el:Sh} {cs:List AV} {us:List Value} {H:aa}:∀(l:List Nat) (φ:ai),lg l H=true->lk H b=some (.var el cs)->AV.ab w φ I cs us->AV.ab w (lZ l φ) I cs us
 |[],_,_,_,h=>h
 |d::l,φ,hn,hl,h=>by
  simp only[lg,Bool.and_eq_true]at hn
  rw[Js]
  exact O2 l _ hn.2 hl (AV.oE (fun b' bF=>by simp[gJ,bF]) cs us (uM H hn.1 b el cs hl) h)
theorem O1 {w:World} {I:Nat->Prop} {b:Nat} {l0 n:Nat} {st:iq} {fn:Func} {q:List Nat} {ps:List Tmp} {E:Env} {i:Nat} {x:AV} {u:Value} {H:aa}:∀(l:List Nat) (φ:ai),lg l H=true->lk H b=some (.lp l0 n st fn q ps E)->lk E i=some x->AV.den w φ I x u->AV.den w (lZ l φ) I x u
 |[],_,_,_,_,h=>h
 |d::l,φ,hn,hl,hx,h=>by
  simp only[lg,Bool.and_eq_true]at hn
  rw[Js]
  exact O1 l _ hn.2 hl hx (AV.qT (fun b' bF=>by simp[gJ,bF]) x u (Dj E (Dp H hn.1 b l0 n st fn q ps E hl) i x hx) h)
theorem C_ {m:List (Nat×Nat)}:∀(H:aa) (c:Nat),dJ m c=none->lk (en m H) c=lk H c
 |[],_,_=>rfl
 |(c',o)::r,c,h=>by
  simp only[en]
  by_cases e:c'=c
  ·subst e;rw[h];simp[lk]
  ·have hl:lk ((c',o)::r) c=lk r c:=by simp only[lk,iA e,cond_false]
   rw[hl]
   cases dJ m c' with
   |none=>simp only[lk,iA e,cond_false];exact C_ r c h
   |some b=>exact C_ r c h
structure Hand (m:List (Nat×Nat)) (k:Nat) (H Hc:aa):Prop where
 keys:fa m=nu Hc
 nk:gj (fa m)=true
 nv:gj (kA m)=true
 pass:lh (br m k) H Hc
 fresh:∀b o,lk H b=some o->b<k
section
variable {B:Bs} {φ a_:ai} {I I1:Nat->Prop} {H H1 Hc:aa} {w w1:World} {m:List (Nat×Nat)} {k:Nat}
theorem pQ {b c:Nat} (h:lk m b=some c):br m k b=c:=by simp[br,h]
theorem xd {b:Nat} (h:lk m b=none):br m k b=k+b:=by simp[br,h]
theorem Hand.bj (h:Hand m k H Hc) (b:Nat):(lk m b).isSome=(lk Hc b).isSome:=by rw[Oh,Og,h.keys]
theorem Hand.get (h:Hand m k H Hc) {b c:Nat} (hb:lk m b=some c):∃o,lk Hc b=some o/\lk H c=some (dK (br m k) o):=by
 have:=h.bj b
 rw[hb]at this
 cases hq:lk Hc b with
 |none=>rw[hq]at this;cases this
 |some o=>
  have h2:=Is Hc h.pass b o hq
  rw[pQ hb]at h2
  exact⟨o,rfl,h2⟩
theorem Hand.Je (h:Hand m k H Hc) {b c:Nat} (hb:lk m b=some c):c<k:=by
 obtain⟨o,_,h2⟩:=h.get hb
 exact h.fresh _ _ h2
theorem Hand.CZ (h:Hand m k H Hc) {b c:Nat} (hb:lk m b=some c):dJ m c=some b:=NZ m b c h.nv (Ol m b c hb)
theorem Hand.wG (h:Hand m k H Hc) {b c:Nat} (hb:dJ m c=some b):lk m b=some c:=Oj m b c h.nk (He m b c hb)
theorem Hand.NY (h:Hand m k H Hc) (b:Nat):dJ m (k+b)=none:=by
 cases hq:dJ m (k+b)with
 |none=>rfl
 |some x=>have:=h.Je (h.wG hq);omega
theorem Hand.inj (h:Hand m k H Hc) {b b':Nat} (e:br m k b=br m k b'):b=b':=by
 cases U:lk m b with
 |some c=>
  rw[pQ U]at e
  cases h2:lk m b' with
  |some c'=>
   rw[pQ h2]at e
   subst e
   have:=h.CZ U
   rw[h.CZ h2]at this
   cases this;rfl
  |none=>rw[xd h2]at e;have:=h.Je U;omega
 |none=>
  rw[xd U]at e
  cases h2:lk m b' with
  |some c'=>rw[pQ h2]at e;have:=h.Je h2;omega
  |none=>rw[xd h2]at e;omega
theorem Hand.out (h:Hand m k H Hc) (hS:St B φ I H w) {b:Nat} (hb:lk m b=none):φ (br m k b)=none:=by
 rw[xd hb]
 refine hS.HJ ?_
 cases hq:lk H (k+b)with
 |none=>rfl
 |some o=>have:=h.fresh _ _ hq;omega
theorem Hand.real (h:Hand m k H Hc) (hS:St B φ I H w):Real w (fun b=>φ (br m k b)) I Hc:=by
 refine⟨fun b=>?_,fun b o p hl hp=>?_,fun b g hp=>hS.real.off _ g hp,fun b b' g U h2=>h.inj (hS.real.inj _ _ g U h2),hS.real.bM⟩
 ·rw[<-h.bj b]
  cases hm:lk m b with
  |none=>show(φ (br m k b)).isSome=_;rw[h.out hS hm];rfl
  |some c=>
   obtain⟨o,_,h2⟩:=h.get hm
   show(φ (br m k b)).isSome=_
   rw[pQ hm,hS.real.bj c,h2];rfl
 ·have h2:=Is Hc h.pass b o hl
  exact ZL (ρ:=br m k) (φ':=φ) (fun _=>rfl) (hS.real.own _ _ p h2 hp)
def ik (m:List (Nat×Nat)) (k:Nat) (φ a_:ai):ai:=fun c=>match dJ m c with
 |some b=>a_ b
 |none=>if c<k then φ c else match lk m (c-k)with
  |some _=>none
  |none=>a_ (c-k)
theorem vb {c b:Nat} (h:dJ m c=some b):ik m k φ a_ c=a_ b:=by simp[ik,h]
theorem AJ {c:Nat} (h:dJ m c=none) (hc:c<k):ik m k φ a_ c=φ c:=by simp[ik,h,hc]
theorem Hand.Ei (h:Hand m k H Hc) (b:Nat):ik m k φ a_ (k+b)=match lk m b with|some _=>none|none=>a_ b:=by
 have:¬k+b<k:=by omega
 simp only[ik,h.NY b,if_neg this,Nat.add_sub_cancel_left]
theorem Hand.cls (h:Hand m k H Hc) {c:Nat} {p:Option Nat} (hp:ik m k φ a_ c=some p):(dJ m c=none/\c<k/\φ c=some p)\/∃b,c=br m k b/\a_ b=some p:=by
 cases hi:dJ m c with
 |some b=>
  rw[vb hi]at hp
  exact .inr ⟨b,(pQ (h.wG hi)).symm,hp⟩
 |none=>
  rcases Nat.lt_or_ge c k with hc|hc
  ·rw[AJ hi hc]at hp;exact .inl ⟨rfl,hc,hp⟩
  ·obtain⟨b,rfl⟩:∃b,c=k+b:=⟨c-k,by omega⟩
   rw[h.Ei b]at hp
   cases hm:lk m b with
   |some _=>rw[hm]at hp;cases hp
   |none=>rw[hm]at hp;exact .inr ⟨b,(xd hm).symm,hp⟩
theorem Hand.fwd (h:Hand m k H Hc) {b:Nat} {p:Option Nat} (hp:a_ b=some p):ik m k φ a_ (br m k b)=some p:=by
 cases hm:lk m b with
 |some c=>rw[pQ hm,vb (h.CZ hm)];exact hp
 |none=>rw[xd hm,h.Ei b,hm];exact hp
theorem Hand.Da (h:Hand m k H Hc) {c:Nat} (hc:c<k):lk (h_ m k H H1) c=match dJ m c with|none=>lk H c|some b=>(lk H1 b).map (dK (br m k)):=by
 unfold h_
 rw[zY,HE H1 c hc,HF]
 simp only
 cases hi:dJ m c with
 |none=>rfl
 |some b=>
  obtain⟨o,_,h2⟩:=h.get (h.wG hi)
  simp only[h2]
theorem Hand.HD (h:Hand m k H Hc) (b:Nat):lk (h_ m k H H1) (k+b)=match lk m b with|some _=>none|none=>(lk H1 b).map (dK (br m k)):=by
 have hf:lk H (k+b)=none:=by
  cases hq:lk H (k+b)with
  |none=>rfl
  |some o=>have:=h.fresh _ _ hq;omega
 unfold h_
 rw[zY,Oi,HF,h.NY b,hf]
 cases lk m b with
 |some _=>rfl
 |none=>simp only;cases lk H1 b<;>rfl
theorem Hand.after (h:Hand m k H Hc) (na:B.nb<=k) (hS:St B φ I H w) (U:St ⟨w,cN (fun b=>φ (br m k b)),I,fun b=>φ (br m k b),bB Hc⟩ a_ I1 H1 w1) (hd:lg (cR H1 m) (en m H)=true):
  St B (ik m k φ a_) I1 (h_ m k H H1) w1/\(∀c p,lZ (cR H1 m) φ c=some p->ik m k φ a_ c=some p)/\(∀g,I g->w1.heap[g]?=w.heap[g]?)/\(∀g,I g->I1 g)/\(∀c g n,lZ (cR H1 m) φ c=some (some g)->shaped w g n->shaped w1 g n):=by
 have ml:∀g,I g->¬cN (fun b=>φ (br m k b)) g:=fun g hg ⟨b,hb⟩=>(hS.real.off _ g hb).1 hg
 have Cu:∀g,I g->w1.heap[g]?=w.heap[g]?:=fun g hg=>U.ext.b_ g (hS.real.bM g hg) (ml g hg)
 have dC:∀{b:Nat} {p:Option Nat},φ (br m k b)=some p->∃c,lk m b=some c:=fun{b p} hp=>by
  cases hm:lk m b with
  |some c=>exact⟨c,rfl⟩
  |none=>rw[h.out hS hm]at hp;cases hp
 have qD:∀{c g:Nat},dJ m c=none->φ c=some (some g)->¬cN (fun b=>φ (br m k b)) g:=fun{c g} hi hc ⟨b,hb⟩=>by
  obtain⟨c',hm⟩:=dC hb
  simp only[pQ hm]at hb
  have:=hS.real.inj _ _ g hc hb
  subst this
  rw[h.CZ hm]at hi;cases hi
 have ag:∀{c:Nat} {p:Option Nat},φ c=some p->c<k:=fun{c p} hc=>by
  have:=hS.real.bj c
  rw[hc]at this
  cases hq:lk H c with
  |none=>rw[hq]at this;cases this
  |some o=>exact h.fresh c o hq
 have MY:∀{b c:Nat},lk m b=some c->b<bB Hc:=fun{b c} hb=>by
  obtain⟨o,ho,_⟩:=h.get hb
  exact bU Hc b o ho
 have BN:∀c p,lZ (cR H1 m) φ c=some p->ik m k φ a_ c=some p:=fun c p hc=>by
  have tU:bT (cR H1 m) c=false:=by
   cases hq:bT (cR H1 m) c with
   |false=>rfl
   |true=>simp[lZ,hq]at hc
  have dU:φ c=some p:=by simpa[lZ,tU]using hc
  cases hi:dJ m c with
  |none=>rw[AJ hi (ag dU)];exact dU
  |some b=>
   have hm:=h.wG hi
   rw[vb hi]
   cases hl:lk H1 b with
   |none=>
    have:=(CX (cR H1 m) c).2 ((OJ m H1 c).2 ⟨b,He m b c hi,hl⟩)
    rw[tU]at this;cases this
   |some o=>exact U.cE b p o (MY hm) (by show φ (br m k b)=_;rw[pQ hm];exact dU) hl
 have cK:∀c g n,lZ (cR H1 m) φ c=some (some g)->shaped w g n->shaped w1 g n:=fun c g n hc hs=>by
  have tU:bT (cR H1 m) c=false:=by
   cases hq:bT (cR H1 m) c with
   |false=>rfl
   |true=>simp[lZ,hq]at hc
  have dU:φ c=some (some g):=by simpa[lZ,tU]using hc
  cases hi:dJ m c with
  |none=>exact U.ext.shaped (qD hi dU) hs
  |some b=>
   have dq:=BN c _ hc
   rw[vb hi]at dq
   obtain⟨cc,ee,jt,hn⟩:=hs
   obtain⟨c',jU,h2,h3⟩:=U.ext.form g cc ee _ jt
   have mf:=U.real.bj b
   rw[dq]at mf
   cases hl:lk H1 b with
   |none=>rw[hl]at mf;cases mf
   |some o=>
    have aP:=U.real.own b o _ hl dq
    have rV:jU=(0,0):=by
     cases o with
     |var e cs=>
      simp only[Ob.at]at aP
      obtain⟨g',us,bO,h4,_⟩:=aP
      cases bO
      exact h4.fz h2
     |vec e es rows=>
      simp only[Ob.at]at aP
      rcases aP with⟨h5,_⟩|⟨g',ae,rest,bO,h4,_⟩
      ·cases h5
      ·cases bO;rw[h2]at h4;cases h4;rfl
     |lp l n st fn q ps E=>
      simp only[Ob.at]at aP
      obtain⟨h0,T,D,cf,_,h4,_⟩:=aP
      cases h0;rw[h2]at h4;cases h4
    subst rV
    exact⟨c',ee,h2,by rw[h3];exact hn⟩
 refine⟨⟨⟨fun c=>?_,fun c o p hl hp=>?_,fun c g hp=>?_,fun c1 c2 g dq ej=>?_,U.real.bM⟩,hS.ext.trans U.ext (fun g ⟨b,hb⟩=>hS.b9 _ g hb),fun c g hp=>?_,fun g hg=>?_,fun g hg=>U.cj g (hS.cj g hg),fun c p o hc h0 hl=>?_⟩,BN,Cu,U.cj,cK⟩
 ·rcases Nat.lt_or_ge c k with hc|hc
  ·rw[h.Da hc]
   cases hi:dJ m c with
   |none=>rw[AJ hi hc];exact hS.real.bj c
   |some b=>rw[vb hi,U.real.bj b];simp
  ·obtain⟨b,rfl⟩:∃b,c=k+b:=⟨c-k,by omega⟩
   rw[h.HD b,h.Ei b]
   cases hm:lk m b with
   |some _=>rfl
   |none=>simp only;rw[U.real.bj b];simp
 ·rcases Nat.lt_or_ge c k with hc|hc
  ·rw[h.Da hc]at hl
   cases hi:dJ m c with
   |none=>
    rw[hi]at hl
    rw[AJ hi hc]at hp
    have ba:=hS.real.own c o p hl hp
    have jy:∀g,p=some g->w1.heap[g]?=w.heap[g]?:=fun g hg=>by
     subst hg
     exact U.ext.b_ g (hS.real.off c g hp).2 (qD hi hp)
    cases o with
    |var e cs=>
     simp only[Ob.at]at ba⊢
     obtain⟨g,us,rfl,h2,h3,h4⟩:=ba
     refine⟨g,us,rfl,h2.b_ (jy g rfl),?_,h4⟩
     have h5:=O2 (H:=en m H) (b:=c) (el:=e) _ φ hd (by rw[C_ H c hi];exact hl) h3
     exact AV.fb Cu U.cj BN cK cs us h5
    |vec e es rows=>
     simp only[Ob.at]at ba⊢
     rcases ba with h'|⟨g,ae,rest,rfl,h2,h3,h4⟩
     ·exact .inl h'
     ·exact .inr ⟨g,ae,rest,rfl,(jy g rfl).trans h2,IV.iD Cu U.cj rows ae h3,h4⟩
    |lp l n st fn q ps E=>
     simp only[Ob.at]at ba⊢
     obtain⟨rfl,T,D,cf,h2,h3,h4⟩:=ba
     refine⟨rfl,T,D,cf,h2,(jy l rfl).trans h3,fun i x hx=>?_⟩
     obtain⟨u,hu,mg⟩:=h4 i x hx
     exact⟨u,hu,AV.jO Cu U.cj BN cK x u (O1 (H:=en m H) (b:=c) _ φ hd (by rw[C_ H c hi];exact hl) hx mg)⟩
   |some b=>
    rw[hi]at hl
    simp only at hl
    rw[vb hi]at hp
    cases hq:lk H1 b with
    |none=>rw[hq]at hl;cases hl
    |some o1=>rw[hq]at hl;cases hl;exact DI (fun b p hb=>h.fwd hb) (U.real.own b o1 p hq hp)
  ·obtain⟨b,rfl⟩:∃b,c=k+b:=⟨c-k,by omega⟩
   rw[h.HD b]at hl
   rw[h.Ei b]at hp
   cases hm:lk m b with
   |some _=>rw[hm]at hl;cases hl
   |none=>
    rw[hm]at hl hp
    simp only at hl hp
    cases hq:lk H1 b with
    |none=>rw[hq]at hl;cases hl
    |some o1=>rw[hq]at hl;cases hl;exact DI (fun b p hb=>h.fwd hb) (U.real.own b o1 p hq hp)
 ·rcases h.cls hp with⟨hi,hc,bH⟩|⟨b,rfl,bH⟩
  ·have ho:=hS.real.off c g bH
   refine⟨fun hg=>?_,Nat.lt_of_lt_of_le ho.2 U.ext.size⟩
   rcases U.cZ g hg with h2|h2|h2
   ·exact ho.1 h2
   ·exact qD hi bH h2
   ·have:=ho.2;have:w.heap.size<=g:=h2;omega
  ·exact U.real.off b g bH
 ·have mix:∀{c1 b2:Nat},dJ m c1=none->φ c1=some (some g)->a_ b2=some (some g)->False:=fun{c1 b2} hi pz ur=>by
   rcases U.b9 b2 g ur with h2|h2
   ·exact qD hi pz h2
   ·have:=(hS.real.off c1 g pz).2;have:w.heap.size<=g:=h2;omega
  rcases h.cls dq with⟨V5,vY,pz⟩|⟨b1,rfl,pz⟩<;>rcases h.cls ej with⟨rW,v7,ur⟩|⟨b2,rfl,ur⟩
  ·exact hS.real.inj _ _ g pz ur
  ·exact(mix V5 pz ur).elim
  ·exact(mix rW ur pz).elim
  ·rw[U.real.inj _ _ g pz ur]
 ·rcases h.cls hp with⟨hi,hc,bH⟩|⟨b,rfl,bH⟩
  ·exact hS.b9 c g bH
  ·rcases U.b9 b g bH with⟨b',bF⟩|h2
   ·exact hS.b9 _ g bF
   ·exact .inr (Nat.le_trans hS.ext.size h2)
 ·rcases U.cZ g hg with h2|⟨b',bF⟩|h2
  ·exact hS.cZ g h2
  ·exact .inr (hS.b9 _ g bF)
  ·exact .inr (.inr (Nat.le_trans hS.ext.size h2))
 ·have iZ:c<k:=Nat.lt_of_lt_of_le hc na
  rw[h.Da iZ]at hl
  cases hi:dJ m c with
  |none=>rw[hi]at hl;rw[AJ hi iZ];exact hS.cE c p o hc h0 hl
  |some b=>
   rw[hi]at hl
   simp only at hl
   have hm:=h.wG hi
   obtain⟨o',_,Gh⟩:=h.get hm
   have WG:=hS.cE c p _ hc h0 Gh
   rw[vb hi]
   cases hq:lk H1 b with
   |none=>rw[hq]at hl;cases hl
   |some o1=>exact U.cE b p o1 (MY hm) (by show φ (br m k b)=_;rw[pQ hm];exact WG) hq
end
section
variable {C:Cx} {K:List PK} {E:Env} {H:aa}
theorem Du {f:FuncId} {eA us xs:Array Value} {P:Program} {w:World} {t:TypeId} (tZ:enters P f=true):
  (do let d<-Deferred.ofValue (.func (.func f) eA us) xs;invoke d.target d.args:Sem Next).run P w= .ok (.enter f (eA++xs++us).toList.toArray) w:=by
 simp only[Deferred.ofValue,Sem.run_bind,Sem.run_pure,Result.andThen_ok,invoke,Array.toArray_toList]
 rw[xi tZ]
theorem AQ.nQ (m:List (Nat×Nat)) {ds:List (Nat×Nat)} {i:Nat} {d:Option Nat} {ty:TypeId} {pos:String} {af:Array Edge} {os:List Oper} {bo:Operand} {f:FuncId} {fs aF:List AV} {xs:List Operand} {aZ:Array TypeId} {l gS:List AV} {Hc:aa} {R:AV->aa->Prop}
  (ah:a7 C.n ({dst:=d,op:= .call {callee:= .value bo,args:=xs.toArray,argTypes:=aZ},type:=ty,pos:=pos,after:=af,guard:=none}::os)=true)
  (fc:ev E bo=some (.fn f fs aF)) (hl:dT E xs=some l) (dG:gs l=true)
  (lM:fa m=nu Hc) (jZ:gj (fa m)=true) (lO:gj (kA m)=true) (lP:lh (br m (au C.B.nb H)) H Hc)
  (de:AV.cO (br m (au C.B.nb H)) gS=fs++l.map AV.st++aF) (hc:ao C.P f gS Hc R)
  (h:∀r H1,R r H1->lg (cR H1 m) (en m H)=true/\AQ C (aW d i ds) (i+1) os K (aY d (AV.rn (br m (au C.B.nb H)) r) (jD (cR H1 m) E)) (h_ m (au C.B.nb H) H H1)):
  AQ C ds i ({dst:=d,op:= .call {callee:= .value bo,args:=xs.toArray,argTypes:=aZ},type:=ty,pos:=pos,after:=af,guard:=none}::os) K E H:=by
 obtain⟨hd,bX⟩:=dM ah
 generalize hk:au C.B.nb H=k at*
 have hH:Hand m k H Hc:=⟨lM,jZ,lO,lP,fun b o hb=>by have:=bU H b o hb;have:=(dh C.B.nb H).2;omega⟩
 have bl:=h
 unfold AQ at bl⊢
 refine AO.step (o:={dst:=d,op:= .call {callee:= .value bo,args:=xs.toArray,argTypes:=aZ},type:=ty,pos:=pos,after:=af,guard:=none}) fun ops φ I a w aQ _ hs Kn bE=>?_
 have hw:Region.wanted {dst:=d,op:= .call {callee:= .value bo,args:=xs.toArray,argTypes:=aZ},type:=ty,pos:=pos,after:=af,guard:=none} (yielded ops a.tmps)=true:=by simp[Region.wanted]
 rw[if_pos hw]
 have fe:=aH hs.env fc
 simp only[AV.den]at fe
 obtain⟨eA,us,mY,dI,n6⟩:=fe
 have aS:AV.ab w φ I (fs++l.map AV.st++aF) (eA++xs.map a.eval++us):=mN _ _ _ _ (mN _ _ _ _ mY (mU hs.env _ _ hl dG)) dI
 rw[<-de]at aS
 have yX:=AV.q6 (ρ:=br m k) (φ:=fun b=>φ (br m k b)) (fun _=>rfl) _ _ aS
 have aB:(execOp a.eval {dst:=d,op:= .call {callee:= .value bo,args:=xs.toArray,argTypes:=aZ},type:=ty,pos:=pos,after:=af,guard:=none}).run C.P w= .ok (.enter f (eA++xs.map a.eval++us).toArray) w:=by
  have:execOp a.eval {dst:=d,op:= .call {callee:= .value bo,args:=xs.toArray,argTypes:=aZ},type:=ty,pos:=pos,after:=af,guard:=none}=(do let d<-Deferred.ofValue (a.eval bo) (xs.toArray.map a.eval);invoke d.target d.args):=rfl
  rw[this,n6,Du (t:=ty) hc.gv]
  simp
 unfold Oper.wp
 rw[aB,Oper.upon_enter]
 refine(hc.run w (fun b=>φ (br m k b)) I _ yX (hH.real hs.st) hs.st.vk).mono fun e w' ⟨r,H1,a_,I1,v,hr,he,a8,hS⟩=>?_
 subst he
 obtain⟨e_,i_⟩:=bl r H1 hr
 obtain⟨lG,hf,ju,hI,cK⟩:=hH.after (by have:=(dh C.B.nb H).1;omega) hs.st hS e_
 refine bE _ _ (ik m k φ a_) I1 _ _ i_ ?_
 have gD:bt C (ik m k φ a_) I1 (jD (cR H1 m) E) (h_ m k H H1) a w':=by
  refine⟨hs.bD.mono ju hI,hs.bA,fun j x hx=>?_,lG⟩
  obtain⟨y,hy,iL⟩:=C7 (w:=w) (I:=I) _ φ E j x hx
  obtain⟨u,hu,hd⟩:=hs.env j y hy
  exact⟨u,hu,AV.jO ju hI hf cK x u (iL u hd)⟩
 exact gD.put lG (bC.refl w' (ik m k φ a_) I1) hd (AV.uV (φ':=ik m k φ a_) (fun b p hb=>hH.fwd (φ:=φ) hb) r v a8)
where
 mN {w:World} {φ:ai} {I:Nat->Prop}:∀(xs ys:List AV) (us vs:List Value),AV.ab w φ I xs us->AV.ab w φ I ys vs->AV.ab w φ I (xs++ys) (us++vs)
  |[],ys,us,vs,U,h2=>by simp only[AV.ab]at U;subst U;simpa using h2
  |x::xs,ys,us,vs,U,h2=>by
   simp only[AV.ab]at U
   obtain⟨u,ak,rfl,h3,h4⟩:=U
   simp only[List.cons_append,AV.ab]
   exact⟨u,_,rfl,h3,mN xs ys ak vs h4 h2⟩
theorem AQ.bR (m:List (Nat×Nat)) {ds:List (Nat×Nat)} {i:Nat} {d:Option Nat} {ty:TypeId} {pos:String} {af:Array Edge} {os:List Oper} {bo:Operand} {f:FuncId} {fs aF:List AV} {xs:List Operand} {aZ:Array TypeId} {l gS:List AV} {Hc:aa} {R:AV->aa->Prop}
  (ah:a7 C.n ({dst:=d,op:= .call {callee:= .value bo,args:=xs.toArray,argTypes:=aZ},type:=ty,pos:=pos,after:=af,guard:=none}::os)=true)
  (fc:ev E bo=some (.fn f fs aF)) (hl:dT E xs=some l) (dG:gs l=true)
  (lM:fa m=nu Hc) (jZ:gj (fa m)=true) (lO:gj (kA m)=true) (lP:lh (br m (au C.B.nb H)) H Hc)
  (de:AV.cO (br m (au C.B.nb H)) gS=fs++l.map AV.st++aF) (hc:ao C.P f gS Hc R)
  (h:∀r H1,R r H1->lg (cR H1 m) (en m H)=true/\vq C K os (aW d i ds) (i+1) (aY d (AV.rn (br m (au C.B.nb H)) r) (jD (cR H1 m) E)) (h_ m (au C.B.nb H) H H1)):
  AQ C ds i ({dst:=d,op:= .call {callee:= .value bo,args:=xs.toArray,argTypes:=aZ},type:=ty,pos:=pos,after:=af,guard:=none}::os) K E H:=
 AQ.nQ m ah fc hl dG lM jZ lO lP de hc fun r H1 hr=>⟨(h r H1 hr).1,AQ.go (dM ah).2 (h r H1 hr).2⟩
end
attribute [go_sem] br dJ fa kA nu gj lh cR en sN uO h_ jD lg
def dB (l:List UInt8):List (List IV):=l.map fun b=>[.v (.int .u8 b.toNat)]
theorem oW (l:List UInt8):(dB l).length=l.length:=by simp[dB]
theorem yf {w:World} {I:Nat->Prop}:∀(l:List UInt8),IV.aE w I (dB l) (l.map fun b=>[Value.int .u8 b.toNat])
 |[]=>by simp[dB,IV.aE]
 |b::l=>by
  have ih:=yf (w:=w) (I:=I) l
  simp only[dB,List.map_cons,IV.aE,IV.ab,IV.den]at ih⊢
  exact⟨_,_,rfl,⟨_,_,rfl,⟨rfl,rfl⟩,rfl⟩,ih⟩
theorem Ke (l:List UInt8):(l.map fun b=>[Value.int .u8 b.toNat]).flatten=l.map fun b=>Value.int .u8 b.toNat:=by
 induction l with
 |nil=>rfl
 |cons b l ih=>simp only[List.map_cons,List.flatten_cons,ih];rfl
theorem St.OS {B:Bs} {φ:ai} {I:Nat->Prop} {H:aa} {w w':World} (h:St B φ I H w) (aO:w'.heap.size=w.heap.size+1) (hold:∀g,g<w.heap.size->w'.heap[g]?=w.heap[g]?)
  (uo:w'.os=w.os) (ht:w'.os=w.os) (uq:w'.output=w.output):
  St B φ (fun g=>I g\/g=w.heap.size) H w'/\bC w φ I w' φ (fun g=>I g\/g=w.heap.size):=by
 have hx:Ext (fun _=>False) w w':=⟨by omega,fun g hg _=>hold g hg,fun g c e fz hc=>⟨c,fz,(hold g (by
   rcases Nat.lt_or_ge g w.heap.size with h'|h'
   ·exact h'
   ·rw[Array.getElem?_eq_none h']at hc;cases hc)).trans hc,rfl⟩,uo,ht,uq⟩
 have k:bC w φ I w' φ (fun g=>I g\/g=w.heap.size):=
  ⟨fun g hg=>hold g (h.real.bM g hg),fun _ h=> .inl h,fun _ _ h=>h,fun _ g n _ hs=>hx.shaped (fun h=>h) hs⟩
 refine⟨⟨⟨h.real.bj,fun b' o' p hl hp=>?_,fun b' g hp=>?_,h.real.inj,fun g hg=>?_⟩,h.ext.trans hx (fun g hf=>hf.elim),h.b9,fun g hg=>?_,fun g hg=> .inl (h.cj g hg),h.cE⟩,k⟩
 ·refine Ob.kF k.im k.I k.phi k.sh (fun g hg=>?_) (h.real.own b' o' p hl hp)
  subst hg
  exact hold g (h.real.off b' g hp).2
 ·have:=h.real.off b' g hp
  exact⟨fun hi=>hi.elim this.1 (by omega),by omega⟩
 ·rcases hg with hg|rfl
  ·have:=h.real.bM g hg;omega
  ·omega
 ·rcases hg with hg|rfl
  ·exact h.cZ g hg
  ·exact .inr (.inr h.ext.size)
theorem St.outside {B:Bs} {φ:ai} {I:Nat->Prop} {H:aa} {w w':World} (h:St B φ I H w) {g0:Nat} (hI:¬I g0) (ax:∀b,φ b≠some (some g0)) (ho:B.own g0\/B.w0.heap.size<=g0) (ag:g0<w.heap.size)
  (aO:w'.heap.size=w.heap.size) (hold:∀g,g≠g0->w'.heap[g]?=w.heap[g]?) (hf:∀c e fz,w.heap[g0]?=some (.cells c e fz)->∃jU,w'.heap[g0]?=some (.cells c e jU))
  (uo:w'.os=w.os) (ht:w'.os=w.os) (uq:w'.output=w.output):
  St B φ (fun g=>I g\/g=g0) H w'/\bC w φ I w' φ (fun g=>I g\/g=g0):=by
 have hx:Ext (fun g=>g=g0) w w':=⟨by omega,fun g hg hn=>hold g hn,fun g c e fz hc=>by
   by_cases e1:g=g0
   ·subst e1;obtain⟨jU,h2⟩:=hf c e fz hc;exact⟨c,jU,h2,rfl⟩
   ·exact⟨c,fz,(hold g e1).trans hc,rfl⟩,uo,ht,uq⟩
 have k:bC w φ I w' φ (fun g=>I g\/g=g0):=
  ⟨fun g hg=>hold g (fun e=>by subst e;exact hI hg),fun _ h=> .inl h,fun _ _ h=>h,fun b g n hb hs=>hx.shaped (fun e=>by subst e;exact ax b hb) hs⟩
 refine⟨⟨⟨h.real.bj,fun b' o' p hl hp=>?_,fun b' g hp=>?_,h.real.inj,fun g hg=>?_⟩,h.ext.trans hx (fun g hg=>by subst hg;exact ho),h.b9,fun g hg=>?_,fun g hg=> .inl (h.cj g hg),h.cE⟩,k⟩
 ·refine Ob.kF k.im k.I k.phi k.sh (fun g hg=>?_) (h.real.own b' o' p hl hp)
  subst hg
  exact hold g (fun e=>by subst e;exact ax b' hp)
 ·have:=h.real.off b' g hp
  refine⟨fun hi=>hi.elim this.1 (fun e=>by subst e;exact ax b' hp),by omega⟩
 ·rcases hg with hg|rfl
  ·have:=h.real.bM g hg;omega
  ·omega
 ·rcases hg with hg|rfl
  ·exact h.cZ g hg
  ·exact .inr ho
theorem Ub (w:World) (a:Addr) (n:Nat):(w.freeze a n).heap.size=w.heap.size:=by unfold World.freeze;split<;>simp
theorem Lx (w:World) (a:Addr) (n g:Nat) (h:g≠a.block):(w.freeze a n).heap[g]?=w.heap[g]?:=by
 unfold World.freeze
 split
 ·rfl
 ·simp only[Array.getElem?_modify,if_neg (Ne.symm h)]
theorem Ly (w:World) (a:Addr) (n:Nat) (c:Array Value) (e:TypeId) (fz:Nat×Nat) (h:w.heap[a.block]?=some (.cells c e fz)):∃jU,(w.freeze a n).heap[a.block]?=some (.cells c e jU):=by
 unfold World.freeze
 split
 ·exact⟨fz,h⟩
 ·simp only[Array.getElem?_modify,if_true,h,Option.map_some]
  exact⟨_,rfl⟩
section
variable {C:Cx} {K:List PK} {E:Env} {H:aa}
theorem AQ.Z1 {ds:List (Nat×Nat)} {i:Nat} {d:Option Nat} {ty s dt e:TypeId} {x:Operand} {pos:String} {af:Array Edge} {os:List Oper} {l:List UInt8}
  (ah:a7 C.n ({dst:=d,op:= .convert s dt x,type:=ty,pos:=pos,after:=af,guard:=none}::os)=true)
  (hx:ev E x=some (Sv l)) (hs:(C.P.underlying s).isSome=true) (hd:tk C.P dt= .slice e) (he:tk C.P e= .int .u8)
  (h:vq C K os (aW d i ds) (i+1) (aY d (.im (.sl 1 (dB l))) E) H):
  AQ C ds i ({dst:=d,op:= .convert s dt x,type:=ty,pos:=pos,after:=af,guard:=none}::os) K E H:=by
 obtain⟨ff,bX⟩:=dM ah
 have bl:=AQ.go bX h
 unfold AQ at bl⊢
 refine AO.step (o:={dst:=d,op:= .convert s dt x,type:=ty,pos:=pos,after:=af,guard:=none}) fun ops φ I a w aQ _ kY Kn bE=>?_
 have hw:Region.wanted {dst:=d,op:= .convert s dt x,type:=ty,pos:=pos,after:=af,guard:=none} (yielded ops a.tmps)=true:=by simp[Region.wanted]
 rw[if_pos hw]
 have hv:=aH kY.env hx
 rw[ma]at hv
 obtain⟨su,wy⟩:=Option.isSome_iff_exists.1 hs
 have aB:=Lib.run_convert_string_bytes (P:=C.P) w s dt e (BA l) wy (eU hd) (u4 he)
 have hex:(execOp a.eval {dst:=d,op:= .convert s dt x,type:=ty,pos:=pos,after:=af,guard:=none}).run C.P w= .ok (.value (.slice (some ⟨w.heap.size,0,none⟩) (BA l).size (grownCap w (BA l).size 0 e))) (Lib.bytesWorld w e (BA l)):=by
  simp only[execOp,hv,Sem.run_bind,aB,Result.andThen_ok,Sem.run_pure]
 unfold Oper.wp
 rw[hex,Oper.upon_value]
 have aO:=Lib.bytesWorld_size w e (BA l)
 have py:∀{W:World} {a:Addr} {n:Nat},(W.freeze a n).os=W.os/\(W.freeze a n).tape=W.tape/\(W.freeze a n).output=W.output:=fun{W a n}=>by unfold World.freeze;split<;>exact⟨rfl,rfl,rfl⟩
 obtain⟨hS,hk⟩:=kY.st.OS (w':=Lib.bytesWorld w e (BA l)) aO (fun g hg=>Lib.bytesWorld_at_old w e (BA l) g hg)
  (by unfold Lib.bytesWorld;rw[py.1];rfl) (by unfold Lib.bytesWorld;rw[py.1];rfl) (by unfold Lib.bytesWorld;rw[py.2.2];rfl)
 refine bE _ _ φ _ _ _ bl (kY.put hS hk ff ?_)
 simp only[AV.den,IV.den]
 refine⟨_,_,l.map fun b=>[Value.int .u8 b.toNat],by rw[oW];rfl,by rw[oW];have:=grownCap_ge w (BA l).size 0 e;rw[Ej]at this⊢;exact this,yf l,fun vs dr=>by obtain⟨b,_,rfl⟩:=List.mem_map.1 dr;rfl,fun _=>⟨_,_,rfl,.inr rfl,fun j u hu=>?_⟩⟩
 have dO:=Ke l
 rw[dO,List.getElem?_map]at hu
 cases hj:l[j]? with
 |none=>rw[hj]at hu;cases hu
 |some b=>
  rw[hj]at hu
  simp only[Option.map_some,Option.some.injEq]at hu
  have pg:j<l.length:=by
   rcases Nat.lt_or_ge j l.length with h'|h'
   ·exact h'
   ·rw[List.getElem?_eq_none h']at hj;cases hj
  rw[Nat.zero_add,Lib.bytesWorld_cell w e (BA l) j (by rw[Ej];exact pg),ve,<-hu]
  rw[List.getD_eq_getElem?_getD,hj];rfl
theorem AQ.mark {ds:List (Nat×Nat)} {i:Nat} {d:Option Nat} {ty t e:TypeId} {x:Operand} {pos:String} {af:Array Edge} {os:List Oper} {b es n:Nat} {el:TypeId} {rows:List (List IV)}
  (ah:a7 C.n ({dst:=d,op:= .convert t t x,type:=ty,pos:=pos,after:=af,guard:=none}::os)=true)
  (hx:ev E x=some (.os b es 0 n)) (hl:lk H b=some (.vec el es rows)) (hn:n=rows.length) (aC:Nat.beq n 0=false) (a6:noMen b (eN b H)=true) (hd:tk C.P t= .slice e) (he:tk C.P e= .int .u8)
  (h:vq C K os (aW d i ds) (i+1) (aY d (.im (.sl es rows)) (killE b E)) (eN b H)):
  AQ C ds i ({dst:=d,op:= .convert t t x,type:=ty,pos:=pos,after:=af,guard:=none}::os) K E H:=by
 obtain⟨ff,bX⟩:=dM ah
 have bl:=AQ.go bX h
 unfold AQ at bl⊢
 refine AO.step (o:={dst:=d,op:= .convert t t x,type:=ty,pos:=pos,after:=af,guard:=none}) fun ops φ I a w aQ _ kY Kn bE=>?_
 have hw:Region.wanted {dst:=d,op:= .convert t t x,type:=ty,pos:=pos,after:=af,guard:=none} (yielded ops a.tmps)=true:=by simp[Region.wanted]
 rw[if_pos hw]
 have hv:=aH kY.env hx
 simp only[AV.den]at hv
 have jb:n≠0:=fun e=>by rw[e]at aC;cases aC
 rcases hv with⟨_,_,h0,_⟩|⟨g,c,ax,hv,uk,yT,cK⟩
 ·exact absurd h0 jb
 have ba:=kY.st.real.own b _ _ hl ax
 simp only[Ob.at]at ba
 rcases ba with⟨U,_⟩|⟨g',ae,rest,bO,cg,hr,hlen⟩
 ·cases U
 cases bO
 rw[Nat.zero_mul]at hv
 have W1:w.shape? g=some (el,(ae.flatten++rest).toArray.size):=by unfold World.shape?;rw[cg]
 have aB:(convert t t (.slice (some ⟨g,0,none⟩) n c)).run C.P w= .ok (.slice (some ⟨g,0,none⟩) n c) (w.freeze ⟨g,(ae.flatten++rest).toArray.size,none⟩ 1):=by
  simp[convert,run_underlying (eU hd),run_underlying (u4 he),markStringish,W1]
 have hex:(execOp a.eval {dst:=d,op:= .convert t t x,type:=ty,pos:=pos,after:=af,guard:=none}).run C.P w= .ok (.value (.slice (some ⟨g,0,none⟩) n c)) (w.freeze ⟨g,(ae.flatten++rest).toArray.size,none⟩ 1):=by
  simp only[execOp,hv,Sem.run_bind,aB,Result.andThen_ok,Sem.run_pure]
 unfold Oper.wp
 rw[hex,Oper.upon_value]
 have py:∀{W:World} {a:Addr} {n:Nat},(W.freeze a n).os=W.os/\(W.freeze a n).tape=W.tape/\(W.freeze a n).output=W.output:=fun{W a n}=>by unfold World.freeze;split<;>exact⟨rfl,rfl,rfl⟩
 have ml:=kY.st.real.off b g ax
 have yZ:=kY.forget b a6
 obtain⟨hS,hk⟩:=yZ.st.outside (g0:=g) (w':=w.freeze ⟨g,(ae.flatten++rest).toArray.size,none⟩ 1) ml.1 (fun b' bF=>by
   simp only[gJ]at bF
   split at bF
   ·cases bF
   ·rename_i Wq;exact Wq (kY.st.real.inj b' b g bF ax)) (kY.st.b9 b g ax) ml.2 (Ub _ _ _) (fun g' bO=>Lx _ _ _ _ bO)
  (fun c e fz hc=>Ly _ ⟨g,_,none⟩ _ c e fz hc) py.1 py.1 py.2.2
 refine bE _ _ _ _ _ _ bl (yZ.put hS hk ff ?_)
 obtain⟨jU,rV⟩:=Ly w ⟨g,(ae.flatten++rest).toArray.size,none⟩ 1 _ _ _ cg
 simp only[AV.den,IV.den]
 refine⟨_,c,ae,by rw[hn],by omega,IV.iD (I:=I) (fun g1 oa=>Lx _ _ _ _ (fun e=>by subst e;exact ml.1 oa)) (fun _ h=> .inl h) rows ae hr,hlen,fun _=>⟨g,0,rfl,.inr rfl,fun j u hu=>?_⟩⟩
 have pg:j<ae.flatten.length:=by
  rcases Nat.lt_or_ge j ae.flatten.length with h'|h'
  ·exact h'
  ·rw[List.getElem?_eq_none h']at hu;cases hu
 simp only at rV
 simp only[World.cell?,rV,Nat.zero_add,Option.isSome_none,Bool.false_eq_true,if_false,List.getElem?_toArray]
 rw[List.getElem?_append_left pg];exact hu
end
section
variable {C:Cx} {K:List PK} {E:Env} {H:aa}
theorem AQ.Kf {ds:List (Nat×Nat)} {i:Nat} {d:Option Nat} {ty:TypeId} {pos:String} {af:Array Edge} {os:List Oper} {bo:Operand} {f:FuncId} {fs aF:List AV} {xs:List Operand} {aZ:Array TypeId} {l:List AV} {R:AV->Prop}
  (ah:a7 C.n ({dst:=d,op:= .call {callee:= .value bo,args:=xs.toArray,argTypes:=aZ},type:=ty,pos:=pos,after:=af,guard:=none}::os)=true)
  (fc:ev E bo=some (.fn f fs aF)) (hl:dT E xs=some l) (dG:gs l=true) (hc:ao C.P f (fs++l.map AV.st++aF) H (fun r' H'=>H'=H/\R r'))
  (bl:∀r,R r->AQ C (aW d i ds) (i+1) os K (aY d r E) H):
  AQ C ds i ({dst:=d,op:= .call {callee:= .value bo,args:=xs.toArray,argTypes:=aZ},type:=ty,pos:=pos,after:=af,guard:=none}::os) K E H:=by
 obtain⟨hd,bX⟩:=dM ah
 unfold AQ at bl⊢
 refine AO.step (o:={dst:=d,op:= .call {callee:= .value bo,args:=xs.toArray,argTypes:=aZ},type:=ty,pos:=pos,after:=af,guard:=none}) fun ops φ I a w aQ _ hs Kn bE=>?_
 have hw:Region.wanted {dst:=d,op:= .call {callee:= .value bo,args:=xs.toArray,argTypes:=aZ},type:=ty,pos:=pos,after:=af,guard:=none} (yielded ops a.tmps)=true:=by simp[Region.wanted]
 rw[if_pos hw]
 have fe:=aH hs.env fc
 simp only[AV.den]at fe
 obtain⟨eA,us,mY,dI,n6⟩:=fe
 have aS:AV.ab w φ I (fs++l.map AV.st++aF) (eA++xs.map a.eval++us):=AQ.nQ.mN _ _ _ _ (AQ.nQ.mN _ _ _ _ mY (mU hs.env _ _ hl dG)) dI
 have aB:(execOp a.eval {dst:=d,op:= .call {callee:= .value bo,args:=xs.toArray,argTypes:=aZ},type:=ty,pos:=pos,after:=af,guard:=none}).run C.P w= .ok (.enter f (eA++xs.map a.eval++us).toArray) w:=by
  have:execOp a.eval {dst:=d,op:= .call {callee:= .value bo,args:=xs.toArray,argTypes:=aZ},type:=ty,pos:=pos,after:=af,guard:=none}=(do let d<-Deferred.ofValue (a.eval bo) (xs.toArray.map a.eval);invoke d.target d.args):=rfl
  rw[this,n6,Du (t:=ty) hc.gv]
  simp
 unfold Oper.wp
 rw[aB,Oper.upon_enter]
 refine(hc.run w φ I _ aS hs.st.real hs.st.vk).mono fun e w' ⟨r,H1,a_,I1,v,⟨hH,hr⟩,he,a8,hS⟩=>?_
 subst he;subst hH
 have ax:a_=φ:=by
  funext b
  have d1:=hS.real.bj b
  have d0:=hs.st.real.bj b
  cases fD:lk H1 b with
  |none=>
   rw[fD]at d1 d0
   cases U:a_ b with
   |some _=>rw[U]at d1;cases d1
   |none=>
    cases h0:φ b with
    |some _=>rw[h0]at d0;cases d0
    |none=>rfl
  |some o=>
   rw[fD]at d0
   cases h0:φ b with
   |none=>rw[h0]at d0;cases d0
   |some p=>exact hS.cE b p o (bU H1 b o fD) h0 fD
 subst ax
 have ju:∀g,I g->w'.heap[g]?=w.heap[g]?:=fun g hg=>hS.ext.b_ g (hs.st.real.bM g hg) (fun⟨b,hb⟩=>(hs.st.real.off b g hb).1 hg)
 have lG:St C.B a_ I1 H1 w':=by
  refine⟨hS.real,hs.st.ext.trans hS.ext (fun g ⟨b,hb⟩=>hs.st.b9 b g hb),fun b g hb=>hs.st.b9 b g hb,fun g hg=>?_,fun g hg=>hS.cj g (hs.st.cj g hg),hs.st.cE⟩
  rcases hS.cZ g hg with h2|⟨b',bF⟩|h2
  ·exact hs.st.cZ g h2
  ·exact .inr (hs.st.b9 _ g bF)
  ·exact .inr (.inr (Nat.le_trans hs.st.ext.size h2))
 have hk:bC w a_ I w' a_ I1:=by
  refine⟨ju,hS.cj,fun _ _ h=>h,fun b g n hb cK=>?_⟩
  obtain⟨cc,ee,jt,hn⟩:=cK
  obtain⟨c',jU,h2,h3⟩:=hS.ext.form g cc ee _ jt
  have mf:=hS.real.bj b
  rw[hb]at mf
  cases hl:lk H1 b with
  |none=>rw[hl]at mf;cases mf
  |some o=>
   have aP:=hS.real.own b o _ hl hb
   have rV:jU=(0,0):=by
    cases o with
    |var e cs=>
     simp only[Ob.at]at aP
     obtain⟨g',us,bO,h4,_⟩:=aP
     cases bO
     exact h4.fz h2
    |vec e es rows=>
     simp only[Ob.at]at aP
     rcases aP with⟨h5,_⟩|⟨g',ae,rest,bO,h4,_⟩
     ·cases h5
     ·cases bO;rw[h2]at h4;cases h4;rfl
    |lp l n st fn q ps E=>
     simp only[Ob.at]at aP
     obtain⟨h0,T,D,cf,_,h4,_⟩:=aP
     cases h0;rw[h2]at h4;cases h4
   subst rV
   exact⟨c',ee,h2,by rw[h3];exact hn⟩
 exact bE _ _ a_ I1 _ _ (bl r hr) (hs.put lG hk hd a8)
theorem AQ.Ti {ds:List (Nat×Nat)} {i:Nat} {d:Option Nat} {ty:TypeId} {pos:String} {af:Array Edge} {os:List Oper} {bo:Operand} {f:FuncId} {fs aF:List AV} {xs:List Operand} {aZ:Array TypeId} {l:List AV} {R:AV->Prop}
  (ah:a7 C.n ({dst:=d,op:= .call {callee:= .value bo,args:=xs.toArray,argTypes:=aZ},type:=ty,pos:=pos,after:=af,guard:=none}::os)=true)
  (fc:ev E bo=some (.fn f fs aF)) (hl:dT E xs=some l) (dG:gs l=true) (hc:ao C.P f (fs++l.map AV.st++aF) H (fun r' H'=>H'=H/\R r'))
  (h:∀r,R r->vq C K os (aW d i ds) (i+1) (aY d r E) H):
  AQ C ds i ({dst:=d,op:= .call {callee:= .value bo,args:=xs.toArray,argTypes:=aZ},type:=ty,pos:=pos,after:=af,guard:=none}::os) K E H:=
 AQ.Kf ah fc hl dG hc fun r hr=>AQ.go (dM ah).2 (h r hr)
theorem AQ.Th {ds:List (Nat×Nat)} {i:Nat} {d:Option Nat} {ty:TypeId} {pos:String} {af:Array Edge} {os:List Oper} {bo:Operand} {f:FuncId} {fs aF:List AV} {xs:List Operand} {aZ:Array TypeId} {l:List AV} {r:AV}
  (ah:a7 C.n ({dst:=d,op:= .call {callee:= .value bo,args:=xs.toArray,argTypes:=aZ},type:=ty,pos:=pos,after:=af,guard:=none}::os)=true)
  (fc:ev E bo=some (.fn f fs aF)) (hl:dT E xs=some l) (dG:gs l=true) (hc:ao C.P f (fs++l.map AV.st++aF) H (fun r' H'=>H'=H/\r'=r))
  (h:AQ C (aW d i ds) (i+1) os K (aY d r E) H):
  AQ C ds i ({dst:=d,op:= .call {callee:= .value bo,args:=xs.toArray,argTypes:=aZ},type:=ty,pos:=pos,after:=af,guard:=none}::os) K E H:=
 AQ.Kf ah fc hl dG hc fun r' hr=>by subst hr;exact h
theorem AQ.yg {ds:List (Nat×Nat)} {i:Nat} {d:Option Nat} {ty:TypeId} {pos:String} {af:Array Edge} {os:List Oper} {bo:Operand} {f:FuncId} {fs aF:List AV} {xs:List Operand} {aZ:Array TypeId} {l:List AV} {r:AV}
  (ah:a7 C.n ({dst:=d,op:= .call {callee:= .value bo,args:=xs.toArray,argTypes:=aZ},type:=ty,pos:=pos,after:=af,guard:=none}::os)=true)
  (fc:ev E bo=some (.fn f fs aF)) (hl:dT E xs=some l) (dG:gs l=true) (hc:ao C.P f (fs++l.map AV.st++aF) H (fun r' H'=>H'=H/\r'=r))
  (h:vq C K os (aW d i ds) (i+1) (aY d r E) H):
  AQ C ds i ({dst:=d,op:= .call {callee:= .value bo,args:=xs.toArray,argTypes:=aZ},type:=ty,pos:=pos,after:=af,guard:=none}::os) K E H:=
 AQ.Ti ah fc hl dG hc fun r' hr=>by subst hr;exact h
end
mutual
def fV (b:Nat) (l:List IV):AV->AV
 | .ob b' o=>bif Nat.beq b' b then .im (.pt (l.drop o))else .ob b' o
 | .oe b' es i j=>bif Nat.beq b' b then .top else .oe b' es i j
 | .os b' es i n=>bif Nat.beq b' b then .top else .os b' es i n
 | .fn f fs aF=> .fn f (iW b l fs) (iW b l aF)
 | .agg cs=> .agg (iW b l cs)
 | .aG cs=> .aG (iW b l cs)
 | .opt g x=> .opt g (fV b l x)
 | .im x=> .im x
 | .ar x=> .ar x
 | .top=> .top
 | .mp b'=>bif Nat.beq b' b then .top else .mp b'
 | .wr k x=> .wr k (fV b l x)
def iW (b:Nat) (l:List IV):List AV->List AV
 |[]=>[]
 |x::xs=>fV b l x::iW b l xs
end
def qn (b:Nat) (l:List IV):Env->Env
 |[]=>[]
 |(i,x)::r=>(i,fV b l x)::qn b l r
def rM (b:Nat) (l:List IV):Ob->Ob
 | .var e cs=> .var e (iW b l cs)
 | .vec e es rs=> .vec e es rs
 | .lp l0 n st fn q ps E=> .lp l0 n st fn q ps (qn b l E)
def jR (b:Nat) (l:List IV):aa->aa
 |[]=>[]
 |(j,o)::r=>bif Nat.beq j b then jR b l r else(j,rM b l o)::jR b l r
theorem z6 {b:Nat} {l:List IV}:∀(H:aa),lk (jR b l H) b=none
 |[]=>rfl
 |(j,o)::r=>by
  simp only[jR]
  cases hq:Nat.beq j b with
  |true=>simpa using z6 r
  |false=>simpa[lk,hq]using z6 r
theorem zZ {b:Nat} {l:List IV}:∀(H:aa) (b':Nat),b'≠b->lk (jR b l H) b'=(lk H b').map (rM b l)
 |[],_,_=>rfl
 |(j,o)::r,b',aC=>by
  simp only[jR]
  cases hq:Nat.beq j b with
  |true=>
   have ud:=Nat.eq_of_beq_eq_true hq
   subst ud
   simp only[cond_true,lk,iA (Ne.symm aC),cond_false]
   exact zZ r b' aC
  |false=>
   simp only[cond_false,lk]
   cases iI:Nat.beq j b' with
   |true=>rfl
   |false=>simpa using zZ r b' aC
theorem Fg {b:Nat} {l:List IV}:∀(E:Env) (i:Nat),lk (qn b l E) i=(lk E i).map (fV b l)
 |[],_=>rfl
 |(j,x)::r,i=>by
  simp only[qn,lk]
  cases Nat.beq j i with
  |true=>rfl
  |false=>simpa using Fg r i
section
variable {w:World} {φ φ':ai} {I I':Nat->Prop} {b:Nat} {l:List IV}
mutual
theorem yC (ax:∀b',b'≠b->φ' b'=φ b') (hI:∀g,I g->I' g) (hb:∃g us,φ b=some (some g)/\I' g/\IV.ab w I l us/\cQ w g 0 us):∀(x:AV) (u:Value),AV.den w φ I x u->AV.den w φ' I' (fV b l x) u
 | .ob b' o,u,hx=>by
  simp only[fV]
  cases hq:Nat.beq b' b with
  |true=>
   have e:=Nat.eq_of_beq_eq_true hq
   subst e
   obtain⟨g,us,U,h2,h3,h4⟩:=hb
   simp only[AV.den]at hx
   obtain⟨g',bO,rfl⟩:=hx
   rw[U]at bO;cases bO
   simp only[cond_true,AV.den,IV.den]
   refine⟨g,o,us.drop o,rfl,h2,IV.fb (fun _ _=>rfl) hI _ _ (wF o _ _ h3),fun j v hv=>?_⟩
   rw[List.getElem?_drop]at hv
   have:=h4 (o+j) v hv
   rwa [Nat.zero_add]at this
  |false=>
   simp only[cond_false,AV.den]at hx⊢
   rw[ax b' (fun e=>by subst e;simp at hq)];exact hx
 | .oe b' _ _ _,u,hx=>by
  simp only[fV]
  cases hq:Nat.beq b' b with
  |true=>simp only[cond_true,AV.den]
  |false=>simp only[cond_false,AV.den]at hx⊢;rw[ax b' (fun e=>by subst e;simp at hq)];exact hx
 | .os b' _ _ _,u,hx=>by
  simp only[fV]
  cases hq:Nat.beq b' b with
  |true=>simp only[cond_true,AV.den]
  |false=>simp only[cond_false,AV.den]at hx⊢;rw[ax b' (fun e=>by subst e;simp at hq)];exact hx
 | .fn f fs aF,u,hx=>by simp only[fV];simp only[AV.den]at hx⊢;obtain⟨us,vs,U,h2,h3⟩:=hx;exact⟨us,vs,vJ ax hI hb fs us U,vJ ax hI hb aF vs h2,h3⟩
 | .agg cs,u,hx=>by simp only[fV];simp only[AV.den]at hx⊢;obtain⟨us,U,h2⟩:=hx;exact⟨us,vJ ax hI hb cs us U,h2⟩
 | .aG cs,u,hx=>by simp only[fV];simp only[AV.den]at hx⊢;obtain⟨us,U,h2⟩:=hx;exact⟨us,vJ ax hI hb cs us U,h2⟩
 | .opt g x,u,hx=>by simp only[fV];simp only[AV.den]at hx⊢;exact⟨fun hg=>yC ax hI hb x u (hx.1 hg),hx.2⟩
 | .im x,u,hx=>by simp only[fV];simp only[AV.den]at hx⊢;exact IV.jO (fun _ _=>rfl) hI x u hx
 | .ar xs,u,hx=>by simp only[fV];simp only[AV.den]at hx⊢;obtain⟨us,U,h2⟩:=hx;exact⟨us,IV.fb (fun _ _=>rfl) hI xs us U,h2⟩
 | .top,_,_=>by simp only[fV,AV.den]
 | .mp b',u,hx=>by
  simp only[fV]
  cases hq:Nat.beq b' b with
  |true=>simp only[cond_true,AV.den]
  |false=>simp only[cond_false,AV.den]at hx⊢;rw[ax b' (fun e=>by subst e;simp at hq)];exact hx
 | .wr k x,u,hx=>by simp only[fV];simp only[AV.den]at hx⊢;obtain⟨v,U,h2⟩:=hx;exact⟨v,U,yC ax hI hb x v h2⟩
theorem vJ (ax:∀b',b'≠b->φ' b'=φ b') (hI:∀g,I g->I' g) (hb:∃g us,φ b=some (some g)/\I' g/\IV.ab w I l us/\cQ w g 0 us):∀(xs:List AV) (us:List Value),AV.ab w φ I xs us->AV.ab w φ' I' (iW b l xs) us
 |[],us,h=>by simpa only[iW,AV.ab]using h
 |x::xs,us,h=>by
  simp only[AV.ab]at h
  simp only[iW,AV.ab]
  obtain⟨u,ak,e,U,h2⟩:=h
  exact⟨u,ak,e,yC ax hI hb x u U,vJ ax hI hb xs ak h2⟩
end
theorem St.fix {B:Bs} {H:aa} {el:TypeId} {cs:List AV} (h:St B φ I H w) (hl:lk H b=some (.var (.cell el) cs)) (qy:mw cs=some l):
  ∃φ' I',St B φ' I' (jR b l H) w/\(∀g,I g->I' g)/\∀(x:AV) (u:Value),AV.den w φ I x u->AV.den w φ' I' (fV b l x) u:=by
 obtain⟨p,hp⟩:∃p,φ b=some p:=by
  have:=h.real.bj b
  rw[hl]at this
  cases hq:φ b with
  |none=>rw[hq]at this;cases this
  |some p=>exact⟨p,rfl⟩
 have aP:=h.real.own b _ p hl hp
 simp only[Ob.at,Sh.has,Sh.one]at aP
 obtain⟨g0,Ja,rfl,cg,n_,h1c⟩:=aP
 have hb:∃g us,φ b=some (some g)/\(I g\/φ b=some (some g))/\IV.ab w I l us/\cQ w g 0 us:=by
  refine⟨g0,Ja,hp,.inr hp,zR cs l Ja qy n_,fun j u hu=>?_⟩
  simp only[World.cell?,cg,Option.isSome_none,Bool.false_eq_true,if_false,List.getElem?_toArray,Nat.zero_add]
  exact hu
 have ax:∀b',b'≠b->(fun i=>if i=b then none else φ i) b'=φ b':=fun b' hb=>by simp[hb]
 refine⟨fun i=>if i=b then none else φ i,fun g=>I g\/φ b=some (some g),⟨⟨fun b'=>?_,fun b' o p' aD bH=>?_,fun b' g bH=>?_,fun b1 b2 g U h2=>?_,fun g hg=>?_⟩,h.ext,fun b' g bH=>?_,fun g hg=>?_,fun g hg=> .inl (h.cj g hg),fun b' g oo ag h0 aD=>?_⟩,fun g hg=> .inl hg,fun x u hx=>yC ax (fun g hg=> .inl hg) hb x u hx⟩
 ·by_cases aj:b'=b
  ·subst aj;rw[z6];simp
  ·simp only[if_neg aj];rw[zZ H b' aj,Option.isSome_map];exact h.real.bj b'
 ·by_cases aj:b'=b
  ·subst aj;rw[z6]at aD;cases aD
  ·simp only[if_neg aj]at bH
   rw[zZ H b' aj]at aD
   cases hq:lk H b' with
   |none=>rw[hq]at aD;cases aD
   |some o1=>
    rw[hq]at aD
    simp only[Option.map_some,Option.some.injEq]at aD
    subst aD
    have ba:=h.real.own b' o1 p' hq bH
    cases o1 with
    |var e cs'=>
     simp only[Ob.at,rM]at ba⊢
     obtain⟨g,us,U,h2,h3,h4⟩:=ba
     exact⟨g,us,U,h2,vJ ax (fun g hg=> .inl hg) hb cs' us h3,h4⟩
    |vec e ef rs=>
     simp only[Ob.at,rM]at ba⊢
     rcases ba with h'|⟨g,ae,rest,U,h2,h3,h4⟩
     ·exact .inl h'
     ·exact .inr ⟨g,ae,rest,U,h2,IV.iD (fun _ _=>rfl) (fun g hg=> .inl hg) rs ae h3,h4⟩
    |lp l0 n st fn q ps E=>
     simp only[Ob.at,rM]at ba⊢
     obtain⟨h0,T,D,cf,U,h2,h3⟩:=ba
     refine⟨h0,T,D,cf,U,h2,fun i x hx=>?_⟩
     rw[Fg]at hx
     cases hy:lk E i with
     |none=>rw[hy]at hx;cases hx
     |some y=>
      rw[hy]at hx
      simp only[Option.map_some,Option.some.injEq]at hx
      subst hx
      obtain⟨u,hu,hd⟩:=h3 i y hy
      exact⟨u,hu,yC ax (fun g hg=> .inl hg) hb y u hd⟩
 ·by_cases aj:b'=b
  ·subst aj;simp at bH
  ·simp only[if_neg aj]at bH
   have:=h.real.off b' g bH
   exact⟨fun hg=>hg.elim this.1 (fun e=>aj (h.real.inj b' b g bH e)),this.2⟩
 ·by_cases e1:b1=b
  ·subst e1;simp at U
  ·by_cases e2:b2=b
   ·subst e2;simp at h2
   ·simp only[if_neg e1]at U
    simp only[if_neg e2]at h2
    exact h.real.inj b1 b2 g U h2
 ·rcases hg with hg|hg
  ·exact h.real.bM g hg
  ·exact(h.real.off b g hg).2
 ·by_cases aj:b'=b
  ·subst aj;simp at bH
  ·simp only[if_neg aj]at bH;exact h.b9 b' g bH
 ·rcases hg with hg|hg
  ·exact h.cZ g hg
  ·exact .inr (h.b9 b g hg)
 ·by_cases aj:b'=b
  ·subst aj;rw[z6]at aD;cases aD
  ·rw[zZ H b' aj]at aD
   simp only[if_neg aj]
   cases hq:lk H b' with
   |none=>rw[hq]at aD;cases aD
   |some o1=>exact h.cE b' g o1 ag h0 hq
theorem bt.fix {C:Cx} {E:Env} {H:aa} {a:Act} {el:TypeId} {cs:List AV} (h:bt C φ I E H a w) (hl:lk H b=some (.var (.cell el) cs)) (qy:mw cs=some l):
  ∃φ' I',bt C φ' I' (qn b l E) (jR b l H) a w:=by
 obtain⟨φ',I',hS,FD,hd⟩:=h.st.fix hl qy
 refine⟨φ',I',h.bD.mono (fun _ _=>rfl) FD,h.bA,fun i x hx=>?_,hS⟩
 rw[Fg]at hx
 cases hq:lk E i with
 |none=>rw[hq]at hx;cases hx
 |some y=>
  rw[hq]at hx;cases hx
  obtain⟨u,hu,dz⟩:=h.env i y hq
  exact⟨u,hu,hd y u dz⟩
end
section
variable {C:Cx} {K:List PK} {E:Env} {H:aa}
theorem AE.fix {e:Exit} (b:Nat) {el:TypeId} {cs:List AV} {l:List IV} (hl:lk H b=some (.var (.cell el) cs)) (qy:mw cs=some l) (h:AE C e K (qn b l E) (jR b l H)):AE C e K E H:=by
 unfold AE at h⊢
 intro φ I a w hs
 obtain⟨φ',I',cS⟩:=hs.fix hl qy
 exact h φ' I' a w cS
theorem AP.fix {p:List Nat} (b:Nat) {el:TypeId} {cs:List AV} {l:List IV} (hl:lk H b=some (.var (.cell el) cs)) (qy:mw cs=some l) (h:AP C p K (qn b l E) (jR b l H)):AP C p K E H:=by
 unfold AP at h⊢
 intro φ I a w hs
 obtain⟨φ',I',cS⟩:=hs.fix hl qy
 exact h φ' I' a w cS
theorem AQ.fix {ds:List (Nat×Nat)} {i:Nat} {rest:List Oper} (b:Nat) {el:TypeId} {cs:List AV} {l:List IV} (hl:lk H b=some (.var (.cell el) cs)) (qy:mw cs=some l) (h:AQ C ds i rest K (qn b l E) (jR b l H)):AQ C ds i rest K E H:=by
 unfold AQ at h⊢
 intro ops U h2 φ I a w hs
 obtain⟨φ',I',cS⟩:=hs.fix hl qy
 exact h ops U h2 φ' I' a w cS
end
attribute [go_sem] fV iW qn rM jR
theorem St.ZF {B:Bs} {φ:ai} {I:Nat->Prop} {H:aa} {w:World} (h:St B φ I H w) {b:Nat} {e:Sh} {cs cs':List AV} (hl:lk H b=some (.var e cs)) (hd:∀us,AV.ab w φ I cs us->AV.ab w φ I cs' us):
  St B φ I (aN H b (.var e cs')) w:=by
 refine⟨⟨fun b'=>?_,fun b' o p aD hp=>?_,h.real.off,h.real.inj,h.real.bM⟩,h.ext,h.b9,h.cZ,h.cj,fun b' p o ag h0 aD=>?_⟩
 ·by_cases aj:b'=b
  ·subst aj;rw[cV H b' _ hl,h.real.bj b',hl];rfl
  ·rw[cm H b b' _ aj];exact h.real.bj b'
 ·by_cases aj:b'=b
  ·subst aj
   rw[cV H b' _ hl]at aD
   cases aD
   have:=h.real.own b' _ p hl hp
   simp only[Ob.at]at this⊢
   obtain⟨g,us,U,h2,h3,h4⟩:=this
   exact⟨g,us,U,h2,hd us h3,h4⟩
  ·rw[cm H b b' _ aj]at aD;exact h.real.own b' o p aD hp
 ·by_cases aj:b'=b
  ·subst aj;exact h.cE b' p _ ag h0 hl
  ·rw[cm H b b' _ aj]at aD;exact h.cE b' p o ag h0 aD
theorem C6 {w:World} {φ:ai} {I:Nat->Prop} {b:Nat}:∀(cs:List AV) (us:List Value),AV.ab w φ I cs us->AV.ab w φ I (iO b cs) us
 |[],_,h=>h
 |x::cs,us,h=>by
  simp only[AV.ab]at h
  obtain⟨u,ak,rfl,U,h2⟩:=h
  simp only[iO]
  cases hm:x.men b with
  |true=>simp only[cond_true,AV.ab,AV.den];exact⟨u,ak,rfl,trivial,C6 cs ak h2⟩
  |false=>simp only[cond_false,AV.ab];exact⟨u,ak,rfl,U,C6 cs ak h2⟩
def eZ (b:Nat):Ob->Ob
 | .var e cs=> .var e (iO b cs)
 | .vec e es rows=> .vec e es rows
 | .lp l n st fn q ps E=> .lp l n st fn q ps (killE b E)
def j8 (b:Nat):aa->aa
 |[]=>[]
 |(j,o)::r=>(j,eZ b o)::j8 b r
theorem sD {b:Nat}:∀(H:aa) (b':Nat),lk (j8 b H) b'=(lk H b').map (eZ b)
 |[],_=>rfl
 |(j,o)::r,b'=>by
  simp only[j8,lk]
  cases Nat.beq j b' with
  |true=>rfl
  |false=>simpa using sD r b'
theorem St.kill {B:Bs} {φ:ai} {I:Nat->Prop} {H:aa} {w:World} (h:St B φ I H w) (b:Nat):St B φ I (j8 b H) w:=by
 refine⟨⟨fun b'=>?_,fun b' o p aD hp=>?_,h.real.off,h.real.inj,h.real.bM⟩,h.ext,h.b9,h.cZ,h.cj,fun b' p o ag h0 aD=>?_⟩
 ·rw[sD,Option.isSome_map];exact h.real.bj b'
 ·rw[sD]at aD
  cases hq:lk H b' with
  |none=>rw[hq]at aD;cases aD
  |some o1=>
   rw[hq]at aD;cases aD
   have:=h.real.own b' o1 p hq hp
   cases o1 with
   |var e cs=>
    simp only[Ob.at,eZ]at this⊢
    obtain⟨g,us,U,h2,h3,h4⟩:=this
    exact⟨g,us,U,h2,C6 cs us h3,h4⟩
   |lp l n st fn q ps E=>
    simp only[Ob.at,eZ]at this⊢
    obtain⟨h0,T,D,cf,U,h2,h3⟩:=this
    refine⟨h0,T,D,cf,U,h2,fun i x hx=>?_⟩
    obtain⟨y,hy,iL⟩:=pF (w:=w) (φ:=φ) (φ':=φ) (I:=I) (b:=b) (fun _ _=>rfl) E i x hx
    obtain⟨u,hu,hd⟩:=h3 i y hy
    exact⟨u,hu,iL u hd⟩
   |vec e es rows=>exact this
 ·rw[sD]at aD
  cases hq:lk H b' with
  |none=>rw[hq]at aD;cases aD
  |some o1=>exact h.cE b' p o1 ag h0 hq
theorem KL {w:World} {φ:ai} {I:Nat->Prop} {y:AV}:∀(cs:List AV) (i:Nat) (x:AV) (us:List Value),cs[i]?=some x->(∀u,AV.den w φ I x u->AV.den w φ I y u)->AV.ab w φ I cs us->AV.ab w φ I (cs.set i y) us
 |[],_,_,_,h,_,_=>by simp at h
 |c::cs,0,x,us,h,hi,hd=>by
  simp only[List.getElem?_cons_zero,Option.some.injEq]at h
  subst h
  simp only[AV.ab]at hd
  obtain⟨u,ak,rfl,U,h2⟩:=hd
  simp only[List.set_cons_zero,AV.ab]
  exact⟨u,ak,rfl,hi u U,h2⟩
 |c::cs,i+1,x,us,h,hi,hd=>by
  simp only[List.getElem?_cons_succ]at h
  simp only[AV.ab]at hd
  obtain⟨u,ak,rfl,U,h2⟩:=hd
  simp only[List.set_cons_succ,AV.ab]
  exact⟨u,ak,rfl,U,KL cs i x ak h hi h2⟩
theorem bt.jg {C:Cx} {φ:ai} {I:Nat->Prop} {E:Env} {H:aa} {a:Act} {w:World} (h:bt C φ I E H a w) {b off:Nat} {e:Sh} {cs:List AV} (hl:lk H b=some (.var e cs)) (hc:cs[off]?=some (.im (.v (.slice none 0 0)))) (el:TypeId) (es:Nat):
  ∃φ',bt C φ' I E ((au C.B.nb H,.vec el es [])::aN H b (.var e (cs.set off (.os (au C.B.nb H) es 0 0)))) a w:=by
 obtain⟨hS,hk⟩:=h.st.Ah (k_ C.B.nb H) (dh C.B.nb H).1 el es
 have aC:b≠au C.B.nb H:=fun e=>by rw[e,k_]at hl;cases hl
 have rX:lk ((au C.B.nb H,Ob.vec el es [])::H) b=some (.var e cs):=by simp only[lk,iA (Ne.symm aC),cond_false];exact hl
 have mW:=hS.ZF (cs':=cs.set off (.os (au C.B.nb H) es 0 0)) rX (fun us hd=>KL cs off _ us hc (fun u hu=>by
  simp only[AV.den,IV.den]at hu⊢
  exact .inl ⟨by simp[aT],trivial,trivial,hu.1⟩) hd)
 refine⟨aT φ (au C.B.nb H) none,h.bD,h.bA,fun i x hx=>?_,?_⟩
 ·obtain⟨u,hu,hd⟩:=h.env i x hx
  exact⟨u,hu,hk.den hd⟩
 ·have e2:aN ((au C.B.nb H,Ob.vec el es [])::H) b (.var e (cs.set off (.os (au C.B.nb H) es 0 0)))=(au C.B.nb H,.vec el es [])::aN H b (.var e (cs.set off (.os (au C.B.nb H) es 0 0))):=by
   simp only[aN,iA (Ne.symm aC),cond_false]
  rw[e2]at mW
  exact mW
section
variable {C:Cx} {K:List PK} {E:Env} {H:aa}
theorem AE.kill {e:Exit} (b:Nat) (h:AE C e K E (j8 b H)):AE C e K E H:=by
 unfold AE at h⊢
 exact fun φ I a w hs=>h _ _ _ _ ⟨hs.bD,hs.bA,hs.env,hs.st.kill b⟩
theorem AP.kill {p:List Nat} (b:Nat) (h:AP C p K E (j8 b H)):AP C p K E H:=by
 unfold AP at h⊢
 exact fun φ I a w hs=>h _ _ _ _ ⟨hs.bD,hs.bA,hs.env,hs.st.kill b⟩
theorem AQ.kill {ds:List (Nat×Nat)} {i:Nat} {rest:List Oper} (b:Nat) (h:AQ C ds i rest K E (j8 b H)):AQ C ds i rest K E H:=by
 unfold AQ at h⊢
 exact fun ops U h2 φ I a w hs=>h ops U h2 _ _ _ _ ⟨hs.bD,hs.bA,hs.env,hs.st.kill b⟩
theorem AE.jg {x:Exit} (b off:Nat) (el:TypeId) (es:Nat) {e:Sh} {cs:List AV} (hl:lk H b=some (.var e cs)) (hc:cs[off]?=some (.im (.v (.slice none 0 0))))
  (h:AE C x K E ((au C.B.nb H,.vec el es [])::aN H b (.var e (cs.set off (.os (au C.B.nb H) es 0 0))))):AE C x K E H:=by
 unfold AE at h⊢
 exact fun φ I a w hs=>by
  obtain⟨φ',cS⟩:=hs.jg hl hc el es
  exact h _ _ _ _ cS
theorem AP.jg {p:List Nat} (b off:Nat) (el:TypeId) (es:Nat) {e:Sh} {cs:List AV} (hl:lk H b=some (.var e cs)) (hc:cs[off]?=some (.im (.v (.slice none 0 0))))
  (h:AP C p K E ((au C.B.nb H,.vec el es [])::aN H b (.var e (cs.set off (.os (au C.B.nb H) es 0 0))))):AP C p K E H:=by
 unfold AP at h⊢
 exact fun φ I a w hs=>by
  obtain⟨φ',cS⟩:=hs.jg hl hc el es
  exact h _ _ _ _ cS
theorem AQ.split {ds:List (Nat×Nat)} {i:Nat} {o:Oper} {os:List Oper} {G:Bool} (ah:∀x,o.dst=some x->x<C.n) (hG:gd ds E o.guard=some G)
  (ht:G=true->AQ C ds i ({o with guard:=none}::os) K E H) (hf:G=false->AQ C (aW o.dst i ds) (i+1) os K (aY o.dst (.opt false .top) E) H):AQ C ds i (o::os) K E H:=by
 cases G with
 |true=>exact AQ.nW hG (ht rfl)
 |false=>exact AQ.vM ah hG (hf rfl)
end
attribute [go_sem] eZ j8 iO List.set_cons_zero List.set_cons_succ
end Go.AL
end
section
namespace Go.AL
open Go Go.Lib
def bV (l:List UInt8):List (List Value):=l.map fun b=>[Value.int .u8 b.toNat]
theorem Bl (l:List UInt8):(bV l).flatten=strCells (BA l):=by
 rw[bV,Ke]
 simp[strCells,BA]
theorem SV (l:List UInt8):(bV l).flatten.length=l.length:=by rw[Bl,strCells_length];rfl
theorem SC {P:Program} {B:Bs} {φ:ai} {I:Nat->Prop} {H:aa} {w:World} (hS:St B φ I H w) {b n:Nat} {e t u ty:TypeId} {rows:List (List IV)} {s:Value} {l:List UInt8}
  (hs:AV.den w φ I (.os b 1 0 n) s) (hH:lk H b=some (.vec e 1 rows)) (hn:n=rows.length)
  (ht:tk P t= .slice e) (hu:tk P u= .str) (bW:sz P e=some 1) (hz:aA P e=some [.int .u8 0]) (fA:aI P e=some 1)
  (cp:rows.length+l.length<=140737488355328/2):
  ∃v w' p',(Builtin.append_ #[t,u] ty #[s,.string (BA l)]).run P w= .ok v w'/\Ext (fun g=>φ b=some (some g)) w w'/\(Ob.vec e 1 (rows++dB l)).at w' (aT φ b p') I p'/\
   (∀g,p'=some g->φ b=some (some g)\/w.heap.size<=g)/\(∀g,p'=some g->g<w'.heap.size)/\AV.den w' (aT φ b p') I (.os b 1 0 (rows.length+l.length)) v:=by
 subst hn
 simp only[AV.den]at hs
 obtain⟨_,ie,fM,oc⟩:=nH bW
 have y6:ie.bytes=1:=by
  unfold aI at fA
  rw[fM]at fA
  simpa using fA
 obtain⟨z,fk,np⟩:∃z,ie.zero=some z/\z.cells.toList=[.int .u8 0]:=by
  unfold aA at hz
  rw[fM]at hz
  simp only[Option.bind_some]at hz
  cases zP:ie.zero with
  |none=>rw[zP]at hz;cases hz
  |some z=>rw[zP]at hz;exact⟨z,rfl,by simpa using hz⟩
 have sr:z.cells.size=1:=by rw[<-Array.length_toList,np];rfl
 have rR:∀{w':World},Ext (fun g=>φ b=some (some g)) w w'->∀g,I g->w'.heap[g]?=w.heap[g]?:=fun hx g hg=>hx.b_ g (hS.real.bM g hg) (fun e=>(hS.real.off b g e).1 hg)
 have pB:∀p,aT φ b p b=some p:=fun p=>by simp[aT]
 have aP:=fun p hp=>hS.real.own b _ p hH hp
 simp only[Ob.at]at aP
 have aO:(BA l).size=l.length:=rfl
 have zh:maxLen=9223372036854775807\/140737488355328<=maxLen:=by right;unfold maxLen;omega
 have hmx:140737488355328<=maxLen:=by unfold maxLen;omega
 have GX:∀vs∈bV l,vs.length=1:=fun vs dr=>by obtain⟨b,_,rfl⟩:=List.mem_map.1 dr;rfl
 rcases hs with⟨U,_,h2,rfl⟩|⟨g,c,U,rfl,h2,h3,h4⟩
 ·have qI:rows=[]:=List.eq_nil_of_length_eq_zero h2
  subst qI
  by_cases hm:l=[]
  ·subst hm
   refine⟨.slice none 0 0,w,none,?_,Ext.refl _ w,?_,fun g hg=>(by cases hg),fun g hg=>(by cases hg),?_⟩
   ·have hf:=run_firstCells_string (P:=P) w 1 (BA [])
    have h0:(BA []).size=0:=rfl
    rw[h0]at hf
    simp[Builtin.append_,run_underlying (eU ht),run_underlying (mJ hu),sizeOf,typeInfo,fM,oc,Builtin.lenOf,h0,hf]
   ·simp only[Ob.at];exact .inl ⟨by simp,rfl⟩
   ·simp only[AV.den];exact .inl ⟨pB _,by simp⟩
  ·have om:0<l.length:=List.length_pos_iff.2 hm
   have aB:=run_append_nil_string (P:=P) w t u ty e ie z (eU ht) (mJ hu) fM fk (BA l) (by omega) (by rw[aO];simp at cp;omega) (by rw[y6,aO];simp at cp;omega)
   have e1:((BA l).data.map fun b=>Value.int .u8 b.toNat)=(strCells (BA l)).toArray:=by
    apply Array.ext'
    simp[strCells]
   rw[e1]at aB
   have cq:=grownCap_ge w (BA l).size 0 e
   have hle:=grownCap_le_maxLen w (BA l).size 0 e (by rw[aO];simp at cp;omega)
   have fO:=yy (own:=fun g=>φ b=some (some g)) (w:=w) (.cells ((strCells (BA l)).toArray++Builtin.zeroCells z.cells (grownCap w (BA l).size 0 e-(BA l).size)) e)
   refine⟨_,_,some w.heap.size,aB,fO,?_,fun g hg=> .inr (by cases hg;exact Nat.le_refl _),fun g hg=>(by cases hg;simp),?_⟩
   ·simp only[Ob.at,List.nil_append]
    refine .inr ⟨_,bV l,(Builtin.zeroCells z.cells (grownCap w (BA l).size 0 e-(BA l).size)).toList,rfl,?_,yf l,GX⟩
    rw[show(w.heap.size:Nat)=w.drew.heap.size from rfl,ir w.drew,Bl]
    congr 2
    apply Array.ext'
    simp
   ·simp only[AV.den]
    refine .inr ⟨_,_,pB _,by simp[aO],by simp only[List.length_nil,Nat.zero_add];rw[aO]at cq;exact cq,hle,_,e,ir w.drew _,?_⟩
    simp only[Array.size_append,List.size_toArray,size_zeroCells,sr,strCells_length,Nat.zero_add,Nat.mul_one]
    omega
 ·rcases aP (some g) U with⟨a6,_⟩|⟨g',ae,rest,hg,cg,hr,hl⟩
  ·cases a6
  cases hg
  have fF:=lA rows ae hr
  have dO:=ql ae 1 hl
  obtain⟨cc,ee,jt,FY⟩:=h4
  rw[cg]at jt
  cases jt
  have v8:c<=(ae.flatten++rest).length:=by simpa using FY
  have Cf:ae.flatten.length=rows.length:=by rw[dO,fF,Nat.mul_one]
  simp only[Nat.zero_mul]
  by_cases uv:rows.length+(BA l).size<=c
  ·have aB:=run_append_room_string (P:=P) w t u ty e ie (eU ht) (mJ hu) fM oc g rows.length c (ae.flatten++rest).toArray cg (BA l) uv (by simp only[List.size_toArray];omega)
   have e1:(ae.flatten++rest).toArray.toList.take rows.length=ae.flatten:=by
    simp only[]
    rw[<-Cf];simp
   obtain⟨oL,e2⟩:∃oL,(ae.flatten++rest).toArray.toList.drop (rows.length+(BA l).size)=oL:=⟨_,rfl⟩
   rw[e1,e2,<-Bl]at aB
   have zz:(ae.flatten++(bV l).flatten++oL).toArray.size=(ae.flatten++rest).toArray.size:=by
    rw[<-e2]
    simp only[List.size_toArray,List.length_append,List.length_drop,SV]at v8⊢
    rw[Cf]at v8⊢
    rw[aO]at uv⊢
    omega
   have fO:Ext (fun g=>φ b=some (some g)) w (w.setRow g (ae.flatten++(bV l).flatten++oL).toArray):=(Lh cg zz).Jl (fun g' bO=>by rw[bO];exact U)
   refine⟨_,_,some g,aB,fO,?_,fun g' hg=> .inl (by cases hg;exact U),fun g' hg=>(by cases hg;simpa using(hS.real.off b g U).2),?_⟩
   ·simp only[Ob.at]
    refine .inr ⟨g,ae++bV l,oL,rfl,?_,tC _ _ _ _ (IV.iD (rR fO) (fun _ h=>h) rows ae hr) (yf l),fun vs hv=>?_⟩
    ·rw[setRow_heap w g _ _ e (0,0) cg];simp
    ·rcases List.mem_append.1 hv with hv|hv
     ·exact hl vs hv
     ·exact GX vs hv
   ·simp only[AV.den]
    exact .inr ⟨g,c,pB _,by simp[aO],uv,h3,_,e,setRow_heap w g _ _ e (0,0) cg,by rw[zz,List.size_toArray,Nat.zero_add,Nat.mul_one];exact v8⟩
  ·have holds:∀j u,ae.flatten[j]?=some u->w.cell? ((⟨g,0,none⟩:Addr).add j)=some u:=fun j u hu=>by
    rw[addr_add,Nat.zero_add]
    have ag:j<ae.flatten.length:=by
     rcases Nat.lt_or_ge j ae.flatten.length with h|h
     ·exact h
     ·rw[List.getElem?_eq_none h]at hu;cases hu
    simp only[World.cell?,cg,Option.isSome_none,Bool.false_eq_true,if_false,List.getElem?_toArray]
    rw[List.getElem?_append_left ag];exact hu
   have aB:=run_append_grow_string (P:=P) w t u ty e ie z (eU ht) (mJ hu) fM fk ⟨g,0,none⟩ rows.length c ae.flatten (by rw[Cf,oc,Nat.mul_one]) holds (BA l) (by omega) (by rw[aO];omega) (growslice_fits (by omega) (by rw[y6,aO];omega))
   have cq:=grownCap_ge w (rows.length+(BA l).size) c e
   have hle:=grownCap_le_maxLen w (rows.length+(BA l).size) c e (by rw[aO];omega)
   have fO:=yy (own:=fun g=>φ b=some (some g)) (w:=w) (.cells (ae.flatten.toArray++(strCells (BA l)).toArray++Builtin.zeroCells z.cells (grownCap w (rows.length+(BA l).size) c e-(rows.length+(BA l).size))) e)
   refine⟨_,_,some w.heap.size,aB,fO,?_,fun g hg=> .inr (by cases hg;exact Nat.le_refl _),fun g hg=>(by cases hg;simp),?_⟩
   ·simp only[Ob.at]
    refine .inr ⟨_,ae++bV l,(Builtin.zeroCells z.cells (grownCap w (rows.length+(BA l).size) c e-(rows.length+(BA l).size))).toList,rfl,?_,tC _ _ _ _ (IV.iD (rR fO) (fun _ h=>h) rows ae hr) (yf l),fun vs hv=>?_⟩
    ·rw[show(w.heap.size:Nat)=w.drew.heap.size from rfl,ir w.drew,List.flatten_append,Bl]
     congr 2
     apply Array.ext'
     simp
    ·rcases List.mem_append.1 hv with hv|hv
     ·exact hl vs hv
     ·exact GX vs hv
   ·simp only[AV.den]
    refine .inr ⟨_,_,pB _,by simp[aO],cq,hle,_,e,ir w.drew _,?_⟩
    simp only[Array.size_append,List.size_toArray,size_zeroCells,sr,strCells_length,Cf,Nat.zero_add,Nat.mul_one]
    omega
section
variable {C:Cx} {K:List PK} {E:Env} {H:aa}
theorem AQ.SB {ds:List (Nat×Nat)} {i:Nat} {d:Nat} {ty:TypeId} {pos:String} {af:Array Edge} {os:List Oper} {x y:Operand} {t u e:TypeId} {b n:Nat} {rows:List (List IV)} {l:List UInt8} (hnb:Nat.ble C.B.nb b=true)
  (ah:a7 C.n ({dst:=some d,op:= .call {callee:= .builtin .append,args:=#[x,y],argTypes:=#[t,u]},type:=ty,pos:=pos,after:=af,guard:=none}::os)=true)
  (hx:ev E x=some (.os b 1 0 n)) (hy:ev E y=some (Sv l)) (hH:lk H b=some (.vec e 1 rows)) (a6:noMen b H=true)
  (ht:tk C.P t= .slice e) (hu:tk C.P u= .str) (bW:sz C.P e=some 1) (hz:aA C.P e=some [.int .u8 0]) (fA:aI C.P e=some 1)
  (hn:n=rows.length) (cp:rows.length+l.length<=70368744177664)
  (h:vq C K os ((i,d)::ds) (i+1) ((d,.os b 1 0 (rows.length+l.length))::killE b E) (aN H b (.vec e 1 (rows++dB l)))):
  AQ C ds i ({dst:=some d,op:= .call {callee:= .builtin .append,args:=#[x,y],argTypes:=#[t,u]},type:=ty,pos:=pos,after:=af,guard:=none}::os) K E H:=by
 obtain⟨ff,bX⟩:=dM ah
 have bl:=AQ.go bX h
 have tW:d<C.n:=ff d rfl
 unfold AQ at bl⊢
 refine AO.step (o:={dst:=some d,op:= .call {callee:= .builtin .append,args:=#[x,y],argTypes:=#[t,u]},type:=ty,pos:=pos,after:=af,guard:=none}) fun ops φ I a w aQ _ hs Kn bE=>?_
 have hw:Region.wanted {dst:=some d,op:= .call {callee:= .builtin .append,args:=#[x,y],argTypes:=#[t,u]},type:=ty,pos:=pos,after:=af,guard:=none} (yielded ops a.tmps)=true:=by simp[Region.wanted]
 rw[if_pos hw]
 have nn:=aH hs.env hy
 rw[ma]at nn
 obtain⟨v,w',p',aB,dF,pw,dq,ej,aS⟩:=SC (P:=C.P) (ty:=ty) hs.st (aH hs.env hx) hH hn ht hu bW hz fA (l:=l) (by omega)
 have hS:=hs.st.move (Nat.le_of_ble_eq_true hnb) hH a6 (fun g hg aC=>dF.b_ g hg aC) dF pw dq ej
 have hI:∀g,I g->w'.heap[g]?=w.heap[g]?:=fun g hg=>dF.b_ g (hs.st.real.bM g hg) (fun e=>(hs.st.real.off b g e).1 hg)
 have hex:(execOp a.eval {dst:=some d,op:= .call {callee:= .builtin .append,args:=#[x,y],argTypes:=#[t,u]},type:=ty,pos:=pos,after:=af,guard:=none}).run C.P w= .ok (.value v) w':=by
  simp only[execOp,resolve,invoke,builtin,Sem.run_bind,Sem.run_pure,Result.andThen_ok,List.map_toArray,List.map_cons,List.map_nil,nn,aB]
 unfold Oper.wp
 rw[hex,Oper.upon_value]
 refine bE _ _ (aT φ b p') I _ _ bl ⟨hs.bD.mono hI (fun _ h=>h),by simpa[Act.put]using hs.bA,fun j y hj=>?_,hS⟩
 simp only[lk]at hj
 cases hb:Nat.beq d j with
 |true=>
  rw[hb]at hj
  have:=Nat.eq_of_beq_eq_true hb
  subst this
  simp only[cond_true,Option.some.injEq]at hj
  subst hj
  exact⟨v,by simp only[Act.put];rw[Array.getElem?_setIfInBounds_self_of_lt (by rw[hs.bA];exact tW)],aS⟩
 |false=>
  rw[hb]at hj
  simp only[cond_false]at hj
  obtain⟨y',uC,iL⟩:=pF (w:=w) (φ:=φ) (φ':=fun c=>if c=b then none else φ c) (I:=I) (b:=b) (fun b' bF=>by simp[bF]) E j y hj
  obtain⟨v',hv,a8⟩:=hs.env j y' uC
  refine⟨v',?_,AV.jO hI (fun _ h=>h) (fun c p hc=>?_) (fun c g1 n hc cS=>?_) _ _ (iL v' a8)⟩
  rotate_left
  ·by_cases e1:c=b
   ·simp[e1]at hc
   ·simpa[aT,e1]using hc
  ·by_cases e1:c=b
   ·simp[e1]at hc
   ·exact dF.shaped (fun ho=>e1 (hs.st.real.inj c b g1 (by simpa[e1]using hc) ho)) cS
  simp only[Act.put]
  rw[Array.getElem?_setIfInBounds_ne (by intro e;subst e;simp at hb)]
  exact hv
end
section
variable {C:Cx} {K:List PK} {E:Env} {H:aa}
theorem AQ.val {ds:List (Nat×Nat)} {i:Nat} {o:Oper} {os:List Oper} (x:AV) (ah:a7 C.n (o::os)=true) (hg:o.guard=none)
  (hex:∀φ I a w,bt C φ I E H a w->∃u,(execOp a.eval o).run C.P w= .ok (.value u) w/\AV.den w φ I x u)
  (h:vq C K os (aW o.dst i ds) (i+1) (aY o.dst x E) H):AQ C ds i (o::os) K E H:=by
 obtain⟨hd,bX⟩:=dM ah
 have bl:=AQ.go bX h
 unfold AQ at bl⊢
 refine AO.step (o:=o) fun ops φ I a w aQ _ hs Kn bE=>?_
 have hw:Region.wanted o (yielded ops a.tmps)=true:=by simp[Region.wanted,hg]
 rw[if_pos hw]
 obtain⟨u,aB,aS⟩:=hex φ I a w hs
 unfold Oper.wp
 rw[aB,Oper.upon_value]
 exact bE _ _ φ I _ _ bl (hs.put hs.st (bC.refl w φ I) hd aS)
end
theorem ao.drop {P:Program} {f:FuncId} {args:List AV} {H:aa} {r:AV} {R:AV->aa->Prop} (he:enters P f=true) (hr:r.free=true) (Vg:R r [])
  (
   h:∀(w:World) (φ:ai) (I:Nat->Prop) (vs:List Value),AV.ab w φ I args vs->Real w φ I H->VK P w I->
   Calls P f vs.toArray w fun e w'=>∃v,e= .returned v/\AV.den w' φ I r v/\Ext (cN φ) w w'):ao P f args H R:=by
 refine⟨he,fun w φ I vs hd hR hV=>(h w φ I vs hd hR hV).mono fun e w' ⟨v,he,hv,hx⟩=>?_⟩
 refine⟨r,[],fun _=>none,I,v,Vg,he,AV.qm _ _ hr hv,?_⟩
 exact⟨⟨fun b=>rfl,fun b o p hl=>(by simp[lk]at hl),fun b g hp=>(by cases hp),fun b b' g hp=>(by cases hp),fun g hg=>Nat.lt_of_lt_of_le (hR.bM g hg) hx.size⟩,hx,fun b g hg=>(by cases hg),fun g hg=> .inl hg,fun g hg=>hg,fun _ _ _ _ _ hl=>by simp[lk]at hl⟩
theorem TZ {own:Nat->Prop} (w:World) (p:Addr) (n:Nat) (ho:own p.block):Ext own w (w.freeze p n):=by
 unfold World.freeze
 split
 ·exact Ext.refl own w
 ·refine⟨by simp,fun k hk hn=>?_,fun k c e fz hc=>?_,rfl,rfl,rfl⟩
  ·simp only[Array.getElem?_modify]
   rw[if_neg (by intro e;subst e;exact hn ho)]
  ·simp only[Array.getElem?_modify]
   by_cases hk:p.block=k
   ·subst hk
    rw[if_pos rfl,hc]
    simp only[Option.map_some]
    exact⟨c,_,rfl,rfl⟩
   ·rw[if_neg hk,hc]
    exact⟨c,fz,rfl,rfl⟩
theorem E7 {own:Nat->Prop} (w:World):Ext own w w.drew:=⟨Nat.le_refl _,fun _ _ _=>rfl,fun _ c _ fz h=>⟨c,fz,h,rfl⟩,rfl,rfl,rfl⟩
end Go.AL
end
section
namespace Go.AL
open Go Go.ChangeShapes Go.WideShapes
mutual
def IV.sw:IV->Nat
 | .v (.string s)=>s.size+1
 | .v _=>1
 | .sl _ rows=>IV.iM rows+1
 | .pt cs=>IV.eY cs+1
 | .fn _ fs aF=>IV.eY fs+IV.eY aF+1
def IV.eY:List IV->Nat
 |[]=>0
 |x::r=>IV.sw x+IV.eY r
def IV.iM:List (List IV)->Nat
 |[]=>0
 |x::r=>IV.eY x+IV.iM r
end
theorem N4:∀(a b:List IV),IV.eY (a++b)=IV.eY a+IV.eY b
 |[],b=>by simp[IV.eY]
 |x::a,b=>by simp only[List.cons_append,IV.eY,N4 a b];omega
structure vf {H:Type} (bu:DataW H->Nat) (kG:List (DataW H)->Nat):Prop where
 one:∀d,1<=bu d
 str:∀l,bu (.lit (.string l))=l.length+1
 ptr:∀d,bu d+1<=bu (.ptr d)
 sli:∀e r,kG e+1<=bu (.slice e r)
 agg:∀l,kG l+1<=bu (.agg l)
 nil:kG []=0
 cons:∀d r,kG (d::r)=bu d+kG r
section
variable {H:Type} {bu:DataW H->Nat} {kG:List (DataW H)->Nat}
theorem It (eL:vf bu kG) {α:Type} {w:World} {I:Nat->Prop} {len:α->Nat} {Q:α->List IV->Prop}:∀(l:List α) (ds:List (DataW H)) (cs:List Value),cs.length=(l.map len).sum->
  (∀j a,l[j]?=some a->∃ys,IV.ab w I ys ((cs.drop ((l.take j).map len).sum).take (len a))/\Q a ys/\∃d,ds[j]?=some d/\IV.eY ys<=bu d)->
  ∃xs,IV.ab w I xs cs/\(∀j a,l[j]?=some a->Q a ((xs.drop ((l.take j).map len).sum).take (len a)))/\IV.eY xs<=kG ds
 |[],ds,cs,hl,_=>by
  have:cs=[]:=List.eq_nil_of_length_eq_zero (by simpa using hl)
  subst this
  exact⟨[],rfl,fun j a h=>by simp at h,by simp[IV.eY]⟩
 |a::l,ds,cs,hl,h=>by
  simp only[List.map_cons,List.sum_cons]at hl
  obtain⟨ys,U,h2,d,hd,hb⟩:=h 0 a rfl
  match ds,hd with
  |d'::ds,hd=>
  simp only[List.getElem?_cons_zero,Option.some.injEq]at hd
  subst hd
  simp only[List.take_zero,List.map_nil,List.sum_nil,List.drop_zero]at U
  obtain⟨xs,h3,h4,h5⟩:=It eL (w:=w) (I:=I) (len:=len) (Q:=Q) l ds (cs.drop (len a)) (by simp;omega) (fun j b hb=>by
   obtain⟨zs,hz,hq,d,hd,bF⟩:=h (j+1) b (by simpa using hb)
   refine⟨zs,?_,hq,d,by simpa using hd,bF⟩
   simpa[List.drop_drop,Nat.add_comm]using hz)
  have MU:ys.length=len a:=by
   rw[Bx _ _ U];simp;omega
  refine⟨ys++xs,?_,fun j b hb=>?_,by rw[N4,eL.cons];omega⟩
  ·have:=KF _ _ _ _ U h3
   rwa [List.take_append_drop]at this
  ·cases j with
   |zero=>
    simp only[List.getElem?_cons_zero,Option.some.injEq]at hb
    subst hb
    simp only[List.take_zero,List.map_nil,List.sum_nil,List.drop_zero]
    rw[<-MU,List.take_left];exact h2
   |succ j=>
    simp only[List.getElem?_cons_succ]at hb
    simp only[List.take_succ_cons,List.map_cons,List.sum_cons]
    rw[<-List.drop_drop,<-MU,List.drop_left]
    exact h4 j b hb
variable {enc:TypeId×Value->H} {P:Program} {w:World}
theorem Y6 (eL:vf bu kG) {T:List TypeId} (hT:T.all (wJ P T)=true):∀(fuel:Nat) (t:TypeId) (cs:List Value) (x:DataW H×List MemPlace),T.contains t=true->
  DataW.trod enc P w 0 (fun _=>true) true fuel t cs=some x->cs.length=P.cellsOf t/\∃xs,IV.ab w (fun g=>g<w.heap.size) xs cs/\Typed P fuel t xs/\IV.eY xs<=bu x.1:=by
 intro fuel
 induction fuel with
 |zero=>intro t cs x _ h;simp[DataW.trod]at h
 |succ n ih=>
  intro t cs x ht h
  have hk:wJ P T t=true:=by
   rw[List.all_eq_true]at hT
   exact hT t (by simpa using ht)
  unfold wJ at hk
  have one:∀(v:Value),v.oneCell'=true->IV.ab w (fun g=>g<w.heap.size) [.v v] [v]:=fun v hv=>by
   simp only[IV.ab,IV.den];exact⟨v,[],rfl,⟨rfl,hv⟩,rfl⟩
  split at hk
  ·rename_i hu
   obtain⟨b,rfl,rfl⟩:=DataW.trod_bool hu h
   refine⟨by simpa using(by simpa using hk:P.cellsOf t=1).symm,[.v (.bool b)],one _ rfl,?_,eL.one _⟩
   simp only[Typed,hu];exact⟨b,rfl⟩
  ·rename_i k hu
   obtain⟨b,rfl,rfl,hw⟩:=DataW.trod_int hu h
   refine⟨by simpa using(by simpa using hk:P.cellsOf t=1).symm,[.v (.int k b)],one _ rfl,?_,eL.one _⟩
   simp only[Typed,hu];exact⟨b,rfl,hw⟩
  ·rename_i k hu
   unfold DataW.trod at h
   rw[hu]at h
   have hx:∃b,cs=[.float k b]/\(Lit.float k b).wf=true:=by split at h<;>simp_all
   obtain⟨b,rfl,hw⟩:=hx
   refine⟨by simpa using(by simpa using hk:P.cellsOf t=1).symm,[.v (.float k b)],one _ rfl,?_,eL.one _⟩
   simp only[Typed,hu];exact⟨b,rfl,hw⟩
  ·rename_i hu
   obtain⟨s,rfl,rfl,hw⟩:=DataW.trod_string hu h
   refine⟨by simpa using(by simpa using hk:P.cellsOf t=1).symm,[.v (.string s)],one _ rfl,?_,by rw[eL.str];simp only[IV.eY,IV.sw,Array.length_toList];exact Nat.le_refl _⟩
   simp only[Typed,hu];exact⟨s,rfl,hw⟩
  ·rename_i e hu
   simp only[Bool.and_eq_true,beq_iff_eq,bne_iff_ne,ne_eq]at hk
   obtain⟨⟨oh,lL⟩,y_⟩:=hk
   rcases DataW.trod_pointer hu h with⟨rfl,rfl⟩|⟨a,cs',y,m,hm,rfl,rfl,hc,hy⟩
   ·refine⟨by simp[oh],[.v (.pointer none)],one _ rfl,?_,eL.one _⟩
    simp only[Typed,hu];exact .inl trivial
   ·obtain rfl:m=n:=by omega
    obtain⟨hl,xs,hd,GS,B5⟩:=ih e cs' y lL hy
    obtain⟨ea,hb,qv⟩:=EH hc (by omega)
    refine⟨by simp[oh],[.pt xs],?_,?_,by have:=eL.ptr y.1;simp only[IV.eY,IV.sw];omega⟩
    ·simp only[IV.ab,IV.den]
     exact⟨_,[],rfl,⟨a.block,a.off,cs',by rw[<-ea],hb,hd,qv⟩,rfl⟩
    ·simp only[Typed,hu];exact .inr ⟨xs,rfl,GS⟩
  ·rename_i e hu
   simp only[Bool.and_eq_true,beq_iff_eq,bne_iff_ne,ne_eq]at hk
   obtain⟨⟨oh,lL⟩,y_⟩:=hk
   rcases DataW.trod_slice hu h with⟨rfl,rfl⟩|⟨a,len,cap,elems,rest,m,hm,rfl,rfl,_,Gh,ac2,yY,hr,_,_⟩
   ·refine⟨by simp[oh],[.sl (P.cellsOf e) []],?_,?_,eL.one _⟩
    ·simp only[IV.ab,IV.den]
     exact⟨_,[],rfl,⟨none,0,[],rfl,Nat.le_refl _,rfl,by simp,by simp⟩,rfl⟩
    ·simp only[Typed,hu];exact⟨[],rfl,by simp,by simp⟩
   ·obtain rfl:m=n:=by omega
    obtain⟨l,rY,hl⟩:=Od (R:=fun i (p:List Value×List IV)=>w.cells? 0 (a.add (i*P.cellsOf e)) (P.cellsOf e)=some p.1/\p.1.length=P.cellsOf e/\IV.ab w (fun g=>g<w.heap.size) p.2 p.1/\Typed P m e p.2/\∃d,elems[i]?=some d/\IV.eY p.2<=bu d.1) len (fun i hi=>by
     have:=hr i hi
     rw[List.getElem?_eq_getElem (by omega),Option.bind_eq_some_iff]at this
     obtain⟨cs',hc,hy⟩:=this
     obtain⟨U,xs,h2,h3,h4⟩:=ih e cs' _ lL hy
     exact⟨(cs',xs),hc,U,h2,h3,_,List.getElem?_eq_getElem (by omega),h4⟩)
    refine⟨by simp[oh],[.sl (P.cellsOf e) (l.map Prod.snd)],?_,?_,?_⟩
    ·simp only[IV.ab,IV.den]
     refine⟨_,[],rfl,⟨some a,cap,l.map Prod.fst,by simp[rY],by simp[rY,Gh],?_,?_,fun aC=>?_⟩,rfl⟩
     ·have:∀(l:List (List Value×List IV)),(∀p∈l,IV.ab w (fun g=>g<w.heap.size) p.2 p.1)->IV.aE w (fun g=>g<w.heap.size) (l.map Prod.snd) (l.map Prod.fst):=by
       intro l
       induction l with
       |nil=>intro _;rfl
       |cons p l zQ=>
        intro hp
        simp only[List.map_cons,IV.aE]
        exact⟨_,_,rfl,hp p (by simp),zQ (fun q hq=>hp q (by simp[hq]))⟩
      refine this l (fun p hp=>?_)
      obtain⟨i,hi⟩:=List.getElem?_of_mem hp
      exact(hl i p hi).2.2.1
     ·intro vs dr
      obtain⟨p,hp,rfl⟩:=List.mem_map.1 dr
      obtain⟨i,hi⟩:=List.getElem?_of_mem hp
      exact(hl i p hi).2.1
     ·have GB:0<l.length:=by
       rcases l with _|⟨p,l⟩
       ·simp at aC
       ·simp
      have h0:=hl 0 (l[0]'GB) (List.getElem?_eq_getElem _)
      have Fp:=h0.1
      rw[Nat.zero_mul]at Fp
      have TU:a.add 0=a:=by simp[Addr.add]
      rw[TU]at Fp
      obtain⟨ea,hb,_⟩:=EH Fp (by omega)
      refine⟨a.block,a.off,by rw[<-ea],hb,P3 (es:=P.cellsOf e) _ _ (fun i vs hv=>?_)⟩
      rw[List.getElem?_map,Option.map_eq_some_iff]at hv
      obtain⟨p,hp,rfl⟩:=hv
      obtain⟨g1,g2,g3,g4,_⟩:=hl i p hp
      refine⟨g2,?_⟩
      obtain⟨_,_,qv⟩:=EH g1 (by omega)
      have e1:(a.add (i*P.cellsOf e)).block=a.block:=by unfold Addr.add;split<;>rfl
      have e2:(a.add (i*P.cellsOf e)).off=a.off+i*P.cellsOf e:=by
       unfold Addr.add;split
       ·rename_i hz;rw[hz];rfl
       ·rfl
      rw[e1,e2]at qv
      exact qv
    ·simp only[Typed,hu]
     refine⟨_,rfl,by simp[rY];omega,fun r kW=>?_⟩
     obtain⟨p,hp,rfl⟩:=List.mem_map.1 kW
     obtain⟨i,hi⟩:=List.getElem?_of_mem hp
     exact(hl i p hi).2.2.2.1
    ·have:∀(l:List (List Value×List IV)) (es:List (DataW H×List MemPlace)),(∀(i:Nat) (p:List Value×List IV),l[i]?=some p->∃d:DataW H×List MemPlace,es[i]?=some d/\IV.eY p.2<=bu d.1)->IV.iM (l.map Prod.snd)<=kG (es.map (·.1)):=by
      intro l
      induction l with
      |nil=>intro es _;simp[IV.iM]
      |cons p l zQ=>
       intro es hp
       obtain⟨d,hd,hb⟩:=hp 0 p rfl
       match es,hd with
       |d'::es,hd=>
        simp only[List.getElem?_cons_zero,Option.some.injEq]at hd
        subst hd
        have:=zQ es (fun i q hq=>by simpa using hp (i+1) q (by simpa using hq))
        simp only[List.map_cons,IV.iM,eL.cons]
        omega
     have U:=this l elems (fun i p hp=>(hl i p hp).2.2.2.2)
     have h2:=eL.sli (elems.map (·.1)) (rest.map (·.1))
     simp only[IV.eY,IV.sw]
     omega
  ·rename_i fs hu
   simp only[Bool.and_eq_true,beq_iff_eq,List.all_eq_true]at hk
   obtain⟨⟨oh,lL⟩,y_⟩:=hk
   obtain⟨xs,m,hm,rfl,hlen,zK,hf⟩:=DataW.trod_struct hu h
   obtain rfl:m=n:=by omega
   have off:∀(i:Nat) (f:Field),fs.toList[i]?=some f->f.offset=((fs.toList.take i).map fun f=>P.cellsOf f.type).sum:=fun i f hi=>by
    have:=y_ i (by simpa using(List.getElem?_eq_some_iff.1 hi).1)
    rw[hi]at this
    simpa using this
   obtain⟨ys,hy,hq,B5⟩:=It eL (w:=w) (I:=fun g=>g<w.heap.size) (len:=fun f:Field=>P.cellsOf f.type) (Q:=fun f ys=>Typed P m f.type ys) fs.toList (xs.map (·.1)) cs (by rw[hlen,lL]) (fun i f hi=>by
    rw[<-off i f hi]
    have wc:fs[i]?=some f:=by simpa using hi
    have hx:=hf i f wc
    have ag:i<fs.size:=by
     rcases Nat.lt_or_ge i fs.size with h'|h'
     ·exact h'
     ·rw[Array.getElem?_eq_none h']at wc;cases wc
    rw[List.getElem?_eq_getElem (by omega)]at hx
    obtain⟨_,zs,h2,h3,h4⟩:=ih f.type _ _ (oh f (List.mem_of_getElem? hi)) hx
    exact⟨zs,h2,h3,_,by rw[List.getElem?_map,List.getElem?_eq_getElem (by omega)];rfl,h4⟩)
   refine⟨hlen,ys,hy,?_⟩
   simp only[Typed,hu]
   exact⟨⟨by rw[Bx _ _ hy,hlen],fun i f hi=>by rw[off i f hi];exact hq i f hi⟩,by have:=eL.agg (xs.map (·.1));omega⟩
  ·rename_i m' e hu
   simp only[Bool.and_eq_true,beq_iff_eq]at hk
   obtain⟨oh,lL⟩:=hk
   obtain⟨xs,m,hm,rfl,hlen,zK,hf⟩:=DataW.trod_array hu h
   obtain rfl:m=n:=by omega
   have sm:∀k,((List.replicate k ()).map fun _=>P.cellsOf e).sum=k*P.cellsOf e:=fun k=>by simp
   obtain⟨ys,hy,hq,B5⟩:=It eL (w:=w) (I:=fun g=>g<w.heap.size) (len:=fun _:Unit=>P.cellsOf e) (Q:=fun _ ys=>Typed P m e ys) (List.replicate m' ()) (xs.map (·.1)) cs (by rw[hlen,lL,sm]) (fun i f hi=>by
    have ag:i<m':=by simpa using(List.getElem?_eq_some_iff.1 hi).1
    rw[List.take_replicate,sm,Nat.min_eq_left (Nat.le_of_lt ag)]
    have hx:=hf i ag
    rw[List.getElem?_eq_getElem (by omega)]at hx
    obtain⟨_,zs,h2,h3,h4⟩:=ih e _ _ oh hx
    exact⟨zs,h2,h3,_,by rw[List.getElem?_map,List.getElem?_eq_getElem (by omega)];rfl,h4⟩)
   refine⟨hlen,ys,hy,?_⟩
   simp only[Typed,hu]
   exact⟨⟨by rw[Bx _ _ hy,hlen],fun i hi=>by
    have:=hq i () (by simp[hi])
    rwa [List.take_replicate,sm,Nat.min_eq_left (Nat.le_of_lt hi)]at this⟩,by have:=eL.agg (xs.map (·.1));omega⟩
  ·cases hk
theorem Y7 (eL:vf bu kG) {T:List TypeId} (hT:T.all (wJ P T)=true) {w:World} {r:Reach} {b:Nat} {t:TypeId} {v:Value} {d:DataW H} {p:List MemPlace} (ht:T.contains t=true)
  (k5:Value.okWide P w r b t v) (h:DataW.Trod enc P w 0 (fun _=>true) true t v d p) (φ:ai):
  ∃xs,(∃n,Typed P n t xs)/\AV.den w φ (fun g=>g<w.heap.size) (tq P t xs) v/\IV.eY xs<=bu d:=by
 obtain⟨n,h⟩:=h
 obtain⟨_,xs,hd,GS,B5⟩:=Y6 eL hT n t _ _ ht h
 refine⟨xs,⟨n,GS⟩,?_,B5⟩
 have qu:∀cs:Array Value,v= .agg cs->AV.den w φ (fun g=>g<w.heap.size) (.ar xs) v:=by
  rintro cs rfl
  simp only[AV.den]
  exact⟨cs.toList,hd,by simp⟩
 unfold Value.okWide at k5
 split at k5
 ·rename_i hu
  obtain⟨cs,rfl,_⟩:=k5
  simp only[tq,hu]
  exact qu cs rfl
 ·rename_i hu
  obtain⟨cs,rfl,_⟩:=k5
  simp only[tq,hu]
  exact qu cs rfl
 ·rename_i hs ha
  have hv:v.oneCell'=true:=by
   cases v<;>simp only[Value.oneCell']<;>(unfold Cell.okWide at k5;split at k5<;>simp_all [Cell.ok])
  obtain⟨x,rfl,hx⟩:=TP (φ:=φ) hd hv
  have e:tq P t [x]= .im x:=by
   unfold tq
   split
   ·rename_i fs hu;exact absurd hu (hs _)
   ·rename_i m e hu;exact absurd hu (ha _ _)
   ·rename_i he _ _;injection he with he;rw[he]
   ·rename_i hn;exact(hn x rfl).elim
  rw[e];exact hx
theorem Pl (eL:vf bu kG) {T:List TypeId} (hT:T.all (wJ P T)=true) {w:World} {r:Reach} {b:Nat} (φ:ai):∀(ts:List TypeId) (vs:List Value) (ds:List (DataW H)) (p:List MemPlace),ts.all T.contains=true->
  (∀(j:Nat) t v,ts[j]?=some t->vs[j]?=some v->Value.okWide P w r b t v)->DataW.TrodAll enc P w 0 (fun _=>true) true ts vs ds p->
  ∃ij,AU P ts ij/\AV.ab w φ (fun g=>g<w.heap.size) (tr P ts ij) vs/\ds.length=ts.length/\IV.iM ij<=kG ds
 |[],vs,ds,p,_,_,h=>by
  obtain⟨rfl,rfl,rfl⟩:=trodAll_nil h
  exact⟨[],trivial,rfl,rfl,by simp[IV.iM]⟩
 |t::ts,vs,ds,p,hc,k5,h=>by
  obtain⟨v,u7,d,jn,p',q,rfl,rfl,rfl,U,h2⟩:=trodAll_cons h
  simp only[List.all_cons,Bool.and_eq_true]at hc
  obtain⟨xs,so,hd,cp⟩:=Y7 eL hT hc.1 (k5 0 t v rfl rfl) U φ
  obtain⟨ij,h3,h4,h5,h6⟩:=Pl eL hT φ ts u7 jn q hc.2 (fun j t v=>k5 (j+1) t v) h2
  refine⟨xs::ij,⟨so,h3⟩,?_,by simp[h5],by simp only[IV.iM,eL.cons];omega⟩
  simp only[tr,AV.ab]
  exact⟨v,u7,rfl,hd,h4⟩
theorem X4 (eL:vf bu kG) (m:Nat) {f:FuncId} {fn:Func} {s:ChangeSpec} {W:World} {base:Nat} {args:Array Value} {ds gs:List (DataW H)} {before:List MemPlace} (tb:TypeId) (T:List TypeId)
  (zG:s.vars=[]) (y2:∀ds:List (DataW H),ds.length=fn.params.size->s.fn H ds={results:=[.lit (.bool true)],args:=ds}) (hl:laidOutB P=true)
  (hr:fn.params.toList.all (fun t=>P.readableRec t&&decide (t<P.types.size))=true) (CH:fn.resultTypes=#[tb]) (CL:P.underlying tb=some .bool)
  (hT:T.all (wJ P T)=true) (Vm:fn.params.toList.all T.contains=true)
  (wC:∀ij,AU P fn.params.toList ij->IV.iM ij<=m->bh P f (tr P fn.params.toList ij) (.im (.v (.bool true))))
  (k5:∀(j:Nat) t v,fn.params[j]?=some t->args[j]?=some v->Value.okWide P W .any base t v)
  (hW:DataW.Whole enc P fn.params.toList s.vars false W args.toList ds gs before) (hk:kG (ds++gs)<=m) (Vn:VK P W (fun g=>g<W.heap.size):=by exact VK.none (by kernel_rfl)):
  Calls P f args W fun e W'=>∃v,e= .returned v/\s.post enc P fn false true false false W args v W':=by
 have yO:=hW
 obtain⟨p,q,hA,hV,rfl,hz,hn⟩:=hW
 rw[zG]at hV
 obtain⟨rfl,rfl⟩:=trodVars_none hV
 rw[List.append_nil]at hk
 obtain⟨ij,U,h2,h3,h4⟩:=Pl eL hT (r:= .any) (b:=base) (fun _=>none) _ _ _ _ Vm (fun j t v ht hv=>k5 j t v (by simpa using ht) (by simpa using hv)) hA
 have:=X3 (wC ij U (by omega)) h2 Vn
 simp only[Array.toArray_toList]at this
 refine this.mono fun e W' ⟨he,aO,gZ,uo,uq⟩=>?_
 subst he
 exact⟨_,rfl,X2 yO zG (y2 ds (by simpa using h3)) hl hr CH CL aO gZ uo uq⟩
end
end Go.AL
end
section
namespace Go.AL
open Go
section
variable {C:Cx} {K:List PK} {E:Env} {H:aa}
def D_ (C:Cx) (K:List PK) (sk:List (Nat×AV)):List Oper->List (Nat×Nat)->Nat->Env->aa->Prop
 |[],ds,i,E,H=>AQ C ds i [] K E H
 |o::os,ds,i,E,H=>match lk sk i with
  |some x=>gd ds E o.guard=some false/\D_ C K sk os (aW o.dst i ds) (i+1) (aY o.dst (.opt false x) E) H
  |none=>match gd ds E o.guard with
  |none=>AQ C ds i (o::os) K E H
  |some G=>match iu C.P E H o.op with
   |some (sc,v)=>(G=true->sc)/\D_ C K sk os (aW o.dst i ds) (i+1) (aY o.dst (wrap o.guard G v) E) H
   |none=>match o.guard with
    |some _=>AQ C ds i (o::os) K E H
    |none=>match qa C.P C.B.nb C.ob E H o with
     |some (sc,v,H')=>sc/\D_ C K sk os (aW o.dst i ds) (i+1) (aY o.dst v E) H'
     |none=>AQ C ds i (o::os) K E H
end
attribute [go_sem] D_
inductive Tree where
 |node (R P es:List Nat) (ts:List Tree)
def nO (ops:List Oper) (i j:Nat):Bool:=match ops[i]? with
 |some o=>o.after.any fun e=>Region.binds .any e&&e.on==j
 |none=>false
def BD (ops:List Oper) (i:Nat) (S:List Nat):Bool:=match ops[i]? with
 |some o=>o.after.all fun e=>!Region.binds .any e||bT S e.on
 |none=>false
def pK (o:Oper):Bool:=match o.op with
 | .select _ _=>false
 |_=>true
def qc:List Nat->Bool
 |[]=>true
 |i::r=>r.all (fun j=>decide (i<j))&&qc r
mutual
def xu (ops:List Oper) (n:Nat) (prev dc:List Nat):Tree->Bool
 | .node R P es ts=>
  qc R&&qc P&&R.all (bT prev)&&P.all (fun i=>decide (i<n)&&!bT prev i&&!bT dc i)&&
  (prev.all fun i=>bT R i||(List.range n).any fun x=>decide (i<x)&&(bT dc x||(bT prev x&&!bT R x))&&nO ops x i)&&
  P.all (fun i=>BD ops i (prev++P++dc))&&
  ((List.range n).all fun i=>bT (prev++P) i||bT dc i||bT es i||(List.range n).any fun j=>nO ops i j&&!bT (prev++P) j&&!bT dc j)&&
  (!es.isEmpty||(List.range n).all fun i=>bT (prev++P) i||bT dc i)&&xw ops n (prev++P) dc es ts
def xw (ops:List Oper) (n:Nat) (prev dc:List Nat):List Nat->List Tree->Bool
 |[],[]=>true
 |x::es,t::ts=>decide (x<n)&&!bT prev x&&!bT dc x&&BD ops x (prev++dc)&&xu ops n prev (x::dc) t&&xw ops n prev dc es ts
 |_,_=>false
end
mutual
def E0:Tree->List Nat
 | .node _ _ es ts=>es++K2 ts
def K2:List Tree->List Nat
 |[]=>[]
 |t::ts=>E0 t++K2 ts
end
mutual
def Ai (F:List Nat):Tree->Bool
 | .node _ P _ ts=>P.all (fun i=>!bT F i)&&DB F ts
def DB (F:List Nat):List Tree->Bool
 |[]=>true
 |t::ts=>Ai F t&&DB F ts
end
theorem PG {F:List Nat}:∀{ts:List Tree} {t:Tree},DB F ts=true->t∈ts->Ai F t=true
 |[],_,_,hm=>by cases hm
 |x::ts,t,h,hm=>by
  simp only[DB,Bool.and_eq_true]at h
  rcases List.mem_cons.1 hm with rfl|hm
  ·exact h.1
  ·exact PG h.2 hm
def BE (ops:List Oper) (n:Nat) (t:Tree):Bool:=Cd ops n (E0 t)&&(ops.take n).all pK&&xu ops n [] [] t&&Ai (E0 t) t
theorem my:∀(l:List Nat) (i:Nat),bT l i=true↔i∈l
 |[],i=>by simp[bT]
 |j::l,i=>by
  simp only[bT,List.mem_cons]
  cases hb:Nat.beq j i with
  |true=>have:=Nat.eq_of_beq_eq_true hb;simp[this]
  |false=>
   have aC:i≠j:=fun e=>by subst e;simp at hb
   have:=my l i
   simp[aC,this]
def DQ (d:Option Nat) (x:AV) (E:Env):Prop:=match d with
 |none=>True
 |some d=>match lk E d with
  |none=>True
  |some .top=>True
  |some y=>y=x
def tu (P:Program) (E:Env) (H:aa) (op:Op) (G:Bool):Option (Prop×AV):=match iu P E H op with
 |some r=>some r
 |none=>match G with
  |false=>some (True,.top)
  |true=>none
def vR (C:Cx) (ops:List Oper) (H:aa):List Nat->List (Nat×Nat)->Env->Prop
 |[],_,_=>True
 |i::r,ds,E=>(match ops[i]? with
  |none=>False
  |some o=>match gd ds E o.guard with
   |none=>False
   |some G=>match tu C.P E H o.op G with
    |none=>False
    |some (sc,v)=>(G=true->sc)/\DQ o.dst (wrap o.guard G v) E)/\vR C ops H r ds E
def vP (C:Cx) (ops:List Oper) (H:aa) (k:List (Nat×Nat)->Env->Prop):List Nat->List (Nat×Nat)->Env->Prop
 |[],ds,E=>k ds E
 |i::r,ds,E=>match ops[i]? with
  |none=>False
  |some o=>match gd ds E o.guard with
   |none=>False
   |some G=>match tu C.P E H o.op G with
    |none=>False
    |some (sc,v)=>(G=true->sc)/\vP C ops H k r (aW o.dst i ds) (aY o.dst (wrap o.guard G v) E)
def Cx.nr (C:Cx):Cx:={C with R:=fun _ _=>False,X:=fun _ _=>False}
def qZ (C:Cx) (K:List PK) (ops:List Oper):Exit->Act->World->Prop
 | .panic c,a,w=>∀a':Act,a'.defers=a.defers->a'.tmps.size=a.tmps.size->(∀t,(∀o∈ops,o.dst≠some t)->a'.tmps[t]?=a.tmps[t]?)->dL C (K.map (PK.ki C.fn)) (.panic c) a' w
 |_,_,_=>False
def xU (C:Cx) (V:Env->aa->Prop) (a:Act) (w:World):Prop:=∃E1 H1 φ I,bt C φ I E1 H1 a w/\V E1 H1
mutual
def vd (C:Cx) (K:List PK) (ops:List Oper) (n:Nat):Tree->List (Nat×Nat)->Env->aa->Prop
 | .node R P es ts,ds,E,H=>vR C ops H R ds E/\vP C ops H (fun ds E=>match es with
  |[]=>vq C K (ops.drop n) [] n E H
  |_::_=>nJ C K ops n es ts ds E H) P ds E
def nJ (C:Cx) (K:List PK) (ops:List Oper) (n:Nat):List Nat->List Tree->List (Nat×Nat)->Env->aa->Prop
 |x::es,t::ts,ds,E,H=>(match ops[x]? with
   |none=>False
   |some o=>AQ C.nr ds x [o] [.lp (xU C (vd C K ops n t (aW o.dst x ds))),.bot (qZ C K ops)] E H)/\nJ C K ops n es ts ds E H
 |_,_,_,_,_=>True
end
theorem AQ.next {C:Cx} {K:List PK} {ops:List Oper} {n:Nat} {t:Tree} {ds jn:List (Nat×Nat)} {i:Nat} {E:Env} {H:aa} (h:vd C K ops n t jn E H):
  AQ C.nr ds i [] [.lp (xU C (vd C K ops n t jn)),.bot (qZ C K ops)] E H:=by
 unfold AQ AO
 intro _ _ _ φ I a w hs
 exact⟨E,H,φ,I,⟨hs.bD,hs.bA,hs.env,hs.st⟩,h⟩
def gn (L:Array Bool) (i:Nat):Prop:=L.getD i true=false
def mE (L:Array Bool) (i:Nat):Prop:=L.getD i false=true
structure p4 (ops:List Oper) (S:List Nat) (L:Array Bool) (a g:Act):Prop where
 bD:a.defers=g.defers
 bA:a.tmps.size=g.tmps.size
 at':∀t,(∀i∈S,gn L i->(ops[i]?).bind (·.dst)≠some t)->a.tmps[t]?=g.tmps[t]?
def th (P:Program) (ops:List Oper) (g:Act) (w:World) (o:Oper) (u:Value):Prop:=
 if Region.wanted o (yielded ops.toArray g.tmps)=true then(execOp g.eval o).run P w= .ok (.value u) w else u=undef
def l7 (P:Program) (ops:List Oper) (g:Act) (w:World) (i:Nat):Prop:=
 ∀o,ops[i]?=some o->∃u,th P ops g w o u/\∀d,o.dst=some d->g.tmps[d]?=some u
theorem wP {ops:List Oper} {o:Oper} (hs:pK o=true) {a g:Act} (h:∀t∈looks ops o,a.tmps[t]?=g.tmps[t]?):
  execOp a.eval o=execOp g.eval o/\Region.wanted o (yielded ops.toArray a.tmps)=Region.wanted o (yielded ops.toArray g.tmps):=by
 constructor
 ·refine execOp_congr o (fun cs b hc=>by simp[pK,hc]at hs) fun x hx=>?_
  cases x with
  |tmp t=>
   have:=h t (by simp only[looks];exact List.mem_append.2 (.inl (HO _ (by simpa using hx))))
   simp only[Act.eval,Array.getD_eq_getD_getElem?,this]
  |_=>rfl
 ·unfold Region.wanted
  cases hg:o.guard with
  |none=>rfl
  |some p=>
   obtain⟨j,want⟩:=p
   simp only
   have:yielded ops.toArray a.tmps j=yielded ops.toArray g.tmps j:=by
    unfold yielded
    cases hd:(ops.toArray[j]?).bind (·.dst)with
    |none=>rfl
    |some d=>
     have eM:(ops[j]?).bind (·.dst)=some d:=by simpa using hd
     have:=h d (by simp only[looks,hg,eM];simp)
     simp only[Option.bind_some,this]
   rw[this]
theorem PL {C:Cx} {φ:ai} {I:Nat->Prop} {E:Env} {H:aa} {g:Act} {w:World} (hs:bt C φ I E H g w) {ops:List Oper} {ds:List (Nat×Nat)} (aQ:∀j d,lk ds j=some d->(ops[j]?).bind (·.dst)=some d)
  {o:Oper} {G:Bool} {sc:Prop} {v:AV} (hG:gd ds E o.guard=some G) (hv:tu C.P E H o.op G=some (sc,v)) (ay:G=true->sc):∃u,th C.P ops g w o u/\AV.den w φ I (wrap o.guard G v) u:=by
 have hw:=yD (ops:=ops.toArray) hs.env (fun j d hj=>by simpa using aQ j d hj) hG
 unfold th
 rw[hw]
 cases G with
 |true=>
  have jC:iu C.P E H o.op=some (sc,v):=by
   unfold tu at hv
   cases hq:iu C.P E H o.op with
   |some r=>rw[hq]at hv;exact hv
   |none=>rw[hq]at hv;cases hv
  obtain⟨u,hu,aS⟩:=x6 hs.env hs.st.real jC (ay rfl)
  exact⟨u,by rw[if_pos rfl];exact hu,Jn aS⟩
 |false=>
  refine⟨undef,by simp,?_⟩
  cases hg:o.guard with
  |none=>rw[hg]at hG;simp[gd]at hG
  |some p=>exact Jo
theorem Act.pP {a:Act} {d:Option Tmp} {u:Value} {t:Nat} (h:d≠some t):(a.put d u).tmps[t]?=a.tmps[t]?:=by
 cases d with
 |none=>rfl
 |some d=>simp only[Act.put];rw[Array.getElem?_setIfInBounds_ne (fun e=>h (by rw[e]))]
theorem Act.sT {a:Act} {d:Option Tmp} {u:Value}:(a.put d u).tmps.size=a.tmps.size:=by cases d<;>simp[Act.put]
theorem Act.Ak {a:Act} {d:Option Tmp} {u:Value}:(a.put d u).defers=a.defers:=by cases d<;>rfl
theorem l7.put {P:Program} {ops:List Oper} {n:Nat} {F:List Nat} (ah:p6 ops n F) (jB:∀i o,i<n->ops[i]?=some o->pK o=true) {g:Act} {w:World} {i j:Nat} {o:Oper} {u:Value} (hi:i<n) (hj:j<n) (aC:i≠j)
  (ho:ops[j]?=some o) (W0:∀oi d,ops[i]?=some oi->o.dst=some d->d∉looks ops oi) (h:l7 P ops g w i):l7 P ops (g.put o.dst u) w i:=fun oi jw=>by
 obtain⟨v,hv,hd⟩:=h oi jw
 have hl:∀t∈looks ops oi,(g.put o.dst u).tmps[t]?=g.tmps[t]?:=fun t ht=>Act.pP fun e=>W0 oi t jw e ht
 obtain⟨U,h2⟩:=wP (ops:=ops) (jB i oi hi jw) hl
 refine⟨v,by unfold th at hv⊢;rw[U,h2];exact hv,fun d ff=>?_⟩
 rw[Act.pP fun e=>?_]
 ·exact hd d ff
 ·exact aC (ah.KV j i d hj hi (by rw[ho];exact e) (by rw[jw];exact ff))
theorem dS.same {w:World} {φ:ai} {I:Nat->Prop} {E:Env} {g:Act} {d:Option Nat} {x:AV} {u:Value} (hp:dS w φ I (aY d x E) (g.put d u)) (hE:dS w φ I E g) (hs:DQ d x E) (ag:∀t,d=some t->t<g.tmps.size):dS w φ I E (g.put d u):=fun t y hy=>by
 by_cases hd:d=some t
 ·subst hd
  simp only[DQ,hy]at hs
  obtain⟨v,hv,aS⟩:=hp t x (by simp[aY,lk])
  refine⟨v,hv,?_⟩
  split at hs
  ·rename_i h;cases h
  ·rename_i h;cases h;simp only[AV.den]
  ·rename_i z _ h;cases h;rw[hs];exact aS
 ·obtain⟨v,hv,aS⟩:=hE t y hy
  exact⟨v,by rw[Act.pP hd];exact hv,aS⟩
theorem P9 {C:Cx} {ops:List Oper} {n:Nat} {F:List Nat} (ah:p6 ops n F) (fB:a7 C.n ops=true) (jB:∀i o,i<n->ops[i]?=some o->pK o=true) {H:aa} {w:World} {φ:ai} {I:Nat->Prop} {ds:List (Nat×Nat)} {E:Env} {S:List Nat} {L:Array Bool} {a:Act}
  (
   aQ:∀j d,lk ds j=some d->(ops[j]?).bind (·.dst)=some d) (FH:∀i∈S,bT F i=false):∀(R D:List Nat) (g:Act),(∀i∈R,i<n/\i∈S)->(∀i∈D,i<n)->(∀i∈D,∀j∈R,i<j)->qc R=true->vR C ops H R ds E->bt C φ I E H g w->p4 ops S L a g->
   (∀i∈D,gn L i->l7 C.P ops g w i)->∃g',bt C φ I E H g' w/\p4 ops S L a g'/\∀i,(i∈D\/i∈R)->gn L i->l7 C.P ops g' w i
 |[],D,g,_,_,_,_,_,hs,ha,hp=>⟨g,hs,ha,fun i hi=>hp i (hi.resolve_right (by simp))⟩
 |j::R,D,g,hR,hD,Fz,rU,hv,hs,ha,hp=>by
  obtain⟨fh,Gb⟩:=hR j (by simp)
  simp only[qc,Bool.and_eq_true,List.all_eq_true,decide_eq_true_eq]at rU
  simp only[vR]at hv
  obtain⟨hQ,k4⟩:=hv
  have fin:∀g',bt C φ I E H g' w->p4 ops S L a g'->(∀i∈D++[j],gn L i->l7 C.P ops g' w i)->∃g',bt C φ I E H g' w/\p4 ops S L a g'/\∀i,(i∈D\/i∈j::R)->gn L i->l7 C.P ops g' w i:=fun g' cS FK bH=>by
   obtain⟨g2,U,h2,h3⟩:=P9 ah fB jB aQ FH R (D++[j]) g' (fun i hi=>hR i (by simp[hi])) (fun i hi=>by
    rcases List.mem_append.1 hi with hi|hi
    ·exact hD i hi
    ·simp at hi;subst hi;exact fh) (fun i hi k hk=>by
    rcases List.mem_append.1 hi with hi|hi
    ·exact Fz i hi k (by simp[hk])
    ·simp at hi;subst hi;exact rU.1 k hk) rU.2 k4 cS FK bH
   refine⟨g2,U,h2,fun i hi=>h3 i ?_⟩
   rcases hi with hi|hi
   ·exact .inl (by simp[hi])
   ·rcases List.mem_cons.1 hi with rfl|hi
    ·exact .inl (by simp)
    ·exact .inr hi
  split at hQ
  ·exact hQ.elim
  ·rename_i o ho
   split at hQ
   ·exact hQ.elim
   ·rename_i G hG
    split at hQ
    ·exact hQ.elim
    ·rename_i sc v vW
     obtain⟨ay,GM⟩:=hQ
     by_cases hu:gn L j
     ·obtain⟨u,zo,aS⟩:=PL hs aQ hG vW ay
      have ni:=hs.put (d:=o.dst) (v:=wrap o.guard G v) (u:=u) hs.st (bC.refl w φ I) (fun x hx=>tD fB (List.mem_of_getElem? ho) x hx) aS
      have GP:∀t∈looks ops o,(g.put o.dst u).tmps[t]?=g.tmps[t]?:=fun t ht=>Act.pP fun e=>by
       have:=(ah.sM j o fh ho t ht j t fh (by rw[ho];exact e) rfl (FH j Gb)).1
       omega
      refine fin (g.put o.dst u) ⟨ni.bD,ni.bA,dS.same ni.env hs.env GM (fun t ht=>by rw[hs.bA];exact tD fB (List.mem_of_getElem? ho) t ht),hs.st⟩
       ⟨by rw[Act.Ak];exact ha.bD,by rw[Act.sT];exact ha.bA,fun t ht=>?_⟩ (fun i hi wA=>?_)
      ·rw[Act.pP fun e=>ht j Gb hu (by rw[ho];exact e)]
       exact ha.at' t ht
      ·rcases List.mem_append.1 hi with hi|hi
       ·refine l7.put ah jB (hD i hi) fh (by have:=Fz i hi j (by simp);omega) ho (fun oi d jw hd kS=>?_) (hp i hi wA)
        have:=(ah.sM i oi (hD i hi) jw d kS j d fh (by rw[ho];exact hd) rfl (FH j Gb)).1
        have:=Fz i hi j (by simp)
        omega
       ·simp at hi
        subst hi
        intro o' pq
        rw[ho]at pq
        cases pq
        obtain⟨U,h2⟩:=wP (ops:=ops) (jB i o fh ho) GP
        refine⟨u,by unfold th at zo⊢;rw[U,h2];exact zo,fun d hd=>?_⟩
        have ag:d<g.tmps.size:=by rw[hs.bA];exact tD fB (List.mem_of_getElem? ho) d hd
        rw[hd];simp[Act.put,ag]
     ·refine fin g hs ha (fun i hi wA=>?_)
      rcases List.mem_append.1 hi with hi|hi
      ·exact hp i hi wA
      ·simp at hi;subst hi;exact absurd wA hu
def Sep (ops:List Oper) (i j:Nat):Prop:=∀oi oj d,ops[i]?=some oi->ops[j]?=some oj->oj.dst=some d->d∉looks ops oi
theorem KZ {ops:List Oper} {ds:List (Nat×Nat)} {i:Nat} {o:Oper} (ho:ops[i]?=some o) (aQ:∀j d,lk ds j=some d->(ops[j]?).bind (·.dst)=some d):∀j d,lk (aW o.dst i ds) j=some d->(ops[j]?).bind (·.dst)=some d:=fun j d hj=>by
 unfold aW at hj
 split at hj
 ·rename_i d' eM
  simp only[lk]at hj
  cases hb:Nat.beq i j with
  |true=>
   rw[hb]at hj
   have:=Nat.eq_of_beq_eq_true hb
   subst this
   simp only[cond_true,Option.some.injEq]at hj
   subst hj
   rw[ho];exact eM
  |false=>rw[hb]at hj;exact aQ j d hj
 ·exact aQ j d hj
theorem P8 {C:Cx} {ops:List Oper} {n:Nat} {F:List Nat} (ah:p6 ops n F) (fB:a7 C.n ops=true) (jB:∀i o,i<n->ops[i]?=some o->pK o=true) {H:aa} {w:World} {φ:ai} {I:Nat->Prop} {L:Array Bool} {a:Act} {k:List (Nat×Nat)->Env->Prop}:
  ∀(P D S:List Nat) (g:Act) (ds:List (Nat×Nat)) (E:Env),(∀j d,lk ds j=some d->(ops[j]?).bind (·.dst)=some d)->(∀i∈P,i<n/\gn L i/\bT F i=false)->(∀i∈D,i<n)->(∀i∈D,∀j∈P,i≠j/\Sep ops i j)->qc P=true->
   vP C ops H k P ds E->bt C φ I E H g w->p4 ops S L a g->(∀i∈D,gn L i->l7 C.P ops g w i)->
   ∃jn E' g',k jn E'/\(∀j d,lk jn j=some d->(ops[j]?).bind (·.dst)=some d)/\bt C φ I E' H g' w/\p4 ops (S++P) L a g'/\∀i,(i∈D\/i∈P)->gn L i->l7 C.P ops g' w i
 |[],D,S,g,ds,E,aQ,_,_,_,_,hv,hs,ha,hp=>⟨ds,E,g,hv,aQ,hs,by simpa using ha,fun i hi=>hp i (hi.resolve_right (by simp))⟩
 |j::P,D,S,g,ds,E,aQ,hP,hD,Fy,rU,hv,hs,ha,hp=>by
  obtain⟨fh,qz,V8⟩:=hP j (by simp)
  simp only[qc,Bool.and_eq_true,List.all_eq_true,decide_eq_true_eq]at rU
  simp only[vP]at hv
  split at hv
  ·exact hv.elim
  ·rename_i o ho
   split at hv
   ·exact hv.elim
   ·rename_i G hG
    split at hv
    ·exact hv.elim
    ·rename_i sc v vW
     obtain⟨ay,um⟩:=hv
     obtain⟨u,zo,aS⟩:=PL hs aQ hG vW ay
     have ni:=hs.put (d:=o.dst) (v:=wrap o.guard G v) (u:=u) hs.st (bC.refl w φ I) (fun x hx=>tD fB (List.mem_of_getElem? ho) x hx) aS
     have GP:∀t∈looks ops o,(g.put o.dst u).tmps[t]?=g.tmps[t]?:=fun t ht=>Act.pP fun e=>by
      have:=(ah.sM j o fh ho t ht j t fh (by rw[ho];exact e) rfl V8).1
      omega
     have WZ:∀i∈D++[j],i<n:=fun i hi=>by
      rcases List.mem_append.1 hi with hi|hi
      ·exact hD i hi
      ·simp at hi;subst hi;exact fh
     obtain⟨jn,E',g',U,h2,h3,h4,h5⟩:=P8 (a:=a) ah fB jB P (D++[j]) (S++[j]) (g.put o.dst u) _ _ (KZ ho aQ) (fun i hi=>hP i (by simp[hi])) WZ (fun i hi x hx=>by
       rcases List.mem_append.1 hi with hi|hi
       ·exact Fy i hi x (by simp[hx])
       ·simp at hi;subst hi
        refine⟨by have:=rU.1 x hx;omega,fun oi ox d jw WA hd kS=>?_⟩
        have U:=(ah.sM i oi fh jw d kS x d (hP x (by simp[hx])).1 (by rw[WA];exact hd) rfl (hP x (by simp[hx])).2.2).1
        have:=rU.1 x hx
        omega) rU.2 um ni
      ⟨by rw[Act.Ak];exact ha.bD,by rw[Act.sT];exact ha.bA,fun t ht=>by
       rw[Act.pP fun e=>ht j (by simp) qz (by rw[ho];exact e)]
       exact ha.at' t fun i hi=>ht i (by simp[hi])⟩
      (
       fun i hi wA=>by
       rcases List.mem_append.1 hi with hi|hi
       ·exact l7.put ah jB (hD i hi) fh (Fy i hi j (by simp)).1 ho (fun oi d jw hd kS=>(Fy i hi j (by simp)).2 oi o d jw ho hd kS) (hp i hi wA)
       ·simp at hi
        subst hi
        intro o' pq
        rw[ho]at pq
        cases pq
        obtain⟨U,h2⟩:=wP (ops:=ops) (jB i o fh ho) GP
        refine⟨u,by unfold th at zo⊢;rw[U,h2];exact zo,fun d hd=>?_⟩
        have ag:d<g.tmps.size:=by rw[hs.bA];exact tD fB (List.mem_of_getElem? ho) d hd
        rw[hd];simp[Act.put,ag])
     refine⟨jn,E',g',U,h2,h3,by simpa using h4,fun i hi=>h5 i ?_⟩
     rcases hi with hi|hi
     ·exact .inl (by simp[hi])
     ·rcases List.mem_cons.1 hi with rfl|hi
      ·exact .inl (by simp)
      ·exact .inr hi
theorem Y8 {C:Cx} {ops:List Oper} {o:Oper} (hs:pK o=true) {a g:Act} {w:World} (hl:∀t∈looks ops o,a.tmps[t]?=g.tmps[t]?) (pe:a.defers=g.defers) {J J':Act->World->Prop} {Q Q':Exit->Act->World->Prop}
  (hq:∀c w,Q (.panic c) g w->Q' (.panic c) a w) (ho:¬LetsOut Q) (hn:∀dd v w',J (({g with defers:=dd}:Act).put o.dst v) w'->J' (({a with defers:=dd}:Act).put o.dst v) w') (h:o.wp C.P g w J Q):o.wp C.P a w J' Q':=by
 have zi:∀v w',J (g.put o.dst v) w'->J' (a.put o.dst v) w':=fun v w' hj=>by
  have:=hn g.defers v w' hj
  rw[<-pe]at this
  exact this
 unfold Oper.wp at h⊢
 rw[(wP hs hl).1]
 generalize(execOp g.eval o).run C.P w=q at*
 cases q with
 |ok x w'=>
  cases x<;>simp only[Oper.upon]at h⊢<;>first
   |exact zi _ _ h
   |(rw[pe];exact hn _ _ _ h)
   |exact h.elim
   |exact h.mono fun v rq he=>zi _ _ he
   |(
     refine h.mono fun e rq he=>?_
     cases e with
     |returned v=>exact zi _ _ he
     |panicked c=>exact hq _ _ he
     |outgrown=>exact(ho he).elim)
 |halt x w'=>cases x<;>simp only[Oper.upon]at h⊢<;>first|exact hq _ _ h|exact h.elim
theorem Y9 {C:Cx} {ops:List Oper} {o:Oper} (hs:pK o=true) {a g:Act} {w:World} (hl:∀t∈looks ops o,a.tmps[t]?=g.tmps[t]?) (pe:a.defers=g.defers) {J J':Act->World->Prop} {Q Q':Exit->Act->World->Prop}
  (hq:∀c w,Q (.panic c) g w->Q' (.panic c) a w) (ho:¬LetsOut Q) (hn:∀dd v w',J (({g with defers:=dd}:Act).put o.dst v) w'->J' (({a with defers:=dd}:Act).put o.dst v) w') (h:pM C.P o g w J Q):pM C.P o a w J' Q':=by
 have zi:∀v w',J (g.put o.dst v) w'->J' (a.put o.dst v) w':=fun v w' hj=>by
  have:=hn g.defers v w' hj
  rw[<-pe]at this
  exact this
 rcases h with h|⟨l,f,tmps,as,bd,hr,h⟩
 ·exact .inl (Y8 hs hl pe hq ho hn h)
 ·refine .inr ⟨l,f,tmps,as,bd,by rw[(wP hs hl).1];exact hr,h.mono fun e rq he=>?_⟩
  cases e with
  |returned v=>exact zi _ _ he
  |panicked c=>exact hq _ _ he
  |outgrown=>exact(ho he).elim
theorem wR {L:Array Bool} {i:Nat} (h:mE L i) (h':gn L i):False:=by
 unfold mE at h
 unfold gn at h'
 rcases Nat.lt_or_ge i L.size with hl|hl
 ·simp[hl]at h h';rw[h]at h';cases h'
 ·simp[Array.getElem?_eq_none hl]at h
theorem aa4 {L:Array Bool} {i j:Nat} (h:gn (L.setIfInBounds i true) j):gn L j:=by
 unfold gn at h⊢
 by_cases fC:i=j
 ·subst fC
  rcases Nat.lt_or_ge i L.size with hl|hl
  ·simp[hl]at h
  ·simp[Array.getElem?_eq_none hl]at h
 ·rwa [getD_set_ne true fC]at h
theorem D5 {L:Array Bool} {i j:Nat} (fC:i≠j) (h:gn L j):gn (L.setIfInBounds i true) j:=by
 unfold gn at h⊢
 rwa [getD_set_ne true fC]
theorem OE {L:Array Bool} {i j:Nat} (h:mE L j):mE (L.setIfInBounds i true) j:=getD_set_true h
theorem x_ {ops:List Oper} {i j:Nat}:nO ops i j=true↔∃o,ops[i]?=some o/\∃e∈o.after,Region.binds .any e=true/\e.on=j:=by
 unfold nO
 cases ho:ops[i]? with
 |none=>simp
 |some o=>
  constructor
  ·intro h
   obtain⟨e,he,hb⟩:=Array.any_eq_true'.1 h
   simp only[Bool.and_eq_true,beq_iff_eq]at hb
   exact⟨o,rfl,e,he,hb⟩
  ·rintro⟨o',pq,e,he,hb⟩
   cases pq
   exact Array.any_eq_true'.2 ⟨e,he,by simpa using hb⟩
theorem KR {ops:List Oper} {i:Nat} {S:List Nat} (h:BD ops i S=true) {j:Nat} (hb:nO ops i j=true):j∈S:=by
 obtain⟨o,ho,e,he,cp,rfl⟩:=x_.1 hb
 unfold BD at h
 rw[ho]at h
 have:=Array.all_eq_true'.1 h e he
 rw[cp]at this
 simpa[my]using this
theorem aaL {ops:List Oper} {n:Nat} {prev dc R P es:List Nat} {ts:List Tree} (h:xu ops n prev dc (.node R P es ts)=true):
  qc R=true/\qc P=true/\(∀i∈R,i∈prev)/\(∀i∈P,i<n/\i∉prev/\i∉dc)/\
  (∀i∈prev,i∉R->∃x,i<x/\x<n/\(x∈dc\/(x∈prev/\x∉R))/\nO ops x i=true)/\
  (∀i∈P,∀j,nO ops i j=true->j∈prev++P++dc)/\
  (∀i,i<n->i∈prev++P\/i∈dc\/i∈es\/∃j,j<n/\nO ops i j=true/\j∉prev++P/\j∉dc)/\
  (es=[]->∀i,i<n->i∈prev++P\/i∈dc)/\xw ops n (prev++P) dc es ts=true:=by
 have a6:∀(l:List Nat) (i:Nat),(!bT l i)=true->i∉l:=fun l i h hm=>by rw[(my _ _).2 hm]at h;cases h
 simp only[xu,Bool.and_eq_true]at h
 obtain⟨⟨⟨⟨⟨⟨⟨⟨U,h2⟩,h3⟩,h4⟩,h5⟩,h6⟩,h7⟩,h8⟩,h9⟩:=h
 refine⟨U,h2,fun i hi=>(my _ _).1 (List.all_eq_true.1 h3 i hi),fun i hi=>?_,fun i hi hR=>?_,fun i hi j hj=>KR (List.all_eq_true.1 h6 i hi) hj,fun i hi=>?_,fun he i hi=>?_,h9⟩
 ·have:=List.all_eq_true.1 h4 i hi
  simp only[Bool.and_eq_true,decide_eq_true_eq]at this
  exact⟨this.1.1,a6 _ _ this.1.2,a6 _ _ this.2⟩
 ·have:=List.all_eq_true.1 h5 i hi
  simp only[Bool.or_eq_true,List.any_eq_true,List.mem_range,Bool.and_eq_true,decide_eq_true_eq]at this
  rcases this with h|⟨x,hx,⟨MF,Wz⟩,hb⟩
  ·exact absurd ((my _ _).1 h) hR
  ·refine⟨x,MF,hx,?_,hb⟩
   rcases Wz with h|h
   ·exact .inl ((my _ _).1 h)
   ·exact .inr ⟨(my _ _).1 h.1,a6 _ _ h.2⟩
 ·have:=List.all_eq_true.1 h7 i (List.mem_range.2 hi)
  simp only[Bool.or_eq_true,List.any_eq_true,List.mem_range,Bool.and_eq_true]at this
  rcases this with((h|h)|h)|⟨j,hj,⟨hb,U⟩,h2⟩
  ·exact .inl ((my _ _).1 h)
  ·exact .inr (.inl ((my _ _).1 h))
  ·exact .inr (.inr (.inl ((my _ _).1 h)))
  ·exact .inr (.inr (.inr ⟨j,hj,hb,a6 _ _ U,a6 _ _ h2⟩))
 ·subst he
  simp only[List.isEmpty_nil,Bool.not_true,Bool.false_or,List.all_eq_true,List.mem_range,Bool.or_eq_true]at h8
  exact(h8 i hi).imp (my _ _).1 (my _ _).1
theorem I2 {ops:List Oper} {n:Nat} {prev dc:List Nat} {C:Cx} {K:List PK} {ds:List (Nat×Nat)} {E:Env} {H:aa}:∀(es:List Nat) (ts:List Tree),xw ops n prev dc es ts=true->nJ C K ops n es ts ds E H->∀x∈es,∃t∈ts,
  x<n/\x∉prev/\x∉dc/\(∀j,nO ops x j=true->j∈prev++dc)/\xu ops n prev (x::dc) t=true/\
   match ops[x]? with
   |none=>False
   |some o=>AQ C.nr ds x [o] [.lp (xU C (vd C K ops n t (aW o.dst x ds))),.bot (qZ C K ops)] E H
 |[],_,_,_,x,hx=>by simp at hx
 |y::es,[],h,_,x,hx=>by simp[xw]at h
 |y::es,t::ts,h,hv,x,hx=>by
  have a6:∀(l:List Nat) (i:Nat),(!bT l i)=true->i∉l:=fun l i h hm=>by rw[(my _ _).2 hm]at h;cases h
  simp only[xw,Bool.and_eq_true,decide_eq_true_eq]at h
  obtain⟨⟨⟨⟨⟨U,h2⟩,h3⟩,h4⟩,h5⟩,h6⟩:=h
  simp only[nJ]at hv
  rcases List.mem_cons.1 hx with rfl|hx
  ·exact⟨t,by simp,U,a6 _ _ h2,a6 _ _ h3,fun j hj=>KR h4 hj,h5,hv.1⟩
  ·obtain⟨t',sd,r⟩:=I2 es ts h6 hv.2 x hx
   exact⟨t',by simp[sd],r⟩
theorem Uu {L:Array Bool} {i:Nat} (h:L.getD i true=false):mE (L.setIfInBounds i true) i:=by
 unfold mE
 rcases Nat.lt_or_ge i L.size with hl|hl
 ·simp[hl]
 ·simp[Array.getElem?_eq_none hl]at h
theorem PA {C:Cx} {K:List PK} {ops:List Oper} {n:Nat} {F:List Nat} (ah:p6 ops n F) (fB:a7 C.n ops=true) (jB:∀i o,i<n->ops[i]?=some o->pK o=true):
  ∀(t:Tree) (prev dc:List Nat) (ds:List (Nat×Nat)) (E:Env) (H:aa),xu ops n prev dc t=true->Ai F t=true->(∀i∈prev,bT F i=false)->(∀j d,lk ds j=some d->(ops[j]?).bind (·.dst)=some d)->vd C K ops n t ds E H->
  (∀i∈prev,i<n)->(∀i∈dc,i<n)->(∀i,(i∈prev\/i∈dc)->∀j,nO ops i j=true->j∈prev\/j∈dc)->
  ∀(L:Array Bool) (a:Act) (w:World),HeadInv .any ops.toArray n L->(∀i∈dc,mE L i)->(∀i,i<n->i∉prev->i∉dc->gn L i)->(∃g φ I,bt C φ I E H g w/\p4 ops prev L a g)->
   pY C.P .any ops.toArray (dL C (K.map (PK.ki C.fn))) (fu L n+(ops.length-n)) L a w
 | .node R P es ts,prev,dc,ds,E,H,hB,Nc,Na,aQ,hv,CE,VS,cz,L,a,w,inv,hle,r8,⟨g,φ,I,hs,fy⟩=>by
  obtain⟨hR,hP,Mk,tO,VX,Vf,VU,wb,L_⟩:=aaL hB
  simp only[vd]at hv
  obtain⟨Xf,Xe⟩:=hv
  simp only[Ai,Bool.and_eq_true,List.all_eq_true,Bool.not_eq_true']at Nc
  obtain⟨Gx,WD⟩:=Nc
  have Nb:∀i∈prev++P,bT F i=false:=fun i hi=>(List.mem_append.1 hi).elim (Na i) (Gx i)
  have We:∀(d i:Nat),n-i=d->i∈prev->i∉R->mE L i:=by
   intro d
   induction d using Nat.strongRecOn with
   |_ d ih=>
    intro i hd hi Cr
    obtain⟨x,MF,sn,hx,hb⟩:=VX i hi Cr
    have ug:mE L x:=by
     rcases hx with hx|⟨iK,qM⟩
     ·exact hle x hx
     ·exact ih (n-x) (by omega) x rfl iK qM
    obtain⟨o,ho,ed,tY,iF,rfl⟩:=x_.1 hb
    exact inv.closed x o (by simpa using ho) ug ed tY iF
  obtain⟨g1,jA,Vq,dq⟩:=P9 ah fB jB aQ (S:=prev) (L:=L) (a:=a) Na R [] g (fun i hi=>⟨CE i (Mk i hi),Mk i hi⟩) (fun i hi=>by simp at hi) (fun i hi=>by simp at hi) hR Xf hs fy (fun i hi=>by simp at hi)
  have pz:∀i∈prev,gn L i->l7 C.P ops g1 w i:=fun i hi hu=>by
   by_cases Cr:i∈R
   ·exact dq i (.inr Cr) hu
   ·exact(wR (We _ i rfl hi Cr) hu).elim
  have BY:∀i∈P,i<n/\gn L i:=fun i hi=>⟨(tO i hi).1,r8 i (tO i hi).1 (tO i hi).2.1 (tO i hi).2.2⟩
  obtain⟨jn,E',g',hk,wa,gD,Vr,ej⟩:=P8 (a:=a) ah fB jB P prev prev g1 ds E aQ (fun i hi=>⟨(BY i hi).1,(BY i hi).2,Gx i hi⟩) CE (fun i hi j hj=>⟨fun e=>(tO j hj).2.1 (e▸hi),fun oi oj d jw Wu hd kS=>by
    obtain⟨_,ed,tY,iF,zl⟩:=ah.sM i oi (CE i hi) jw d kS j d (BY j hj).1 (by rw[Wu];exact hd) rfl (Gx j hj)
    rcases cz i (.inl hi) j (x_.2 ⟨oi,jw,ed,tY,iF,zl⟩)with h|h
    ·exact(tO j hj).2.1 h
    ·exact(tO j hj).2.2 h⟩) hP Xe jA Vq pz
  have FI:∀i∈prev++P,i<n:=fun i hi=>by
   rcases List.mem_append.1 hi with hi|hi
   ·exact CE i hi
   ·exact(BY i hi).1
  have inner:∀(c:Nat) (L:Array Bool) (a:Act),fu L n=c->HeadInv .any ops.toArray n L->(∀i∈dc,mE L i)->(∀i,i<n->i∉prev++P->i∉dc->gn L i)->p4 ops (prev++P) L a g'->
    (∀i∈prev++P,gn L i->l7 C.P ops g' w i)->pY C.P .any ops.toArray (dL C (K.map (PK.ki C.fn))) (c+(ops.length-n)) L a w:=by
   intro c
   induction c with
   |zero=>
    intro L a hc inv hle r8 fy hp
    have iE:=Bu L n hc
    have aO:L.size=ops.length:=by simpa using inv.size
    have MT:∀i,i<n->mE L i:=fun i hi=>by
     have U:=iE i hi
     have ag:i<L.size:=by rw[aO];have:=ah.le;omega
     unfold mE
     simp[ag]at U⊢;exact U
    cases es with
    |cons x ef=>
     simp only at hk
     obtain⟨t',_,sn,G4,uB,_⟩:=I2 _ _ L_ hk x (by simp)
     exact(wR (MT x sn) (r8 x sn G4 uB)).elim
    |nil=>
     simp only at hk
     have FV:L=canon n ops.length:=by
      apply Array.ext
      ·simp[canon,aO]
      ·intro i U h2
       simp only[canon,List.getElem_toArray,List.getElem_map,List.getElem_range]
       by_cases hi:i<n
       ·have:=iE i hi
        simp[U]at this
        simp[hi,this]
       ·have:=inv.tail i (by omega) (by simpa using(by omega:i<ops.length))
        simp[U]at this
        simp[hi,this]
     have Vp:a=g':=by
      have ht:a.tmps=g'.tmps:=by
       apply Array.ext_getElem?
       intro t
       exact fy.at' t fun i hi hu=>(wR (MT i (FI i hi)) hu).elim
      have hd:=fy.bD
      cases a;cases g'
      simp only at ht hd
      subst ht;subst hd;rfl
     subst Vp
     rw[Nat.zero_add]
     have zu:=ah.seq
     rw[<-FV]at zu
     have F2:a7 C.n (ops.drop n)=true:=by
      rw[a7,List.all_eq_true]
      exact fun o ho=>List.all_eq_true.1 fB o (List.mem_of_mem_drop ho)
     have fW:=xH (C:=C) (K:=K.map (PK.ki C.fn)) (ops.drop n) [] n E' H F2 (xJ C K _ _ _ _ _ hk)
     have U:=Jm (P:=C.P) (md:= .any) (ops:=ops.toArray) (Q:=dL C (K.map (PK.ki C.fn))) (ops.drop n) n L a w (fun j=>by simp[List.getElem?_drop]) (by simpa using zu)
      (fW ops.toArray (fun j d hj=>by simp[lk]at hj) (fun j o hj=>by rw[List.getElem?_drop]at hj;simp[hj]) φ I a w gD)
     simpa using U
   |succ c ih=>
    intro L a hc inv hle r8 fy hp
    obtain⟨i0,ua,zE,Gn⟩:=EO L n (by omega)
    have aO:L.size=ops.length:=by simpa using inv.size
    have ac9:=ah.le
    have zq:i0∈Region.ready .any ops.toArray L:=by
     rw[mem_ready]
     have ag:i0<ops.length:=by omega
     refine⟨zE,ops[i0],by simp[ag],fun e he hb=>?_⟩
     have lN:=ah.back i0 ops[i0] ua (List.getElem?_eq_getElem ag) e he hb
     have U:=Gn e.on lN
     have Gl:e.on<L.size:=by omega
     simp[Gl]at U⊢;exact U
    rw[show c+1+(ops.length-n)=(c+(ops.length-n))+1 by omega]
    refine⟨fun h=>(by rw[h]at zq;cases zq),fun i hi=>?_⟩
    have dC:=PN ah inv ua zE i hi
    obtain⟨kZ,o,ho,iE⟩:=mem_ready.1 hi
    have eC:ops[i]?=some o:=by simpa using ho
    have CY:=inv.set hi dC
    have qw:fu (L.setIfInBounds i true) n=c:=by have:=EP L i kZ n dC;omega
    have Mu:∀j,nO ops i j=true->mE L j:=fun j hb=>by
     obtain⟨o',pq,ed,tY,iF,rfl⟩:=x_.1 hb
     rw[eC]at pq
     cases pq
     exact iE ed tY iF
    have zf:∀t∈looks ops o,a.tmps[t]?=g'.tmps[t]?:=fun t ht=>fy.at' t fun j hj qz og=>by
     obtain⟨_,ed,tY,iF,zl⟩:=ah.sM i o dC eC t ht j t (FI j hj) og rfl (Nb j hj)
     exact wR (Mu j (x_.2 ⟨o,eC,ed,tY,iF,zl⟩)) qz
    obtain⟨hex,Nz⟩:=wP (ops:=ops) (jB i o dC eC) zf
    have Vs:∀u,(∀d,o.dst=some d->d<a.tmps.size->g'.tmps[d]?=some u)->p4 ops (prev++P) (L.setIfInBounds i true) (a.put o.dst u) g':=fun u hu=>by
     refine⟨by rw[Act.Ak];exact fy.bD,by rw[Act.sT];exact fy.bA,fun t ht=>?_⟩
     by_cases hd:o.dst=some t
     ·by_cases ag:t<a.tmps.size
      ·rw[hu t hd ag,hd];simp[Act.put,ag]
      ·rw[Array.getElem?_eq_none (by rw[Act.sT];exact Nat.not_lt.1 ag),Array.getElem?_eq_none (by rw[<-fy.bA];exact Nat.not_lt.1 ag)]
     ·rw[Act.pP hd]
      refine fy.at' t fun j hj qz og=>?_
      by_cases fC:i=j
      ·subst fC;rw[eC]at og;exact hd og
      ·exact ht j hj (D5 fC qz) og
    have pure:i∈prev++P->oK C.P ops.toArray (dL C (K.map (PK.ki C.fn))) i (pY C.P .any ops.toArray (dL C (K.map (PK.ki C.fn))) (c+(ops.length-n)) (L.setIfInBounds i true)) a w:=fun MD=>by
     obtain⟨u,nj,WH⟩:=hp i MD kZ o eC
     have bl:=ih (L.setIfInBounds i true) (a.put o.dst u) qw CY (fun j hj=>OE (hle j hj)) (fun j fh uc jY=>D5 (fun e=>uc (e▸MD)) (r8 j fh uc jY)) (Vs u fun d hd _=>WH d hd) (fun j hj qz=>hp j hj (aa4 qz))
     unfold oK
     rw[ho]
     simp only
     rw[Nz]
     unfold th at nj
     split
     ·rename_i hw
      rw[if_pos hw]at nj
      refine Or.inl ?_
      unfold Oper.wp
      rw[hex,nj,Oper.upon_value]
      exact bl
     ·rename_i hw
      rw[if_neg hw]at nj
      rw[<-nj];exact bl
    rcases VU i dC with h|h|h|⟨j,fh,hb,uc,jY⟩
    ·exact pure h
    ·exact(wR (hle i h) kZ).elim
    ·
     cases es with
     |nil=>simp at h
     |cons x0 ef=>
       simp only at hk
       obtain⟨t',sd,sn,G4,uB,CQ,U2,hk⟩:=I2 _ _ L_ hk i h
       rw[eC]at hk
       simp only at hk
       have aB:=hk
       unfold AQ AO at aB
       have aB:=aB ops.toArray (fun j d hj=>by simpa using wa j d hj) (fun j o' hj=>by
        cases j with
        |zero=>simp at hj;subst hj;rw[Nat.add_zero,ho];rfl
        |succ j=>simp at hj) φ I g' w ⟨gD.bD,gD.bA,gD.env,gD.st⟩
       simp only[gK]at aB
       have Ce:∀dd v w',(∃E1 H1 φ I,bt C φ I E1 H1 (({g' with defers:=dd}:Act).put o.dst v) w'/\vd C K ops n t' (aW o.dst i jn) E1 H1)->
         pY C.P .any ops.toArray (dL C (K.map (PK.ki C.fn))) (c+(ops.length-n)) (L.setIfInBounds i true) (({a with defers:=dd}:Act).put o.dst v) w':=fun dd v w' ⟨E1,H1,a_,I1,wq,zF⟩=>by
        rw[<-qw]
        refine PA ah fB jB t' (prev++P) (i::dc) _ E1 H1 U2 (PG WD sd) Nb (KZ eC wa) zF FI (fun j hj=>by
          rcases List.mem_cons.1 hj with rfl|hj
          ·exact sn
          ·exact VS j hj) (fun j hj k hb=>by
          have:k∈prev++P++dc:=by
           rcases hj with hj|hj
           ·rcases List.mem_append.1 hj with hj|hj
            ·rcases cz j (.inl hj) k hb with h|h<;>simp[h]
            ·exact Vf j hj k hb
           ·rcases List.mem_cons.1 hj with rfl|hj
            ·exact CQ k hb
            ·rcases cz j (.inr hj) k hb with h|h<;>simp[h]
          rcases List.mem_append.1 this with h|h
          ·exact .inl h
          ·exact .inr (List.mem_cons_of_mem _ h)) _ _ w' CY (fun j hj=>by
          rcases List.mem_cons.1 hj with rfl|hj
          ·exact Uu kZ
          ·exact OE (hle j hj)) (fun j fh uc jY=>D5 (fun e=>jY (by simp[e])) (r8 j fh uc fun hm=>jY (List.mem_cons_of_mem _ hm))) ⟨_,a_,I1,wq,?_⟩
        refine⟨by rw[Act.Ak,Act.Ak],by rw[Act.sT,Act.sT];exact fy.bA,fun t ht=>?_⟩
        by_cases hd:o.dst=some t
        ·by_cases ag:t<a.tmps.size
         ·rw[hd];simp[Act.put,ag,<-fy.bA]
         ·rw[Array.getElem?_eq_none (by rw[Act.sT];exact Nat.not_lt.1 ag),Array.getElem?_eq_none (by rw[Act.sT,<-fy.bA];exact Nat.not_lt.1 ag)]
        ·rw[Act.pP hd,Act.pP hd]
         exact fy.at' t fun j hj qz=>ht j hj (D5 (fun e=>by subst e;exact G4 hj) qz)
       unfold oK
       rw[ho]
       simp only
       rw[Nz]
       split
       ·rename_i hw
        rw[if_pos hw]at aB
        exact Y9 (ops:=ops) (jB i o dC eC) zf fy.bD (fun c w hq=>hq _ fy.bD fy.bA fun t ht=>fy.at' t fun i _ _ he=>by
         cases ho:ops[i]? with
         |none=>rw[ho]at he;cases he
         |some o=>rw[ho]at he;exact ht o (List.mem_of_getElem? ho) he) (fun⟨a,w,hq⟩=>hq) Ce aB
       ·rename_i hw
        rw[if_neg hw]at aB
        have:=Ce g'.defers undef w aB
        rw[<-fy.bD]at this
        exact this
    ·
     exact(wR (Mu j hb) (r8 j fh uc jY)).elim
  refine inner _ L a rfl inv hle (fun i dC U h2=>r8 i dC (fun hm=>U (List.mem_append_left _ hm)) h2) Vr (fun i hi hu=>ej i (by
   rcases List.mem_append.1 hi with hi|hi
   ·exact .inl hi
   ·exact .inr hi) hu)
termination_by t=>SizeOf.sizeOf t
decreasing_by
 have:=List.sizeOf_lt_of_mem sd
 simp only[Tree.node.sizeOf_spec]
 omega
section
variable {C:Cx} {K:List PK} {E:Env} {H:aa} {p:List Nat}
theorem AP.db {id:Nat} {ops:List Oper} (n:Nat) (t:Tree) (hm:C.P.follows .mixedOrders=true) (hc:b7 C.fn p= .region id ops.toArray true) (ah:a7 C.n ops=true) (hB:BE ops n t=true)
  (h:vd C K ops n t [] E H):AP C p K E H:=by
 simp only[BE,Bool.and_eq_true]at hB
 obtain⟨⟨⟨UY,UZ⟩,U0⟩,U1⟩:=hB
 have bX:=Mw UY
 have hle:=bX.le
 have jB:∀i o,i<n->ops[i]?=some o->pK o=true:=fun i o hi ho=>List.all_eq_true.1 UZ o (by
  rw[List.mem_take_iff_getElem]
  obtain⟨hl,he⟩:=List.getElem?_eq_some_iff.1 ho
  exact⟨i,by omega,he⟩)
 unfold AP
 rw[hc]
 intro φ I a w hs
 refine RE hm (EY ah) ?_
 have qw:∀k,fu (Array.replicate ops.length false) k=min k ops.length:=by
  intro k
  induction k with
  |zero=>simp[fu]
  |succ k ih=>
   simp only[fu,ih]
   by_cases hk:k<ops.length
   ·simp[hk];omega
   ·simp[hk];omega
 have Hd:HeadInv .any ops.toArray n (Array.replicate ops.length false):=
  ⟨by simp,fun j oj _ hl=>(by rw[getD_replicate_false]at hl;cases hl),fun t _ ht=>getD_in (by simpa using ht) (getD_replicate_false _ _)⟩
 have:=PA (K:=K) bX ah jB t [] [] [] E H U0 U1 (fun i hi=>by simp at hi) (fun j d hj=>by simp[lk]at hj) h (fun i hi=>by simp at hi) (fun i hi=>by simp at hi) (fun i hi=>by simp at hi) (Array.replicate ops.length false) a {w with drawn:=w.drawn+1} Hd
  (fun i hi=>by simp at hi) (fun i hi _ _=>getD_in (by simp;omega) (getD_replicate_false _ _)) ⟨a,φ,I,⟨hs.bD,hs.bA,fun t x hx=>?_,hs.st.yu⟩,⟨rfl,rfl,fun t _=>rfl⟩⟩
 ·rw[qw,show min n ops.length+(ops.length-n)=ops.length by omega]at this
  simpa using this
 ·obtain⟨u,hu,hd⟩:=hs.env t x hx
  exact⟨u,hu,(bC.yu w φ I).den hd⟩
end
theorem c_ {C:Cx} {K:List PK} {ops:List Oper} {n:Nat} {R P es:List Nat} {ts:List Tree} {ds:List (Nat×Nat)} {E:Env} {H:aa}
  (h:vR C ops H R ds E/\vP C ops H (fun ds E=>match es with
  |[]=>vq C K (ops.drop n) [] n E H
  |_::_=>nJ C K ops n es ts ds E H) P ds E):vd C K ops n (.node R P es ts) ds E H:=by
 simp only[vd];exact h
theorem aba {C:Cx} {K:List PK} {ops:List Oper} {n x:Nat} {es:List Nat} {t:Tree} {ts:List Tree} {ds:List (Nat×Nat)} {E:Env} {H:aa}:
  nJ C K ops n (x::es) (t::ts) ds E H=((match ops[x]? with
   |none=>False
   |some o=>AQ C.nr ds x [o] [.lp (xU C (vd C K ops n t (aW o.dst x ds))),.bot (qZ C K ops)] E H)/\nJ C K ops n es ts ds E H):=by first|(simp only[nJ];done)|(simp only[nJ];rfl)
theorem abb {C:Cx} {K:List PK} {ops:List Oper} {n:Nat} {ts:List Tree} {ds:List (Nat×Nat)} {E:Env} {H:aa}:nJ C K ops n [] ts ds E H=True:=by cases ts<;>simp only[nJ]
theorem YS (C:Cx):C.nr.P=C.P:=rfl
theorem YT (C:Cx):C.nr.fn=C.fn:=rfl
theorem YV (C:Cx):C.nr.n=C.n:=rfl
theorem YR (C:Cx):C.nr.B=C.B:=rfl
theorem YU (C:Cx):C.nr.kp=C.kp:=rfl
theorem YW (C:Cx):C.nr.ob=C.ob:=rfl
attribute [go_sem] aba abb vR vP tu DQ YS YT YV YR YU YW
section
variable {C:Cx} {K:List PK} {E:Env} {H:aa}
theorem AQ.Kg {ds:List (Nat×Nat)} {i:Nat} {d:Option Nat} {ty:TypeId} {pos:String} {af:Array Edge} {os:List Oper} {bo:Operand} {f:FuncId} {fs aF:List AV} {xs:List Operand} {aZ:Array TypeId} {l:List AV} {r:AV} {gu:Option (Nat×Bool)} {G:Bool}
  (ah:a7 C.n ({dst:=d,op:= .call {callee:= .value bo,args:=xs.toArray,argTypes:=aZ},type:=ty,pos:=pos,after:=af,guard:=gu}::os)=true)
  (hG:gd ds E gu=some G) (fc:ev E bo=some (.fn f fs aF)) (hl:dT E xs=some l) (dG:G=true->gs l=true)
  (hc:G=true->ao C.P f (fs++l.map AV.st++aF) H (fun r' H'=>H'=H/\r'=r))
  (h:vq C K os (aW d i ds) (i+1) (aY d (.opt G r) E) H):
  AQ C ds i ({dst:=d,op:= .call {callee:= .value bo,args:=xs.toArray,argTypes:=aZ},type:=ty,pos:=pos,after:=af,guard:=gu}::os) K E H:=by
 obtain⟨hd,bX⟩:=dM ah
 have bl:=AQ.go bX h
 cases G with
 |true=>
  refine AQ.nW hG ?_
  have hn:vq C [] [] (aW d i ds) (i+1) (aY d r E) H=AQ C (aW d i ds) (i+1) [] [] (aY d r E) H:=rfl
  have key:∀Dv:List Oper,AQ C (aW d i ds) (i+1) Dv K (aY d r E) H->a7 C.n ({dst:=d,op:= .call {callee:= .value bo,args:=xs.toArray,argTypes:=aZ},type:=ty,pos:=pos,after:=af,guard:=none}::Dv)=true->
    AQ C ds i ({dst:=d,op:= .call {callee:= .value bo,args:=xs.toArray,argTypes:=aZ},type:=ty,pos:=pos,after:=af,guard:=none}::Dv) K E H:=fun Dv h' Wv=>AQ.Th Wv fc hl (dG rfl) (hc rfl) h'
  refine key os (AQ.imp (fun w φ I a=>Aj fun u hu=>?_) bl) ?_
  ·simp only[AV.den];exact⟨fun _=>hu,fun h=>by cases h⟩
  ·simp only[a7,List.all_cons,Bool.and_eq_true]at ah⊢
   exact ah
 |false=>
  refine AQ.vM hd hG ?_
  exact AQ.imp (fun w φ I a=>Aj fun u hu=>by simp only[AV.den]at hu⊢;exact⟨fun h=>(by cases h),hu.2⟩) bl
end
structure dv (P:Program) (nb:Nat) (f:FuncId) (args:List AV) (H:aa) (R:AV->aa->Prop):Prop where
 gv:enters P f=true
 run:∀(w:World) (φ:ai) (I:Nat->Prop) (vs:List Value),AV.ab w φ I args vs->Real w φ I H->VK P w I->Calls P f vs.toArray w (mL ⟨w,cN φ,I,φ,nb⟩ R)
structure gN (P:Program) (nb l:Nat) (args:List AV) (H:aa) (R:AV->aa->Prop):Prop where
 run:∀(w:World) (φ:ai) (I:Nat->Prop) (vs:List Value),AV.ab w φ I args vs->Real w φ I H->VK P w I->
  ∃(cf:FuncId) (T:Array Value) (as bd:Code),(Instr.yield l vs.toArray).run P w= .ok (.round l cf T as bd) w/\RoundIn Fence.wide 3 P l cf T as bd w (mL ⟨w,cN φ,I,φ,nb⟩ R)
theorem dv.mono {P:Program} {nb:Nat} {f:FuncId} {args:List AV} {H:aa} {R R':AV->aa->Prop} (h:dv P nb f args H R) (hr:∀r H',R r H'->R' r H'):dv P nb f args H R':=
 ⟨h.gv,fun w φ I vs hd hR hV=>(h.run w φ I vs hd hR hV).mono fun _ _ ⟨r,H',φ',I',v,U,h2⟩=>⟨r,H',φ',I',v,hr _ _ U,h2⟩⟩
theorem gN.mono {P:Program} {nb l:Nat} {args:List AV} {H:aa} {R R':AV->aa->Prop} (h:gN P nb l args H R) (hr:∀r H',R r H'->R' r H'):gN P nb l args H R':=
 ⟨fun w φ I vs hd hR hV=>let⟨cf,T,as,bd,U,h2⟩:=h.run w φ I vs hd hR hV;⟨cf,T,as,bd,U,h2.mono fun _ _ ⟨r,H',φ',I',v,U,h2⟩=>⟨r,H',φ',I',v,hr _ _ U,h2⟩⟩⟩
mutual
def AV.ge (nb:Nat):AV->Bool
 | .ob b _=>Nat.ble nb b
 | .oe b _ _ _=>Nat.ble nb b
 | .os b _ _ _=>Nat.ble nb b
 | .fn _ fs aF=>AV.iX nb fs||AV.iX nb aF
 | .agg cs=>AV.iX nb cs
 | .aG cs=>AV.iX nb cs
 | .opt _ x=>AV.ge nb x
 | .im _=>false
 | .ar _=>false
 | .top=>false
 | .mp b=>Nat.ble nb b
 | .wr _ x=>AV.ge nb x
def AV.iX (nb:Nat):List AV->Bool
 |[]=>false
 |x::xs=>AV.ge nb x||AV.iX nb xs
end
theorem rA {a b:Nat} (h:Nat.ble a b=false):b<a:=by
 rcases Nat.lt_or_ge b a with h'|h'
 ·exact h'
 ·rw[Nat.ble_eq_true_of_le h']at h;cases h
mutual
theorem AV.BO {w:World} {φ φ':ai} {I:Nat->Prop} {nb:Nat} (ax:∀b',b'<nb->φ' b'=φ b'):∀(x:AV) (u:Value),x.ge nb=false->AV.den w φ I x u->AV.den w φ' I x u
 | .ob b' _,u,h,hd=>by simp only[AV.ge]at h;simp only[AV.den]at hd⊢;rw[ax b' (rA h)];exact hd
 | .oe b' _ _ _,u,h,hd=>by simp only[AV.ge]at h;simp only[AV.den]at hd⊢;rw[ax b' (rA h)];exact hd
 | .os b' _ _ _,u,h,hd=>by simp only[AV.ge]at h;simp only[AV.den]at hd⊢;rw[ax b' (rA h)];exact hd
 | .fn f fs aF,u,h,hd=>by simp only[AV.ge,Bool.or_eq_false_iff]at h;simp only[AV.den]at hd⊢;obtain⟨us,vs,U,h2,h3⟩:=hd;exact⟨us,vs,AV.yE ax fs us h.1 U,AV.yE ax aF vs h.2 h2,h3⟩
 | .agg cs,u,h,hd=>by simp only[AV.ge]at h;simp only[AV.den]at hd⊢;obtain⟨us,U,h2⟩:=hd;exact⟨us,AV.yE ax cs us h U,h2⟩
 | .aG cs,u,h,hd=>by simp only[AV.ge]at h;simp only[AV.den]at hd⊢;obtain⟨us,U,h2⟩:=hd;exact⟨us,AV.yE ax cs us h U,h2⟩
 | .opt g x,u,h,hd=>by simp only[AV.ge]at h;simp only[AV.den]at hd⊢;exact⟨fun hg=>AV.BO ax x u h (hd.1 hg),hd.2⟩
 | .im x,u,_,hd=>by simpa only[AV.den]using hd
 | .ar x,u,_,hd=>by simpa only[AV.den]using hd
 | .top,_,_,_=>by simp only[AV.den]
 | .mp b',u,h,hd=>by simp only[AV.ge]at h;simp only[AV.den]at hd⊢;rw[ax b' (rA h)];exact hd
 | .wr k x,u,h,hd=>by simp only[AV.ge]at h;simp only[AV.den]at hd⊢;obtain⟨v,U,h2⟩:=hd;exact⟨v,U,AV.BO ax x v h h2⟩
theorem AV.yE {w:World} {φ φ':ai} {I:Nat->Prop} {nb:Nat} (ax:∀b',b'<nb->φ' b'=φ b'):∀(xs:List AV) (us:List Value),AV.iX nb xs=false->AV.ab w φ I xs us->AV.ab w φ' I xs us
 |[],us,_,h=>by simpa only[AV.ab]using h
 |x::xs,us,h,hd=>by
  simp only[AV.iX,Bool.or_eq_false_iff]at h
  simp only[AV.ab]at hd⊢
  obtain⟨u,ak,e,U,h2⟩:=hd
  exact⟨u,ak,e,AV.BO ax x u h.1 U,AV.yE ax xs ak h.2 h2⟩
end
def k8 (nb:Nat):Env->Env
 |[]=>[]
 |(i,x)::r=>bif x.ge nb then(i,.top)::k8 nb r else(i,x)::k8 nb r
theorem Hr {w w':World} {φ φ':ai} {I I':Nat->Prop} {nb:Nat} (ax:∀b',b'<nb->φ' b'=φ b') (hw:∀g,I g->w'.heap[g]?=w.heap[g]?) (hI:∀g,I g->I' g)
  (hs:∀b g n,b<nb->φ b=some (some g)->shaped w g n->shaped w' g n):∀(E:Env) (i:Nat) (x:AV),lk (k8 nb E) i=some x->∃y,lk E i=some y/\∀u,AV.den w φ I y u->AV.den w' φ' I' x u
 |[],i,x,h=>by simp[k8,lk]at h
 |(j,y)::r,i,x,h=>by
  simp only[k8]at h
  cases hm:y.ge nb with
  |true=>
   rw[hm]at h
   simp only[cond_true,lk]at h⊢
   cases hb:Nat.beq j i with
   |true=>
    rw[hb]at h
    simp only[cond_true,Option.some.injEq]at h⊢
    subst h
    exact⟨y,rfl,fun u _=>by simp only[AV.den]⟩
   |false=>rw[hb]at h;exact Hr ax hw hI hs r i x h
  |false=>
   rw[hm]at h
   simp only[cond_false,lk]at h⊢
   cases hb:Nat.beq j i with
   |true=>
    rw[hb]at h
    simp only[cond_true,Option.some.injEq]at h⊢
    subst h
    refine⟨y,rfl,fun u hu=>?_⟩
    have U:=AV.BO (φ':=fun b=>if b<nb then φ b else none) (fun b' bF=>by simp[bF]) y u hm hu
    refine AV.jO hw hI (fun b p hb=>?_) (fun b g n hb cK=>?_) y u U
    ·by_cases ag:b<nb
     ·rw[ax b ag];simpa[ag]using hb
     ·simp[ag]at hb
    ·by_cases ag:b<nb
     ·exact hs b g n ag (by simpa[ag]using hb) cK
     ·simp[ag]at hb
   |false=>rw[hb]at h;exact Hr ax hw hI hs r i x h
def cu (nb:Nat) (H H':aa):Prop:=∀b,b<nb->(lk H' b).isSome=(lk H b).isSome
theorem cu.refl (nb:Nat) (H:aa):cu nb H H:=fun _ _=>rfl
theorem St.x3 {B:Bs} {φ a_:ai} {I I1:Nat->Prop} {H H1:aa} {w w1:World} {nb:Nat} (h:St B φ I H w) (hnb:B.nb<=nb) (U:St ⟨w,cN φ,I,φ,nb⟩ a_ I1 H1 w1) (ja:cu nb H H1):
  St B a_ I1 H1 w1/\(∀b,b<nb->a_ b=φ b)/\(∀g,I g->w1.heap[g]?=w.heap[g]?)/\(∀g,I g->I1 g)/\∀b g n,b<nb->φ b=some (some g)->shaped w g n->shaped w1 g n:=by
 have ax:∀b,b<nb->a_ b=φ b:=fun b hb=>by
  have d1:=U.real.bj b
  have d0:=h.real.bj b
  have hl:=ja b hb
  cases fD:lk H1 b with
  |none=>
   rw[fD]at hl d1
   cases hp:a_ b with
   |some _=>rw[hp]at d1;cases d1
   |none=>
    rw[<-hl]at d0
    cases h0:φ b with
    |some _=>rw[h0]at d0;cases d0
    |none=>rfl
  |some o=>
   rw[fD]at hl
   rw[<-hl]at d0
   cases h0:φ b with
   |none=>rw[h0]at d0;cases d0
   |some p=>exact U.cE b p o hb h0 fD
 have ju:∀g,I g->w1.heap[g]?=w.heap[g]?:=fun g hg=>U.ext.b_ g (h.real.bM g hg) (fun⟨b,hb⟩=>(h.real.off b g hb).1 hg)
 refine⟨⟨U.real,h.ext.trans U.ext (fun g ⟨b,hb⟩=>h.b9 b g hb),fun b g hb=>?_,fun g hg=>?_,fun g hg=>U.cj g (h.cj g hg),fun b p o hb h0 hl=>?_⟩,ax,ju,U.cj,fun b g n hb hp cK=>?_⟩
 ·rcases U.b9 b g hb with⟨b',bF⟩|h2
  ·exact h.b9 b' g bF
  ·exact .inr (Nat.le_trans h.ext.size h2)
 ·rcases U.cZ g hg with h2|⟨b',bF⟩|h2
  ·exact h.cZ g h2
  ·exact .inr (h.b9 _ g bF)
  ·exact .inr (.inr (Nat.le_trans h.ext.size h2))
 ·have bF:b<nb:=by omega
  rw[ax b bF]
  have rX:=ja b bF
  rw[hl]at rX
  cases MO:lk H b with
  |none=>rw[MO]at rX;cases rX
  |some o'=>exact h.cE b p o' hb h0 MO
 ·obtain⟨cc,ee,jt,hn⟩:=cK
  obtain⟨c',jU,h2,h3⟩:=U.ext.form g cc ee _ jt
  have dq:a_ b=some (some g):=(ax b hb).trans hp
  have mf:=U.real.bj b
  rw[dq]at mf
  cases hl:lk H1 b with
  |none=>rw[hl]at mf;cases mf
  |some o=>
   have aP:=U.real.own b o _ hl dq
   have rV:jU=(0,0):=by
    cases o with
    |var e cs=>
     simp only[Ob.at]at aP
     obtain⟨g',us,bO,h4,_⟩:=aP
     cases bO
     exact h4.fz h2
    |vec e es rows=>
     simp only[Ob.at]at aP
     rcases aP with⟨h5,_⟩|⟨g',ae,rest,bO,h4,_⟩
     ·cases h5
     ·cases bO;rw[h2]at h4;cases h4;rfl
    |lp l n st fn q ps E=>
     simp only[Ob.at]at aP
     obtain⟨h0,T,D,cf,_,h4,_⟩:=aP
     cases h0;rw[h2]at h4;cases h4
   subst rV
   exact⟨c',ee,h2,by rw[h3];exact hn⟩
theorem bt.x3 {C:Cx} {φ a_:ai} {I I1:Nat->Prop} {E:Env} {H H1:aa} {a:Act} {w w1:World} {nb:Nat} (h:bt C φ I E H a w) (hnb:C.B.nb<=nb) (U:St ⟨w,cN φ,I,φ,nb⟩ a_ I1 H1 w1) (ja:cu nb H H1):
  bt C a_ I1 (k8 nb E) H1 a w1:=by
 obtain⟨hS,ax,ju,hI,cK⟩:=h.st.x3 hnb U ja
 refine⟨h.bD.mono ju hI,h.bA,fun i x hx=>?_,hS⟩
 obtain⟨y,hy,iL⟩:=Hr ax ju hI cK E i x hx
 obtain⟨u,hu,hd⟩:=h.env i y hy
 exact⟨u,hu,iL u hd⟩
section
variable {C:Cx} {K:List PK} {E:Env} {H:aa}
theorem AQ.iB (nb:Nat) {ds:List (Nat×Nat)} {i:Nat} {d:Option Nat} {ty:TypeId} {pos:String} {af:Array Edge} {os:List Oper} {bo:Operand} {f:FuncId} {fs aF:List AV} {xs:List Operand} {aZ:Array TypeId} {l:List AV} {R:AV->aa->Prop}
  (hnb:Nat.ble C.B.nb nb=true)
  (ah:a7 C.n ({dst:=d,op:= .call {callee:= .value bo,args:=xs.toArray,argTypes:=aZ},type:=ty,pos:=pos,after:=af,guard:=none}::os)=true)
  (fc:ev E bo=some (.fn f fs aF)) (hl:dT E xs=some l) (dG:gs l=true) (hc:dv C.P nb f (fs++l.map AV.st++aF) H R) (ja:∀r H',R r H'->cu nb H H')
  (bl:∀r H',R r H'->AQ C (aW d i ds) (i+1) os K (aY d r (k8 nb E)) H'):
  AQ C ds i ({dst:=d,op:= .call {callee:= .value bo,args:=xs.toArray,argTypes:=aZ},type:=ty,pos:=pos,after:=af,guard:=none}::os) K E H:=by
 obtain⟨hd,bX⟩:=dM ah
 unfold AQ at bl⊢
 refine AO.step (o:={dst:=d,op:= .call {callee:= .value bo,args:=xs.toArray,argTypes:=aZ},type:=ty,pos:=pos,after:=af,guard:=none}) fun ops φ I a w aQ _ hs Kn bE=>?_
 have hw:Region.wanted {dst:=d,op:= .call {callee:= .value bo,args:=xs.toArray,argTypes:=aZ},type:=ty,pos:=pos,after:=af,guard:=none} (yielded ops a.tmps)=true:=by simp[Region.wanted]
 rw[if_pos hw]
 have fe:=aH hs.env fc
 simp only[AV.den]at fe
 obtain⟨eA,us,mY,dI,n6⟩:=fe
 have aS:AV.ab w φ I (fs++l.map AV.st++aF) (eA++xs.map a.eval++us):=AQ.nQ.mN _ _ _ _ (AQ.nQ.mN _ _ _ _ mY (mU hs.env _ _ hl dG)) dI
 have aB:(execOp a.eval {dst:=d,op:= .call {callee:= .value bo,args:=xs.toArray,argTypes:=aZ},type:=ty,pos:=pos,after:=af,guard:=none}).run C.P w= .ok (.enter f (eA++xs.map a.eval++us).toArray) w:=by
  have:execOp a.eval {dst:=d,op:= .call {callee:= .value bo,args:=xs.toArray,argTypes:=aZ},type:=ty,pos:=pos,after:=af,guard:=none}=(do let d<-Deferred.ofValue (a.eval bo) (xs.toArray.map a.eval);invoke d.target d.args):=rfl
  rw[this,n6,Du (t:=ty) hc.gv]
  simp
 unfold Oper.wp
 rw[aB,Oper.upon_enter]
 refine(hc.run w φ I _ aS hs.st.real hs.st.vk).mono fun e w' ⟨r,H1,a_,I1,v,hr,he,a8,hS⟩=>?_
 subst he
 have jA:=hs.x3 (Nat.le_of_ble_eq_true hnb) hS (ja r H1 hr)
 exact bE _ _ a_ I1 _ _ (bl r H1 hr) (jA.put jA.st (bC.refl _ _ _) hd a8)
abbrev Yl (l:Nat):AV:= .im (.v (.func (.yield l) #[] #[]))
theorem AQ.AI (nb:Nat) {ds:List (Nat×Nat)} {i:Nat} {d:Option Nat} {ty:TypeId} {pos:String} {af:Array Edge} {os:List Oper} {bo:Operand} {l0:Nat} {xs:List Operand} {aZ:Array TypeId} {l:List AV} {R:AV->aa->Prop}
  (hnb:Nat.ble C.B.nb nb=true)
  (ah:a7 C.n ({dst:=d,op:= .call {callee:= .value bo,args:=xs.toArray,argTypes:=aZ},type:=ty,pos:=pos,after:=af,guard:=none}::os)=true)
  {cv:AV} (fc:ev E bo=some cv) (fe:cv.g=true/\cv.st=Yl l0) (hl:dT E xs=some l) (dG:gs l=true) (hc:gN C.P nb l0 (l.map AV.st) H R) (ja:∀r H',R r H'->cu nb H H')
  (bl:∀r H',R r H'->AQ C (aW d i ds) (i+1) os K (aY d r (k8 nb E)) H'):
  AQ C ds i ({dst:=d,op:= .call {callee:= .value bo,args:=xs.toArray,argTypes:=aZ},type:=ty,pos:=pos,after:=af,guard:=none}::os) K E H:=by
 obtain⟨hd,bX⟩:=dM ah
 unfold AQ at bl⊢
 refine AO.aau (o:={dst:=d,op:= .call {callee:= .value bo,args:=xs.toArray,argTypes:=aZ},type:=ty,pos:=pos,after:=af,guard:=none}) fun ops φ I a w aQ _ hs Kn bE=>?_
 have hw:Region.wanted {dst:=d,op:= .call {callee:= .value bo,args:=xs.toArray,argTypes:=aZ},type:=ty,pos:=pos,after:=af,guard:=none} (yielded ops a.tmps)=true:=by simp[Region.wanted]
 rw[if_pos hw]
 have FZ:=ca (aH hs.env fc) fe.1
 rw[fe.2]at FZ
 simp only[AV.den,IV.den]at FZ
 obtain⟨n6,_⟩:=FZ
 have aS:=mU hs.env _ _ hl dG
 obtain⟨cf,T,as,bd,hy,zr⟩:=hc.run w φ I _ aS hs.st.real hs.st.vk
 refine .inr ⟨l0,cf,T,as,bd,?_,zr.mono fun e w' ⟨r,H1,a_,I1,v,hr,he,a8,hS⟩=>?_⟩
 ·have:execOp a.eval {dst:=d,op:= .call {callee:= .value bo,args:=xs.toArray,argTypes:=aZ},type:=ty,pos:=pos,after:=af,guard:=none}=(do let d<-Deferred.ofValue (a.eval bo) (xs.toArray.map a.eval);invoke d.target d.args):=rfl
  rw[this,n6]
  simp only[Deferred.ofValue,Sem.run_bind,Sem.run_pure,Result.andThen_ok,invoke]
  rw[<-hy]
  simp
 ·subst he
  have jA:=hs.x3 (Nat.le_of_ble_eq_true hnb) hS (ja r H1 hr)
  exact bE _ _ a_ I1 _ _ (bl r H1 hr) (jA.put jA.st (bC.refl _ _ _) hd a8)
end
theorem dv.walk {P:Program} {f:FuncId} {fn:Func} {c:Code} {n nb:Nat} {args:List AV} {H:aa} {R:AV->aa->Prop} (kp ob:List Nat) (hf:P.funcs[f]?=some fn) (hb:fn.body=some c) (hn:fn.ntmps=n)
  (kT:enters P f=true) (de:Nat.ble args.length n=true)
  (h:∀(w:World) (own I0:Nat->Prop) (aq:ai) (lay:Lay P ⟨w,own,I0,aq,nb⟩),AP ⟨P,fn,n,⟨w,own,I0,aq,nb⟩,kp,ob,R,none,fun _ _=>False,[],lay⟩ [] [] (enum 0 args) H):dv P nb f args H R:=by
 refine⟨kT,fun w φ I vs hd hR hV=>?_⟩
 have hl:=jm args vs hd
 have yQ:=Nat.le_of_ble_eq_true de
 have h0:=h w (cN φ) I φ (hR.lay hV _)
 unfold AP at h0
 simp only[b7,hb,Option.getD_some]at h0
 refine Calls.mono ?_ fun e w' he=>kB.only (C:=⟨P,fn,n,⟨w,cN φ,I,φ,nb⟩,kp,ob,R,none,fun _ _=>False,[],hR.lay hV _⟩) (fun _ _ h=>h) he
 refine EE (C:=⟨P,fn,n,⟨w,cN φ,I,φ,nb⟩,kp,ob,R,none,fun _ _=>False,[],hR.lay hV _⟩) hf hb rfl (h0 φ I _ w ⟨Marks.nil,?_,fun i x hx=>?_,sV hR _⟩)
 ·simp only[Array.size_append,List.size_toArray,Array.size_replicate,hn];omega
 ·obtain⟨j,rfl,hj⟩:=tE args 0 i x hx
  obtain⟨u,hu,dz⟩:=gP args vs j x hd hj
  refine⟨u,?_,dz⟩
  have ag:j<vs.length:=by
   rcases Nat.lt_or_ge j vs.length with h|h
   ·exact h
   ·rw[List.getElem?_eq_none h]at hu;cases hu
  rw[Nat.zero_add,Array.getElem?_append_left (by simpa using ag)]
  simpa using hu
attribute [go_sem] AV.ge AV.iX k8
section
variable {w:World} {φ:ai} {I:Nat->Prop} {l:Nat} {r:Loop} {o':Obj}
theorem aab (hl:w.heap[l]?=some (.loop r)) (g n:Nat) (h:shaped w g n):shaped (w.putObj l o') g n:=by
 obtain⟨c,e,hc,hn⟩:=h
 have hg:g≠l:=fun h=>by subst h;rw[hl]at hc;cases hc
 exact⟨c,e,(World.putObj_heap_other hg).trans hc,hn⟩
theorem C4 (hl:w.heap[l]?=some (.loop r)) (hI:¬I l):bC w φ I (w.putObj l o') φ I:=
 ⟨fun g hg=>World.putObj_heap_other (fun e=>hI (e▸hg)),fun _ h=>h,fun _ _ h=>h,fun _ g n _=>aab hl g n⟩
theorem Lg {own:Nat->Prop} (hl:w.heap[l]?=some (.loop r)) (ho:own l):Ext own w (w.putObj l o'):=
 ⟨by simp,fun g _ hn=>World.putObj_heap_other (fun e=>hn (e▸ho)),fun g c e fz hc=>⟨c,fz,(World.putObj_heap_other (fun e=>by subst e;rw[hl]at hc;cases hc)).trans hc,rfl⟩,rfl,rfl,rfl⟩
theorem St.PI {B:Bs} {H H':aa} (h:St B φ I H w) {b:Nat} (hb:φ b=some (some l)) (hl:w.heap[l]?=some (.loop r)) {ob:Ob} (fE:lk H' b=some ob) (aP:ob.at (w.putObj l o') φ I (some l))
  (dH:∀b',b'≠b->lk H' b'=lk H b'):St B φ I H' (w.putObj l o')/\bC w φ I (w.putObj l o') φ I:=by
 have hI:¬I l:=(h.real.off b l hb).1
 have k:bC w φ I (w.putObj l o') φ I:=C4 hl hI
 have yV:∃o,lk H b=some o:=by
  have:=h.real.bj b
  rw[hb]at this
  cases hq:lk H b with
  |none=>rw[hq]at this;cases this
  |some o=>exact⟨o,rfl⟩
 refine⟨⟨⟨fun b'=>?_,fun b' o p aD hp=>?_,fun b' g hp=>?_,h.real.inj,fun g hg=>?_⟩,h.ext.trans (Lg (own:=fun g=>g=l) hl rfl) (fun g hg=>by subst hg;exact h.b9 b _ hb),h.b9,h.cZ,h.cj,fun b' p o ag h0 aD=>?_⟩,k⟩
 ·by_cases aj:b'=b
  ·subst aj;rw[fE,hb];rfl
  ·rw[dH b' aj];exact h.real.bj b'
 ·by_cases aj:b'=b
  ·subst aj
   rw[fE]at aD;cases aD
   rw[hb]at hp;cases hp
   exact aP
  ·rw[dH b' aj]at aD
   exact Ob.kF k.im k.I k.phi k.sh (fun g hg=>World.putObj_heap_other (fun e=>by subst e;subst hg;exact aj (h.real.inj b' b g hp hb))) (h.real.own b' o p aD hp)
 ·have:=h.real.off b' g hp
  exact⟨this.1,by simpa using this.2⟩
 ·have:=h.real.bM g hg
  simpa using this
 ·by_cases aj:b'=b
  ·subst aj
   obtain⟨o1,mj⟩:=yV
   exact h.cE b' p o1 ag h0 mj
  ·rw[dH b' aj]at aD;exact h.cE b' p o ag h0 aD
end
def p3:List Tmp->List AV->Env->Env
 |t::ts,x::xs,E=>p3 ts xs ((t,x)::E)
 |_,_,E=>E
theorem RN {w:World} {φ:ai} {I:Nat->Prop}:∀(ps:List Tmp) (args:List AV) (vs:List Value) (E:Env) (T:Array Value),AV.ab w φ I args vs->ps.length=args.length->(∀t∈ps,t<T.size)->
  (∀i x,lk E i=some x->∃u,T[i]?=some u/\AV.den w φ I x u)->
  ((ps.zip vs).foldl (fun tmps (p:Tmp×Value)=>tmps.setIfInBounds p.1 p.2) T).size=T.size/\
  ∀i x,lk (p3 ps args E) i=some x->∃u,((ps.zip vs).foldl (fun tmps (p:Tmp×Value)=>tmps.setIfInBounds p.1 p.2) T)[i]?=some u/\AV.den w φ I x u
 |[],[],vs,E,T,h,_,_,hE=>by simp only[AV.ab]at h;subst h;exact⟨rfl,hE⟩
 |[],_::_,_,_,_,_,h,_,_=>by simp at h
 |_::_,[],_,_,_,_,h,_,_=>by simp at h
 |t::ts,x::xs,vs,E,T,h,hlen,ag,hE=>by
  simp only[AV.ab]at h
  obtain⟨u,us,rfl,U,h2⟩:=h
  simp only[List.zip_cons_cons,List.foldl_cons,p3]
  have:=RN ts xs us ((t,x)::E) (T.setIfInBounds t u) h2 (by simpa using hlen) (fun t' sd=>by simpa using ag t' (by simp[sd])) (fun i y hy=>by
   simp only[lk]at hy
   cases hb:Nat.beq t i with
   |true=>
    rw[hb]at hy
    have:=Nat.eq_of_beq_eq_true hb
    subst this
    simp only[cond_true,Option.some.injEq]at hy
    subst hy
    exact⟨u,by rw[Array.getElem?_setIfInBounds_self_of_lt (ag t (by simp))],U⟩
   |false=>
    rw[hb]at hy
    have aC:t≠i:=fun e=>by subst e;simp at hb
    obtain⟨v,hv,hd⟩:=hE i y hy
    exact⟨v,by rw[Array.getElem?_setIfInBounds_ne aC];exact hv,hd⟩)
  refine⟨?_,this.2⟩
  rw[this.1];simp
theorem Ua (ps:List Tmp) (vs:List Value) (T:Array Value):
  (ps.toArray.zip vs.toArray).foldl (fun tmps (t,a)=>tmps.setIfInBounds t a) T=(ps.zip vs).foldl (fun tmps (p:Tmp×Value)=>tmps.setIfInBounds p.1 p.2) T:=by
 simp
def Ew (C:Cx) (l:Nat) (p:List Nat):Exit->Act->World->Prop:=
 Exit.then (fun lz lY=>∃Ee,(Instr.beginRound l).run C.P lY= .ok () Ee/\nK (some l) C.P (b7 C.fn (1::p)) (roundPost C.P l (mL C.B C.R)) lz Ee) (fun _ _ _=>False)
def yw (C:Cx) (l:Nat):Exit->Act->World->Prop:=roundPost C.P l (mL C.B C.R)
section
variable {C:Cx} {K:List PK} {E:Env} {H:aa}
theorem AE.begin {l b n:Nat} {fn:Func} {p:List Nat} {ps:List Tmp} {EL:Env} (f_:C.rd=some l) (hl:lk H b=some (.lp l n .ready fn p ps EL)) (q:List Nat)
  (h:AP C (1::q) [.bot (yw C l)] E (aN H b (.lp l n .busy fn p ps EL))):AE C .normal [.bot (Ew C l q)] E H:=by
 unfold AE
 unfold AP at h
 intro φ I a w hs
 simp only[List.map_cons,List.map_nil,PK.ki,dL,Ew,Exit.then]
 have hd:=hs.st.real.bj b
 rw[hl]at hd
 cases hp:φ b with
 |none=>rw[hp]at hd;cases hd
 |some p0=>
  have aP:=hs.st.real.own b _ p0 hl hp
  simp only[Ob.at]at aP
  obtain⟨rfl,T,D,cf,U,h2,h3⟩:=aP
  refine⟨_,run_beginRound h2 rfl,?_⟩
  obtain⟨hS,k⟩:=hs.st.PI (o':= .loop {state:=iq.busy.state,pending:=iq.busy.uP,fn:=cf,tmps:=T,params:=ps.toArray,assign:=child 0 (b7 fn p),body:=child 1 (b7 fn p),defers:=D}) (H':=aN H b (.lp l n .busy fn p ps EL)) hp h2 (cV H b _ hl) (by
   simp only[Ob.at]
   refine⟨trivial,T,D,cf,U,World.putObj_heap_same (Array.getElem?_eq_some_iff.1 h2).1,fun i x hx=>?_⟩
   obtain⟨u,hu,hd⟩:=h3 i x hx
   exact⟨u,hu,(C4 (φ:=φ) h2 (hs.st.real.off b l hp).1).den hd⟩) (fun b' bF=>cm H b b' _ bF)
  have h4:=h φ I a _ ⟨hs.bD.mono k.im k.I,hs.bA,fun i x hx=>let⟨u,hu,hd⟩:=hs.env i x hx;⟨u,hu,k.den hd⟩,hS⟩
  rw[f_]at h4
  exact h4
theorem PZ {l b n:Nat} {fn:Func} {p:List Nat} {ps:List Tmp} {EL:Env} {φ:ai} {I:Nat->Prop} {a:Act} {w:World} (hs:bt C φ I E H a w) (jump:Option Code) (st:iq)
  (bG:st.state=(if jump.isNone then .ready else .done)) (M9:st.uP=jump) (hl:lk H b=some (.lp l n .busy fn p ps EL)) (hR:C.R (.im (.v (.bool jump.isNone))) (aN H b (.lp l n st fn p ps EL))):
  ∃v w',(Instr.endRound l jump).run C.P w= .ok v w'/\mL C.B C.R (.returned v) w':=by
 have hd:=hs.st.real.bj b
 rw[hl]at hd
 cases hp:φ b with
 |none=>rw[hp]at hd;cases hd
 |some p0=>
  have aP:=hs.st.real.own b _ p0 hl hp
  simp only[Ob.at]at aP
  obtain⟨rfl,T,D,cf,U,h2,h3⟩:=aP
  refine⟨_,_,run_endRound jump h2,?_⟩
  obtain⟨hS,k⟩:=hs.st.PI (o':= .loop {state:=st.state,pending:=st.uP,fn:=cf,tmps:=T,params:=ps.toArray,assign:=child 0 (b7 fn p),body:=child 1 (b7 fn p),defers:=D}) (H':=aN H b (.lp l n st fn p ps EL)) hp h2 (cV H b _ hl) (by
   simp only[Ob.at]
   refine⟨trivial,T,D,cf,U,World.putObj_heap_same (Array.getElem?_eq_some_iff.1 h2).1,fun i x hx=>?_⟩
   obtain⟨u,hu,hd⟩:=h3 i x hx
   exact⟨u,hu,(C4 (φ:=φ) h2 (hs.st.real.off b l hp).1).den hd⟩) (fun b' bF=>cm H b b' _ bF)
  rw[<-bG,<-M9]
  rw[M9]at hS⊢
  refine⟨_,_,φ,I,_,hR,rfl,by simp only[AV.den,IV.den];exact⟨trivial,rfl⟩,?_⟩
  exact hS
theorem AE.xh {l b n:Nat} {fn:Func} {p:List Nat} {ps:List Tmp} {EL:Env} (hl:lk H b=some (.lp l n .busy fn p ps EL)) (hR:C.R (.im (.v (.bool true))) (aN H b (.lp l n .ready fn p ps EL))):
  AE C .normal [.bot (yw C l)] E H:=by
 unfold AE
 intro φ I a w hs
 simp only[List.map_cons,List.map_nil,PK.ki,dL,yw,roundPost]
 exact PZ hs none .ready rfl rfl hl hR
theorem AE.PY {l b n:Nat} {fn:Func} {p:List Nat} {ps:List Tmp} {EL:Env} (hl:lk H b=some (.lp l n .busy fn p ps EL)) (hR:C.R (.im (.v (.bool false))) (aN H b (.lp l n (.done .ret) fn p ps EL))):
  AE C .ret [.bot (yw C l)] E H:=by
 unfold AE
 intro φ I a w hs
 simp only[List.map_cons,List.map_nil,PK.ki,dL,yw,roundPost]
 exact PZ hs (some .ret) (.done .ret) rfl rfl hl hR
end
theorem gN.walk {P:Program} {fn:Func} {n nb l b:Nat} {p:List Nat} {ps:List Tmp} {EL:Env} {args:List AV} {H:aa} {R:AV->aa->Prop} (kp ob:List Nat)
  (hl:lk H b=some (.lp l n .ready fn p ps EL)) (WL:Nat.beq ps.length args.length=true) (ag:(ps.all fun t=>Nat.blt t n)=true)
  (h:∀(w:World) (own I0:Nat->Prop) (aq:ai) (lay:Lay P ⟨w,own,I0,aq,nb⟩),AP ⟨P,fn,n,⟨w,own,I0,aq,nb⟩,kp,ob,R,some l,fun _ _=>False,[],lay⟩ (0::p) [.bot (Ew ⟨P,fn,n,⟨w,own,I0,aq,nb⟩,kp,ob,R,some l,fun _ _=>False,[],lay⟩ l p)] (p3 ps args EL) H):gN P nb l args H R:=by
 refine⟨fun w φ I vs hd hR hV=>?_⟩
 have v_:=hR.bj b
 rw[hl]at v_
 cases hp:φ b with
 |none=>rw[hp]at v_;cases v_
 |some p0=>
  have aP:=hR.own b _ p0 hl hp
  simp only[Ob.at]at aP
  obtain⟨rfl,T,D,cf,U,h2,h3⟩:=aP
  have fF:=jm args vs hd
  have lQ:=Nat.eq_of_beq_eq_true WL
  refine⟨cf,_,_,_,run_yield h2 (by simp[fF,lQ]),?_⟩
  have h0:=h w (cN φ) I φ (hR.lay hV _)
  unfold AP at h0
  have hz:=RN ps args vs EL T hd lQ (fun t ht=>by
   have:=List.all_eq_true.1 ag t ht
   rw[Nat.blt_eq]at this
   rw[U];exact this) h3
  have h4:=h0 φ I {tmps:=(ps.zip vs).foldl (fun tmps (p:Tmp×Value)=>tmps.setIfInBounds p.1 p.2) T,defers:=[]} w ⟨Marks.nil,by rw[hz.1];exact U,hz.2,sV hR _⟩
  have hF:∀(c:Code) (Q:Exit->Act->World->Prop) (a:Act) (w:World),nK (some l) P c Q a w->c.wpIn (Fence.wide.inRound l) 3 P Q a w:=fun _ _ _ _ h=>h
  refine roundIn_of_wpIn (F:=Fence.wide) (n:=3) trivial (hF _ _ _ _ ?_)
  rw[Ua]
  exact h4
end Go.AL
end
