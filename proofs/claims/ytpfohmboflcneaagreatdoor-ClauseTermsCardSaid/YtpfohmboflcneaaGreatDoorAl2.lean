import Derived.Test.YtpfohmboflcneaaGreatDoorAl1
import Derived.StillTail
import Derived.OpenShut
import Derived.WideKeyArgs
import Derived.ChangeSame
import Derived.ProofKit
import Derived.JoinedCond
import Derived.Below
import Derived.Lib.ConvBytes
import Derived.Lib.AppendStr
import Derived.Lib.UnsafeStr
import Derived.Lib.Builder
import Derived.RangeFuncRecord
set_option linter.unusedSimpArgs false
set_option linter.unusedVariables false
set_option linter.unnecessarySimpa false
section
namespace Go.AL
open Go
inductive PK where
 |seq (p:List Nat)
 |eI (id:Nat)
 |lp (J:Act->World->Prop)
 |sc
 |bot (Q:Exit->Act->World->Prop)
def PK.ki (fn:Func):PK->KI
 | .seq p=> .seq (cd fn p)
 | .eI id=> .eI id
 | .lp J=> .lp J
 | .sc=> .sc
 | .bot Q=> .bot Q
def AP (C:Cx) (p:List Nat) (K:List PK) (E:Env) (H:aa):Prop:=AR C (cd C.fn p) (K.map (PK.ki C.fn)) E H
def AE (C:Cx) (e:Exit) (K:List PK) (E:Env) (H:aa):Prop:=AX C e (K.map (PK.ki C.fn)) E H
def AQ (C:Cx) (ds:List (Nat×Nat)) (i:Nat) (rest:List Oper) (K:List PK) (E:Env) (H:aa):Prop:=AO C ds i rest (K.map (PK.ki C.fn)) E H
def vq (C:Cx) (K:List PK):List Oper->List (Nat×Nat)->Nat->Env->aa->Prop
 |[],ds,i,E,H=>AQ C ds i [] K E H
 |o::os,ds,i,E,H=>match gd ds E o.guard with
  |none=>AQ C ds i (o::os) K E H
  |some G=>match iM C.P E H o.op with
   |some (sc,v)=>(G=true->sc)/\vq C K os (aZ o.dst i ds) (i+1) (a7 o.dst (wrap o.guard G v) E) H
   |none=>match o.guard with
    |some _=>AQ C ds i (o::os) K E H
    |none=>match qS C.P C.B.nb C.ob E H o with
     |some (sc,v,H')=>sc/\vq C K os (aZ o.dst i ds) (i+1) (a7 o.dst v E) H'
     |none=>AQ C ds i (o::os) K E H
theorem yJ (C:Cx) (K:List PK):∀(rest:List Oper) (ds:List (Nat×Nat)) (i:Nat) (E:Env) (H:aa),vq C K rest ds i E H->vc C.P C.B.nb C.ob (fun rest ds i E H=>AO C ds i rest (K.map (PK.ki C.fn)) E H) rest ds i E H
 |[],ds,i,E,H,h=>h
 |o::os,ds,i,E,H,h=>by
  simp only[vq]at h
  simp only[vc]
  cases hG:gd ds E o.guard with
  |none=>simp only[hG]at h⊢;exact h
  |some G=>
   simp only[hG]at h⊢
   cases hv:iM C.P E H o.op with
   |some q=>
    obtain⟨sc,v⟩:=q
    simp only[hv]at h⊢
    exact⟨h.1,yJ C K os _ _ _ _ h.2⟩
   |none=>
    simp only[hv]at h⊢
    cases hg:o.guard with
    |some q=>simp only[hg]at h⊢;exact h
    |none=>
     simp only[hg]at h⊢
     cases he:qS C.P C.B.nb C.ob E H o with
     |some q=>
      obtain⟨sc,v,H'⟩:=q
      simp only[he]at h⊢
      exact⟨h.1,yJ C K os _ _ _ _ h.2⟩
     |none=>simp only[he]at h⊢;exact h
section
variable {C:Cx} {K:List PK} {E:Env} {H:aa} {p:List Nat}
theorem AP.seq {a b:Code} (hc:cd C.fn p= .seq a b) (h:AP C (0::p) (.seq (1::p)::K) E H):AP C p K E H:=by
 unfold AP at h⊢
 simp only[cd,hc,child,List.map_cons,PK.ki]at h⊢
 exact AR.seq h
theorem AP.block {id:Nat} {a:Code} (hc:cd C.fn p= .block id a) (h:AP C (0::p) (.eI id::K) E H):AP C p K E H:=by
 unfold AP at h⊢
 simp only[cd,hc,child,List.map_cons,PK.ki]at h⊢
 exact AR.block h
theorem AP.scope {a:Code} (hc:cd C.fn p= .scope a) (h:AP C (0::p) (.sc::K) E H):AP C p K E H:=by
 unfold AP at h⊢
 simp only[cd,hc,child,List.map_cons,PK.ki]at h⊢
 exact AR.scope h
theorem AP.skip (hc:cd C.fn p= .skip) (h:AE C .normal K E H):AP C p K E H:=by
 unfold AP;rw[hc];exact AR.skip h
theorem AP.ret (hc:cd C.fn p= .ret) (h:AE C .ret K E H):AP C p K E H:=by
 unfold AP;rw[hc];exact AR.ret h
theorem AP.exit {id:Nat} (hc:cd C.fn p= .exit id) (h:AE C (.exit id) K E H):AP C p K E H:=by
 unfold AP;rw[hc];exact AR.exit h
theorem AP.label {id:Nat} (hc:cd C.fn p= .label id) (h:AE C .normal K E H):AP C p K E H:=by
 unfold AP;rw[hc];exact AR.label h
theorem AP.region {id:Nat} {ops:List Oper} (hc:cd C.fn p= .region id ops.toArray false) (ah:ba C.n ops=true) (h:vq C K ops [] 0 E H):AP C p K E H:=by
 unfold AP;rw[hc]
 exact AR.region ah (by simpa using yJ C K ops [] 0 E H h)
theorem AP.cond {t:Tmp} {x y:Code} {b:Bool} (hc:cd C.fn p= .cond (.tmp t) x y) (hb:lk E t=some (.im (.v (.bool b)))) (ht:b=true->AP C (0::p) K E H) (hf:b=false->AP C (1::p) K E H):AP C p K E H:=by
 unfold AP at ht hf⊢
 simp only[cd,hc,child]at ht hf⊢
 exact AR.cond rfl hb ht hf
theorem AP.cond_true {t:Tmp} {x y:Code} (hc:cd C.fn p= .cond (.tmp t) x y) (hb:lk E t=some (.im (.v (.bool true)))) (ht:AP C (0::p) K E H):AP C p K E H:=
 AP.cond hc hb (fun _=>ht) (fun h=>by cases h)
theorem AP.cond_false {t:Tmp} {x y:Code} (hc:cd C.fn p= .cond (.tmp t) x y) (hb:lk E t=some (.im (.v (.bool false)))) (hf:AP C (1::p) K E H):AP C p K E H:=
 AP.cond hc hb (fun h=>by cases h) (fun _=>hf)
theorem AP.loop {α:Type} {c:Code} (hc:cd C.fn p= .loop c) (LE:α->Env) (LH:α->aa) (ok:α->Prop) (μ:α->Nat) (p0:α) (h0:ok p0) (hE:Sub E (LE p0)) (hH:H=LH p0)
  (round:∀q,ok q->AP C (0::p) (.lp (wi C LE LH ok μ (μ q))::K) (LE q) (LH q)):AP C p K E H:=by
 unfold AP at round⊢
 simp only[cd,hc,child,List.map_cons,PK.ki]at round⊢
 exact AR.loop LE LH ok μ p0 h0 hE hH round
theorem AE.seq {q:List Nat} (h:AP C q K E H):AE C .normal (.seq q::K) E H:=h
theorem AE.Rk {q:List Nat} {id:Nat} (h:AE C (.exit id) K E H):AE C (.exit id) (.seq q::K) E H:=h
theorem AE.Rl {q:List Nat} (h:AE C .ret K E H):AE C .ret (.seq q::K) E H:=h
theorem AE.eI {id:Nat} (h:AE C .normal K E H):AE C .normal (.eI id::K) E H:=h
theorem AE.Fu {id:Nat} (h:AE C .normal K E H):AE C (.exit id) (.eI id::K) E H:=AX.Fu h
theorem AE.Fv {id na:Nat} (aK:(na==id)=false) (h:AE C (.exit na) K E H):AE C (.exit na) (.eI id::K) E H:=AX.Fv aK h
theorem AE.KV {id:Nat} (h:AE C .ret K E H):AE C .ret (.eI id::K) E H:=h
theorem AE.sc (h:AE C .normal K E H):AE C .normal (.sc::K) E H:=h
theorem AE.Rh {id:Nat} (h:AE C (.exit id) K E H):AE C (.exit id) (.sc::K) E H:=h
theorem AE.Ri (h:AE C .ret K E H):AE C .ret (.sc::K) E H:=h
theorem AE.Pv {J:Act->World->Prop} {id:Nat} (h:AE C (.exit id) K E H):AE C (.exit id) (.lp J::K) E H:=h
theorem AE.Pw {J:Act->World->Prop} (h:AE C .ret K E H):AE C .ret (.lp J::K) E H:=h
theorem AE.round {α:Type} {LE:α->Env} {LH:α->aa} {ok:α->Prop} {μ:α->Nat} {m:Nat} (q:α) (ah:ok q) (Ia:μ q<m) (hE:Sub E (LE q)) (hH:H=LH q):
  AE C .normal (.lp (wi C LE LH ok μ m)::K) E H:=AX.round q ah Ia hE hH
theorem AE.ret {sc:Prop} {xs:List AV} (h:eW C.P E H C.fn.results.toList=some (sc,xs)) (aB:sc) (hR:C.R (eG xs) H):AE C .ret [] E H:=AX.ret h aB hR
theorem AE.kf {sc:Prop} {xs:List AV} (h:eW C.P E H C.fn.results.toList=some (sc,xs)) (aB:sc) (hR:C.R (eG xs) H):AE C .normal [] E H:=AX.kf h aB hR
theorem AQ.done {ds:List (Nat×Nat)} {i:Nat} (h:AE C .normal K (nh C.kp E) H):AQ C ds i [] K E H:=AO.done h
theorem AQ.go {ds:List (Nat×Nat)} {i:Nat} {rest:List Oper} (ah:ba C.n rest=true) (h:vq C K rest ds i E H):AQ C ds i rest K E H:=yI rest ds i E H ah (yJ C K rest ds i E H h)
theorem AQ.nQ {ds:List (Nat×Nat)} {i:Nat} {o:Oper} {os:List Oper} (hG:gd ds E o.guard=some true) (h:AQ C ds i ({o with guard:=none}::os) K E H):AQ C ds i (o::os) K E H:=AO.nQ hG h
theorem AQ.wL {ds:List (Nat×Nat)} {i:Nat} {o:Oper} {os:List Oper} (ah:∀x,o.dst=some x->x<C.n) (hG:gd ds E o.guard=some false) (h:AQ C (aZ o.dst i ds) (i+1) os K (a7 o.dst (.opt false .top) E) H):AQ C ds i (o::os) K E H:=AO.wL ah hG h
theorem AQ.call {ds:List (Nat×Nat)} {i:Nat} {d:Option Nat} {ty:TypeId} {pos:String} {af:Array Edge} {os:List Oper} {f:FuncId} {xs:List Operand} {a8:Array TypeId} {l:List AV} {R:AV->aa->Prop}
  (ah:ba C.n ({dst:=d,op:= .call {callee:= .value (.func f),args:=xs.toArray,argTypes:=a8},type:=ty,pos:=pos,after:=af,guard:=none}::os)=true)
  (hl:eB E xs=some l) (dT:gs l=true) (fD:AV.frees (l.map AV.st)=true) (hc:ai C.P f (l.map AV.st) [] R)
  (hR:∀r H',R r H'->H'=[]/\r.free=true) (h:∀r,R r []->vq C K os (aZ d i ds) (i+1) (a7 d r E) H):
  AQ C ds i ({dst:=d,op:= .call {callee:= .value (.func f),args:=xs.toArray,argTypes:=a8},type:=ty,pos:=pos,after:=af,guard:=none}::os) K E H:=by
 obtain⟨hd,b7⟩:=ef ah
 exact AO.call rfl rfl hd (by simpa using hl) dT fD hc hR fun r hr=>AQ.go b7 (h r hr)
theorem AQ.append {ds:List (Nat×Nat)} {i:Nat} {d:Nat} {ty:TypeId} {pos:String} {af:Array Edge} {os:List Oper} {x y:Operand} {t e:TypeId} {b n es bytes:Nat} {rows xs:List (List IV)} (hnb:Nat.ble C.B.nb b=true)
  (ah:ba C.n ({dst:=some d,op:= .call {callee:= .builtin .append,args:=#[x,y],argTypes:=#[t,t]},type:=ty,pos:=pos,after:=af,guard:=none}::os)=true)
  (hx:ev E x=some (.os b (es+1) 0 n)) (hy:ev E y=some (.im (.sl (es+1) xs))) (hH:lk H b=some (.vec e (es+1) rows)) (a_:noMen b H=true)
  (ht:tk C.P t= .slice e) (b5:sz C.P e=some (es+1)) (hz:(ax C.P e).map List.length=some (es+1)) (fR:aQ C.P e=some bytes)
  (hn:n=rows.length) (cM:(rows.length+xs.length)*bytes<=140737488355328) (iw:rows.length+xs.length<=70368744177664)
  (h:vq C K os ((i,d)::ds) (i+1) ((d,.os b (es+1) 0 (rows.length+xs.length))::killE b E) (aR H b (.vec e (es+1) (rows++xs)))):
  AQ C ds i ({dst:=some d,op:= .call {callee:= .builtin .append,args:=#[x,y],argTypes:=#[t,t]},type:=ty,pos:=pos,after:=af,guard:=none}::os) K E H:=by
 obtain⟨hd,b7⟩:=ef ah
 exact AO.append hnb rfl rfl rfl (by rw[Nat.blt_eq];exact hd d rfl) hx (fun φ I a w hs=>Src.im (by have:=aO hs.env hy;simpa only[AV.den]using this)) hH a_ ht b5 hz fR hn cM iw (AQ.go b7 h)
theorem AQ.fn {ds:List (Nat×Nat)} {i:Nat} {d:Option Nat} {ty:TypeId} {pos:String} {af:Array Edge} {os:List Oper} {f:FuncId} {xs:List Operand} {a8:Array TypeId} {l:List AV} {r:AV}
  (ah:ba C.n ({dst:=d,op:= .call {callee:= .value (.func f),args:=xs.toArray,argTypes:=a8},type:=ty,pos:=pos,after:=af,guard:=none}::os)=true)
  (hl:eB E xs=some l) (dT:gs l=true) (fD:AV.frees (l.map AV.st)=true) (hc:ai C.P f (l.map AV.st) [] (fun r' H'=>H'=[]/\r'=r)) (hr:r.free=true)
  (h:vq C K os (aZ d i ds) (i+1) (a7 d r E) H):
  AQ C ds i ({dst:=d,op:= .call {callee:= .value (.func f),args:=xs.toArray,argTypes:=a8},type:=ty,pos:=pos,after:=af,guard:=none}::os) K E H:=
 AQ.call ah hl dT fD hc (fun r' H' ⟨U,h2⟩=>⟨U,by rw[h2];exact hr⟩) fun r' ⟨_,h2⟩=>by rw[h2];exact h
theorem AP.weaken {E':Env} (h:AP C p K E' H) (hE:Sub E E'):AP C p K E H:=AR.weaken h hE
theorem AE.weaken {e:Exit} {E':Env} (h:AE C e K E' H) (hE:Sub E E'):AE C e K E H:=AX.weaken h hE
end
theorem ai.walk {P:Program} {f:FuncId} {fn:Func} {c:Code} {n nb:Nat} {args:List AV} {H:aa} {R:AV->aa->Prop} (kp ob:List Nat) (hf:P.funcs[f]?=some fn) (hb:fn.body=some c) (hn:fn.ntmps=n)
  (lx:enters P f=true) (dr:Nat.ble args.length n=true) (hnb:bD H=nb)
  (h:∀(w:World) (own I0:Nat->Prop) (ao:al) (lay:Lay P ⟨w,own,I0,ao,nb⟩),AP ⟨P,fn,n,⟨w,own,I0,ao,nb⟩,kp,ob,R,none,fun _ _=>False,[],lay⟩ [] [] (enum 0 args) H):ai P f args H R:=
 ai.intro kp ob hf hb hn lx dr hnb fun w own I0 ao lay=>by
  have:=h w own I0 ao lay
  unfold AP at this
  simp only[cd,hb,Option.getD_some]at this
  exact this
def aS (P:Program) (f:FuncId) (args:List AV) (r:AV):Prop:=ai P f args [] (fun r' H'=>H'=[]/\r'=r)
theorem wr {x:Int} (h:-9223372036854775808<=x/\x<=9223372036854775807):IntKind.i64.wrap x=x:=by
 simp only[IntKind.wrap,IntKind.bits,IntKind.signed]
 simp only[Bool.true_and,decide_eq_true_eq,ge_iff_le]
 split<;>omega
theorem Sub.nil (E:Env):Sub E []:=fun i x h=>by simp[lk]at h
theorem Sub.cons {E E':Env} {i:Nat} {x:AV} (h:lk E i=some x) (h':Sub E E'):Sub E ((i,x)::E'):=fun j y hj=>by
 simp only[lk]at hj
 cases hb:Nat.beq i j with
 |true=>
  rw[hb]at hj
  have:=Nat.eq_of_beq_eq_true hb
  subst this
  simp only[cond_true,Option.some.injEq]at hj
  subst hj
  exact h
 |false=>rw[hb]at hj;exact h' j y hj
theorem Sub.refl (E:Env):Sub E E:=fun _ _ h=>h
attribute [go_sem] vq gd bw a7 aZ wrap iM fu j0 oH gP ui B4 my jT tG mw yT BZ BW yU Nat.beq_refl ev cg un bi AV.g AV.st B6 Cb AN yS xJ zj p6 uD I8 TK.Ik yW yR BX Cc Ca BY B7 B3 B5 wF B2 B_ qx tA uh B1 B0 wj B9 B8 lk enum TK.agg nh cond_true cond_false AM bY ay bD qS ur vw lG nc setAt aR eW eG eB gs
 killE menE AV.men AV.mens noMen AV.free AV.frees rowsOf fillParts placesOf aBuild setRowI
attribute [go_sem] Int.toNat_natCast aaz aay VE VF cond Bool.false_or Bool.or_false Bool.true_or Bool.or_true decide_true decide_false eq_self Bool.false_and Bool.and_false true_and and_true imp_self forall_const implies_true Bool.and_true Bool.true_and Bool.not_true Bool.not_false Bool.and_self Bool.or_self
attribute [irreducible] AP AE AQ
def BA (l:List UInt8):ByteArray:=⟨l.toArray⟩
theorem Ta (l:List UInt8):ByteArray.mk (List.toArray l)=BA l:=rfl
theorem Tb (s:ByteArray):s=BA s.data.toList:=by cases s;simp[BA]
theorem Fg (l:List UInt8):(BA l).size=l.length:=rfl
theorem wh (l:List UInt8):(BA l).data.toList=l:=by simp[BA]
theorem ua (l:List UInt8):(BA l).toList=l:=by rw[ByteArray.toList_eq,wh]
theorem S_ (l:List UInt8) (a b:Nat):(BA l).extract a b=BA ((l.drop a).take (b-a)):=ByteArray.extract_mk l a b
theorem S9 (l m:List UInt8):BA l++BA m=BA (l++m):=ByteArray.mk_append_mk l m
abbrev Sv (l:List UInt8):AV:= .im (.v (.string (BA l)))
abbrev Iv (n:Int):AV:= .im (.v (.int .i64 n))
abbrev Bv (b:Bool):AV:= .im (.v (.bool b))
abbrev Si (l:List UInt8):IV:= .v (.string (BA l))
abbrev Ii (n:Int):IV:= .v (.int .i64 n)
attribute [go_sem] Ta Fg wh ua S_ S9
mutual
def eh (b fg:Nat) (rows:List (List IV)):AV->AV
 | .os b' es i n=>bif Nat.beq b' b then bif Nat.beq es fg then .im (.sl es ((rows.drop i).take n))else .top else .os b' es i n
 | .oe b' es i j=>bif Nat.beq b' b then .top else .oe b' es i j
 | .ob b' o=>bif Nat.beq b' b then(bif Nat.beq o 0 then .im (.pt rows.flatten)else .top)else .ob b' o
 | .fn f fs aN=> .fn f (gS b fg rows fs) (gS b fg rows aN)
 | .agg cs=> .agg (gS b fg rows cs)
 | .aI cs=> .aI (gS b fg rows cs)
 | .opt g x=> .opt g (eh b fg rows x)
 | .im x=> .im x
 | .ar x=> .ar x
 | .top=> .top
 | .mp b'=>bif Nat.beq b' b then .top else .mp b'
 | .wr k x=> .wr k (eh b fg rows x)
def gS (b fg:Nat) (rows:List (List IV)):List AV->List AV
 |[]=>[]
 |x::xs=>eh b fg rows x::gS b fg rows xs
end
mutual
def eK (b:Nat) (rows:List (List IV)):AV->Prop
 | .os b' _ i n=>bif Nat.beq b' b then i+n<=rows.length else True
 | .fn _ fs aN=>fO b rows fs/\fO b rows aN
 | .agg cs=>fO b rows cs
 | .aI cs=>fO b rows cs
 | .opt _ x=>eK b rows x
 | .wr _ x=>eK b rows x
 |_=>True
def fO (b:Nat) (rows:List (List IV)):List AV->Prop
 |[]=>True
 |x::xs=>eK b rows x/\fO b rows xs
end
def k9 (b fg:Nat) (rows:List (List IV)):Env->Env
 |[]=>[]
 |(i,x)::r=>(i,eh b fg rows x)::k9 b fg rows r
def k_ (b:Nat) (rows:List (List IV)):Env->Prop
 |[]=>True
 |(_,x)::r=>eK b rows x/\k_ b rows r
def fY (b fg:Nat) (rows:List (List IV)):aa->aa
 |[]=>[]
 |(j,.var e cs)::r=>bif Nat.beq j b then fY b fg rows r else(j,.var e (gS b fg rows cs))::fY b fg rows r
 |(j,.vec e es rs)::r=>bif Nat.beq j b then fY b fg rows r else(j,.vec e es rs)::fY b fg rows r
 |(j,.lp l n st fn q ps E)::r=>bif Nat.beq j b then fY b fg rows r else(j,.lp l n st fn q ps (k9 b fg rows E))::fY b fg rows r
def kj (b:Nat) (rows:List (List IV)):aa->Prop
 |[]=>True
 |(_,.var _ cs)::r=>fO b rows cs/\kj b rows r
 |(_,.vec _ _ _)::r=>kj b rows r
 |(_,.lp _ _ _ _ _ _ E)::r=>k_ b rows E/\kj b rows r
section
variable {w:World} {φ φ':al} {I I':Nat->Prop} {b:Nat} {es:Nat} {rows:List (List IV)}
mutual
theorem wJ (az:∀b',b'≠b->φ' b'=φ b') (hI:∀g,I g->I' g) (hb:(φ b=some none/\rows=[])\/∃g ae,φ b=some (some g)/\I' g/\IV.aM w I rows ae/\(∀vs∈ae,vs.length=es)/\c8 w g 0 ae.flatten):∀(x:AV) (u:Value),eK b rows x->AV.den w φ I x u->AV.den w φ' I' (eh b es rows x) u
 | .os b' eJ i n,u,h,hx=>by
  simp only[eh,eK]at h⊢
  cases hq:Nat.beq b' b with
  |true=>
   rw[hq]at h
   have:=Nat.eq_of_beq_eq_true hq
   subst this
   cases XQ:Nat.beq eJ es with
   |false=>simp only[cond_true,cond_false,AV.den]
   |true=>
    have WU:=Nat.eq_of_beq_eq_true XQ
    subst WU
    simp only[cond_true]at h⊢
    simp only[AV.den]at hx
    have bH:((rows.drop i).take n).length=n:=by rw[List.length_take,List.length_drop];omega
    rcases hx with⟨U,rfl,rfl,rfl⟩|⟨g',c,U,rfl,h2,h3,h4⟩
    ·simp only[AV.den,IV.den,List.take_zero]
     exact⟨none,0,[],rfl,by simp,by simp only[IV.aM],by simp,fun e=>absurd rfl e⟩
    ·rcases hb with⟨hb,_⟩|⟨g,ae,hb,hg,hd,hl,hc⟩
     ·rw[hb]at U;cases U
     rw[hb]at U
     cases U
     have fw:=l7 rows ae hd
     simp only[AV.den,IV.den]
     refine⟨_,c,(ae.drop i).take n,by rw[bH],by rw[bH];exact h2,?_,fun vs hv=>hl vs (List.mem_of_mem_drop (List.mem_of_mem_take hv)),fun _=>⟨g',i*eJ,rfl,hg,?_⟩⟩
     ·exact IV.iQ (fun _ _=>rfl) hI _ _ (Ct n _ _ (Cq i _ _ hd))
     ·rw[zo n _ eJ (fun vs hv=>hl vs (List.mem_of_mem_drop hv)) (by rw[List.length_drop];omega),wG i ae eJ hl (by omega)]
      have:=(hc.drop (i*eJ)).take (n*eJ)
      rw[Nat.zero_add]at this
      exact this
  |false=>
   simp only[cond_false]
   simp only[AV.den]at hx⊢
   rw[az b' (by intro e;subst e;simp at hq)]
   exact hx
 | .oe b' eJ i j,u,_,hx=>by
  simp only[eh]
  cases hq:Nat.beq b' b with
  |true=>simp only[cond_true,AV.den]
  |false=>
   simp only[cond_false]
   simp only[AV.den]at hx⊢
   rw[az b' (by intro e;subst e;simp at hq)]
   exact hx
 | .ob b' o,u,_,hx=>by
  simp only[eh]
  cases hq:Nat.beq b' b with
  |true=>
   simp only[cond_true]
   cases ho:Nat.beq o 0 with
   |false=>simp only[cond_false,AV.den]
   |true=>
    have:=Nat.eq_of_beq_eq_true hq
    subst this
    have:=Nat.eq_of_beq_eq_true ho
    subst this
    simp only[cond_true]
    simp only[AV.den,IV.den]at hx⊢
    obtain⟨g',U,rfl⟩:=hx
    rcases hb with⟨hb,_⟩|⟨g,ae,hb,hg,hd,hl,hc⟩
    ·rw[hb]at U;cases U
    rw[hb]at U
    cases U
    exact⟨g',0,ae.flatten,rfl,hg,IV.fA (fun _ _=>rfl) hI _ _ (sG rows ae hd),hc⟩
  |false=>
   simp only[cond_false]
   simp only[AV.den]at hx⊢
   rw[az b' (by intro e;subst e;simp at hq)]
   exact hx
 | .fn f fs aN,u,h,hx=>by simp only[eh,eK]at h⊢;simp only[AV.den]at hx⊢;obtain⟨us,vs,U,h2,h3⟩:=hx;exact⟨us,vs,wK az hI hb fs us h.1 U,wK az hI hb aN vs h.2 h2,h3⟩
 | .agg cs,u,h,hx=>by simp only[eh,eK]at h⊢;simp only[AV.den]at hx⊢;obtain⟨us,U,h2⟩:=hx;exact⟨us,wK az hI hb cs us h U,h2⟩
 | .aI cs,u,h,hx=>by simp only[eh,eK]at h⊢;simp only[AV.den]at hx⊢;obtain⟨us,U,h2⟩:=hx;exact⟨us,wK az hI hb cs us h U,h2⟩
 | .opt q x,u,h,hx=>by simp only[eh,eK]at h⊢;simp only[AV.den]at hx⊢;exact⟨fun hq=>wJ az hI hb x u h (hx.1 hq),hx.2⟩
 | .im x,u,_,hx=>by simp only[eh];simp only[AV.den]at hx⊢;exact IV.j_ (fun _ _=>rfl) hI x u hx
 | .ar x,u,_,hx=>by simp only[eh];simp only[AV.den]at hx⊢;obtain⟨us,U,h2⟩:=hx;exact⟨us,IV.fA (fun _ _=>rfl) hI x us U,h2⟩
 | .top,_,_,_=>by simp only[eh,AV.den]
 | .mp b',u,_,hx=>by
  simp only[eh]
  cases hq:Nat.beq b' b with
  |true=>simp only[cond_true,AV.den]
  |false=>
   simp only[cond_false]
   simp only[AV.den]at hx⊢
   rw[az b' (by intro e;subst e;simp at hq)]
   exact hx
 | .wr k x,u,h,hx=>by simp only[eh,eK]at h⊢;simp only[AV.den]at hx⊢;obtain⟨v,U,h2⟩:=hx;exact⟨v,U,wJ az hI hb x v h h2⟩
theorem wK (az:∀b',b'≠b->φ' b'=φ b') (hI:∀g,I g->I' g) (hb:(φ b=some none/\rows=[])\/∃g ae,φ b=some (some g)/\I' g/\IV.aM w I rows ae/\(∀vs∈ae,vs.length=es)/\c8 w g 0 ae.flatten):∀(xs:List AV) (us:List Value),fO b rows xs->AV.ab w φ I xs us->AV.ab w φ' I' (gS b es rows xs) us
 |[],us,_,h=>by simpa only[gS,AV.ab]using h
 |x::xs,us,h,hx=>by
  simp only[gS,fO]at h⊢
  simp only[AV.ab]at hx⊢
  obtain⟨u,au,e,U,h2⟩:=hx
  exact⟨u,au,e,wJ az hI hb x u h.1 U,wK az hI hb xs au h.2 h2⟩
end
theorem rR:∀(H:aa),lk (fY b es rows H) b=none
 |[]=>rfl
 |(j,.var e cs)::r=>by
  simp only[fY]
  cases hq:Nat.beq j b with
  |true=>simpa using rR r
  |false=>simpa[lk,hq]using rR r
 |(j,.vec e eJ rs)::r=>by
  simp only[fY]
  cases hq:Nat.beq j b with
  |true=>simpa using rR r
  |false=>simpa[lk,hq]using rR r
 |(j,.lp l n st fn q ps E)::r=>by
  simp only[fY]
  cases hq:Nat.beq j b with
  |true=>simpa using rR r
  |false=>simpa[lk,hq]using rR r
def l_ (b fg:Nat) (rows:List (List IV)):Ob->Ob
 | .var e cs=> .var e (gS b fg rows cs)
 | .vec e es rs=> .vec e es rs
 | .lp l n st fn q ps E=> .lp l n st fn q ps (k9 b fg rows E)
theorem om:∀(H:aa) (b':Nat),b'≠b->lk (fY b es rows H) b'=(lk H b').map (l_ b es rows)
 |[],_,_=>rfl
 |(j,.var e cs)::r,b',aK=>by
  simp only[fY]
  cases hq:Nat.beq j b with
  |true=>
   have u4:=Nat.eq_of_beq_eq_true hq
   have jM:Nat.beq j b'=false:=by
    cases jM:Nat.beq j b' with
    |false=>rfl
    |true=>exact absurd ((Nat.eq_of_beq_eq_true jM).symm.trans u4) aK
   simp only[cond_true,lk,jM,cond_false]
   exact om r b' aK
  |false=>
   simp only[cond_false,lk]
   cases jM:Nat.beq j b' with
   |true=>simp[l_]
   |false=>simpa using om r b' aK
 |(j,.vec e eJ rs)::r,b',aK=>by
  simp only[fY]
  cases hq:Nat.beq j b with
  |true=>
   have u4:=Nat.eq_of_beq_eq_true hq
   have jM:Nat.beq j b'=false:=by
    cases jM:Nat.beq j b' with
    |false=>rfl
    |true=>exact absurd ((Nat.eq_of_beq_eq_true jM).symm.trans u4) aK
   simp only[cond_true,lk,jM,cond_false]
   exact om r b' aK
  |false=>
   simp only[cond_false,lk]
   cases jM:Nat.beq j b' with
   |true=>simp[l_]
   |false=>simpa using om r b' aK
 |(j,.lp l n st fn q ps E)::r,b',aK=>by
  simp only[fY]
  cases hq:Nat.beq j b with
  |true=>
   have u4:=Nat.eq_of_beq_eq_true hq
   have jM:Nat.beq j b'=false:=by
    cases jM:Nat.beq j b' with
    |false=>rfl
    |true=>exact absurd ((Nat.eq_of_beq_eq_true jM).symm.trans u4) aK
   simp only[cond_true,lk,jM,cond_false]
   exact om r b' aK
  |false=>
   simp only[cond_false,lk]
   cases jM:Nat.beq j b' with
   |true=>simp[l_]
   |false=>simpa using om r b' aK
theorem CC:∀(H:aa),kj b rows H->∀b' e cs,lk H b'=some (.var e cs)->fO b rows cs
 |[],_,_,_,_,h=>by simp[lk]at h
 |(j,.var e0 cs0)::r,hc,b',e,cs,h=>by
  simp only[kj]at hc
  simp only[lk]at h
  cases hq:Nat.beq j b' with
  |true=>rw[hq]at h;simp at h;obtain⟨_,rfl⟩:=h;exact hc.1
  |false=>rw[hq]at h;exact CC r hc.2 b' e cs h
 |(j,.vec _ _ _)::r,hc,b',e,cs,h=>by
  simp only[kj]at hc
  simp only[lk]at h
  cases hq:Nat.beq j b' with
  |true=>rw[hq]at h;simp at h
  |false=>rw[hq]at h;exact CC r hc b' e cs h
 |(j,.lp _ _ _ _ _ _ _)::r,hc,b',e,cs,h=>by
  simp only[kj]at hc
  simp only[lk]at h
  cases hq:Nat.beq j b' with
  |true=>rw[hq]at h;simp at h
  |false=>rw[hq]at h;exact CC r hc.2 b' e cs h
theorem MA:∀(H:aa),kj b rows H->∀b' l n st fn q ps E,lk H b'=some (.lp l n st fn q ps E)->k_ b rows E
 |[],_,_,_,_,_,_,_,_,_,h=>by simp[lk]at h
 |(j,o)::r,hc,b',l,n,st,fn,q,ps,E,h=>by
  simp only[lk]at h
  cases hq:Nat.beq j b' with
  |true=>
   rw[hq]at h
   simp only[cond_true,Option.some.injEq]at h
   subst h
   exact hc.1
  |false=>
   rw[hq]at h
   refine MA r ?_ b' l n st fn q ps E h
   cases o with
   |var _ _=>exact hc.2
   |vec _ _ _=>exact hc
   |lp _ _ _ _ _ _ _=>exact hc.2
theorem Gd:∀(E:Env),k_ b rows E->∀i x,lk (k9 b es rows E) i=some x->∃y,lk E i=some y/\eK b rows y/\x=eh b es rows y
 |[],_,i,x,h=>by simp[k9,lk]at h
 |(j,y)::r,hc,i,x,h=>by
  simp only[k_]at hc
  simp only[k9,lk]at h⊢
  cases hq:Nat.beq j i with
  |true=>rw[hq]at h;simp at h⊢;exact⟨hc.1,h.symm⟩
  |false=>rw[hq]at h;simpa using Gd r hc.2 i x h
theorem St.freeze {B:Bs} {H:aa} {el:TypeId} (h:St B φ I H w) (hl:lk H b=some (.vec el es rows)) (hC:kj b rows H):
  ∃φ' I',St B φ' I' (fY b es rows H) w/\(∀g,I g->I' g)/\∀(x:AV) (u:Value),eK b rows x->AV.den w φ I x u->AV.den w φ' I' (eh b es rows x) u:=by
 obtain⟨p,hp⟩:∃p,φ b=some p:=by
  have:=h.real.bj b
  rw[hl]at this
  cases hq:φ b with
  |none=>rw[hq]at this;cases this
  |some p=>exact⟨p,rfl⟩
 have aU:=h.real.own b _ p hl hp
 simp only[Ob.at]at aU
 let φ':al:=fun i=>if i=b then none else φ i
 let I':Nat->Prop:=fun g=>I g\/φ b=some (some g)
 have az:∀b',b'≠b->φ' b'=φ b':=fun b' hb=>by simp[φ',hb]
 have hI:∀g,I g->I' g:=fun g hg=> .inl hg
 have hb:(φ b=some none/\rows=[])\/∃g ae,φ b=some (some g)/\I' g/\IV.aM w I rows ae/\(∀vs∈ae,vs.length=es)/\c8 w g 0 ae.flatten:=by
  rcases aU with⟨rfl,hr⟩|⟨g,ae,rest,rfl,cB,hd,Af⟩
  ·exact .inl ⟨hp,hr⟩
  ·refine .inr ⟨g,ae,hp,.inr hp,hd,Af,fun j u hu=>?_⟩
   have ag:j<ae.flatten.length:=by
    rcases Nat.lt_or_ge j ae.flatten.length with h|h
    ·exact h
    ·rw[List.getElem?_eq_none h]at hu;cases hu
   simp only[World.cell?,cB,Option.isSome_none,Bool.false_eq_true,if_false,List.getElem?_toArray,Nat.zero_add]
   rw[List.getElem?_append_left ag];exact hu
 refine⟨φ',I',⟨⟨fun b'=>?_,fun b' o p' aJ bM=>?_,fun b' g bM=>?_,fun b1 b2 g U h2=>?_,fun g hg=>?_⟩,h.ext,fun b' g bM=>?_,fun g hg=>?_,fun g hg=> .inl (h.cC g hg),fun b' g oo ag h0 aJ=>?_⟩,hI,fun x u hc hx=>wJ az hI hb x u hc hx⟩
 ·by_cases aq:b'=b
  ·subst aq;rw[rR];simp[φ']
  ·rw[az b' aq,om H b' aq,Option.isSome_map];exact h.real.bj b'
 ·by_cases aq:b'=b
  ·subst aq;rw[rR]at aJ;cases aJ
  ·rw[az b' aq]at bM
   rw[om H b' aq]at aJ
   cases hq:lk H b' with
   |none=>rw[hq]at aJ;cases aJ
   |some o1=>
    rw[hq]at aJ
    simp only[Option.map_some,Option.some.injEq]at aJ
    subst aJ
    have bh:=h.real.own b' o1 p' hq bM
    cases o1 with
    |var e cs=>
     simp only[Ob.at,l_]at bh⊢
     obtain⟨g,us,U,h2,h3,h4⟩:=bh
     exact⟨g,us,U,h2,wK az hI hb cs us (CC H hC b' e cs hq) h3,h4⟩
    |vec e eJ rs=>
     simp only[Ob.at,l_]at bh⊢
     rcases bh with h'|⟨g,ae,rest,U,h2,h3,h4⟩
     ·exact .inl h'
     ·exact .inr ⟨g,ae,rest,U,h2,IV.iQ (fun _ _=>rfl) hI rs ae h3,h4⟩
    |lp l n st fn q ps E=>
     simp only[Ob.at,l_]at bh⊢
     obtain⟨h0,T,D,cz,U,h2,h3⟩:=bh
     refine⟨h0,T,D,cz,U,h2,fun i x hx=>?_⟩
     obtain⟨y,hy,HX,rfl⟩:=Gd E (MA H hC b' l n st fn q ps E hq) i x hx
     obtain⟨u,hu,hd⟩:=h3 i y hy
     exact⟨u,hu,wJ az hI hb y u HX hd⟩
 ·by_cases aq:b'=b
  ·subst aq;simp[φ']at bM
  ·rw[az b' aq]at bM
   have:=h.real.off b' g bM
   refine⟨fun hg=>hg.elim this.1 (fun e=>aq (h.real.inj b' b g bM e)),this.2⟩
 ·by_cases e1:b1=b
  ·subst e1;simp[φ']at U
  ·by_cases e2:b2=b
   ·subst e2;simp[φ']at h2
   ·rw[az b1 e1]at U
    rw[az b2 e2]at h2
    exact h.real.inj b1 b2 g U h2
 ·rcases hg with hg|hg
  ·exact h.real.bN g hg
  ·exact(h.real.off b g hg).2
 ·by_cases aq:b'=b
  ·subst aq;simp[φ']at bM
  ·rw[az b' aq]at bM;exact h.cf b' g bM
 ·rcases hg with hg|hg
  ·exact h.dj g hg
  ·exact .inr (h.cf b g hg)
 ·by_cases aq:b'=b
  ·subst aq;rw[rR]at aJ;cases aJ
  ·rw[om H b' aq]at aJ
   rw[az b' aq]
   cases hq:lk H b' with
   |none=>rw[hq]at aJ;cases aJ
   |some o1=>
    rw[hq]at aJ
    exact h.cP b' g o1 ag h0 hq
theorem bB.freeze {C:Cx} {E:Env} {H:aa} {a:Act} {el:TypeId} (h:bB C φ I E H a w) (hl:lk H b=some (.vec el es rows)) (oS:k_ b rows E) (hC:kj b rows H):
  ∃φ' I',bB C φ' I' (k9 b es rows E) (fY b es rows H) a w:=by
 obtain⟨φ',I',hS,Gx,hd⟩:=h.st.freeze hl hC
 refine⟨φ',I',h.bF.mono (fun _ _=>rfl) Gx,h.bC,fun i x hx=>?_,hS⟩
 obtain⟨y,hy,HX,rfl⟩:=Gd E oS i x hx
 obtain⟨u,hu,dL⟩:=h.env i y hy
 exact⟨u,hu,hd y u HX dL⟩
end
section
variable {C:Cx} {K:List PK} {E:Env} {H:aa}
theorem AE.freeze {e:Exit} (b:Nat) {el:TypeId} {es:Nat} {rows:List (List IV)} (hl:lk H b=some (.vec el es rows)) (hC:kj b rows H) (oS:k_ b rows E) (h:AE C e K (k9 b es rows E) (fY b es rows H)):AE C e K E H:=by
 unfold AE at h⊢
 intro φ I a w hs
 obtain⟨φ',I',da⟩:=hs.freeze hl oS hC
 exact h φ' I' a w da
theorem AQ.freeze {ds:List (Nat×Nat)} {i:Nat} {rest:List Oper} (b:Nat) {el:TypeId} {es:Nat} {rows:List (List IV)} (hl:lk H b=some (.vec el es rows)) (hC:kj b rows H) (oS:k_ b rows E) (h:AQ C ds i rest K (k9 b es rows E) (fY b es rows H)):AQ C ds i rest K E H:=by
 unfold AQ at h⊢
 intro ops U h2 φ I a w hs
 obtain⟨φ',I',da⟩:=hs.freeze hl oS hC
 exact h ops U h2 φ' I' a w da
end
attribute [go_sem] eh gS eK fO k9 k_ fY kj
theorem F7 {place:Nat->Option (Nat×Nat)} {E E':Env}:∀(parts:List (Nat×Operand)) (cs:List AV),(∀p∈parts,ev E p.2=ev E' p.2)->fillParts place E cs parts=fillParts place E' cs parts
 |[],_,_=>rfl
 |(i,x)::r,cs,h=>by
  have hx:ev E x=ev E' x:=h (i,x) (by simp)
  have ih:∀cs,fillParts place E cs r=fillParts place E' cs r:=fun cs=>F7 r cs (fun p hp=>h p (by simp[hp]))
  simp only[fillParts,hx,ih]
theorem To {P:Program} {t:TypeId} {E E':Env} (parts:List (Nat×Operand)) (h:∀p∈parts,ev E p.2=ev E' p.2):aBuild P t parts E=aBuild P t parts E':=by
 unfold aBuild
 split
 ·split
  ·rw[F7 parts _ h]
  ·rfl
 ·split
  ·rw[F7 parts _ h]
  ·rfl
 ·rfl
theorem TW {P:Program} {E E':Env} {H:aa} (op:Op) (h:∀x∈op.operands,ev E x=ev E' x):fu P E H op=fu P E' H op:=by
 cases op with
 |build t parts=>
  simp only[fu]
  exact To _ fun p hp=>h p.2 (by simp only[Op.operands];simp;exact⟨p.1,by simpa using hp⟩)
 |call c=>
  obtain⟨callee,args,ts⟩:=c
  cases callee with
  |builtin b=>
   cases b<;>simp only[fu]<;>split<;>first
    |rfl
    |(
      rename_i x hx _
      rw[h x (
          by
            simp only[Op.operands,Call.operands];obtain rfl:args=#[x]:=by cases args;simpa using hx
            simp)];done)
    |(
      rename_i x t hx ht
      obtain rfl:args=#[x]:=by cases args;simpa using hx
      rw[h x (by simp[Op.operands,Call.operands])])
    |(
      rename_i x y hx
      obtain rfl:args=#[x,y]:=by cases args;simpa using hx
      rw[h x (by simp[Op.operands,Call.operands]),h y (by simp[Op.operands,Call.operands])])
  |value f=>simp only[fu]
  |invoke r m=>simp only[fu]
 |slice t x lo hi mx=>
  cases mx with
  |some _=>simp only[fu]
  |none=>
   cases lo<;>cases hi<;>simp only[fu]<;>first
    |rfl
    |(rename_i l r;rw[h l (by simp[Op.operands]),h r (by simp[Op.operands]),h x (by simp[Op.operands])])
    |(rename_i l;rw[h l (by simp[Op.operands]),h x (by simp[Op.operands])])
 |pick c a b=>simp only[fu];rw[h c (by simp[Op.operands]),h a (by simp[Op.operands]),h b (by simp[Op.operands])]
 |binOp o t x y u=>simp only[fu];rw[h x (by simp[Op.operands]),h y (by simp[Op.operands])]
 |index t x i=>simp only[fu];rw[h x (by simp[Op.operands]),h i (by simp[Op.operands])]
 |indexAddr t x i=>simp only[fu];rw[h x (by simp[Op.operands]),h i (by simp[Op.operands])]
 |move x=>simp only[fu];rw[h x (by simp[Op.operands])]
 |assign x=>simp only[fu];rw[h x (by simp[Op.operands])]
 |unOp o t x=>simp only[fu];rw[h x (by simp[Op.operands])]
 |convert s d x=>simp only[fu];rw[h x (by simp[Op.operands])]
 |nilCheck x=>simp only[fu];rw[h x (by simp[Op.operands])]
 |fieldAddr t x f=>simp only[fu];rw[h x (by simp[Op.operands])]
 |field t x f=>simp only[fu];rw[h x (by simp[Op.operands])]
 |load t x=>simp only[fu];rw[h x (by simp[Op.operands])]
 |extract x i=>simp only[fu];rw[h x (by simp[Op.operands])]
 |_=>simp only[fu]
theorem CA {E E':Env}:∀(xs:List Operand),(∀x∈xs,ev E x=ev E' x)->eB E xs=eB E' xs
 |[],_=>rfl
 |x::r,h=>by
  simp only[eB]
  rw[h x (by simp),CA r (fun y hy=>h y (by simp[hy]))]
theorem TY {P:Program} {E E':Env} (op:Op) (h:∀x∈op.operands,ev E x=ev E' x):j0 P E op=j0 P E' op:=by
 cases op with
 |makeFunc f first cap=>
  cases f with
  |func f=>
   simp only[j0]
   rw[CA first.toList (fun x hx=>h x (by simp only[Op.operands];simp;exact .inl (by simpa using hx))),CA cap.toList (fun x hx=>h x (by simp only[Op.operands];simp;exact .inr (by simpa using hx)))]
  |_=>simp only[j0]
 |sliceToArrayPointer t x=>simp only[j0];rw[h x (by simp[Op.operands])]
 |convert s d x=>simp only[j0];rw[h x (by simp[Op.operands])]
 |binOp o t x y u=>simp only[j0];rw[h x (by simp[Op.operands]),h y (by simp[Op.operands])]
 |slice t x lo hi mx=>
  cases lo with
  |some _=>simp only[j0]
  |none=>
   cases hi with
   |none=>simp only[j0]
   |some hh=>
    cases mx with
    |none=>simp only[j0];rw[h x (by simp[Op.operands]),h hh (by simp[Op.operands])]
    |some m=>simp only[j0];rw[h x (by simp[Op.operands]),h hh (by simp[Op.operands]),h m (by simp[Op.operands])]
 |_=>simp only[j0]
theorem L7 {E E':Env} {d:Nat} (o:Option Operand) (h:∀x∈o,ev E x=ev E' x):gP E d o=gP E' d o:=by
 cases o with
 |none=>rfl
 |some x=>simp only[gP];rw[h x rfl]
theorem TE {P:Program} {E E':Env} {H:aa} {t:TypeId} (lo hi:Option Operand) (U:∀x∈lo,ev E x=ev E' x) (h2:∀x∈hi,ev E x=ev E' x):ui P H t E lo hi=ui P H t E' lo hi:=by
 funext v
 unfold ui
 simp only[L7 lo U,L7 hi h2]
theorem T0 {P:Program} {E E':Env} {H:aa} (op:Op) (h:∀x∈op.operands,ev E x=ev E' x):oH P E H op=oH P E' H op:=by
 cases op with
 |slice t x lo hi mx=>
  cases mx with
  |none=>
   simp only[oH]
   rw[h x (by simp[Op.operands]),TE lo hi (fun y hy=>h y (by cases hy;simp[Op.operands])) (fun y hy=>h y (by cases hy;simp[Op.operands]))]
  |some m=>simp only[oH]
 |indexAddr t x i=>simp only[oH];rw[h x (by simp[Op.operands]),h i (by simp[Op.operands])]
 |binOp op t x y yt=>simp only[oH];rw[h x (by simp[Op.operands])]
 |_=>simp only[oH]
theorem T2 {P:Program} {E E':Env} {H:aa} (op:Op) (h:∀x∈op.operands,ev E x=ev E' x):iM P E H op=iM P E' H op:=by
 unfold iM
 rw[TW op h,TY op h,T0 op h]
def tmpsOf:List Operand->List Nat
 |[]=>[]
 | .tmp t::r=>t::tmpsOf r
 |_::r=>tmpsOf r
theorem IX {t:Tmp}:∀(l:List Operand),Operand.tmp t∈l->t∈tmpsOf l
 |[],h=>by cases h
 |x::r,h=>by
  rcases List.mem_cons.1 h with rfl|h
  ·simp[tmpsOf]
  ·have:=IX r h
   cases x<;>simp[tmpsOf,this]
def looks (ops:List Oper) (o:Oper):List Nat:=
 tmpsOf o.op.operands.toList++match o.guard with
  |some (j,_)=>match(ops[j]?).bind (·.dst)with
   |some d=>[d]
   |none=>[]
  |none=>[]
def canon (n m:Nat):Array Bool:=((List.range m).map fun i=>decide (i<n)).toArray
def C5 (ops:List Oper) (n:Nat) (F:List Nat):Bool:=
 decide (n<=ops.length)&&
 (
  (
  List.range n).all fun i=>match ops[i]? with
  |none=>false
  |some o=>(o.after.all fun e=>!Region.binds .any e||decide (e.on<i))&&
   (
    (
    looks ops o).all fun t=>(List.range n).all fun j=>match(ops[j]?).bind (·.dst)with
    |some d=>d !=t||bY F j||(decide (j<i)&&o.after.any fun e=>Region.binds .any e&&e.on==j)
    |none=>true)&&
   (
    (
    List.range n).all fun j=>match(ops[j]?).bind (·.dst),o.dst with
    |some d,some d'=>d !=d'||j==i
    |_,_=>true))&&
 (n==ops.length||(Region.sinkB .any ops.toArray n&&Region.chainB .any ops.toArray n))&&
 Region.seqB .any ops.toArray (ops.length-n) n (canon n ops.length)
def Nn (ops:List Oper) (n:Nat):Bool:=C5 ops n []
def vh (C:Cx) (H:aa) (cv:List (Nat×AV)) (k:Env->Prop):List Oper->List (Nat×Nat)->Nat->Env->Prop
 |[],_,_,E=>k E
 |o::os,ds,i,E=>match gd ds E o.guard with
  |none=>False
  |some G=>match iM C.P E H o.op with
   |some (sc,v)=>(G=true->sc)/\vh C H cv k os (aZ o.dst i ds) (i+1) (a7 o.dst (wrap o.guard G v) E)
   |none=>match o.op,o.guard with
    | .call {callee:= .value (.func f),args:=xs,.. },none=>match eB E xs.toList,lk cv i with
     |some l,some r=>(gs l=true/\AV.frees (l.map AV.st)=true/\r.free=true/\aS C.P f (l.map AV.st) r)/\vh C H cv k os (aZ o.dst i ds) (i+1) (a7 o.dst r E)
     |_,_=>False
    |_,_=>False
theorem tw (p:Nat->Bool):∀(E:Env) (t:Nat),lk (E.filter fun q=>p q.1) t=if p t then lk E t else none
 |[],t=>by simp[lk]
 |(j,x)::r,t=>by
  rw[List.filter_cons]
  cases hb:Nat.beq j t with
  |true=>
   have:=Nat.eq_of_beq_eq_true hb
   subst this
   cases hp:p j with
   |true=>simp[lk]
   |false=>
    have:=tw p r j
    rw[hp]at this
    simpa[hp]using this
  |false=>
   cases hp:p j with
   |true=>simp only[hp,if_true,lk,hb,cond_false];exact tw p r t
   |false=>simp only[hp,lk,hb,cond_false];exact tw p r t
def fM (listed:Array Bool):Nat->Nat
 |0=>0
 |k+1=>fM listed k+bif listed.getD k true then 0 else 1
theorem Ln (listed:Array Bool) (i:Nat):∀k,k<=i->fM (listed.setIfInBounds i true) k=fM listed k
 |0,_=>rfl
 |k+1,h=>by
  simp only[fM]
  rw[Ln listed i k (by omega),getD_set_ne true (by omega:i≠k)]
theorem FL (listed:Array Bool) (i:Nat) (hi:listed.getD i true=false):∀k,i<k->fM (listed.setIfInBounds i true) k+1=fM listed k
 |0,h=>by omega
 |k+1,h=>by
  simp only[fM]
  by_cases zZ:i=k
  ·subst zZ
   have ag:i<listed.size:=by
    rcases Nat.lt_or_ge i listed.size with h'|h'
    ·exact h'
    ·simp[Array.getElem?_eq_none h']at hi
   rw[Ln listed i i (Nat.le_refl _)]
   have e1:(listed.setIfInBounds i true).getD i true=true:=by simp[ag]
   rw[e1,hi]
   rfl
  ·rw[getD_set_ne true (by omega:i≠k)]
   have:=FL listed i hi k (by omega)
   omega
theorem Cm (listed:Array Bool):∀k,fM listed k=0->∀i,i<k->listed.getD i true=true
 |0,_,i,h=>by omega
 |k+1,h,i,hi=>by
  simp only[fM]at h
  by_cases zZ:i=k
  ·subst zZ
   cases hq:listed.getD i true with
   |true=>rfl
   |false=>rw[hq]at h;simp at h
  ·exact Cm listed k (by omega) i (by omega)
theorem FK (listed:Array Bool):∀k,0<fM listed k->∃i,i<k/\listed.getD i true=false/\∀j,j<i->listed.getD j true=true
 |0,h=>by simp[fM]at h
 |k+1,h=>by
  rcases Nat.eq_zero_or_pos (fM listed k)with h0|h0
  ·simp only[fM,h0]at h
   refine⟨k,by omega,?_,Cm listed k h0⟩
   cases hq:listed.getD k true with
   |true=>rw[hq]at h;simp at h
   |false=>rfl
  ·obtain⟨i,U,h2,h3⟩:=FK listed k h0
   exact⟨i,by omega,h2,h3⟩
structure qO (ops:List Oper) (n:Nat) (F:List Nat):Prop where
 le:n<=ops.length
 back:∀i o,i<n->ops[i]?=some o->∀e∈o.after,Region.binds .any e=true->e.on<i
 tE:∀i o,i<n->ops[i]?=some o->∀t∈looks ops o,∀j d,j<n->(ops[j]?).bind (·.dst)=some d->d=t->bY F j=false->j<i/\∃e∈o.after,Region.binds .any e=true/\e.on=j
 LQ:∀i j d,i<n->j<n->(ops[i]?).bind (·.dst)=some d->(ops[j]?).bind (·.dst)=some d->j=i
 tail:n=ops.length\/(Region.sinkB .any ops.toArray n=true/\Region.chainB .any ops.toArray n=true)
 seq:Region.seqB .any ops.toArray (ops.length-n) n (canon n ops.length)=true
theorem No {ops:List Oper} {n:Nat} {F:List Nat} (h:C5 ops n F=true):qO ops n F:=by
 simp only[C5,Bool.and_eq_true,decide_eq_true_eq,Bool.or_eq_true,beq_iff_eq]at h
 obtain⟨⟨⟨hle,iR⟩,ht⟩,hs⟩:=h
 have key:∀i o,i<n->ops[i]?=some o->((o.after.all fun e=>!Region.binds .any e||decide (e.on<i))=true/\
   (
    (
    looks ops o).all fun t=>(List.range n).all fun j=>match(ops[j]?).bind (·.dst)with
    |some d=>d !=t||bY F j||(decide (j<i)&&o.after.any fun e=>Region.binds .any e&&e.on==j)
    |none=>true)=true)/\((List.range n).all fun j=>match(ops[j]?).bind (·.dst),o.dst with
    |some d,some d'=>d !=d'||j==i
    |_,_=>true)=true:=fun i o hi ho=>by
  have:=List.all_eq_true.1 iR i (List.mem_range.2 hi)
  rw[ho]at this
  simpa only[Bool.and_eq_true]using this
 refine⟨hle,fun i o hi ho e he hb=>?_,fun i o hi ho t ht j d hj hd mg hF=>?_,fun i j d hi hj U h2=>?_,ht.imp id id,hs⟩
 ·have:=Array.all_eq_true'.1 (key i o hi ho).1.1 e he
  simpa[hb]using this
 ·have U:=List.all_eq_true.1 (key i o hi ho).1.2 t ht
  have h2:=List.all_eq_true.1 U j (List.mem_range.2 hj)
  rw[hd]at h2
  subst mg
  simp only[bne_self_eq_false,hF,Bool.false_or,Bool.and_eq_true,decide_eq_true_eq]at h2
  obtain⟨h3,h4⟩:=h2
  obtain⟨e,he,hb⟩:=Array.any_eq_true'.1 h4
  simp only[Bool.and_eq_true,beq_iff_eq]at hb
  exact⟨h3,e,he,hb.1,hb.2⟩
 ·cases ho:ops[i]? with
  |none=>rw[ho]at U;cases U
  |some o=>
   rw[ho]at U
   simp only[Option.bind_some]at U
   have h3:=List.all_eq_true.1 (key i o hi ho).2 j (List.mem_range.2 hj)
   rw[h2,U]at h3
   simpa using h3
theorem WR {ops:List Oper} {n:Nat} (h:Nn ops n=true):qO ops n []:=No h
def qL (ops:List Oper) (n:Nat) (listed:Array Bool) (t:Nat):Bool:=
 (
  List.range n).all fun j=>match(ops[j]?).bind (·.dst)with
  |some d=>d !=t||listed.getD j false
  |none=>true
theorem BM {ops:List Oper} {n:Nat} {listed:Array Bool} {t:Nat}:qL ops n listed t=true↔∀j d,j<n->(ops[j]?).bind (·.dst)=some d->d=t->listed.getD j false=true:=by
 unfold qL
 rw[List.all_eq_true]
 constructor
 ·intro h j d hj hd mg
  have:=h j (List.mem_range.2 hj)
  rw[hd]at this
  subst mg
  simpa using this
 ·intro h j hj
  cases hd:(ops[j]?).bind (·.dst)with
  |none=>simp
  |some d=>
   simp only[Bool.or_eq_true,bne_iff_ne,ne_eq]
   by_cases mg:d=t
   ·exact .inr (h j d (List.mem_range.1 hj) hd mg)
   ·exact .inl mg
theorem St.zh {B:Bs} {φ:al} {I:Nat->Prop} {H:aa} {w:World} (h:St B φ I H w):St B φ I H {w with drawn:=w.drawn+1}:=by
 have k:Ext (fun _=>False) w {w with drawn:=w.drawn+1}:=⟨Nat.le_refl _,fun _ _ _=>rfl,fun _ c _ _ h=>⟨c,_,h,rfl⟩,rfl,rfl,rfl⟩
 exact⟨⟨h.real.bj,fun b o p hl hp=>Ob.k5 (w:=w) (w':={w with drawn:=w.drawn+1}) (fun _ _=>rfl) (fun _ h=>h) (fun _ _ h=>h) (fun _ _ _ _ hs=>k.shaped (fun h=>h) hs) (fun _ _=>rfl) (h.real.own b o p hl hp),h.real.off,h.real.inj,h.real.bN⟩,h.ext.trans k (fun g hf=>hf.elim),h.cf,h.dj,h.cC,h.cP⟩
theorem bE.zh (w:World) (φ:al) (I:Nat->Prop):bE w φ I {w with drawn:=w.drawn+1} φ I:=by
 have k:Ext (fun _=>False) w {w with drawn:=w.drawn+1}:=⟨Nat.le_refl _,fun _ _ _=>rfl,fun _ c _ _ h=>⟨c,_,h,rfl⟩,rfl,rfl,rfl⟩
 exact⟨fun _ _=>rfl,fun _ h=>h,fun _ _ h=>h,fun _ _ _ _ hs=>k.shaped (fun h=>h) hs⟩
def Fi (C:Cx) (H:aa) (ops:List Oper) (n:Nat) (En:Env) (i:Nat) (o:Oper):Prop:=
 ∃E' ds G val,(∀j d,lk ds j=some d->(ops[j]?).bind (·.dst)=some d)/\gd ds E' o.guard=some G/\(∀t,(∀j,i<=j->j<n->(ops[j]?).bind (·.dst)≠some t)->lk E' t=lk En t)/\
  (∀d,o.dst=some d->lk En d=some val)/\(∀j,ds.find? (fun q=>q.1==j)=ds.find? (fun q=>q.1==j))/\
  (
   (
   ∃sc v,iM C.P E' H o.op=some (sc,v)/\(G=true->sc)/\val=wrap o.guard G v)\/
   (o.guard=none/\∃f xs a8 l,o.op= .call {callee:= .value (.func f),args:=xs,argTypes:=a8}/\eB E' xs.toList=some l/\gs l=true/\AV.frees (l.map AV.st)=true/\val.free=true/\aS C.P f (l.map AV.st) val))
theorem SF {C:Cx} {H:aa} {cv:List (Nat×AV)} {k:Env->Prop} {ops:List Oper} {n:Nat} (ah:qO ops n []):∀(rest:List Oper) (ds:List (Nat×Nat)) (i:Nat) (E:Env),(∀m,rest[m]?=(ops.take n)[i+m]?)->
  (∀j d,lk ds j=some d->(ops[j]?).bind (·.dst)=some d)->vh C H cv k rest ds i E->
  ∃En,k En/\(∀t,(∀j,i<=j->j<n->(ops[j]?).bind (·.dst)≠some t)->lk E t=lk En t)/\(∀m o,rest[m]?=some o->Fi C H ops n En (i+m) o)
 |[],ds,i,E,_,_,h=>⟨E,h,fun _ _=>rfl,fun m o hm=>by simp at hm⟩
 |o::os,ds,i,E,hr,aV,h=>by
  have h0:=hr 0
  simp only[List.getElem?_cons_zero,Nat.add_zero]at h0
  have dP:i<n:=by
   rcases Nat.lt_or_ge i n with h'|h'
   ·exact h'
   ·rw[List.getElem?_eq_none (by rw[List.length_take];omega)]at h0;cases h0
  have jI:ops[i]?=some o:=by rw[List.getElem?_take,if_pos dP]at h0;exact h0.symm
  have mX:∀m,os[m]?=(ops.take n)[i+1+m]?:=fun m=>by
   have:=hr (m+1)
   rw[List.getElem?_cons_succ]at this
   rw[this];congr 1;omega
  have wY:∀j d,lk (aZ o.dst i ds) j=some d->(ops[j]?).bind (·.dst)=some d:=fun j d hj=>by
   unfold aZ at hj
   split at hj
   ·rename_i d' eZ
    simp only[lk]at hj
    cases hb:Nat.beq i j with
    |true=>
     rw[hb]at hj
     have:=Nat.eq_of_beq_eq_true hb
     subst this
     simp only[cond_true,Option.some.injEq]at hj
     subst hj
     rw[jI];exact eZ
    |false=>rw[hb]at hj;exact aV j d hj
   ·exact aV j d hj
  have fin:∀(G:Bool) (val:AV),gd ds E o.guard=some G->vh C H cv k os (aZ o.dst i ds) (i+1) (a7 o.dst val E)->
    (
     (
     ∃sc v,iM C.P E H o.op=some (sc,v)/\(G=true->sc)/\val=wrap o.guard G v)\/
     (o.guard=none/\∃f xs a8 l,o.op= .call {callee:= .value (.func f),args:=xs,argTypes:=a8}/\eB E xs.toList=some l/\gs l=true/\AV.frees (l.map AV.st)=true/\val.free=true/\aS C.P f (l.map AV.st) val))->
    ∃En,k En/\(∀t,(∀j,i<=j->j<n->(ops[j]?).bind (·.dst)≠some t)->lk E t=lk En t)/\(∀m o',(o::os)[m]?=some o'->Fi C H ops n En (i+m) o'):=by
   intro G val hG hv GR
   obtain⟨En,U,h2,h3⟩:=SF ah os _ (i+1) _ mX wY hv
   have nY:∀t,(∀j,i<=j->j<n->(ops[j]?).bind (·.dst)≠some t)->lk E t=lk En t:=fun t ht=>by
    rw[<-h2 t (fun j hj fE=>ht j (by omega) fE)]
    cases hd:o.dst with
    |none=>rfl
    |some d=>
     have aK:d≠t:=fun e=>ht i (Nat.le_refl _) dP (by rw[jI,<-e];exact hd)
     have:Nat.beq d t=false:=by
      cases hq:Nat.beq d t with
      |false=>rfl
      |true=>exact absurd (Nat.eq_of_beq_eq_true hq) aK
     simp[a7,lk,this]
   refine⟨En,U,nY,fun m o' hm=>?_⟩
   cases m with
   |succ m=>
    rw[List.getElem?_cons_succ]at hm
    have:=h3 m o' hm
    rw[show i+(m+1)=i+1+m by omega];exact this
   |zero=>
    simp only[List.getElem?_cons_zero,Option.some.injEq]at hm
    subst hm
    refine⟨E,ds,G,val,aV,hG,nY,fun d hd=>?_,fun _=>rfl,GR⟩
    rw[<-h2 d (fun j hj fE W9=>?_)]
    ·rw[hd];simp[a7,lk]
    ·have:=ah.LQ i j d dP fE (by rw[jI];exact hd) W9
     omega
  simp only[vh]at h
  split at h
  ·exact h.elim
  ·rename_i G hG
   split at h
   ·rename_i sc v hv
    exact fin G _ hG h.2 (.inl ⟨sc,v,hv,h.1,rfl⟩)
   ·split at h
    ·rename_i f xs a8 n6 G6
     split at h
     ·rename_i l r hl s7
      obtain⟨⟨U,h2,h3,h4⟩,h5⟩:=h
      exact fin G r hG h5 (.inr ⟨G6,f,xs,_,l,n6,hl,U,h2,h3,h4⟩)
     ·exact h.elim
    ·exact h.elim
theorem QN {ops:List Oper} {n:Nat} {F:List Nat} (ah:qO ops n F) {listed:Array Bool} (inv:HeadInv .any ops.toArray n listed) {i:Nat} (hi:i<n) (dG:listed.getD i true=false):∀j∈Region.ready .any ops.toArray listed,j<n:=by
 intro j hj
 rcases Nat.lt_or_ge j n with h|h
 ·exact h
 ·exfalso
  rcases ah.tail with he|⟨hs,hc⟩
  ·obtain⟨_,o,ho,_⟩:=mem_ready.1 hj
   have:=(Array.getElem?_eq_some_iff.1 ho).1
   simp at this;omega
  ·have u5:j<ops.toArray.size:=by
    obtain⟨_,o,ho,_⟩:=mem_ready.1 hj
    exact(Array.getElem?_eq_some_iff.1 ho).1
   exact tail_waits hs hc (by omega) inv _ i rfl hi dG j h hj
theorem Np {C:Cx} {H:aa} {ops:List Oper} {n:Nat} {En:Env} {Q:Exit->Act->World->Prop} (ah:qO ops n []) (fS:ba C.n ops=true) (hf:∀i o,i<n->ops[i]?=some o->Fi C H ops n En i o)
  (Of:∀φ I a w,bB C φ I En H a w->h_ C.P ops.toArray Q (ops.drop n) a w):
  ∀(c:Nat) (listed:Array Bool) (a:Act) (w:World),fM listed n=c->HeadInv .any ops.toArray n listed->
   (∃φ I,bB C φ I (En.filter fun q=>qL ops n listed q.1) H a w)->qK C.P .any ops.toArray Q (c+(ops.length-n)) listed a w
 |0,listed,a,w,hc,inv,⟨φ,I,hs⟩=>by
  have iR:=Cm listed n hc
  have aT:listed.size=ops.length:=by simpa using inv.size
  have GQ:listed=canon n ops.length:=by
   apply Array.ext
   ·simp[canon,aT]
   ·intro i U h2
    simp only[canon,List.getElem_toArray,List.getElem_map,List.getElem_range]
    by_cases hi:i<n
    ·have:=iR i hi
     simp[U]at this
     simp[hi,this]
    ·have:=inv.tail i (by omega) (by simpa using(by omega:i<ops.length))
     simp[U]at this
     simp[hi,this]
  rw[Nat.zero_add]
  have Ap:=ah.seq
  rw[<-GQ]at Ap
  have U:=J_ (P:=C.P) (md:= .any) (ops:=ops.toArray) (Q:=Q) (ops.drop n) n listed a w (fun j=>by simp[List.getElem?_drop]) (by simpa using Ap) (Of φ I a w (by
   refine⟨hs.bF,hs.bC,fun t x hx=>hs.env t x ?_,hs.st⟩
   rw[tw]
   rw[if_pos (BM.2 fun j d hj _ _=>by
    have U:=iR j hj
    have ag:j<listed.size:=by rw[aT];have:=ah.le;omega
    simp[ag]at U⊢;exact U)]
   exact hx))
  simpa using U
 |c+1,listed,a,w,hc,inv,⟨φ,I,hs⟩=>by
  obtain⟨i0,uY,Ax,Ag⟩:=FK listed n (by omega)
  have aT:listed.size=ops.length:=by simpa using inv.size
  have hle:=ah.le
  have Am:i0∈Region.ready .any ops.toArray listed:=by
   rw[mem_ready]
   have ag:i0<ops.length:=by omega
   refine⟨Ax,ops[i0],by simp[ag],fun e he hb=>?_⟩
   have mj:=ah.back i0 ops[i0] uY (List.getElem?_eq_getElem ag) e he hb
   have U:=Ag e.on mj
   have Hm:e.on<listed.size:=by omega
   simp[Hm]at U⊢;exact U
  rw[show c+1+(ops.length-n)=(c+(ops.length-n))+1 by omega]
  refine⟨fun h=>(by rw[h]at Am;cases Am),fun i hi=>?_⟩
  have dP:=QN ah inv uY Ax i hi
  obtain⟨dG,o,ho,iR⟩:=mem_ready.1 hi
  have eU:ops[i]?=some o:=by simpa using ho
  have Yd:listed.getD i true=false:=dG
  have DN:=inv.set hi dP
  have ru:fM (listed.setIfInBounds i true) n=c:=by have:=FL listed i Yd n dP;omega
  obtain⟨E',ds,G,val,aV,hG,Ws,lE,_,GR⟩:=hf i o dP eU
  have Ae:∀t∈looks ops o,qL ops n listed t=true/\lk E' t=lk En t:=fun t ht=>by
   refine⟨BM.2 fun j d hj hd mg=>?_,Ws t fun j fT fE o5=>?_⟩
   ·obtain⟨_,e,he,hb,Aj⟩:=ah.tE i o dP eU t ht j d hj hd mg rfl
    rw[<-Aj];exact iR e he hb
   ·have:=(ah.tE i o dP eU t ht j t fE o5 rfl rfl).1
    omega
  have c_:∀t∈looks ops o,lk (En.filter fun q=>qL ops n listed q.1) t=lk E' t:=fun t ht=>by
   rw[tw,if_pos (Ae t ht).1,(Ae t ht).2]
  have nS:∀x∈o.op.operands,ev (En.filter fun q=>qL ops n listed q.1) x=ev E' x:=fun x hx=>by
   cases x with
   |tmp t=>simp only[ev];exact c_ t (by simp only[looks];exact List.mem_append.2 (.inl (IX _ (by simpa using hx))))
   |_=>rfl
  have nU:gd ds (En.filter fun q=>qL ops n listed q.1) o.guard=some G:=by
   rw[<-hG]
   unfold gd
   cases hg:o.guard with
   |none=>rfl
   |some p=>
    obtain⟨j,want⟩:=p
    simp only
    cases hj:lk ds j with
    |none=>rfl
    |some d=>
     simp only
     rw[c_ d (by simp only[looks,hg];rw[aV j d hj];simp)]
  have Ys:=zq (ops:=ops.toArray) hs.env (fun j d hj=>by simpa using aV j d hj) nU
  have WM:∀x,o.dst=some x->x<C.n:=fun x hx=>by
   exact uB fS (List.mem_of_getElem? eU) x hx
  have next:∀(φ':al) (I':Nat->Prop) (w':World) (u:Value),St C.B φ' I' H w'->bE w φ I w' φ' I'->AV.den w' φ' I' val u->qK C.P .any ops.toArray Q (c+(ops.length-n)) (listed.setIfInBounds i true) (a.put o.dst u) w':=by
   intro φ' I' w' u hS hk aX
   refine Np ah fS hf Of c _ _ _ ru DN ⟨φ',I',?_⟩
   have n_:=hs.put (d:=o.dst) (v:=val) (u:=u) hS hk WM aX
   refine⟨n_.bF,n_.bC,fun t x hx=>?_,hS⟩
   rw[tw]at hx
   split at hx
   ·rename_i xx
    by_cases mg:o.dst=some t
    ·rw[lE t mg]at hx
     cases hx
     exact n_.env t val (by rw[mg];simp[a7,lk])
    ·refine n_.env t x ?_
     have aK:lk (a7 o.dst val (En.filter fun q=>qL ops n listed q.1)) t=lk (En.filter fun q=>qL ops n listed q.1) t:=by
      cases hd:o.dst with
      |none=>rfl
      |some d=>
       have:Nat.beq d t=false:=by
        cases hq:Nat.beq d t with
        |false=>rfl
        |true=>exact absurd (by rw[hd,Nat.eq_of_beq_eq_true hq]) mg
       simp[a7,lk,this]
     rw[aK,tw,if_pos (BM.2 fun j d hj hd fC=>?_)]
     ·exact hx
     ·have U:=BM.1 xx j d hj hd fC
      by_cases fT:i=j
      ·subst fT
       rw[eU]at hd
       exact absurd (by rw[<-fC];exact hd) mg
      ·rwa [getD_set_ne false fT]at U
   ·cases hx
  unfold pI
  rw[ho]
  simp only
  rw[Ys]
  rcases GR with⟨sc,v,wR,aB,rfl⟩|⟨G6,f,xs,a8,l,n6,hl,dT,fD,zV,eC⟩
  ·rw[<-T2 o.op nS]at wR
   cases G with
   |true=>
    obtain⟨u,hu,aX⟩:=yX hs.env hs.st.real wR (aB rfl)
    rw[if_pos rfl]
    refine Or.inl ?_
    unfold Oper.wp
    rw[hu,Oper.upon_value]
    exact next φ I w u hs.st (bE.refl _ _ _) (Ka aX)
   |false=>
    rw[if_neg (by simp)]
    refine next φ I w undef hs.st (bE.refl _ _ _) ?_
    cases hg:o.guard with
    |none=>rw[hg]at nU;simp[gd]at nU
    |some p=>exact Kb
  ·have V6:G=true:=by rw[G6]at nU;simp[gd]at nU;exact nU
   subst V6
   rw[if_pos rfl]
   have aJ:eB (En.filter fun q=>qL ops n listed q.1) xs.toList=some l:=by
    rw[<-hl]
    exact CA _ fun x hx=>nS x (by rw[n6];simp only[Op.operands,Call.operands];simp;exact .inr (by simpa using hx))
   have aX:=AV.sM (φ':=fun _=>none) _ _ fD (nO hs.env _ _ aJ dT)
   have aF:(execOp a.eval o).run C.P w= .ok (.enter f (xs.toList.map a.eval).toArray) w:=by
    have:execOp a.eval o=callFunc f (#[]++xs.map a.eval++#[]):=by simp only[execOp,n6];rfl
    rw[this,yq eC.gN]
    cases xs
    simp
   refine Or.inl ?_
   unfold Oper.wp
   rw[aF,Oper.upon_enter]
   refine(eC.run w (fun _=>none) I _ aX (Ey hs.st.real) hs.st.vk).mono fun e w' ⟨r,H',φ',I',v,hr,he,bc,hS⟩=>?_
   subst he
   obtain⟨rfl,rfl⟩:=hr
   obtain⟨mb,hk⟩:=hs.st.Kz hS
   exact next φ I' w' v mb hk (AV.re r v zV bc)
section
variable {C:Cx} {K:List PK} {E:Env} {H:aa} {p:List Nat}
theorem AP.draw {id:Nat} {ops:List Oper} (n:Nat) (cv:List (Nat×AV)) (hm:C.P.follows .mixedOrders=true) (hc:cd C.fn p= .region id ops.toArray true) (ah:ba C.n ops=true) (hB:Nn ops n=true)
  (h:vh C H cv (fun En=>vq C K (ops.drop n) [] n En H) (ops.take n) [] 0 E):AP C p K E H:=by
 unfold AP
 rw[hc]
 intro φ I a w hs
 have b7:=WR hB
 obtain⟨En,hk,fP,hf⟩:=SF b7 (ops.take n) [] 0 E (fun m=>by rw[Nat.zero_add]) (fun j d hj=>by simp[lk]at hj) h
 refine S0 hm (FW ah) ?_
 have ru:∀k,fM (Array.replicate ops.length false) k=min k ops.length:=by
  intro k
  induction k with
  |zero=>simp[fM]
  |succ k ih=>
   simp only[fM,ih]
   by_cases hk:k<ops.length
   ·simp[hk];omega
   ·simp[hk];omega
 have Ih:HeadInv .any ops.toArray n (Array.replicate ops.length false):=
  ⟨by simp,fun j oj _ hl=>(by rw[getD_replicate_false]at hl;cases hl),fun t _ ht=>getD_in (by simpa using ht) (getD_replicate_false _ _)⟩
 have hle:=b7.le
 have:=Np (C:=C) (H:=H) (En:=En) (Q:=d_ C (K.map (PK.ki C.fn))) b7 ah (fun i o hi ho=>by
   have:=hf i o (by rw[List.getElem?_take,if_pos hi];exact ho)
   rwa [Nat.zero_add]at this) (fun φ I a w hs=>by
   have GX:ba C.n (ops.drop n)=true:=by
    rw[ba,List.all_eq_true]
    exact fun o ho=>List.all_eq_true.1 ah o (List.mem_of_mem_drop ho)
   have gy:=yI (C:=C) (K:=K.map (PK.ki C.fn)) (ops.drop n) [] n En H GX (yJ C K _ _ _ _ _ hk)
   exact gy ops.toArray (fun j d hj=>by simp[lk]at hj) (fun j o hj=>by rw[List.getElem?_drop]at hj;simp[hj]) φ I a w hs)
  n (Array.replicate ops.length false) a {w with drawn:=w.drawn+1} (by rw[ru];omega) Ih ⟨φ,I,?_⟩
 ·simp only[List.size_toArray]
  rwa [show n+(ops.length-n)=ops.length by omega]at this
 ·refine⟨hs.bF,hs.bC,fun t x hx=>?_,hs.st.zh⟩
  rw[tw]at hx
  split at hx
  ·rename_i xx
   rw[<-fP t (fun j _ hj hd=>by
    have:=BM.1 xx j t hj hd rfl
    rw[getD_replicate_false]at this;cases this)]at hx
   obtain⟨u,hu,hd⟩:=hs.env t x hx
   exact⟨u,hu,(bE.zh w φ I).den hd⟩
  ·cases hx
end
attribute [go_sem] vh List.drop List.take
end Go.AL
end
section
namespace Go.AL
open Go Go.ChangeShapes Go.WideShapes
def Typed (P:Program):Nat->TypeId->List IV->Prop
 |0,_,_=>False
 |n+1,t,xs=>match P.underlying t with
  |some .bool=>∃b,xs=[.v (.bool b)]
  |some (.int k)=>∃i,xs=[.v (.int k i)]/\(Lit.int k i).wf=true
  |some (.float k)=>∃b,xs=[.v (.float k b)]/\(Lit.float k b).wf=true
  |some .string=>∃s:ByteArray,xs=[.v (.string s)]/\s.size<=maxLen
  |some (.pointer e)=>xs=[.v (.pointer none)]\/∃cs,xs=[.pt cs]/\Typed P n e cs
  |some (.slice e)=>∃rows,xs=[.sl (P.cellsOf e) rows]/\rows.length<=maxLen/\∀r∈rows,Typed P n e r
  |some (.struct fs)=>xs.length=P.cellsOf t/\∀(i:Nat) (f:Field),fs.toList[i]?=some f->Typed P n f.type ((xs.drop f.offset).take (P.cellsOf f.type))
  |some (.array m e)=>xs.length=P.cellsOf t/\∀i,i<m->Typed P n e ((xs.drop (i*P.cellsOf e)).take (P.cellsOf e))
  |_=>False
def xL (P:Program) (T:List TypeId) (t:TypeId):Bool:=
 match P.underlying t with
 |some .bool|some (.int _)|some (.float _)|some .string=>P.cellsOf t==1
 |some (.pointer e)=>P.cellsOf t==1&&T.contains e&&P.cellsOf e !=0
 |some (.slice e)=>P.cellsOf t==1&&T.contains e&&P.cellsOf e !=0
 |some (.struct fs)=>fs.toList.all (fun f=>T.contains f.type)&&P.cellsOf t==(fs.toList.map fun f=>P.cellsOf f.type).sum&&
   (List.range fs.toList.length).all fun j=>match fs.toList[j]? with|some f=>f.offset==((fs.toList.take j).map fun f=>P.cellsOf f.type).sum|none=>true
 |some (.array n e)=>T.contains e&&P.cellsOf t==n*P.cellsOf e
 |_=>false
theorem Lz {w:World} {I:Nat->Prop}:∀(xs ys:List IV) (us vs:List Value),IV.ab w I xs us->IV.ab w I ys vs->IV.ab w I (xs++ys) (us++vs)
 |[],_,_,_,h,h'=>by simp only[IV.ab]at h;subst h;exact h'
 |x::xs,ys,us,vs,h,h'=>by
  simp only[IV.ab]at h
  obtain⟨u,au,rfl,U,h2⟩:=h
  simp only[List.cons_append,IV.ab]
  exact⟨u,au++vs,rfl,U,Lz xs ys au vs h2 h'⟩
theorem Cp {w:World} {I:Nat->Prop}:∀(xs:List IV) (us:List Value),IV.ab w I xs us->xs.length=us.length
 |[],_,h=>by simp only[IV.ab]at h;subst h;rfl
 |x::xs,us,h=>by
  simp only[IV.ab]at h
  obtain⟨u,au,rfl,_,h2⟩:=h
  simp[Cp xs au h2]
theorem pieces {α:Type} {w:World} {I:Nat->Prop} {len:α->Nat} {Q:α->List IV->Prop}:∀(l:List α) (cs:List Value),cs.length=(l.map len).sum->
  (∀j a,l[j]?=some a->∃ys,IV.ab w I ys ((cs.drop ((l.take j).map len).sum).take (len a))/\Q a ys)->
  ∃xs,IV.ab w I xs cs/\∀j a,l[j]?=some a->Q a ((xs.drop ((l.take j).map len).sum).take (len a))
 |[],cs,hl,_=>by
  have:cs=[]:=List.eq_nil_of_length_eq_zero (by simpa using hl)
  subst this
  exact⟨[],rfl,fun j a h=>by simp at h⟩
 |a::l,cs,hl,h=>by
  simp only[List.map_cons,List.sum_cons]at hl
  obtain⟨ys,U,h2⟩:=h 0 a rfl
  simp only[List.take_zero,List.map_nil,List.sum_nil,List.drop_zero]at U
  obtain⟨xs,h3,h4⟩:=pieces (w:=w) (I:=I) (len:=len) (Q:=Q) l (cs.drop (len a)) (by simp;omega) (fun j b hb=>by
   obtain⟨zs,hz,hq⟩:=h (j+1) b (by simpa using hb)
   refine⟨zs,?_,hq⟩
   simpa[List.drop_drop,Nat.add_comm]using hz)
  have NO:ys.length=len a:=by
   rw[Cp _ _ U];simp;omega
  refine⟨ys++xs,?_,fun j b hb=>?_⟩
  ·have:=Lz _ _ _ _ U h3
   rwa [List.take_append_drop]at this
  ·cases j with
   |zero=>
    simp only[List.getElem?_cons_zero,Option.some.injEq]at hb
    subst hb
    simp only[List.take_zero,List.map_nil,List.sum_nil,List.drop_zero]
    rw[<-NO,List.take_left];exact h2
   |succ j=>
    simp only[List.getElem?_cons_succ]at hb
    simp only[List.take_succ_cons,List.map_cons,List.sum_cons]
    rw[<-List.drop_drop,<-NO,List.drop_left]
    exact h4 j b hb
theorem O9 {α:Type} {R:Nat->α->Prop}:∀(n:Nat),(∀i,i<n->∃a,R i a)->∃l:List α,l.length=n/\∀i a,l[i]?=some a->R i a
 |0,_=>⟨[],rfl,fun i a h=>by simp at h⟩
 |n+1,h=>by
  obtain⟨l,hl,hr⟩:=O9 n (fun i hi=>h i (by omega))
  obtain⟨a,ha⟩:=h n (by omega)
  refine⟨l++[a],by simp[hl],fun i b hb=>?_⟩
  rcases Nat.lt_trichotomy i n with hi|hi|hi
  ·rw[List.getElem?_append_left (by omega)]at hb;exact hr i b hb
  ·subst hi
   rw[List.getElem?_append_right (by omega),hl]at hb
   simp at hb;subst hb;exact ha
  ·rw[List.getElem?_eq_none (by simp;omega)]at hb;cases hb
theorem Q2 {w:World} {g es:Nat}:∀(ae:List (List Value)) (off:Nat),(∀i vs,ae[i]?=some vs->vs.length=es/\c8 w g (off+i*es) vs)->c8 w g off ae.flatten
 |[],_,_=>fun j u h=>by simp at h
 |vs::ae,off,h=>by
  obtain⟨hl,h0⟩:=h 0 vs rfl
  simp only[Nat.zero_mul,Nat.add_zero]at h0
  have hr:=Q2 ae (off+es) (fun i us hu=>by
   obtain⟨U,h2⟩:=h (i+1) us (by simpa using hu)
   refine⟨U,?_⟩
   rw[Nat.add_assoc,Nat.add_comm es,<-Nat.succ_mul];exact h2)
  intro j u hu
  rw[List.flatten_cons]at hu
  rcases Nat.lt_or_ge j es with hj|hj
  ·rw[List.getElem?_append_left (by omega)]at hu
   exact h0 j u hu
  ·rw[List.getElem?_append_right (by omega),hl]at hu
   have:=hr (j-es) u hu
   rwa [Nat.add_assoc,Nat.add_sub_cancel' hj]at this
theorem Um {w:World} {b n:Nat} {a:Addr} {cs:List Value} (h:w.cells? b a n=some cs):
  cs.length=n/\∀(i:Nat) u,cs[i]?=some u->w.cell? (a.add i)=some u:=by
 obtain⟨_,U,h2⟩:=World.cells?_some h
 refine⟨U,fun i u hu=>?_⟩
 rw[h2 i (by rw[<-U];exact(List.getElem?_eq_some_iff.1 hu).1)]
 exact hu
theorem FE {w:World} {b n:Nat} {a:Addr} {cs:List Value} (h:w.cells? b a n=some cs) (hn:0<n):
  a=⟨a.block,a.off,none⟩/\a.block<w.heap.size/\c8 w a.block a.off cs:=by
 obtain⟨hl,hc⟩:=Um h
 have h0:∃u,cs[0]?=some u:=⟨cs[0]'(by omega),List.getElem?_eq_getElem _⟩
 obtain⟨u,hu⟩:=h0
 have hs:=hc 0 u hu
 have Dy:a.spot=none:=by
  simp only[Addr.add,if_true,World.cell?]at hs
  split at hs
  ·split at hs
   ·cases hs
   ·rename_i hn;simpa using hn
  ·cases hs
 have ea:a=⟨a.block,a.off,none⟩:=by
  obtain⟨x,y,z⟩:=a
  simp only at Dy
  subst Dy;rfl
 refine⟨ea,World.cells?_block h hn,fun j u hu=>?_⟩
 have:=hc j u hu
 unfold Addr.add at this
 split at this
 ·rename_i hj;subst hj;rw[Nat.add_zero,<-ea];exact this
 ·exact this
section
variable {H:Type} {enc:TypeId×Value->H} {P:Program} {w:World}
theorem opens {T:List TypeId} (hT:T.all (xL P T)=true):∀(fuel:Nat) (t:TypeId) (cs:List Value) (x:DataW H×List MemPlace),T.contains t=true->
  DataW.trod enc P w 0 (fun _=>true) true fuel t cs=some x->cs.length=P.cellsOf t/\∃xs,IV.ab w (fun g=>g<w.heap.size) xs cs/\Typed P fuel t xs:=by
 intro fuel
 induction fuel with
 |zero=>intro t cs x _ h;simp[DataW.trod]at h
 |succ n ih=>
  intro t cs x ht h
  have hk:xL P T t=true:=by
   rw[List.all_eq_true]at hT
   exact hT t (by simpa using ht)
  unfold xL at hk
  have one:∀(v:Value),v.oneCell'=true->IV.ab w (fun g=>g<w.heap.size) [.v v] [v]:=fun v hv=>by
   simp only[IV.ab,IV.den];exact⟨v,[],rfl,⟨rfl,hv⟩,rfl⟩
  split at hk
  ·rename_i hu
   obtain⟨b,rfl,rfl⟩:=DataW.trod_bool hu h
   refine⟨by simpa using(by simpa using hk:P.cellsOf t=1).symm,[.v (.bool b)],one _ rfl,?_⟩
   simp only[Typed,hu];exact⟨b,rfl⟩
  ·rename_i k hu
   obtain⟨b,rfl,rfl,hw⟩:=DataW.trod_int hu h
   refine⟨by simpa using(by simpa using hk:P.cellsOf t=1).symm,[.v (.int k b)],one _ rfl,?_⟩
   simp only[Typed,hu];exact⟨b,rfl,hw⟩
  ·rename_i k hu
   unfold DataW.trod at h
   rw[hu]at h
   have hx:∃b,cs=[.float k b]/\(Lit.float k b).wf=true:=by split at h<;>simp_all
   obtain⟨b,rfl,hw⟩:=hx
   refine⟨by simpa using(by simpa using hk:P.cellsOf t=1).symm,[.v (.float k b)],one _ rfl,?_⟩
   simp only[Typed,hu];exact⟨b,rfl,hw⟩
  ·rename_i hu
   obtain⟨s,rfl,rfl,hw⟩:=DataW.trod_string hu h
   refine⟨by simpa using(by simpa using hk:P.cellsOf t=1).symm,[.v (.string s)],one _ rfl,?_⟩
   simp only[Typed,hu];exact⟨s,rfl,hw⟩
  ·rename_i e hu
   simp only[Bool.and_eq_true,beq_iff_eq,bne_iff_ne,ne_eq]at hk
   obtain⟨⟨qb,mS⟩,Hb⟩:=hk
   rcases DataW.trod_pointer hu h with⟨rfl,rfl⟩|⟨a,cs',y,m,hm,rfl,rfl,hc,hy⟩
   ·refine⟨by simp[qb],[.v (.pointer none)],one _ rfl,?_⟩
    simp only[Typed,hu];exact .inl trivial
   ·obtain rfl:m=n:=by omega
    obtain⟨hl,xs,hd,HM⟩:=ih e cs' y mS hy
    obtain⟨ea,hb,wV⟩:=FE hc (by omega)
    refine⟨by simp[qb],[.pt xs],?_,?_⟩
    ·simp only[IV.ab,IV.den]
     exact⟨_,[],rfl,⟨a.block,a.off,cs',by rw[<-ea],hb,hd,wV⟩,rfl⟩
    ·simp only[Typed,hu];exact .inr ⟨xs,rfl,HM⟩
  ·rename_i e hu
   simp only[Bool.and_eq_true,beq_iff_eq,bne_iff_ne,ne_eq]at hk
   obtain⟨⟨qb,mS⟩,Hb⟩:=hk
   rcases DataW.trod_slice hu h with⟨rfl,rfl⟩|⟨a,len,cap,elems,rest,m,hm,rfl,rfl,_,Hh,ad5,zR,hr,_,_⟩
   ·refine⟨by simp[qb],[.sl (P.cellsOf e) []],?_,?_⟩
    ·simp only[IV.ab,IV.den]
     exact⟨_,[],rfl,⟨none,0,[],rfl,Nat.le_refl _,rfl,by simp,by simp⟩,rfl⟩
    ·simp only[Typed,hu];exact⟨[],rfl,by simp,by simp⟩
   ·obtain rfl:m=n:=by omega
    obtain⟨l,qe,hl⟩:=O9 (R:=fun i (p:List Value×List IV)=>w.cells? 0 (a.add (i*P.cellsOf e)) (P.cellsOf e)=some p.1/\p.1.length=P.cellsOf e/\IV.ab w (fun g=>g<w.heap.size) p.2 p.1/\Typed P m e p.2) len (fun i hi=>by
     have:=hr i hi
     rw[List.getElem?_eq_getElem (by omega),Option.bind_eq_some_iff]at this
     obtain⟨cs',hc,hy⟩:=this
     obtain⟨U,xs,h2,h3⟩:=ih e cs' _ mS hy
     exact⟨(cs',xs),hc,U,h2,h3⟩)
    refine⟨by simp[qb],[.sl (P.cellsOf e) (l.map Prod.snd)],?_,?_⟩
    ·simp only[IV.ab,IV.den]
     refine⟨_,[],rfl,⟨some a,cap,l.map Prod.fst,by simp[qe],by simp[qe,Hh],?_,?_,fun aK=>?_⟩,rfl⟩
     ·have:∀(l:List (List Value×List IV)),(∀p∈l,IV.ab w (fun g=>g<w.heap.size) p.2 p.1)->IV.aM w (fun g=>g<w.heap.size) (l.map Prod.snd) (l.map Prod.fst):=by
       intro l
       induction l with
       |nil=>intro _;rfl
       |cons p l AI=>
        intro hp
        simp only[List.map_cons,IV.aM]
        exact⟨_,_,rfl,hp p (by simp),AI (fun q hq=>hp q (by simp[hq]))⟩
      refine this l (fun p hp=>?_)
      obtain⟨i,hi⟩:=List.getElem?_of_mem hp
      exact(hl i p hi).2.2.1
     ·intro vs dH
      obtain⟨p,hp,rfl⟩:=List.mem_map.1 dH
      obtain⟨i,hi⟩:=List.getElem?_of_mem hp
      exact(hl i p hi).2.1
     ·have HA:0<l.length:=by
       rcases l with _|⟨p,l⟩
       ·simp at aK
       ·simp
      have h0:=hl 0 (l[0]'HA) (List.getElem?_eq_getElem _)
      have Gi:=h0.1
      rw[Nat.zero_mul]at Gi
      have U1:a.add 0=a:=by simp[Addr.add]
      rw[U1]at Gi
      obtain⟨ea,hb,_⟩:=FE Gi (by omega)
      refine⟨a.block,a.off,by rw[<-ea],hb,Q2 (es:=P.cellsOf e) _ _ (fun i vs hv=>?_)⟩
      rw[List.getElem?_map,Option.map_eq_some_iff]at hv
      obtain⟨p,hp,rfl⟩:=hv
      obtain⟨g1,g2,g3,g4⟩:=hl i p hp
      refine⟨g2,?_⟩
      obtain⟨_,_,wV⟩:=FE g1 (by omega)
      have e1:(a.add (i*P.cellsOf e)).block=a.block:=by unfold Addr.add;split<;>rfl
      have e2:(a.add (i*P.cellsOf e)).off=a.off+i*P.cellsOf e:=by
       unfold Addr.add;split
       ·rename_i hz;rw[hz];rfl
       ·rfl
      rw[e1,e2]at wV
      exact wV
    ·simp only[Typed,hu]
     refine⟨_,rfl,by simp[qe];omega,fun r mX=>?_⟩
     obtain⟨p,hp,rfl⟩:=List.mem_map.1 mX
     obtain⟨i,hi⟩:=List.getElem?_of_mem hp
     exact(hl i p hi).2.2.2
  ·rename_i fs hu
   simp only[Bool.and_eq_true,beq_iff_eq,List.all_eq_true]at hk
   obtain⟨⟨qb,mS⟩,Hb⟩:=hk
   obtain⟨xs,m,hm,rfl,hlen,pj,hf⟩:=DataW.trod_struct hu h
   obtain rfl:m=n:=by omega
   have off:∀(i:Nat) (f:Field),fs.toList[i]?=some f->f.offset=((fs.toList.take i).map fun f=>P.cellsOf f.type).sum:=fun i f hi=>by
    have:=Hb i (by simpa using(List.getElem?_eq_some_iff.1 hi).1)
    rw[hi]at this
    simpa using this
   obtain⟨ys,hy,hq⟩:=pieces (w:=w) (I:=fun g=>g<w.heap.size) (len:=fun f:Field=>P.cellsOf f.type) (Q:=fun f ys=>Typed P m f.type ys) fs.toList cs (by rw[hlen,mS]) (fun i f hi=>by
    rw[<-off i f hi]
    have w6:fs[i]?=some f:=by simpa using hi
    have hx:=hf i f w6
    have ag:i<fs.size:=by
     rcases Nat.lt_or_ge i fs.size with h'|h'
     ·exact h'
     ·rw[Array.getElem?_eq_none h']at w6;cases w6
    rw[List.getElem?_eq_getElem (by omega)]at hx
    obtain⟨_,zs,h2,h3⟩:=ih f.type _ _ (qb f (List.mem_of_getElem? hi)) hx
    exact⟨zs,h2,h3⟩)
   refine⟨hlen,ys,hy,?_⟩
   simp only[Typed,hu]
   exact⟨by rw[Cp _ _ hy,hlen],fun i f hi=>by rw[off i f hi];exact hq i f hi⟩
  ·rename_i m' e hu
   simp only[Bool.and_eq_true,beq_iff_eq]at hk
   obtain⟨qb,mS⟩:=hk
   obtain⟨xs,m,hm,rfl,hlen,pj,hf⟩:=DataW.trod_array hu h
   obtain rfl:m=n:=by omega
   have sm:∀k,((List.replicate k ()).map fun _=>P.cellsOf e).sum=k*P.cellsOf e:=fun k=>by simp
   obtain⟨ys,hy,hq⟩:=pieces (w:=w) (I:=fun g=>g<w.heap.size) (len:=fun _:Unit=>P.cellsOf e) (Q:=fun _ ys=>Typed P m e ys) (List.replicate m' ()) cs (by rw[hlen,mS,sm]) (fun i f hi=>by
    have ag:i<m':=by simpa using(List.getElem?_eq_some_iff.1 hi).1
    rw[List.take_replicate,sm,Nat.min_eq_left (Nat.le_of_lt ag)]
    have hx:=hf i ag
    rw[List.getElem?_eq_getElem (by omega)]at hx
    obtain⟨_,zs,h2,h3⟩:=ih e _ _ qb hx
    exact⟨zs,h2,h3⟩)
   refine⟨hlen,ys,hy,?_⟩
   simp only[Typed,hu]
   exact⟨by rw[Cp _ _ hy,hlen],fun i hi=>by
    have:=hq i () (by simp[hi])
    rwa [List.take_replicate,sm,Nat.min_eq_left (Nat.le_of_lt hi)]at this⟩
  ·cases hk
end
section
variable {H:Type} {enc:TypeId×Value->H} {P:Program}
def uk (P:Program) (t:TypeId) (xs:List IV):AV:=match P.underlying t,xs with
 |some (.struct _),xs=> .ar xs
 |some (.array _ _),xs=> .ar xs
 |_,[x]=> .im x
 |_,_=> .top
def um (P:Program):List TypeId->List (List IV)->List AV
 |t::ts,xs::jZ=>uk P t xs::um P ts jZ
 |_,_=>[]
def BS (P:Program):List TypeId->List (List IV)->Prop
 |t::ts,xs::jZ=>(∃n,Typed P n t xs)/\BS P ts jZ
 |[],[]=>True
 |_,_=>False
theorem UW {w:World} {φ:al} {I:Nat->Prop} {xs:List IV} {v:Value} (h:IV.ab w I xs v.cells.toList) (hv:v.oneCell'=true):∃x,xs=[x]/\AV.den w φ I (.im x) v:=by
 have e:v.cells.toList=[v]:=by cases v<;>simp_all [Value.cells,Value.oneCell']
 rw[e]at h
 match xs,h with
 |[],h=>simp[IV.ab]at h
 |[x],h=>
  simp only[IV.ab]at h
  obtain⟨u,us,he,U,h2⟩:=h
  simp only[List.cons.injEq]at he
  refine⟨x,rfl,?_⟩
  simp only[AV.den]
  rw[he.1];exact U
 |x::y::l,h=>
  simp only[IV.ab]at h
  obtain⟨u,us,he,U,u',au,WQ,_⟩:=h
  simp[WQ]at he
theorem aai {T:List TypeId} (hT:T.all (xL P T)=true) {w:World} {r:Reach} {b:Nat} {t:TypeId} {v:Value} {d:DataW H} {p:List MemPlace} (ht:T.contains t=true)
  (lE:Value.okWide P w r b t v) (h:DataW.Trod enc P w 0 (fun _=>true) true t v d p) (φ:al):
  ∃xs,(∃n,Typed P n t xs)/\AV.den w φ (fun g=>g<w.heap.size) (uk P t xs) v:=by
 obtain⟨n,h⟩:=h
 obtain⟨_,xs,hd,HM⟩:=opens hT n t _ _ ht h
 refine⟨xs,⟨n,HM⟩,?_⟩
 have rq:∀cs:Array Value,v= .agg cs->AV.den w φ (fun g=>g<w.heap.size) (.ar xs) v:=by
  rintro cs rfl
  simp only[AV.den]
  exact⟨cs.toList,hd,by simp⟩
 unfold Value.okWide at lE
 split at lE
 ·rename_i hu
  obtain⟨cs,rfl,_⟩:=lE
  simp only[uk,hu]
  exact rq cs rfl
 ·rename_i hu
  obtain⟨cs,rfl,_⟩:=lE
  simp only[uk,hu]
  exact rq cs rfl
 ·rename_i hs ha
  have hv:v.oneCell'=true:=by
   cases v<;>simp only[Value.oneCell']<;>(unfold Cell.okWide at lE;split at lE<;>simp_all [Cell.ok])
  obtain⟨x,rfl,hx⟩:=UW (φ:=φ) hd hv
  have e:uk P t [x]= .im x:=by
   unfold uk
   split
   ·rename_i fs hu;exact absurd hu (hs _)
   ·rename_i m e hu;exact absurd hu (ha _ _)
   ·rename_i he _ _;injection he with he;rw[he]
   ·rename_i hn;exact(hn x rfl).elim
  rw[e];exact hx
theorem Qo {T:List TypeId} (hT:T.all (xL P T)=true) {w:World} {r:Reach} {b:Nat} (φ:al):∀(ts:List TypeId) (vs:List Value) (ds:List (DataW H)) (p:List MemPlace),ts.all T.contains=true->
  (∀(j:Nat) t v,ts[j]?=some t->vs[j]?=some v->Value.okWide P w r b t v)->DataW.TrodAll enc P w 0 (fun _=>true) true ts vs ds p->
  ∃jZ,BS P ts jZ/\AV.ab w φ (fun g=>g<w.heap.size) (um P ts jZ) vs/\ds.length=ts.length
 |[],vs,ds,p,_,_,h=>by
  obtain⟨rfl,rfl,rfl⟩:=trodAll_nil h
  exact⟨[],trivial,rfl,rfl⟩
 |t::ts,vs,ds,p,hc,lE,h=>by
  obtain⟨v,wb,d,jB,p',q,rfl,rfl,rfl,U,h2⟩:=trodAll_cons h
  simp only[List.all_cons,Bool.and_eq_true]at hc
  obtain⟨xs,qs,hd⟩:=aai hT hc.1 (lE 0 t v rfl rfl) U φ
  obtain⟨jZ,h3,h4,h5⟩:=Qo hT φ ts wb jB q hc.2 (fun j t v=>lE (j+1) t v) h2
  refine⟨xs::jZ,⟨qs,h3⟩,?_,by simp[h5]⟩
  simp only[um,AV.ab]
  exact⟨v,wb,rfl,hd,h4⟩
theorem RP (hl:laidOutB P=true) {W W':World} {sp:Nat->Bool}:∀(ts:List TypeId) (vs:List Value) (ds:List (DataW H)) (p:List MemPlace),
  ts.all (fun t=>P.readableRec t&&decide (t<P.types.size))=true->DataW.TrodAll enc P W 0 (fun _=>true) true ts vs ds p->(∀q∈p,W.sameAt W' q)->(∀q∈p,sp q.block=true)->
  DataW.TrodAll enc P W' 0 sp true ts vs ds p
 |[],vs,ds,p,_,h,_,_=>by
  obtain⟨rfl,rfl,rfl⟩:=trodAll_nil h
  exact trodAll_mk0
 |t::ts,vs,ds,p,hr,h,hs,hp=>by
  obtain⟨v,wb,d,jB,p',q,rfl,rfl,rfl,U,h2⟩:=trodAll_cons h
  simp only[List.all_cons,Bool.and_eq_true,decide_eq_true_eq]at hr
  exact trodAll_cons_mk (WideElems.Trod_stays hl hr.1.1 hr.1.2 U (fun x hx=>hs x (List.mem_append_left _ hx)) (fun x hx=>hp x (List.mem_append_left _ hx)))
   (RP hl ts wb jB q hr.2 h2 (fun x hx=>hs x (List.mem_append_right _ hx)) (fun x hx=>hp x (List.mem_append_right _ hx)))
def Te (P:Program) (f:FuncId) (args:Array Value) (W:World):Prop:=
 Calls P f args W fun e W'=>e= .returned (.bool true)/\W.heap.size<=W'.heap.size/\(∀g,g<W.heap.size->W'.heap[g]?=W.heap[g]?)/\W'.os=W.os/\W'.output=W.output
theorem Y5 {f:FuncId} {KJ:List AV} (h:aS P f KJ (.im (.v (.bool true)))) {W:World} {vs:List Value} (hd:AV.ab W (fun _=>none) (fun g=>g<W.heap.size) KJ vs) (hV:VK P W (fun g=>g<W.heap.size)):
  Te P f vs.toArray W:=by
 have hR:Real W (fun _=>none) (fun g=>g<W.heap.size) []:=by
  refine⟨fun b=>rfl,fun b o p hb=>?_,fun b g hg=>?_,fun b b' g hg=>?_,fun g hg=>hg⟩
  ·simp[lk]at hb
  ·cases hg
  ·cases hg
 refine(h.run W _ _ vs hd hR hV).mono fun e W' hq=>?_
 obtain⟨r,H',φ',I',v,⟨rfl,rfl⟩,rfl,hv,bI⟩:=hq
 simp only[AV.den,IV.den]at hv
 obtain⟨rfl,_⟩:=hv
 exact⟨rfl,bI.ext.size,fun g hg=>bI.ext.cm g hg (fun⟨b,hb⟩=>by cases hb),bI.ext.os,bI.ext.output⟩
theorem Y4 {fn:Func} {s:ChangeSpec} {again:Bool} {W W':World} {args:Array Value} {ds gs:List (DataW H)} {before:List MemPlace} {tb:TypeId}
  (hW:DataW.Whole enc P fn.params.toList s.vars false W args.toList ds gs before) (DC:s.vars=[])
  (zU:s.fn H ds={results:=[.lit (.bool true)],args:=ds}) (hl:laidOutB P=true) (hr:fn.params.toList.all (fun t=>P.readableRec t&&decide (t<P.types.size))=true)
  (Dw:fn.resultTypes=#[tb]) (DA:P.underlying tb=some .bool)
  (aT:W.heap.size<=W'.heap.size) (hk:∀g,g<W.heap.size->W'.heap[g]?=W.heap[g]?) (rI:W'.os=W.os) (vi:W'.output=W.output):
  s.post enc P fn false true false again W args (.bool true) W':=by
 have zG:=hW
 obtain⟨p,q,hA,hV,rfl,hz,hn⟩:=hW
 rw[DC]at hV
 obtain⟨rfl,rfl⟩:=trodVars_none hV
 have ag:=zG.lt
 simp only[List.append_nil]at hz hn ag zG
 have HI:∀x∈p,W.sameAt W' x:=fun x hx=>by
  have:=hk x.block (ag x hx)
  cases x with
  |cell b off=>exact FC this off
  |map b=>exact this
 have dr:∀sp:Nat->Bool,(∀x∈p,sp x.block=true)->DataW.TrodAll enc P W' 0 sp true fn.params.toList args.toList ds p:=fun sp Dy=>RP hl _ _ _ _ hr hA HI Dy
 have N_:∀(b:Nat) (sp:Nat->Bool) (hd:Bool),DataW.TrodAll enc P W' b sp hd fn.resultTypes.toList ((Value.bool true).resultList fn.resultTypes.size) [.lit (.bool true)] []:=fun b sp hd=>by
  rw[Dw]
  exact trodAll_cons_mk (Go.RowKit.shut_bool DA true) trodAll_mk0
 have hv:∀sp:Nat->Bool,DataW.TrodVars enc P W' sp s.vars [] []:=fun sp=>by rw[DC];rfl
 have G2:s.fn H (ds++[])={results:=[.lit (.bool true)],args:=ds}:=by rw[List.append_nil];exact zU
 refine⟨ds,[],p,[],p,[],zG,by rw[G2];exact N_ _ _ _,by rw[G2];exact dr _ (fun x hx=>by simpa using ag x hx),by rw[G2];exact hv _,?_,fun _=>?_⟩
 ·refine⟨rI,vi,fun i hi=>?_⟩
  rw[hk i hi]
  cases hh:W.heap[i]? with
  |none=>rfl
  |some o=>
   cases o with
   |cells c t fr=>exact⟨rfl,rfl,rfl,fun _ _=>rfl⟩
   |map es clock=>exact .inr ⟨rfl,rfl⟩
   |_=>rfl
 ·refine⟨Go.RowKit.ok_one Dw rfl (Go.RowKit.okWide_bool_mk DA true),_,_,([]++p)++[],⟨[]++p,[],trodAll_append (dr _ (fun _ _=>rfl)) (N_ _ _ _),hv _,rfl,?_,fun h=>by cases h⟩,?_⟩
  ·intro b off hp
   have bM:MemPlace.cell b off∈p:=by simpa using hp
   have:=hk b (ag _ bM)
   have th:=hz b off bM
   simp only[World.frozen?,this]at th⊢
   exact th
  ·intro x hx _
   simpa using hx
theorem law {f:FuncId} {fn:Func} {s:ChangeSpec} {W:World} {base:Nat} {args:Array Value} {ds gs:List (DataW H)} {before:List MemPlace} (tb:TypeId) (T:List TypeId)
  (DC:s.vars=[]) (zU:∀ds:List (DataW H),ds.length=fn.params.size->s.fn H ds={results:=[.lit (.bool true)],args:=ds}) (hl:laidOutB P=true)
  (hr:fn.params.toList.all (fun t=>P.readableRec t&&decide (t<P.types.size))=true) (Dw:fn.resultTypes=#[tb]) (DA:P.underlying tb=some .bool)
  (hT:T.all (xL P T)=true) (Wl:fn.params.toList.all T.contains=true)
  (xw:∀jZ,BS P fn.params.toList jZ->aS P f (um P fn.params.toList jZ) (.im (.v (.bool true))))
  (lE:∀(j:Nat) t v,fn.params[j]?=some t->args[j]?=some v->Value.okWide P W .any base t v)
  (hW:DataW.Whole enc P fn.params.toList s.vars false W args.toList ds gs before)
  (Wm:VK P W (fun g=>g<W.heap.size):=by exact VK.none (by kernel_rfl)):
  Calls P f args W fun e W'=>∃v,e= .returned v/\s.post enc P fn false true false false W args v W':=by
 have zG:=hW
 obtain⟨p,q,hA,hV,rfl,hz,hn⟩:=hW
 obtain⟨jZ,U,h2,h3⟩:=Qo hT (r:= .any) (b:=base) (fun _=>none) _ _ _ _ Wl (fun j t v ht hv=>lE j t v (by simpa using ht) (by simpa using hv)) hA
 have:=Y5 (xw jZ U) h2 Wm
 simp only[Array.toArray_toList]at this
 refine this.mono fun e W' ⟨he,aT,hk,rI,vi⟩=>?_
 subst he
 exact⟨_,rfl,Y4 zG DC (zU ds (by simpa using h3)) hl hr Dw DA aT hk rI vi⟩
end
end Go.AL
end
section
namespace Go.AL
open Go
section
variable {C:Cx} {K:List PK} {E:Env} {H:aa}
theorem St.drop {B:Bs} {φ:al} {I:Nat->Prop} {w:World} (h:St B φ I H w):St B (fun _=>none) I [] w:=
 ⟨Ey h.real,h.ext,fun b g hg=>(by cases hg),h.dj,h.cC,fun _ _ _ _ _ hl=>by simp[lk]at hl⟩
theorem AE.aG {sc:Prop} {xs:List AV} (h:eW C.P E H C.fn.results.toList=some (sc,xs)) (aB:sc) (hf:(eG xs).free=true) (hR:C.R (eG xs) []):AE C .ret [] E H:=by
 unfold AE
 intro φ I a w hs
 refine hs.leave fun w' hS hE=>?_
 obtain⟨v,hv,hd⟩:=vU hE hS.real h aB
 exact⟨v,hv,eG xs,[],fun _=>none,I,v,hR,rfl,AV.re _ _ hf hd,hS.drop⟩
theorem St.Bb {B:Bs} {φ:al} {I:Nat->Prop} {w:World} (h:St B φ I H w) {b:Nat} (hb:lk H b=none) (Hr:B.nb<=b) (el:TypeId) (es:Nat):
  St B (aY φ b none) I ((b,.vec el es [])::H) w/\bE w φ I w (aY φ b none) I:=by
 have hnb:φ b=none:=by
  have:=h.real.bj b
  rw[hb]at this
  cases az:φ b with
  |none=>rfl
  |some x=>rw[az]at this;cases this
 have k:bE w φ I w (aY φ b none) I:=by
  refine⟨fun g hg=>rfl,fun _ h=>h,fun b' p hp=>?_,fun _ g n _ hs=>hs⟩
  unfold aY
  rw[if_neg (by intro e;subst e;rw[hnb]at hp;cases hp)]
  exact hp
 have nq:∀b',b'≠b->Nat.beq b b'=false:=fun b' aq=>by
  cases hq:Nat.beq b b' with
  |false=>rfl
  |true=>exact absurd (Nat.eq_of_beq_eq_true hq).symm aq
 refine⟨⟨⟨fun b'=>?_,fun b' o' p hl hp=>?_,fun b' g hp=>?_,fun b1 b2 g U h2=>?_,h.real.bN⟩,h.ext,fun b' g hp=>?_,h.dj,h.cC,fun b' g oo ag h0 hl=>?_⟩,k⟩
 ·simp only[aY,lk]
  by_cases aq:b'=b
  ·subst aq;simp
  ·rw[if_neg aq,nq b' aq]
   exact h.real.bj b'
 ·by_cases aq:b'=b
  ·subst aq
   simp only[aY,if_true,Option.some.injEq]at hp
   subst hp
   simp[lk]at hl
   subst hl
   exact .inl ⟨rfl,rfl⟩
  ·simp only[lk,nq b' aq,cond_false]at hl
   simp only[aY,if_neg aq]at hp
   exact Ob.k5 k.im k.I k.phi k.sh (fun g hg=>rfl) (h.real.own b' o' p hl hp)
 ·by_cases aq:b'=b
  ·subst aq;simp[aY]at hp
  ·simp only[aY,if_neg aq]at hp
   exact h.real.off b' g hp
 ·by_cases e1:b1=b
  ·subst e1;simp[aY]at U
  ·by_cases e2:b2=b
   ·subst e2;simp[aY]at h2
   ·simp only[aY,if_neg e1]at U
    simp only[aY,if_neg e2]at h2
    exact h.real.inj b1 b2 g U h2
 ·by_cases aq:b'=b
  ·subst aq;simp[aY]at hp
  ·simp only[aY,if_neg aq]at hp
   exact h.cf b' g hp
 ·have aq:b'≠b:=by omega
  simp only[lk,nq b' aq,cond_false]at hl
  simp only[aY,if_neg aq]
  exact h.cP b' g oo ag h0 hl
theorem bB.Bb {φ:al} {I:Nat->Prop} {a:Act} {w:World} (h:bB C φ I E H a w) {t:Nat} (ht:lk E t=some (.im (.v (.slice none 0 0)))) (el:TypeId) (es:Nat):
  bB C (aY φ (ay C.B.nb H) none) I ((t,.os (ay C.B.nb H) es 0 0)::E) ((ay C.B.nb H,.vec el es [])::H) a w:=by
 obtain⟨hS,hk⟩:=h.st.Bb (lN C.B.nb H) (dw C.B.nb H).1 el es
 refine⟨h.bF,h.bC,fun i x hx=>?_,hS⟩
 simp only[lk]at hx
 cases hb:Nat.beq t i with
 |true=>
  rw[hb]at hx
  have:=Nat.eq_of_beq_eq_true hb
  subst this
  simp only[cond_true,Option.some.injEq]at hx
  subst hx
  obtain⟨u,hu,hd⟩:=h.env t _ ht
  refine⟨u,hu,?_⟩
  simp only[AV.den,IV.den]at hd⊢
  exact .inl ⟨by simp[aY],trivial,trivial,hd.1⟩
 |false=>
  rw[hb]at hx
  obtain⟨u,hu,hd⟩:=h.env i x hx
  exact⟨u,hu,hk.den hd⟩
theorem AE.own {e:Exit} (t:Nat) (el:TypeId) (es:Nat) (ht:lk E t=some (.im (.v (.slice none 0 0)))) (h:AE C e K ((t,.os (ay C.B.nb H) es 0 0)::E) ((ay C.B.nb H,.vec el es [])::H)):AE C e K E H:=by
 unfold AE at h⊢
 exact fun φ I a w hs=>h _ I a w (hs.Bb ht el es)
theorem AP.own {p:List Nat} (t:Nat) (el:TypeId) (es:Nat) (ht:lk E t=some (.im (.v (.slice none 0 0)))) (h:AP C p K ((t,.os (ay C.B.nb H) es 0 0)::E) ((ay C.B.nb H,.vec el es [])::H)):AP C p K E H:=by
 unfold AP at h⊢
 exact fun φ I a w hs=>h _ I a w (hs.Bb ht el es)
theorem AP.freeze {p:List Nat} (b:Nat) {el:TypeId} {es:Nat} {rows:List (List IV)} (hl:lk H b=some (.vec el es rows)) (hC:kj b rows H) (oS:k_ b rows E) (h:AP C p K (k9 b es rows E) (fY b es rows H)):AP C p K E H:=by
 unfold AP at h⊢
 intro φ I a w hs
 obtain⟨φ',I',da⟩:=hs.freeze hl oS hC
 exact h φ' I' a w da
end
theorem aS.Jl {P:Program} {f:FuncId} {args:List AV} {r:AV} (he:enters P f=true) (hr:r.free=true)
  (
   h:∀(w:World) (φ:al) (I:Nat->Prop) (vs:List Value),AV.ab w φ I args vs->(∀g,I g->g<w.heap.size)->VK P w I->
   Calls P f vs.toArray w fun e w'=>∃v,e= .returned v/\AV.den w' φ I r v/\Go.RowKit.Below w.heap.size w w'):aS P f args r:=by
 refine⟨he,fun w φ I vs hd hR hV=>(h w φ I vs hd hR.bN hV).mono fun e w' ⟨v,he,hv,hb⟩=>?_⟩
 refine⟨r,[],fun _=>none,I,v,⟨rfl,rfl⟩,he,AV.re _ _ hr hv,?_⟩
 have hx:Ext (cZ φ) w w':=by
  refine⟨hb.size,fun g hg _=>hb.block g hg,fun g c e fz hc=>?_,hb.os,hb.os,hb.output⟩
  have ag:g<w.heap.size:=by
   rcases Nat.lt_or_ge g w.heap.size with h|h
   ·exact h
   ·rw[Array.getElem?_eq_none h]at hc;cases hc
  exact⟨c,_,(hb.block g ag).trans hc,rfl⟩
 refine⟨⟨fun b=>rfl,fun b o p hl=>(by simp[lk]at hl),fun b g hp=>(by cases hp),fun b b' g hp=>(by cases hp),fun g hg=>Nat.lt_of_lt_of_le (hR.bN g hg) hb.size⟩,hx,fun b g hg=>(by cases hg),fun g hg=> .inl hg,fun g hg=>hg,fun _ _ _ _ _ hl=>by simp[lk]at hl⟩
theorem gJ {C:Cx} {K:List PK} {os:List Oper} {ds:List (Nat×Nat)} {i:Nat} {E:Env} {H:aa} (h:vq C K os ds i E H):vq C K os ds i E H:=h
def upto (n:Nat):List Nat:=List.range n
theorem JX (n:Nat):(upto n).length=n:=List.length_range
def tO (k:IntKind) (n:Nat) (f:Nat->Int):List (List IV):=(upto n).map fun j=>[.v (.int k (f j))]
def wu (k:IntKind) (n:Nat) (f:Nat->Int):List IV:=(upto n).map fun j=> .v (.int k (f j))
theorem aa4 (k:IntKind) (n:Nat) (f:Nat->Int):(tO k n f).length=n:=by simp[tO,JX]
theorem UD (k:IntKind) (n:Nat) (f:Nat->Int):(wu k n f).length=n:=by simp[wu,JX]
theorem aa3 (k:IntKind) (n:Nat) (f:Nat->Int):(tO k n f).flatten=wu k n f:=by
 unfold tO wu
 induction upto n with
 |nil=>rfl
 |cons n l ih=>simp[ih]
theorem UE (k:IntKind) (n:Nat) (f:Nat->Int):(wu k n f).map (fun c=>[c])=tO k n f:=by
 simp[wu,tO,Function.comp_def]
theorem aa5 (k:IntKind) (n:Nat):(List.replicate n (Value.int k 0)).map (fun c=>[IV.v c])=tO k n (fun _=>0):=by
 unfold tO
 apply List.ext_getElem
 ·simp[JX]
 ·intro j U h2;simp
theorem TM (k:IntKind) (n:Nat) (x:Int):(List.replicate n (Value.int k x)).all Value.oneCell'=true:=by
 rw[List.all_eq_true];intro v hv;rw[List.eq_of_mem_replicate hv];rfl
attribute [go_sem] TM aa5 aa4 aa3 UD UE List.nil_append List.cons_append List.length_cons List.length_nil Nat.zero_add
end Go.AL
namespace Go.AL
section
variable {C:Cx} {K:List PK} {E:Env} {H:aa}
end
attribute [go_sem] Int.toNat_natCast_add_one
end Go.AL
namespace Go.AL
theorem abX {P:Program} {n:Nat} {t:TypeId} {xs:List IV} (ht:P.underlying t=some .string) (h:Typed P n t xs):∃s:ByteArray,xs=[.v (.string s)]/\s.size<=maxLen:=by
 cases n with
 |zero=>exact h.elim
 |succ n=>simpa only[Typed,ht]using h
theorem abV {P:Program} {n:Nat} {t:TypeId} {k:IntKind} {xs:List IV} (ht:P.underlying t=some (.int k)) (h:Typed P n t xs):∃i,xs=[.v (.int k i)]/\(Lit.int k i).wf=true:=by
 cases n with
 |zero=>exact h.elim
 |succ n=>simpa only[Typed,ht]using h
theorem Q5 {α:Type} {p:α->Prop} {f:α->List IV}:∀(rows:List (List IV)),(∀r∈rows,∃a,r=f a/\p a)->∃l:List α,rows=l.map f/\∀a∈l,p a
 |[],_=>⟨[],rfl,by simp⟩
 |r::rows,h=>by
  obtain⟨a,rfl,ha⟩:=h r (by simp)
  obtain⟨l,rfl,hl⟩:=Q5 rows (fun r hr=>h r (by simp[hr]))
  exact⟨a::l,rfl,by simpa using⟨ha,hl⟩⟩
section
variable {C:Cx} {K:List PK} {E:Env} {H:aa}
theorem AQ.imp {ds:List (Nat×Nat)} {i:Nat} {os:List Oper} {E':Env} (hE:∀w φ I a,eA w φ I E a->eA w φ I E' a) (h:AQ C ds i os K E' H):AQ C ds i os K E H:=by
 unfold AQ at h⊢
 intro ops U h2 φ I a w hs
 exact h ops U h2 φ I a w ⟨hs.bF,hs.bC,hE w φ I a hs.env,hs.st⟩
theorem Be {w:World} {φ:al} {I:Nat->Prop} {a:Act} {d:Option Nat} {x y:AV} (gC:∀u,AV.den w φ I x u->AV.den w φ I y u) (h:eA w φ I (a7 d x E) a):eA w φ I (a7 d y E) a:=by
 cases d with
 |none=>exact h
 |some d=>
  intro i z hz
  simp only[a7,lk]at hz
  cases hb:Nat.beq d i with
  |true=>
   rw[hb]at hz
   simp only[cond_true,Option.some.injEq]at hz
   subst hz
   obtain⟨u,hu,hd⟩:=h i x (by simp[a7,lk,hb])
   exact⟨u,hu,gC u hd⟩
  |false=>
   rw[hb]at hz
   exact h i z (by simpa[a7,lk,hb]using hz)
theorem AQ.q_ {ds:List (Nat×Nat)} {i:Nat} {d:Option Nat} {ty:TypeId} {pos:String} {af:Array Edge} {os:List Oper} {f:FuncId} {xs:List Operand} {a8:Array TypeId} {l:List AV} {r:AV} {gu:Option (Nat×Bool)} {G:Bool}
  (ah:ba C.n ({dst:=d,op:= .call {callee:= .value (.func f),args:=xs.toArray,argTypes:=a8},type:=ty,pos:=pos,after:=af,guard:=gu}::os)=true)
  (hG:gd ds E gu=some G)
  (hl:eB E xs=some l) (dT:G=true->gs l=true) (fD:AV.frees (l.map AV.st)=true) (hc:G=true->ai C.P f (l.map AV.st) [] (fun r' H'=>H'=[]/\r'=r)) (hr:r.free=true)
  (h:vq C K os (aZ d i ds) (i+1) (a7 d (.opt G r) E) H):
  AQ C ds i ({dst:=d,op:= .call {callee:= .value (.func f),args:=xs.toArray,argTypes:=a8},type:=ty,pos:=pos,after:=af,guard:=gu}::os) K E H:=by
 obtain⟨hd,b7⟩:=ef ah
 have bm:=AQ.go b7 h
 cases G with
 |true=>
  refine AQ.nQ hG ?_
  unfold AQ
  refine AO.call (o:={dst:=d,op:= .call {callee:= .value (.func f),args:=xs.toArray,argTypes:=a8},type:=ty,pos:=pos,after:=af,guard:=none}) rfl rfl hd (by simpa using hl) (dT rfl) fD (hc rfl) (fun r' H' ⟨U,h2⟩=>⟨U,by rw[h2];exact hr⟩) fun r' ⟨_,h2⟩=>?_
  subst h2
  have:=AQ.imp (fun w φ I a=>Be (x:=r') (y:= .opt true r') fun u hu=>by simp only[AV.den];exact⟨fun _=>hu,fun h=>by cases h⟩) bm
  unfold AQ at this
  exact this
 |false=>
  refine AQ.wL hd hG ?_
  exact AQ.imp (fun w φ I a=>Be fun u hu=>by simp only[AV.den]at hu⊢;exact⟨fun h=>(by cases h),hu.2⟩) bm
def e6 (b:Nat):aa->aa
 |[]=>[]
 |(j,o)::r=>bif Nat.beq j b then e6 b r else(j,o)::e6 b r
theorem C1 (b:Nat):∀H:aa,lk (e6 b H) b=none
 |[]=>rfl
 |(j,o)::r=>by
  simp only[e6]
  cases hb:Nat.beq j b with
  |true=>simpa using C1 b r
  |false=>simp only[cond_false,lk,hb];exact C1 b r
theorem zP (b:Nat):∀(H:aa) (b':Nat),b'≠b->lk (e6 b H) b'=lk H b'
 |[],_,_=>rfl
 |(j,o)::r,b',aK=>by
  simp only[e6]
  cases hb:Nat.beq j b with
  |true=>
   have hj:=Nat.eq_of_beq_eq_true hb
   have:Nat.beq j b'=false:=by
    cases hq:Nat.beq j b' with
    |false=>rfl
    |true=>have:=Nat.eq_of_beq_eq_true hq;omega
   simp only[cond_true,lk,this,cond_false]
   exact zP b r b' aK
  |false=>
   simp only[cond_false,lk]
   cases hq:Nat.beq j b' with
   |true=>rfl
   |false=>simpa using zP b r b' aK
def hQ (φ:al) (b:Nat):al:=fun b'=>if b'=b then none else φ b'
theorem St.forget {B:Bs} {φ:al} {I:Nat->Prop} {w:World} (h:St B φ I H w) (b:Nat) (hn:noMen b (e6 b H)=true):St B (hQ φ b) I (e6 b H) w:=by
 have az:∀b',b'≠b->hQ φ b b'=φ b':=fun b' hb=>by simp[hQ,hb]
 have fQ:hQ φ b b=none:=by simp[hQ]
 refine⟨⟨fun b'=>?_,fun b' o p hl hp=>?_,fun b' g hp=>?_,fun b1 b2 g U h2=>?_,h.real.bN⟩,h.ext,fun b' g hp=>?_,h.dj,h.cC,fun b' g oo ag h0 hl=>?_⟩
 ·by_cases aq:b'=b
  ·subst aq;rw[fQ,C1];rfl
  ·rw[az b' aq,zP b H b' aq];exact h.real.bj b'
 ·by_cases aq:b'=b
  ·subst aq;rw[fQ]at hp;cases hp
  ·have dU:=hl
   rw[zP b H b' aq]at hl
   rw[az b' aq]at hp
   have bh:=h.real.own b' o p hl hp
   cases o with
   |var e cs=>
    simp only[Ob.at]at bh⊢
    obtain⟨g,us,rfl,h2,h3,h4⟩:=bh
    exact⟨g,us,rfl,h2,AV.pB az cs us (vJ _ hn b' e cs dU) h3,h4⟩
   |vec e fg Q1=>exact bh
   |lp l n st fn q ps E=>
    simp only[Ob.at]at bh⊢
    obtain⟨h0,T,D,cz,U,h2,h3⟩:=bh
    exact⟨h0,T,D,cz,U,h2,fun i x hx=>let⟨u,hu,hd⟩:=h3 i x hx;⟨u,hu,AV.rS az x u (D8 E (Eb _ hn b' l n st fn q ps E dU) i x hx) hd⟩⟩
 ·by_cases aq:b'=b
  ·subst aq;rw[fQ]at hp;cases hp
  ·rw[az b' aq]at hp;exact h.real.off b' g hp
 ·by_cases e1:b1=b
  ·subst e1;rw[fQ]at U;cases U
  ·by_cases e2:b2=b
   ·subst e2;rw[fQ]at h2;cases h2
   ·rw[az b1 e1]at U;rw[az b2 e2]at h2;exact h.real.inj b1 b2 g U h2
 ·by_cases aq:b'=b
  ·subst aq;rw[fQ]at hp;cases hp
  ·rw[az b' aq]at hp;exact h.cf b' g hp
 ·by_cases aq:b'=b
  ·subst aq;rw[C1]at hl;cases hl
  ·rw[zP b H b' aq]at hl
   rw[az b' aq];exact h.cP b' g oo ag h0 hl
theorem bB.forget {φ:al} {I:Nat->Prop} {a:Act} {w:World} (h:bB C φ I E H a w) (b:Nat) (hn:noMen b (e6 b H)=true):bB C (hQ φ b) I (killE b E) (e6 b H) a w:=by
 refine⟨h.bF,h.bC,fun i x hx=>?_,h.st.forget b hn⟩
 obtain⟨y,hy,hd⟩:=qu (w:=w) (φ:=φ) (φ':=hQ φ b) (I:=I) (b:=b) (fun b' hb=>by simp[hQ,hb]) E i x hx
 obtain⟨u,hu,dL⟩:=h.env i y hy
 exact⟨u,hu,hd u dL⟩
theorem AE.forget {e:Exit} (b:Nat) (hn:noMen b (e6 b H)=true) (h:AE C e K (killE b E) (e6 b H)):AE C e K E H:=by
 unfold AE at h⊢
 exact fun φ I a w hs=>h _ I a w (hs.forget b hn)
theorem AP.forget {p:List Nat} (b:Nat) (hn:noMen b (e6 b H)=true) (h:AP C p K (killE b E) (e6 b H)):AP C p K E H:=by
 unfold AP at h⊢
 exact fun φ I a w hs=>h _ I a w (hs.forget b hn)
end
attribute [go_sem] e6 List.map_cons List.map_nil List.getElem?_cons_zero List.getElem?_cons_succ
mutual
def AV.sh (k:Nat):AV->AV
 | .ob b o=> .ob (k+b) o
 | .oe b es i j=> .oe (k+b) es i j
 | .os b es i n=> .os (k+b) es i n
 | .fn f fs aN=> .fn f (AV.lR k fs) (AV.lR k aN)
 | .agg cs=> .agg (AV.lR k cs)
 | .aI cs=> .aI (AV.lR k cs)
 | .opt g x=> .opt g (AV.sh k x)
 | .im x=> .im x
 | .ar x=> .ar x
 | .top=> .top
 | .mp b=> .mp (k+b)
 | .wr q x=> .wr q (AV.sh k x)
def AV.lR (k:Nat):List AV->List AV
 |[]=>[]
 |x::xs=>AV.sh k x::AV.lR k xs
end
def yr (k:Nat):Env->Env
 |[]=>[]
 |(i,x)::r=>(i,AV.sh k x)::yr k r
theorem Rq (k:Nat):∀(E:Env) (i:Nat),lk (yr k E) i=(lk E i).map (AV.sh k)
 |[],_=>rfl
 |(j,x)::r,i=>by
  simp only[yr,lk]
  cases Nat.beq j i with
  |true=>rfl
  |false=>simpa using Rq k r i
def jV (k:Nat):aa->aa
 |[]=>[]
 |(j,.var e cs)::r=>(k+j,.var e (AV.lR k cs))::jV k r
 |(j,.vec e es rows)::r=>(k+j,.vec e es rows)::jV k r
 |(j,.lp l n st fn q ps E)::r=>(k+j,.lp l n st fn q ps (yr k E))::jV k r
def yu (k:Nat):Ob->Ob
 | .var e cs=> .var e (AV.lR k cs)
 | .vec e es rows=> .vec e es rows
 | .lp l n st fn q ps E=> .lp l n st fn q ps (yr k E)
mutual
theorem AV.Bn {w:World} {φ φ':al} {I:Nat->Prop} {k:Nat} (h:∀b p,φ b=some p->φ' (k+b)=some p):∀(x:AV) (u:Value),AV.den w φ I x u->AV.den w φ' I (AV.sh k x) u
 | .ob b o,u,hd=>by simp only[AV.sh,AV.den]at hd⊢;obtain⟨g,U,h2⟩:=hd;exact⟨g,h _ _ U,h2⟩
 | .oe b es i j,u,hd=>by simp only[AV.sh,AV.den]at hd⊢;obtain⟨g,U,h2⟩:=hd;exact⟨g,h _ _ U,h2⟩
 | .os b es i n,u,hd=>by
  simp only[AV.sh,AV.den]at hd⊢
  rcases hd with⟨U,h2⟩|⟨g,c,U,h2⟩
  ·exact .inl ⟨h _ _ U,h2⟩
  ·exact .inr ⟨g,c,h _ _ U,h2⟩
 | .fn f fs aN,u,hd=>by simp only[AV.sh,AV.den]at hd⊢;obtain⟨us,vs,U,h2,h3⟩:=hd;exact⟨us,vs,AV.yw h fs us U,AV.yw h aN vs h2,h3⟩
 | .agg cs,u,hd=>by simp only[AV.sh,AV.den]at hd⊢;obtain⟨us,U,h2⟩:=hd;exact⟨us,AV.yw h cs us U,h2⟩
 | .aI cs,u,hd=>by simp only[AV.sh,AV.den]at hd⊢;obtain⟨us,U,h2⟩:=hd;exact⟨us,AV.yw h cs us U,h2⟩
 | .opt g x,u,hd=>by simp only[AV.sh,AV.den]at hd⊢;exact⟨fun hg=>AV.Bn h x u (hd.1 hg),hd.2⟩
 | .im x,u,hd=>by simpa only[AV.sh,AV.den]using hd
 | .ar x,u,hd=>by simpa only[AV.sh,AV.den]using hd
 | .top,_,_=>by simp only[AV.sh,AV.den]
 | .mp b,u,hd=>by simp only[AV.sh,AV.den]at hd⊢;obtain⟨g,U,h2⟩:=hd;exact⟨g,h _ _ U,h2⟩
 | .wr q x,u,hd=>by simp only[AV.sh,AV.den]at hd⊢;obtain⟨v,U,h2⟩:=hd;exact⟨v,U,AV.Bn h x v h2⟩
theorem AV.yw {w:World} {φ φ':al} {I:Nat->Prop} {k:Nat} (h:∀b p,φ b=some p->φ' (k+b)=some p):∀(xs:List AV) (us:List Value),AV.ab w φ I xs us->AV.ab w φ' I (AV.lR k xs) us
 |[],us,hd=>by simpa only[AV.lR,AV.ab]using hd
 |x::xs,us,hd=>by
  simp only[AV.lR,AV.ab]at hd⊢
  obtain⟨u,au,e,U,h2⟩:=hd
  exact⟨u,au,e,AV.Bn h x u U,AV.yw h xs au h2⟩
end
theorem D3 (k:Nat):∀(H:aa) (b:Nat),b<k->lk (jV k H) b=none
 |[],_,_=>rfl
 |(j,.var e cs)::r,b,h=>by
  have:Nat.beq (k+j) b=false:=by
   cases hq:Nat.beq (k+j) b with
   |false=>rfl
   |true=>have:=Nat.eq_of_beq_eq_true hq;omega
  simp only[jV,lk,this,cond_false];exact D3 k r b h
 |(j,.vec e es rows)::r,b,h=>by
  have:Nat.beq (k+j) b=false:=by
   cases hq:Nat.beq (k+j) b with
   |false=>rfl
   |true=>have:=Nat.eq_of_beq_eq_true hq;omega
  simp only[jV,lk,this,cond_false];exact D3 k r b h
 |(j,.lp l n st fn q ps E)::r,b,h=>by
  have:Nat.beq (k+j) b=false:=by
   cases hq:Nat.beq (k+j) b with
   |false=>rfl
   |true=>have:=Nat.eq_of_beq_eq_true hq;omega
  simp only[jV,lk,this,cond_false];exact D3 k r b h
theorem Ft (k j b:Nat):Nat.beq (k+j) (k+b)=Nat.beq j b:=by
 cases h:Nat.beq j b with
 |true=>have:=Nat.eq_of_beq_eq_true h;subst this;exact Nat.beq_refl _
 |false=>
  cases hq:Nat.beq (k+j) (k+b)with
  |false=>rfl
  |true=>
   have U:=Nat.eq_of_beq_eq_true hq
   have:j=b:=by omega
   subst this
   rw[Nat.beq_refl]at h;cases h
theorem D2 (k:Nat):∀(H:aa) (b:Nat),lk (jV k H) (k+b)=(lk H b).map (yu k)
 |[],_=>rfl
 |(j,.var e cs)::r,b=>by
  simp only[jV,lk,Ft]
  cases Nat.beq j b with
  |true=>rfl
  |false=>simpa using D2 k r b
 |(j,.vec e es rows)::r,b=>by
  simp only[jV,lk,Ft]
  cases Nat.beq j b with
  |true=>rfl
  |false=>simpa using D2 k r b
 |(j,.lp l n st fn q ps E)::r,b=>by
  simp only[jV,lk,Ft]
  cases Nat.beq j b with
  |true=>rfl
  |false=>simpa using D2 k r b
theorem AW:∀(H H':aa) (b:Nat),lk (H++H') b=match lk H b with|some o=>some o|none=>lk H' b
 |[],_,_=>rfl
 |(j,o)::r,H',b=>by
  simp only[List.cons_append,lk]
  cases Nat.beq j b with
  |true=>rfl
  |false=>simpa using AW r H' b
def tm (k:Nat) (φ bg:al):al:=fun b=>if b<k then φ b else bg (b-k)
theorem abe {w:World} {φ φ':al} {I:Nat->Prop} {k:Nat} (h:∀b p,φ b=some p->φ' (k+b)=some p) {o:Ob} {p:Option Nat} (ho:o.at w φ I p):(yu k o).at w φ' I p:=by
 cases o with
 |var e cs=>
  simp only[yu,Ob.at]at ho⊢
  obtain⟨g,us,U,h2,h3,h4⟩:=ho
  exact⟨g,us,U,h2,AV.yw h cs us h3,h4⟩
 |vec e es rows=>exact ho
 |lp l n st fn q ps E=>
  simp only[yu,Ob.at]at ho⊢
  obtain⟨h0,T,D,cz,U,h2,h3⟩:=ho
  refine⟨h0,T,D,cz,U,h2,fun i x hx=>?_⟩
  rw[Rq]at hx
  cases hy:lk E i with
  |none=>rw[hy]at hx;cases hx
  |some y=>
   rw[hy]at hx
   simp only[Option.map_some,Option.some.injEq]at hx
   subst hx
   obtain⟨u,hu,hd⟩:=h3 i y hy
   exact⟨u,hu,AV.Bn h y u hd⟩
theorem St.TI {B:Bs} {φ bg:al} {I I1:Nat->Prop} {H H1:aa} {w w1:World} (h:St B φ I H w) (U:St ⟨w,cZ (fun _=>none),I,fun _=>none,0⟩ bg I1 H1 w1):
  St B (tm (ay B.nb H) φ bg) I1 (jV (ay B.nb H) H1++H) w1/\bE w φ I w1 (tm (ay B.nb H) φ bg) I1/\∀b p,bg b=some p->tm (ay B.nb H) φ bg (ay B.nb H+b)=some p:=by
 have hnb:=dw B.nb H
 have fD:∀b,ay B.nb H<=b->lk H b=none:=fun b hb=>by
  cases hl:lk H b with
  |none=>rfl
  |some o=>have:=bZ H b o hl;omega
 generalize hk:ay B.nb H=k at*
 have YA:∀b,k<=b->φ b=none:=fun b hb=>by
  have:=h.real.bj b
  rw[fD b hb]at this
  cases hq:φ b with
  |none=>rfl
  |some x=>rw[hq]at this;cases this
 have jl:∀b,b<k->tm k φ bg b=φ b:=fun b hb=>by simp[tm,hb]
 have jr:∀b,tm k φ bg (k+b)=bg b:=fun b=>by
  have:¬k+b<k:=by omega
  simp[tm,this]
 have ag:∀b p,φ b=some p->b<k:=fun b p hp=>by
  rcases Nat.lt_or_ge b k with h'|h'
  ·exact h'
  ·rw[YA b h']at hp;cases hp
 have a_:∀g,¬cZ (fun _=>none) g:=fun g ⟨b,hb⟩=>by cases hb
 have nY:∀g,g<w.heap.size->w1.heap[g]?=w.heap[g]?:=fun g hg=>U.ext.cm g hg (a_ g)
 have mT:∀b g,bg b=some (some g)->w.heap.size<=g:=fun b g hb=>(U.cf b g hb).resolve_left (a_ g)
 have z6:∀g,I1 g->I g\/w.heap.size<=g:=fun g hg=>by
  rcases U.dj g hg with h|h|h
  ·exact .inl h
  ·exact absurd h (a_ g)
  ·exact .inr h
 have kp:bE w φ I w1 (tm k φ bg) I1:=⟨fun g hg=>nY g (h.real.bN g hg),U.cC,fun b p hp=>by rw[jl b (ag b p hp)];exact hp,fun _ g n _ hs=>U.ext.shaped (a_ g) hs⟩
 have split:∀b,b<k\/∃c,b=k+c:=fun b=>by
  rcases Nat.lt_or_ge b k with h'|h'
  ·exact .inl h'
  ·exact .inr ⟨b-k,by omega⟩
 have IP:∀b,b<k->lk (jV k H1++H) b=lk H b:=fun b hb=>by rw[AW,D3 k H1 b hb]
 have Pk:∀c,lk (jV k H1++H) (k+c)=(lk H1 c).map (yu k):=fun c=>by
  rw[AW,D2 k H1 c]
  cases hl:lk H1 c with
  |none=>simpa using fD (k+c) (by omega)
  |some o=>rfl
 refine⟨⟨⟨fun b=>?_,fun b o p hl hp=>?_,fun b g hp=>?_,fun b1 b2 g dQ e8=>?_,U.real.bN⟩,h.ext.trans U.ext (fun g hg=>absurd hg (a_ g)),fun b g hp=>?_,fun g hg=>?_,fun g hg=>U.cC g (h.cC g hg),fun b g oo hb h0 hl=>?_⟩,kp,fun b p hb=>by rw[jr];exact hb⟩
 ·rcases split b with hb|⟨c,rfl⟩
  ·rw[jl b hb,IP b hb];exact h.real.bj b
  ·rw[jr,Pk]
   have:=U.real.bj c
   rw[this];cases lk H1 c<;>rfl
 ·rcases split b with hb|⟨c,rfl⟩
  ·rw[jl b hb]at hp;rw[IP b hb]at hl
   refine Ob.k5 kp.im kp.I kp.phi kp.sh (fun g hg=>?_) (h.real.own b o p hl hp)
   subst hg
   exact nY g (h.real.off b g hp).2
  ·rw[jr]at hp;rw[Pk]at hl
   cases fG:lk H1 c with
   |none=>rw[fG]at hl;cases hl
   |some o1=>
    rw[fG]at hl
    cases hl
    exact abe (fun b p hb=>by rw[jr];exact hb) (U.real.own c o1 p fG hp)
 ·rcases split b with hb|⟨c,rfl⟩
  ·rw[jl b hb]at hp
   have:=h.real.off b g hp
   exact⟨fun hi=>(z6 g hi).elim this.1 (by omega),Nat.lt_of_lt_of_le this.2 U.ext.size⟩
  ·rw[jr]at hp;exact U.real.off c g hp
 ·rcases split b1 with e1|⟨c1,rfl⟩<;>rcases split b2 with e2|⟨c2,rfl⟩
  ·rw[jl b1 e1]at dQ;rw[jl b2 e2]at e8;exact h.real.inj b1 b2 g dQ e8
  ·rw[jl b1 e1]at dQ;rw[jr]at e8
   have:=(h.real.off b1 g dQ).2;have:=mT c2 g e8;omega
  ·rw[jr]at dQ;rw[jl b2 e2]at e8
   have:=(h.real.off b2 g e8).2;have:=mT c1 g dQ;omega
  ·rw[jr]at dQ e8;rw[U.real.inj c1 c2 g dQ e8]
 ·rcases split b with hb|⟨c,rfl⟩
  ·rw[jl b hb]at hp;exact h.cf b g hp
  ·rw[jr]at hp;exact .inr (Nat.le_trans h.ext.size (mT c g hp))
 ·rcases z6 g hg with hg|hg
  ·exact h.dj g hg
  ·exact .inr (.inr (Nat.le_trans h.ext.size hg))
 ·have bK:b<k:=by omega
  rw[jl b bK];rw[IP b bK]at hl
  exact h.cP b g oo hb h0 hl
section
variable {C:Cx} {K:List PK} {E:Env} {H:aa}
theorem AQ.uq {ds:List (Nat×Nat)} {i:Nat} {d:Option Nat} {ty:TypeId} {pos:String} {af:Array Edge} {os:List Oper} {f:FuncId} {xs:List Operand} {a8:Array TypeId} {l:List AV} {R:AV->aa->Prop}
  (ah:ba C.n ({dst:=d,op:= .call {callee:= .value (.func f),args:=xs.toArray,argTypes:=a8},type:=ty,pos:=pos,after:=af,guard:=none}::os)=true)
  (hl:eB E xs=some l) (dT:gs l=true) (fD:AV.frees (l.map AV.st)=true) (hc:ai C.P f (l.map AV.st) [] R)
  (h:∀r H',R r H'->vq C K os (aZ d i ds) (i+1) (a7 d (AV.sh (ay C.B.nb H) r) E) (jV (ay C.B.nb H) H'++H)):
  AQ C ds i ({dst:=d,op:= .call {callee:= .value (.func f),args:=xs.toArray,argTypes:=a8},type:=ty,pos:=pos,after:=af,guard:=none}::os) K E H:=by
 obtain⟨hd,b7⟩:=ef ah
 have bm:∀r H',R r H'->AQ C (aZ d i ds) (i+1) os K (a7 d (AV.sh (ay C.B.nb H) r) E) (jV (ay C.B.nb H) H'++H):=fun r H' hr=>AQ.go b7 (h r H' hr)
 unfold AQ at bm⊢
 refine AO.step (o:={dst:=d,op:= .call {callee:= .value (.func f),args:=xs.toArray,argTypes:=a8},type:=ty,pos:=pos,after:=af,guard:=none}) fun ops φ I a w aV _ hs Kn bG=>?_
 have hw:Region.wanted {dst:=d,op:= .call {callee:= .value (.func f),args:=xs.toArray,argTypes:=a8},type:=ty,pos:=pos,after:=af,guard:=none} (yielded ops a.tmps)=true:=by simp[Region.wanted]
 rw[if_pos hw]
 have aX:=AV.sM (φ':=fun _=>none) _ _ fD (nO hs.env _ _ hl dT)
 have aF:(execOp a.eval {dst:=d,op:= .call {callee:= .value (.func f),args:=xs.toArray,argTypes:=a8},type:=ty,pos:=pos,after:=af,guard:=none}).run C.P w= .ok (.enter f (xs.map a.eval).toArray) w:=by
  have:execOp a.eval {dst:=d,op:= .call {callee:= .value (.func f),args:=xs.toArray,argTypes:=a8},type:=ty,pos:=pos,after:=af,guard:=none}=callFunc f (#[]++xs.toArray.map a.eval++#[]):=by simp only[execOp];rfl
  rw[this,yq hc.gN]
  simp
 unfold Oper.wp
 rw[aF,Oper.upon_enter]
 refine(hc.run w (fun _=>none) I _ aX (Ey hs.st.real) hs.st.vk).mono fun e w' ⟨r,H',φ',I',v,hr,he,bc,hS⟩=>?_
 subst he
 obtain⟨mb,hk,hj⟩:=hs.st.TI hS
 exact bG _ _ _ I' _ _ (bm r H' hr) (hs.put mb hk hd (AV.Bn hj r v bc))
end
attribute [go_sem] AV.sh AV.lR jV yu yr
section
variable {C:Cx} {K:List PK} {E:Env} {H:aa}
def Bp:AV->AV
 | .opt true x=>x
 |x=>x
def tS:Env->Env
 |[]=>[]
 |(i,x)::r=>(i,Bp x)::tS r
theorem abu {w:World} {φ:al} {I:Nat->Prop} {x:AV} {u:Value} (h:AV.den w φ I x u):AV.den w φ I (Bp x) u:=by
 unfold Bp
 split
 ·simp only[AV.den]at h;exact h.1 trivial
 ·exact h
theorem RI:∀(E:Env) (i:Nat) (x:AV),lk (tS E) i=some x->∃y,lk E i=some y/\x=Bp y
 |[],i,x,h=>by simp[tS,lk]at h
 |(j,y)::r,i,x,h=>by
  simp only[tS,lk]at h⊢
  cases hb:Nat.beq j i with
  |true=>rw[hb]at h;simp at h⊢;exact h.symm
  |false=>rw[hb]at h;simpa using RI r i x h
end
attribute [go_sem] Bp tS
mutual
def AV.rn (ρ:Nat->Nat):AV->AV
 | .ob b o=> .ob (ρ b) o
 | .oe b es i j=> .oe (ρ b) es i j
 | .os b es i n=> .os (ρ b) es i n
 | .fn f fs aN=> .fn f (AV.cU ρ fs) (AV.cU ρ aN)
 | .agg cs=> .agg (AV.cU ρ cs)
 | .aI cs=> .aI (AV.cU ρ cs)
 | .opt g x=> .opt g (AV.rn ρ x)
 | .im x=> .im x
 | .ar x=> .ar x
 | .top=> .top
 | .mp b=> .mp (ρ b)
 | .wr q x=> .wr q (AV.rn ρ x)
def AV.cU (ρ:Nat->Nat):List AV->List AV
 |[]=>[]
 |x::xs=>AV.rn ρ x::AV.cU ρ xs
end
def r9 (ρ:Nat->Nat):Env->Env
 |[]=>[]
 |(i,x)::r=>(i,AV.rn ρ x)::r9 ρ r
theorem Ez (ρ:Nat->Nat):∀(E:Env) (i:Nat),lk (r9 ρ E) i=(lk E i).map (AV.rn ρ)
 |[],_=>rfl
 |(j,x)::r,i=>by
  simp only[r9,lk]
  cases Nat.beq j i with
  |true=>rfl
  |false=>simpa using Ez ρ r i
def dY (ρ:Nat->Nat):Ob->Ob
 | .var e cs=> .var e (AV.cU ρ cs)
 | .vec e es rows=> .vec e es rows
 | .lp l n st fn q ps E=> .lp l n st fn q ps (r9 ρ E)
mutual
theorem AV.vW {w:World} {φ φ':al} {I:Nat->Prop} {ρ:Nat->Nat} (h:∀b p,φ b=some p->φ' (ρ b)=some p):∀(x:AV) (u:Value),AV.den w φ I x u->AV.den w φ' I (AV.rn ρ x) u
 | .ob b o,u,hd=>by simp only[AV.rn,AV.den]at hd⊢;obtain⟨g,U,h2⟩:=hd;exact⟨g,h _ _ U,h2⟩
 | .oe b es i j,u,hd=>by simp only[AV.rn,AV.den]at hd⊢;obtain⟨g,U,h2⟩:=hd;exact⟨g,h _ _ U,h2⟩
 | .os b es i n,u,hd=>by
  simp only[AV.rn,AV.den]at hd⊢
  rcases hd with⟨U,h2⟩|⟨g,c,U,h2⟩
  ·exact .inl ⟨h _ _ U,h2⟩
  ·exact .inr ⟨g,c,h _ _ U,h2⟩
 | .fn f fs aN,u,hd=>by simp only[AV.rn,AV.den]at hd⊢;obtain⟨us,vs,U,h2,h3⟩:=hd;exact⟨us,vs,AV.yo h fs us U,AV.yo h aN vs h2,h3⟩
 | .agg cs,u,hd=>by simp only[AV.rn,AV.den]at hd⊢;obtain⟨us,U,h2⟩:=hd;exact⟨us,AV.yo h cs us U,h2⟩
 | .aI cs,u,hd=>by simp only[AV.rn,AV.den]at hd⊢;obtain⟨us,U,h2⟩:=hd;exact⟨us,AV.yo h cs us U,h2⟩
 | .opt g x,u,hd=>by simp only[AV.rn,AV.den]at hd⊢;exact⟨fun hg=>AV.vW h x u (hd.1 hg),hd.2⟩
 | .im x,u,hd=>by simpa only[AV.rn,AV.den]using hd
 | .ar x,u,hd=>by simpa only[AV.rn,AV.den]using hd
 | .top,_,_=>by simp only[AV.rn,AV.den]
 | .mp b,u,hd=>by simp only[AV.rn,AV.den]at hd⊢;obtain⟨g,U,h2⟩:=hd;exact⟨g,h _ _ U,h2⟩
 | .wr q x,u,hd=>by simp only[AV.rn,AV.den]at hd⊢;obtain⟨v,U,h2⟩:=hd;exact⟨v,U,AV.vW h x v h2⟩
theorem AV.yo {w:World} {φ φ':al} {I:Nat->Prop} {ρ:Nat->Nat} (h:∀b p,φ b=some p->φ' (ρ b)=some p):∀(xs:List AV) (us:List Value),AV.ab w φ I xs us->AV.ab w φ' I (AV.cU ρ xs) us
 |[],us,hd=>by simpa only[AV.cU,AV.ab]using hd
 |x::xs,us,hd=>by
  simp only[AV.cU,AV.ab]at hd⊢
  obtain⟨u,au,e,U,h2⟩:=hd
  exact⟨u,au,e,AV.vW h x u U,AV.yo h xs au h2⟩
end
mutual
theorem AV.Bh {w:World} {φ φ':al} {I:Nat->Prop} {ρ:Nat->Nat} (h:∀b,φ b=φ' (ρ b)):∀(x:AV) (u:Value),AV.den w φ' I (AV.rn ρ x) u->AV.den w φ I x u
 | .ob b o,u,hd=>by simp only[AV.rn,AV.den]at hd⊢;rw[h];exact hd
 | .oe b es i j,u,hd=>by simp only[AV.rn,AV.den]at hd⊢;rw[h];exact hd
 | .os b es i n,u,hd=>by simp only[AV.rn,AV.den]at hd⊢;rw[h];exact hd
 | .fn f fs aN,u,hd=>by simp only[AV.rn,AV.den]at hd⊢;obtain⟨us,vs,U,h2,h3⟩:=hd;exact⟨us,vs,AV.r_ h fs us U,AV.r_ h aN vs h2,h3⟩
 | .agg cs,u,hd=>by simp only[AV.rn,AV.den]at hd⊢;obtain⟨us,U,h2⟩:=hd;exact⟨us,AV.r_ h cs us U,h2⟩
 | .aI cs,u,hd=>by simp only[AV.rn,AV.den]at hd⊢;obtain⟨us,U,h2⟩:=hd;exact⟨us,AV.r_ h cs us U,h2⟩
 | .opt g x,u,hd=>by simp only[AV.rn,AV.den]at hd⊢;exact⟨fun hg=>AV.Bh h x u (hd.1 hg),hd.2⟩
 | .im x,u,hd=>by simpa only[AV.rn,AV.den]using hd
 | .ar x,u,hd=>by simpa only[AV.rn,AV.den]using hd
 | .top,_,_=>by simp only[AV.den]
 | .mp b,u,hd=>by simp only[AV.rn,AV.den]at hd⊢;rw[h];exact hd
 | .wr q x,u,hd=>by simp only[AV.rn,AV.den]at hd⊢;obtain⟨v,U,h2⟩:=hd;exact⟨v,U,AV.Bh h x v h2⟩
theorem AV.r_ {w:World} {φ φ':al} {I:Nat->Prop} {ρ:Nat->Nat} (h:∀b,φ b=φ' (ρ b)):∀(xs:List AV) (us:List Value),AV.ab w φ' I (AV.cU ρ xs) us->AV.ab w φ I xs us
 |[],us,hd=>by simpa only[AV.cU,AV.ab]using hd
 |x::xs,us,hd=>by
  simp only[AV.cU,AV.ab]at hd⊢
  obtain⟨u,au,e,U,h2⟩:=hd
  exact⟨u,au,e,AV.Bh h x u U,AV.r_ h xs au h2⟩
end
theorem EA {w:World} {φ φ':al} {I:Nat->Prop} {ρ:Nat->Nat} (h:∀b p,φ b=some p->φ' (ρ b)=some p) {o:Ob} {p:Option Nat} (ho:o.at w φ I p):(dY ρ o).at w φ' I p:=by
 cases o with
 |var e cs=>
  simp only[dY,Ob.at]at ho⊢
  obtain⟨g,us,U,h2,h3,h4⟩:=ho
  exact⟨g,us,U,h2,AV.yo h cs us h3,h4⟩
 |vec e es rows=>exact ho
 |lp l n st fn q ps E=>
  simp only[dY,Ob.at]at ho⊢
  obtain⟨h0,T,D,cz,U,h2,h3⟩:=ho
  refine⟨h0,T,D,cz,U,h2,fun i x hx=>?_⟩
  rw[Ez]at hx
  cases hy:lk E i with
  |none=>rw[hy]at hx;cases hx
  |some y=>
   rw[hy]at hx
   simp only[Option.map_some,Option.some.injEq]at hx
   subst hx
   obtain⟨u,hu,hd⟩:=h3 i y hy
   exact⟨u,hu,AV.vW h y u hd⟩
theorem aaV {w:World} {φ φ':al} {I:Nat->Prop} {ρ:Nat->Nat} (h:∀b,φ b=φ' (ρ b)) {o:Ob} {p:Option Nat} (ho:(dY ρ o).at w φ' I p):o.at w φ I p:=by
 cases o with
 |var e cs=>
  simp only[dY,Ob.at]at ho⊢
  obtain⟨g,us,U,h2,h3,h4⟩:=ho
  exact⟨g,us,U,h2,AV.r_ h cs us h3,h4⟩
 |vec e es rows=>exact ho
 |lp l n st fn q ps E=>
  simp only[dY,Ob.at]at ho⊢
  obtain⟨h0,T,D,cz,U,h2,h3⟩:=ho
  refine⟨h0,T,D,cz,U,h2,fun i x hx=>?_⟩
  obtain⟨u,hu,hd⟩:=h3 i (AV.rn ρ x) (by rw[Ez,hx];rfl)
  exact⟨u,hu,AV.Bh h x u hd⟩
theorem St.IQ {B:Bs} {φ:al} {I:Nat->Prop} {H:aa} {w:World} (h:St B φ I H w) {b:Nat} (hb:lk H b=none):φ b=none:=by
 have:=h.real.bj b
 rw[hb]at this
 cases hq:φ b with
 |none=>rfl
 |some x=>rw[hq]at this;cases this
def r1 (b b' c:Nat):Nat:=bif Nat.beq c b then b' else c
def nt (b b':Nat):aa->aa
 |[]=>[]
 |(c,o)::r=>(r1 b b' c,dY (r1 b b') o)::nt b b' r
theorem Ew {b b' c:Nat} (h:c≠b):r1 b b' c=c:=by
 unfold r1
 cases hq:Nat.beq c b with
 |true=>exact absurd (Nat.eq_of_beq_eq_true hq) h
 |false=>rfl
theorem Jv {b b':Nat}:r1 b b' b=b':=by simp[r1]
theorem IM {b b':Nat} (aK:b≠b'):∀(H:aa),lk H b'=none->lk (nt b b' H) b'=(lk H b).map (dY (r1 b b'))
 |[],_=>rfl
 |(c,o)::r,h=>by
  simp only[lk]at h
  simp only[nt,lk]
  by_cases hc:c=b
  ·subst hc;simp[r1]
  ·rw[Ew hc]
   cases hq:Nat.beq c b' with
   |true=>rw[hq]at h;simp at h
   |false=>
    rw[hq]at h
    have:Nat.beq c b=false:=by
     cases hz:Nat.beq c b with
     |false=>rfl
     |true=>exact absurd (Nat.eq_of_beq_eq_true hz) hc
    simp only[this,cond_false]at h⊢
    exact IM aK r h
theorem IN {b b':Nat} (aK:b≠b'):∀(H:aa),lk (nt b b' H) b=none
 |[]=>rfl
 |(c,o)::r=>by
  simp only[nt,lk]
  have:Nat.beq (r1 b b' c) b=false:=by
   cases hz:Nat.beq (r1 b b' c) b with
   |false=>rfl
   |true=>
    have:=Nat.eq_of_beq_eq_true hz
    by_cases hc:c=b
    ·subst hc;rw[Jv]at this;exact absurd this.symm aK
    ·rw[Ew hc]at this;exact absurd this hc
  rw[this];exact IN aK r
theorem A0 {b b' c:Nat} (U:c≠b) (h2:c≠b'):∀(H:aa),lk (nt b b' H) c=(lk H c).map (dY (r1 b b'))
 |[]=>rfl
 |(d,o)::r=>by
  simp only[nt,lk]
  by_cases hd:d=b
  ·subst hd
   have e1:Nat.beq b' c=false:=by
    cases hz:Nat.beq b' c with
    |false=>rfl
    |true=>exact absurd (Nat.eq_of_beq_eq_true hz).symm h2
   have e2:Nat.beq d c=false:=by
    cases hz:Nat.beq d c with
    |false=>rfl
    |true=>exact absurd (Nat.eq_of_beq_eq_true hz).symm U
   rw[Jv,e1,e2];exact A0 U h2 r
  ·rw[Ew hd]
   cases Nat.beq d c with
   |true=>rfl
   |false=>simpa using A0 U h2 r
def kS (b b':Nat) (φ:al):al:=fun c=>if c=b then none else if c=b' then φ b else φ c
theorem St.rename {B:Bs} {φ:al} {I:Nat->Prop} {H:aa} {w:World} (h:St B φ I H w) (b b':Nat) (bK:lk H b'=none) (aK:b≠b') (hnb:B.nb<=b'):St B (kS b b' φ) I (nt b b' H) w/\∀c p,φ c=some p->kS b b' φ (r1 b b' c)=some p:=by
 have h0:=h.IQ bK
 have G4:∀c p,φ c=some p->kS b b' φ (r1 b b' c)=some p:=fun c p hc=>by
  by_cases e:c=b
  ·subst e;rw[Jv];simp only[kS,if_neg (Ne.symm aK),if_true];exact hc
  ·rw[Ew e]
   have:c≠b':=fun e2=>by subst e2;rw[h0]at hc;cases hc
   simp only[kS,if_neg e,if_neg this];exact hc
 refine⟨⟨⟨fun c=>?_,fun c o p hl hp=>?_,fun c g hp=>?_,fun c1 c2 g U h2=>?_,h.real.bN⟩,h.ext,fun c g hp=>?_,h.dj,h.cC,fun c p o ag ql hl=>?_⟩,G4⟩
 ·by_cases e1:c=b
  ·subst e1;rw[IN aK];simp[kS]
  ·by_cases e2:c=b'
   ·subst e2;rw[IM aK H bK];simp only[kS,if_neg e1,if_true];rw[h.real.bj b];cases lk H b<;>rfl
   ·rw[A0 e1 e2];simp only[kS,if_neg e1,if_neg e2];rw[h.real.bj c];cases lk H c<;>rfl
 ·by_cases e1:c=b
  ·subst e1;simp[kS]at hp
  ·by_cases e2:c=b'
   ·subst e2
    rw[IM aK H bK]at hl
    simp only[kS,if_neg e1,if_true]at hp
    cases hq:lk H b with
    |none=>rw[hq]at hl;cases hl
    |some o1=>rw[hq]at hl;cases hl;exact EA G4 (h.real.own b o1 p hq hp)
   ·rw[A0 e1 e2]at hl
    simp only[kS,if_neg e1,if_neg e2]at hp
    cases hq:lk H c with
    |none=>rw[hq]at hl;cases hl
    |some o1=>rw[hq]at hl;cases hl;exact EA G4 (h.real.own c o1 p hq hp)
 ·unfold kS at hp
  split at hp
  ·cases hp
  ·split at hp
   ·exact h.real.off b g hp
   ·exact h.real.off c g hp
 ·unfold kS at U h2
  split at U
  ·cases U
  ·split at h2
   ·cases h2
   ·split at U<;>split at h2
    ·rename_i e1 e2;rw[e1,e2]
    ·rename_i n1 n2 e1 e2;exact absurd (h.real.inj _ _ g U h2).symm n2
    ·rename_i n1 n2 e1 e2;exact absurd (h.real.inj _ _ g U h2) n1
    ·exact h.real.inj _ _ g U h2
 ·unfold kS at hp
  split at hp
  ·cases hp
  ·split at hp
   ·exact h.cf b g hp
   ·exact h.cf c g hp
 ·by_cases e1:c=b
  ·subst e1;rw[IN aK]at hl;cases hl
  ·have e2:c≠b':=by omega
   rw[A0 e1 e2]at hl
   simp only[kS,if_neg e1,if_neg e2]
   cases hq:lk H c with
   |none=>rw[hq]at hl;cases hl
   |some o1=>exact h.cP c p o1 ag ql hq
theorem bB.rename {C:Cx} {φ:al} {I:Nat->Prop} {E:Env} {H:aa} {a:Act} {w:World} (h:bB C φ I E H a w) (b b':Nat) (bK:lk H b'=none) (aK:b≠b') (hnb:C.B.nb<=b'):bB C (kS b b' φ) I (r9 (r1 b b') E) (nt b b' H) a w:=by
 obtain⟨hS,hf⟩:=h.st.rename b b' bK aK hnb
 refine⟨h.bF,h.bC,fun i x hx=>?_,hS⟩
 rw[Ez]at hx
 cases hq:lk E i with
 |none=>rw[hq]at hx;cases hx
 |some y=>
  rw[hq]at hx;cases hx
  obtain⟨u,hu,hd⟩:=h.env i y hq
  exact⟨u,hu,AV.vW hf y u hd⟩
theorem St.perm {B:Bs} {φ:al} {I:Nat->Prop} {H H':aa} {w:World} (h:St B φ I H w) (hp:∀b,lk H b=lk H' b):St B φ I H' w:=
 ⟨⟨fun b=>by rw[<-hp];exact h.real.bj b,fun b o p hl=>h.real.own b o p (by rw[hp];exact hl),h.real.off,h.real.inj,h.real.bN⟩,h.ext,h.cf,h.dj,h.cC,fun b p o ag h0 hl=>h.cP b p o ag h0 (by rw[hp];exact hl)⟩
section
variable {C:Cx} {K:List PK} {E:Env} {H:aa}
theorem AE.rename {e:Exit} (b b':Nat) (bK:lk H b'=none) (aK:Nat.beq b b'=false) (hnb:Nat.ble C.B.nb b'=true) (h:AE C e K (r9 (r1 b b') E) (nt b b' H)):AE C e K E H:=by
 unfold AE at h⊢
 exact fun φ I a w hs=>h _ _ _ _ (hs.rename b b' bK (fun e=>by subst e;simp at aK) (Nat.le_of_ble_eq_true hnb))
theorem AP.rename {p:List Nat} (b b':Nat) (bK:lk H b'=none) (aK:Nat.beq b b'=false) (hnb:Nat.ble C.B.nb b'=true) (h:AP C p K (r9 (r1 b b') E) (nt b b' H)):AP C p K E H:=by
 unfold AP at h⊢
 exact fun φ I a w hs=>h _ _ _ _ (hs.rename b b' bK (fun e=>by subst e;simp at aK) (Nat.le_of_ble_eq_true hnb))
theorem AQ.rename {ds:List (Nat×Nat)} {i:Nat} {rest:List Oper} (b b':Nat) (bK:lk H b'=none) (aK:Nat.beq b b'=false) (hnb:Nat.ble C.B.nb b'=true) (h:AQ C ds i rest K (r9 (r1 b b') E) (nt b b' H)):AQ C ds i rest K E H:=by
 unfold AQ at h⊢
 exact fun ops U h2 φ I a w hs=>h ops U h2 _ _ _ _ (hs.rename b b' bK (fun e=>by subst e;simp at aK) (Nat.le_of_ble_eq_true hnb))
theorem AE.perm {e:Exit} (H':aa) (hp:∀b,lk H b=lk H' b) (h:AE C e K E H'):AE C e K E H:=by
 unfold AE at h⊢
 exact fun φ I a w hs=>h _ _ _ _ ⟨hs.bF,hs.bC,hs.env,hs.st.perm hp⟩
theorem AP.perm {p:List Nat} (H':aa) (hp:∀b,lk H b=lk H' b) (h:AP C p K E H'):AP C p K E H:=by
 unfold AP at h⊢
 exact fun φ I a w hs=>h _ _ _ _ ⟨hs.bF,hs.bC,hs.env,hs.st.perm hp⟩
theorem AQ.perm {ds:List (Nat×Nat)} {i:Nat} {rest:List Oper} (H':aa) (hp:∀b,lk H b=lk H' b) (h:AQ C ds i rest K E H'):AQ C ds i rest K E H:=by
 unfold AQ at h⊢
 exact fun ops U h2 φ I a w hs=>h ops U h2 _ _ _ _ ⟨hs.bF,hs.bC,hs.env,hs.st.perm hp⟩
end
attribute [go_sem] AV.rn AV.cU dY r9 r1 nt
def bA (m:List (Nat×Nat)) (k b:Nat):Nat:=match lk m b with
 |some c=>c
 |none=>k+b
def dX:List (Nat×Nat)->Nat->Option Nat
 |[],_=>none
 |(b,c')::r,c=>bif Nat.beq c' c then some b else dX r c
def fx:List (Nat×Nat)->List Nat
 |[]=>[]
 |(b,_)::r=>b::fx r
def kW:List (Nat×Nat)->List Nat
 |[]=>[]
 |(_,c)::r=>c::kW r
def oh:aa->List Nat
 |[]=>[]
 |(b,_)::r=>b::oh r
def gG:List Nat->Bool
 |[]=>true
 |x::r=>!(bY r x)&&gG r
def lP (ρ:Nat->Nat) (H:aa):aa->Prop
 |[]=>True
 |(b,o)::r=>lk H (ρ b)=some (dY ρ o)/\lP ρ H r
def cu (H1:aa):List (Nat×Nat)->List Nat
 |[]=>[]
 |(b,c)::r=>match lk H1 b with
  |some _=>cu H1 r
  |none=>c::cu H1 r
def dC (m:List (Nat×Nat)):aa->aa
 |[]=>[]
 |(c,o)::r=>match dX m c with
  |some _=>dC m r
  |none=>(c,o)::dC m r
def tF (m:List (Nat×Nat)) (k:Nat):aa->aa
 |[]=>[]
 |(b,o)::r=>match lk m b with
  |some _=>tF m k r
  |none=>(k+b,dY (bA m k) o)::tF m k r
def vL (m:List (Nat×Nat)) (k:Nat) (H1:aa):aa->aa
 |[]=>[]
 |(c,o)::r=>match dX m c with
  |none=>(c,o)::vL m k H1 r
  |some b=>match lk H1 b with
   |some o1=>(c,dY (bA m k) o1)::vL m k H1 r
   |none=>vL m k H1 r
def fo (m:List (Nat×Nat)) (k:Nat) (H H1:aa):aa:=tF m k H1++vL m k H1 H
def fV:List Nat->Env->Env
 |[],E=>E
 |d::r,E=>fV r (killE d E)
def lO:List Nat->aa->Bool
 |[],_=>true
 |d::r,H=>noMen d H&&lO r H
theorem iO {a b:Nat} (h:a≠b):Nat.beq a b=false:=by
 cases hq:Nat.beq a b with
 |false=>rfl
 |true=>exact absurd (Nat.eq_of_beq_eq_true hq) h
theorem Ij:∀(m:List (Nat×Nat)) (b c:Nat),dX m c=some b->(b,c)∈m
 |[],_,_,h=>by cases h
 |(b',c')::r,b,c,h=>by
  simp only[dX]at h
  cases hq:Nat.beq c' c with
  |true=>
   rw[hq]at h
   have:=Nat.eq_of_beq_eq_true hq
   subst this
   simp at h;subst h;simp
  |false=>rw[hq]at h;exact List.mem_cons_of_mem _ (Ij r b c h)
theorem Pj:∀(m:List (Nat×Nat)) (b c:Nat),lk m b=some c->(b,c)∈m
 |[],_,_,h=>by cases h
 |(b',c')::r,b,c,h=>by
  simp only[lk]at h
  cases hq:Nat.beq b' b with
  |true=>
   rw[hq]at h
   have:=Nat.eq_of_beq_eq_true hq
   subst this
   simp at h;subst h;simp
  |false=>rw[hq]at h;exact List.mem_cons_of_mem _ (Pj r b c h)
theorem DK:∀(l:List Nat) (x:Nat),bY l x=true↔x∈l
 |[],x=>by simp[bY]
 |y::l,x=>by
  simp only[bY]
  cases hq:Nat.beq y x with
  |true=>have:=Nat.eq_of_beq_eq_true hq;subst this;simp
  |false=>
   have:x≠y:=fun e=>by subst e;simp at hq
   simp[DK l x,this]
theorem ZJ {m:List (Nat×Nat)} {b c:Nat} (h:(b,c)∈m):b∈fx m:=by
 induction m with
 |nil=>cases h
 |cons x r ih=>
  obtain⟨b',c'⟩:=x
  rcases List.mem_cons.1 h with e|h
  ·cases e;simp[fx]
  ·simp[fx,ih h]
theorem ZK {m:List (Nat×Nat)} {b c:Nat} (h:(b,c)∈m):c∈kW m:=by
 induction m with
 |nil=>cases h
 |cons x r ih=>
  obtain⟨b',c'⟩:=x
  rcases List.mem_cons.1 h with e|h
  ·cases e;simp[kW]
  ·simp[kW,ih h]
theorem Ph:∀(m:List (Nat×Nat)) (b c:Nat),gG (fx m)=true->(b,c)∈m->lk m b=some c
 |[],_,_,_,h=>by cases h
 |(b',c')::r,b,c,hn,h=>by
  simp only[fx,gG,Bool.and_eq_true,Bool.not_eq_true']at hn
  simp only[lk]
  rcases List.mem_cons.1 h with e|h
  ·cases e;simp
  ·have:b'≠b:=fun e=>by
    subst e
    have:=(DK (fx r) b').2 (ZJ h)
    rw[hn.1]at this;cases this
   rw[iO this];exact Ph r b c hn.2 h
theorem OU:∀(m:List (Nat×Nat)) (b c:Nat),gG (kW m)=true->(b,c)∈m->dX m c=some b
 |[],_,_,_,h=>by cases h
 |(b',c')::r,b,c,hn,h=>by
  simp only[kW,gG,Bool.and_eq_true,Bool.not_eq_true']at hn
  simp only[dX]
  rcases List.mem_cons.1 h with e|h
  ·cases e;simp
  ·have:c'≠c:=fun e=>by
    subst e
    have:=(DK (kW r) c').2 (ZK h)
    rw[hn.1]at this;cases this
   rw[iO this];exact OU r b c hn.2 h
theorem Js {ρ:Nat->Nat} {H:aa}:∀(Hc:aa),lP ρ H Hc->∀b o,lk Hc b=some o->lk H (ρ b)=some (dY ρ o)
 |[],_,_,_,h=>by cases h
 |(b',o')::r,hp,b,o,h=>by
  simp only[lk]at h
  cases hq:Nat.beq b' b with
  |true=>
   rw[hq]at h
   have:=Nat.eq_of_beq_eq_true hq
   subst this
   simp at h;subst h;exact hp.1
  |false=>rw[hq]at h;exact Js r hp.2 b o h
theorem Pe:∀(H:aa) (b:Nat),(lk H b).isSome=bY (oh H) b
 |[],_=>rfl
 |(b',o)::r,b=>by
  simp only[lk,oh,bY]
  cases Nat.beq b' b with
  |true=>rfl
  |false=>simpa using Pe r b
theorem Pf:∀(m:List (Nat×Nat)) (b:Nat),(lk m b).isSome=bY (fx m) b
 |[],_=>rfl
 |(b',o)::r,b=>by
  simp only[lk,fx,bY]
  cases Nat.beq b' b with
  |true=>rfl
  |false=>simpa using Pf r b
theorem IK {m:List (Nat×Nat)} {k:Nat}:∀(H1:aa) (c:Nat),c<k->lk (tF m k H1) c=none
 |[],_,_=>rfl
 |(b,o)::r,c,h=>by
  simp only[tF]
  cases lk m b with
  |some _=>exact IK r c h
  |none=>simp only[lk,iO (show k+b≠c by omega),cond_false];exact IK r c h
theorem Pg {m:List (Nat×Nat)} {k:Nat}:∀(H1:aa) (b:Nat),lk (tF m k H1) (k+b)=match lk m b with|some _=>none|none=>(lk H1 b).map (dY (bA m k))
 |[],b=>by cases lk m b<;>rfl
 |(b',o)::r,b=>by
  have ih:=Pg (m:=m) (k:=k) r b
  simp only[tF]
  by_cases e:b'=b
  ·subst e
   cases hm:lk m b' with
   |some c=>rw[hm]at ih;simpa using ih
   |none=>simp[lk]
  ·cases w8:lk m b' with
   |some c=>
    simp only
    rw[ih]
    simp only[lk,iO e,cond_false]
   |none=>simp only[lk,iO e,iO (show k+b'≠k+b by omega),cond_false];exact ih
theorem IL {m:List (Nat×Nat)} {k:Nat} {H1:aa}:∀(H:aa) (c:Nat),lk (vL m k H1 H) c=match dX m c with|none=>lk H c|some b=>match lk H c with|none=>none|some _=>(lk H1 b).map (dY (bA m k))
 |[],c=>by cases dX m c<;>rfl
 |(c',o)::r,c=>by
  have ih:=IL (m:=m) (k:=k) (H1:=H1) r c
  simp only[vL]
  by_cases e:c'=c
  ·subst e
   cases hi:dX m c' with
   |none=>simp[lk]
   |some b=>
    rw[hi]at ih
    simp only at ih⊢
    cases U:lk H1 b with
    |some o1=>simp[lk]
    |none=>
     rw[U]at ih
     simp only[Option.map_none]at ih⊢
     rw[ih]
     cases lk r c'<;>simp[lk]
  ·have hl:lk ((c',o)::r) c=lk r c:=by simp only[lk,iO e,cond_false]
   rw[hl]
   cases w6:dX m c' with
   |none=>simp only[lk,iO e,cond_false];exact ih
   |some b'=>
    simp only
    cases U:lk H1 b' with
    |some o1=>simp only[lk,iO e,cond_false];exact ih
    |none=>exact ih
theorem PE:∀(m:List (Nat×Nat)) (H1:aa) (c:Nat),c∈cu H1 m↔∃b,(b,c)∈m/\lk H1 b=none
 |[],H1,c=>by simp[cu]
 |(b',c')::r,H1,c=>by
  have ih:=PE r H1 c
  simp only[cu]
  cases h:lk H1 b' with
  |some o=>
   simp only
   rw[ih]
   constructor
   ·rintro⟨b,U,h2⟩;exact⟨b,List.mem_cons_of_mem _ U,h2⟩
   ·rintro⟨b,U,h2⟩
    rcases List.mem_cons.1 U with e|U
    ·cases e;rw[h]at h2;cases h2
    ·exact⟨b,U,h2⟩
  |none=>
   simp only[List.mem_cons]
   rw[ih]
   constructor
   ·rintro(rfl|⟨b,U,h2⟩)
    ·exact⟨b',.inl rfl,h⟩
    ·exact⟨b,.inr U,h2⟩
   ·rintro⟨b,U,h2⟩
    rcases U with e|U
    ·cases e;exact .inl rfl
    ·exact .inr ⟨b,U,h2⟩
def mG (l:List Nat) (φ:al):al:=fun c=>bif bY l c then none else φ c
theorem Kg (d:Nat) (l:List Nat) (φ:al):mG (d::l) φ=mG l (hQ φ d):=by
 funext c
 simp only[mG,bY,hQ]
 by_cases e:c=d
 ·subst e;simp
 ·rw[iO (Ne.symm e),if_neg e];rfl
theorem DW {w:World} {I:Nat->Prop}:∀(l:List Nat) (φ:al) (E:Env) (i:Nat) (x:AV),lk (fV l E) i=some x->∃y,lk E i=some y/\∀u,AV.den w φ I y u->AV.den w (mG l φ) I x u
 |[],φ,E,i,x,h=>⟨x,h,fun _ h=>h⟩
 |d::l,φ,E,i,x,h=>by
  obtain⟨y,hy,iX⟩:=DW (w:=w) (I:=I) l (hQ φ d) (killE d E) i x h
  obtain⟨z,hz,H_⟩:=qu (w:=w) (φ:=φ) (φ':=hQ φ d) (I:=I) (b:=d) (fun b' bK=>by simp[hQ,bK]) E i y hy
  exact⟨z,hz,fun u hu=>by rw[Kg];exact iX u (H_ u hu)⟩
theorem Qa {w:World} {I:Nat->Prop} {b:Nat} {el:Sh} {cs:List AV} {us:List Value} {H:aa}:∀(l:List Nat) (φ:al),lO l H=true->lk H b=some (.var el cs)->AV.ab w φ I cs us->AV.ab w (mG l φ) I cs us
 |[],_,_,_,h=>h
 |d::l,φ,hn,hl,h=>by
  simp only[lO,Bool.and_eq_true]at hn
  rw[Kg]
  exact Qa l _ hn.2 hl (AV.pB (fun b' bK=>by simp[hQ,bK]) cs us (vJ H hn.1 b el cs hl) h)
theorem P_ {w:World} {I:Nat->Prop} {b:Nat} {l0 n:Nat} {st:iK} {fn:Func} {q:List Nat} {ps:List Tmp} {E:Env} {i:Nat} {x:AV} {u:Value} {H:aa}:∀(l:List Nat) (φ:al),lO l H=true->lk H b=some (.lp l0 n st fn q ps E)->lk E i=some x->AV.den w φ I x u->AV.den w (mG l φ) I x u
 |[],_,_,_,_,h=>h
 |d::l,φ,hn,hl,hx,h=>by
  simp only[lO,Bool.and_eq_true]at hn
  rw[Kg]
  exact P_ l _ hn.2 hl hx (AV.rS (fun b' bK=>by simp[hQ,bK]) x u (D8 E (Eb H hn.1 b l0 n st fn q ps E hl) i x hx) h)
theorem DZ {m:List (Nat×Nat)}:∀(H:aa) (c:Nat),dX m c=none->lk (dC m H) c=lk H c
 |[],_,_=>rfl
 |(c',o)::r,c,h=>by
  simp only[dC]
  by_cases e:c'=c
  ·subst e;rw[h];simp[lk]
  ·have hl:lk ((c',o)::r) c=lk r c:=by simp only[lk,iO e,cond_false]
   rw[hl]
   cases dX m c' with
   |none=>simp only[lk,iO e,cond_false];exact DZ r c h
   |some b=>exact DZ r c h
structure Hand (m:List (Nat×Nat)) (k:Nat) (H Hc:aa):Prop where
 keys:fx m=oh Hc
 nk:gG (fx m)=true
 nv:gG (kW m)=true
 pass:lP (bA m k) H Hc
 fresh:∀b o,lk H b=some o->b<k
section
variable {B:Bs} {φ bg:al} {I I1:Nat->Prop} {H H1 Hc:aa} {w w1:World} {m:List (Nat×Nat)} {k:Nat}
theorem qF {b c:Nat} (h:lk m b=some c):bA m k b=c:=by simp[bA,h]
theorem yn {b:Nat} (h:lk m b=none):bA m k b=k+b:=by simp[bA,h]
theorem Hand.bj (h:Hand m k H Hc) (b:Nat):(lk m b).isSome=(lk Hc b).isSome:=by rw[Pf,Pe,h.keys]
theorem Hand.get (h:Hand m k H Hc) {b c:Nat} (hb:lk m b=some c):∃o,lk Hc b=some o/\lk H c=some (dY (bA m k) o):=by
 have:=h.bj b
 rw[hb]at this
 cases hq:lk Hc b with
 |none=>rw[hq]at this;cases this
 |some o=>
  have h2:=Js Hc h.pass b o hq
  rw[qF hb]at h2
  exact⟨o,rfl,h2⟩
theorem Hand.J3 (h:Hand m k H Hc) {b c:Nat} (hb:lk m b=some c):c<k:=by
 obtain⟨o,_,h2⟩:=h.get hb
 exact h.fresh _ _ h2
theorem Hand.DO (h:Hand m k H Hc) {b c:Nat} (hb:lk m b=some c):dX m c=some b:=OU m b c h.nv (Pj m b c hb)
theorem Hand.xH (h:Hand m k H Hc) {b c:Nat} (hb:dX m c=some b):lk m b=some c:=Ph m b c h.nk (Ij m b c hb)
theorem Hand.OT (h:Hand m k H Hc) (b:Nat):dX m (k+b)=none:=by
 cases hq:dX m (k+b)with
 |none=>rfl
 |some x=>have:=h.J3 (h.xH hq);omega
theorem Hand.inj (h:Hand m k H Hc) {b b':Nat} (e:bA m k b=bA m k b'):b=b':=by
 cases U:lk m b with
 |some c=>
  rw[qF U]at e
  cases h2:lk m b' with
  |some c'=>
   rw[qF h2]at e
   subst e
   have:=h.DO U
   rw[h.DO h2]at this
   cases this;rfl
  |none=>rw[yn h2]at e;have:=h.J3 U;omega
 |none=>
  rw[yn U]at e
  cases h2:lk m b' with
  |some c'=>rw[qF h2]at e;have:=h.J3 h2;omega
  |none=>rw[yn h2]at e;omega
theorem Hand.out (h:Hand m k H Hc) (hS:St B φ I H w) {b:Nat} (hb:lk m b=none):φ (bA m k b)=none:=by
 rw[yn hb]
 refine hS.IQ ?_
 cases hq:lk H (k+b)with
 |none=>rfl
 |some o=>have:=h.fresh _ _ hq;omega
theorem Hand.real (h:Hand m k H Hc) (hS:St B φ I H w):Real w (fun b=>φ (bA m k b)) I Hc:=by
 refine⟨fun b=>?_,fun b o p hl hp=>?_,fun b g hp=>hS.real.off _ g hp,fun b b' g U h2=>h.inj (hS.real.inj _ _ g U h2),hS.real.bN⟩
 ·rw[<-h.bj b]
  cases hm:lk m b with
  |none=>show(φ (bA m k b)).isSome=_;rw[h.out hS hm];rfl
  |some c=>
   obtain⟨o,_,h2⟩:=h.get hm
   show(φ (bA m k b)).isSome=_
   rw[qF hm,hS.real.bj c,h2];rfl
 ·have h2:=Js Hc h.pass b o hl
  exact aaV (ρ:=bA m k) (φ':=φ) (fun _=>rfl) (hS.real.own _ _ p h2 hp)
def iI (m:List (Nat×Nat)) (k:Nat) (φ bg:al):al:=fun c=>match dX m c with
 |some b=>bg b
 |none=>if c<k then φ c else match lk m (c-k)with
  |some _=>none
  |none=>bg (c-k)
theorem wg {c b:Nat} (h:dX m c=some b):iI m k φ bg c=bg b:=by simp[iI,h]
theorem BO {c:Nat} (h:dX m c=none) (hc:c<k):iI m k φ bg c=φ c:=by simp[iI,h,hc]
theorem Hand.Ff (h:Hand m k H Hc) (b:Nat):iI m k φ bg (k+b)=match lk m b with|some _=>none|none=>bg b:=by
 have:¬k+b<k:=by omega
 simp only[iI,h.OT b,if_neg this,Nat.add_sub_cancel_left]
theorem Hand.cls (h:Hand m k H Hc) {c:Nat} {p:Option Nat} (hp:iI m k φ bg c=some p):(dX m c=none/\c<k/\φ c=some p)\/∃b,c=bA m k b/\bg b=some p:=by
 cases hi:dX m c with
 |some b=>
  rw[wg hi]at hp
  exact .inr ⟨b,(qF (h.xH hi)).symm,hp⟩
 |none=>
  rcases Nat.lt_or_ge c k with hc|hc
  ·rw[BO hi hc]at hp;exact .inl ⟨rfl,hc,hp⟩
  ·obtain⟨b,rfl⟩:∃b,c=k+b:=⟨c-k,by omega⟩
   rw[h.Ff b]at hp
   cases hm:lk m b with
   |some _=>rw[hm]at hp;cases hp
   |none=>rw[hm]at hp;exact .inr ⟨b,(yn hm).symm,hp⟩
theorem Hand.fwd (h:Hand m k H Hc) {b:Nat} {p:Option Nat} (hp:bg b=some p):iI m k φ bg (bA m k b)=some p:=by
 cases hm:lk m b with
 |some c=>rw[qF hm,wg (h.DO hm)];exact hp
 |none=>rw[yn hm,h.Ff b,hm];exact hp
theorem Hand.D0 (h:Hand m k H Hc) {c:Nat} (hc:c<k):lk (fo m k H H1) c=match dX m c with|none=>lk H c|some b=>(lk H1 b).map (dY (bA m k)):=by
 unfold fo
 rw[AW,IK H1 c hc,IL]
 simp only
 cases hi:dX m c with
 |none=>rfl
 |some b=>
  obtain⟨o,_,h2⟩:=h.get (h.xH hi)
  simp only[h2]
theorem Hand.IJ (h:Hand m k H Hc) (b:Nat):lk (fo m k H H1) (k+b)=match lk m b with|some _=>none|none=>(lk H1 b).map (dY (bA m k)):=by
 have hf:lk H (k+b)=none:=by
  cases hq:lk H (k+b)with
  |none=>rfl
  |some o=>have:=h.fresh _ _ hq;omega
 unfold fo
 rw[AW,Pg,IL,h.OT b,hf]
 cases lk m b with
 |some _=>rfl
 |none=>simp only;cases lk H1 b<;>rfl
theorem Hand.after (h:Hand m k H Hc) (nX:B.nb<=k) (hS:St B φ I H w) (U:St ⟨w,cZ (fun b=>φ (bA m k b)),I,fun b=>φ (bA m k b),bD Hc⟩ bg I1 H1 w1) (hd:lO (cu H1 m) (dC m H)=true):
  St B (iI m k φ bg) I1 (fo m k H H1) w1/\(∀c p,mG (cu H1 m) φ c=some p->iI m k φ bg c=some p)/\(∀g,I g->w1.heap[g]?=w.heap[g]?)/\(∀g,I g->I1 g)/\(∀c g n,mG (cu H1 m) φ c=some (some g)->shaped w g n->shaped w1 g n):=by
 have mV:∀g,I g->¬cZ (fun b=>φ (bA m k b)) g:=fun g hg ⟨b,hb⟩=>(hS.real.off _ g hb).1 hg
 have Di:∀g,I g->w1.heap[g]?=w.heap[g]?:=fun g hg=>U.ext.cm g (hS.real.bN g hg) (mV g hg)
 have dP:∀{b:Nat} {p:Option Nat},φ (bA m k b)=some p->∃c,lk m b=some c:=fun{b p} hp=>by
  cases hm:lk m b with
  |some c=>exact⟨c,rfl⟩
  |none=>rw[h.out hS hm]at hp;cases hp
 have rG:∀{c g:Nat},dX m c=none->φ c=some (some g)->¬cZ (fun b=>φ (bA m k b)) g:=fun{c g} hi hc ⟨b,hb⟩=>by
  obtain⟨c',hm⟩:=dP hb
  simp only[qF hm]at hb
  have:=hS.real.inj _ _ g hc hb
  subst this
  rw[h.DO hm]at hi;cases hi
 have ag:∀{c:Nat} {p:Option Nat},φ c=some p->c<k:=fun{c p} hc=>by
  have:=hS.real.bj c
  rw[hc]at this
  cases hq:lk H c with
  |none=>rw[hq]at this;cases this
  |some o=>exact h.fresh c o hq
 have NS:∀{b c:Nat},lk m b=some c->b<bD Hc:=fun{b c} hb=>by
  obtain⟨o,ho,_⟩:=h.get hb
  exact bZ Hc b o ho
 have CE:∀c p,mG (cu H1 m) φ c=some p->iI m k φ bg c=some p:=fun c p hc=>by
  have uT:bY (cu H1 m) c=false:=by
   cases hq:bY (cu H1 m) c with
   |false=>rfl
   |true=>simp[mG,hq]at hc
  have eC:φ c=some p:=by simpa[mG,uT]using hc
  cases hi:dX m c with
  |none=>rw[BO hi (ag eC)];exact eC
  |some b=>
   have hm:=h.xH hi
   rw[wg hi]
   cases hl:lk H1 b with
   |none=>
    have:=(DK (cu H1 m) c).2 ((PE m H1 c).2 ⟨b,Ij m b c hi,hl⟩)
    rw[uT]at this;cases this
   |some o=>exact U.cP b p o (NS hm) (by show φ (bA m k b)=_;rw[qF hm];exact eC) hl
 have cX:∀c g n,mG (cu H1 m) φ c=some (some g)->shaped w g n->shaped w1 g n:=fun c g n hc hs=>by
  have uT:bY (cu H1 m) c=false:=by
   cases hq:bY (cu H1 m) c with
   |false=>rfl
   |true=>simp[mG,hq]at hc
  have eC:φ c=some (some g):=by simpa[mG,uT]using hc
  cases hi:dX m c with
  |none=>exact U.ext.shaped (rG hi eC) hs
  |some b=>
   have dQ:=CE c _ hc
   rw[wg hi]at dQ
   obtain⟨cc,ee,jF,hn⟩:=hs
   obtain⟨c',kq,h2,h3⟩:=U.ext.form g cc ee _ jF
   have me:=U.real.bj b
   rw[dQ]at me
   cases hl:lk H1 b with
   |none=>rw[hl]at me;cases me
   |some o=>
    have aU:=U.real.own b o _ hl dQ
    have sY:kq=(0,0):=by
     cases o with
     |var e cs=>
      simp only[Ob.at]at aU
      obtain⟨g',us,bR,h4,_⟩:=aU
      cases bR
      exact h4.fz h2
     |vec e es rows=>
      simp only[Ob.at]at aU
      rcases aU with⟨h5,_⟩|⟨g',ae,rest,bR,h4,_⟩
      ·cases h5
      ·cases bR;rw[h2]at h4;cases h4;rfl
     |lp l n st fn q ps E=>
      simp only[Ob.at]at aU
      obtain⟨h0,T,D,cz,_,h4,_⟩:=aU
      cases h0;rw[h2]at h4;cases h4
    subst sY
    exact⟨c',ee,h2,by rw[h3];exact hn⟩
 refine⟨⟨⟨fun c=>?_,fun c o p hl hp=>?_,fun c g hp=>?_,fun c1 c2 g dQ e8=>?_,U.real.bN⟩,hS.ext.trans U.ext (fun g ⟨b,hb⟩=>hS.cf _ g hb),fun c g hp=>?_,fun g hg=>?_,fun g hg=>U.cC g (hS.cC g hg),fun c p o hc h0 hl=>?_⟩,CE,Di,U.cC,cX⟩
 ·rcases Nat.lt_or_ge c k with hc|hc
  ·rw[h.D0 hc]
   cases hi:dX m c with
   |none=>rw[BO hi hc];exact hS.real.bj c
   |some b=>rw[wg hi,U.real.bj b];simp
  ·obtain⟨b,rfl⟩:∃b,c=k+b:=⟨c-k,by omega⟩
   rw[h.IJ b,h.Ff b]
   cases hm:lk m b with
   |some _=>rfl
   |none=>simp only;rw[U.real.bj b];simp
 ·rcases Nat.lt_or_ge c k with hc|hc
  ·rw[h.D0 hc]at hl
   cases hi:dX m c with
   |none=>
    rw[hi]at hl
    rw[BO hi hc]at hp
    have bh:=hS.real.own c o p hl hp
    have jK:∀g,p=some g->w1.heap[g]?=w.heap[g]?:=fun g hg=>by
     subst hg
     exact U.ext.cm g (hS.real.off c g hp).2 (rG hi hp)
    cases o with
    |var e cs=>
     simp only[Ob.at]at bh⊢
     obtain⟨g,us,rfl,h2,h3,h4⟩:=bh
     refine⟨g,us,rfl,h2.cm (jK g rfl),?_,h4⟩
     have h5:=Qa (H:=dC m H) (b:=c) (el:=e) _ φ hd (by rw[DZ H c hi];exact hl) h3
     exact AV.fA Di U.cC CE cX cs us h5
    |vec e es rows=>
     simp only[Ob.at]at bh⊢
     rcases bh with h'|⟨g,ae,rest,rfl,h2,h3,h4⟩
     ·exact .inl h'
     ·exact .inr ⟨g,ae,rest,rfl,(jK g rfl).trans h2,IV.iQ Di U.cC rows ae h3,h4⟩
    |lp l n st fn q ps E=>
     simp only[Ob.at]at bh⊢
     obtain⟨rfl,T,D,cz,h2,h3,h4⟩:=bh
     refine⟨rfl,T,D,cz,h2,(jK l rfl).trans h3,fun i x hx=>?_⟩
     obtain⟨u,hu,mQ⟩:=h4 i x hx
     exact⟨u,hu,AV.j_ Di U.cC CE cX x u (P_ (H:=dC m H) (b:=c) _ φ hd (by rw[DZ H c hi];exact hl) hx mQ)⟩
   |some b=>
    rw[hi]at hl
    simp only at hl
    rw[wg hi]at hp
    cases hq:lk H1 b with
    |none=>rw[hq]at hl;cases hl
    |some o1=>rw[hq]at hl;cases hl;exact EA (fun b p hb=>h.fwd hb) (U.real.own b o1 p hq hp)
  ·obtain⟨b,rfl⟩:∃b,c=k+b:=⟨c-k,by omega⟩
   rw[h.IJ b]at hl
   rw[h.Ff b]at hp
   cases hm:lk m b with
   |some _=>rw[hm]at hl;cases hl
   |none=>
    rw[hm]at hl hp
    simp only at hl hp
    cases hq:lk H1 b with
    |none=>rw[hq]at hl;cases hl
    |some o1=>rw[hq]at hl;cases hl;exact EA (fun b p hb=>h.fwd hb) (U.real.own b o1 p hq hp)
 ·rcases h.cls hp with⟨hi,hc,bM⟩|⟨b,rfl,bM⟩
  ·have ho:=hS.real.off c g bM
   refine⟨fun hg=>?_,Nat.lt_of_lt_of_le ho.2 U.ext.size⟩
   rcases U.dj g hg with h2|h2|h2
   ·exact ho.1 h2
   ·exact rG hi bM h2
   ·have:=ho.2;have:w.heap.size<=g:=h2;omega
  ·exact U.real.off b g bM
 ·have mix:∀{c1 b2:Nat},dX m c1=none->φ c1=some (some g)->bg b2=some (some g)->False:=fun{c1 b2} hi qm vj=>by
   rcases U.cf b2 g vj with h2|h2
   ·exact rG hi qm h2
   ·have:=(hS.real.off c1 g qm).2;have:w.heap.size<=g:=h2;omega
  rcases h.cls dQ with⟨W5,wU,qm⟩|⟨b1,rfl,qm⟩<;>rcases h.cls e8 with⟨rA,sX,vj⟩|⟨b2,rfl,vj⟩
  ·exact hS.real.inj _ _ g qm vj
  ·exact(mix W5 qm vj).elim
  ·exact(mix rA vj qm).elim
  ·rw[U.real.inj _ _ g qm vj]
 ·rcases h.cls hp with⟨hi,hc,bM⟩|⟨b,rfl,bM⟩
  ·exact hS.cf c g bM
  ·rcases U.cf b g bM with⟨b',bK⟩|h2
   ·exact hS.cf _ g bK
   ·exact .inr (Nat.le_trans hS.ext.size h2)
 ·rcases U.dj g hg with h2|⟨b',bK⟩|h2
  ·exact hS.dj g h2
  ·exact .inr (hS.cf _ g bK)
  ·exact .inr (.inr (Nat.le_trans hS.ext.size h2))
 ·have fh:c<k:=Nat.lt_of_lt_of_le hc nX
  rw[h.D0 fh]at hl
  cases hi:dX m c with
  |none=>rw[hi]at hl;rw[BO hi fh];exact hS.cP c p o hc h0 hl
  |some b=>
   rw[hi]at hl
   simp only at hl
   have hm:=h.xH hi
   obtain⟨o',_,Hh⟩:=h.get hm
   have XJ:=hS.cP c p _ hc h0 Hh
   rw[wg hi]
   cases hq:lk H1 b with
   |none=>rw[hq]at hl;cases hl
   |some o1=>exact U.cP b p o1 (NS hm) (by show φ (bA m k b)=_;rw[qF hm];exact XJ) hq
end
section
variable {C:Cx} {K:List PK} {E:Env} {H:aa}
theorem Ei {f:FuncId} {eQ us xs:Array Value} {P:Program} {w:World} {t:TypeId} (uX:enters P f=true):
  (do let d<-Deferred.ofValue (.func (.func f) eQ us) xs;invoke d.target d.args:Sem Next).run P w= .ok (.enter f (eQ++xs++us).toList.toArray) w:=by
 simp only[Deferred.ofValue,Sem.run_bind,Sem.run_pure,Result.andThen_ok,invoke,Array.toArray_toList]
 rw[yq uX]
theorem AQ.oK (m:List (Nat×Nat)) {ds:List (Nat×Nat)} {i:Nat} {d:Option Nat} {ty:TypeId} {pos:String} {af:Array Edge} {os:List Oper} {br:Operand} {f:FuncId} {fs aN:List AV} {xs:List Operand} {a8:Array TypeId} {l ij:List AV} {Hc:aa} {R:AV->aa->Prop}
  (ah:ba C.n ({dst:=d,op:= .call {callee:= .value br,args:=xs.toArray,argTypes:=a8},type:=ty,pos:=pos,after:=af,guard:=none}::os)=true)
  (fB:ev E br=some (.fn f fs aN)) (hl:eB E xs=some l) (dT:gs l=true)
  (mi:fx m=oh Hc) (ml:gG (fx m)=true) (mm:gG (kW m)=true) (mn:lP (bA m (ay C.B.nb H)) H Hc)
  (dr:AV.cU (bA m (ay C.B.nb H)) ij=fs++l.map AV.st++aN) (hc:ai C.P f ij Hc R)
  (h:∀r H1,R r H1->lO (cu H1 m) (dC m H)=true/\AQ C (aZ d i ds) (i+1) os K (a7 d (AV.rn (bA m (ay C.B.nb H)) r) (fV (cu H1 m) E)) (fo m (ay C.B.nb H) H H1)):
  AQ C ds i ({dst:=d,op:= .call {callee:= .value br,args:=xs.toArray,argTypes:=a8},type:=ty,pos:=pos,after:=af,guard:=none}::os) K E H:=by
 obtain⟨hd,b7⟩:=ef ah
 generalize hk:ay C.B.nb H=k at*
 have hH:Hand m k H Hc:=⟨mi,ml,mm,mn,fun b o hb=>by have:=bZ H b o hb;have:=(dw C.B.nb H).2;omega⟩
 have bm:=h
 unfold AQ at bm⊢
 refine AO.step (o:={dst:=d,op:= .call {callee:= .value br,args:=xs.toArray,argTypes:=a8},type:=ty,pos:=pos,after:=af,guard:=none}) fun ops φ I a w aV _ hs Kn bG=>?_
 have hw:Region.wanted {dst:=d,op:= .call {callee:= .value br,args:=xs.toArray,argTypes:=a8},type:=ty,pos:=pos,after:=af,guard:=none} (yielded ops a.tmps)=true:=by simp[Region.wanted]
 rw[if_pos hw]
 have fZ:=aO hs.env fB
 simp only[AV.den]at fZ
 obtain⟨eQ,us,nT,dW,oW⟩:=fZ
 have aX:AV.ab w φ I (fs++l.map AV.st++aN) (eQ++xs.map a.eval++us):=nF _ _ _ _ (nF _ _ _ _ nT (nO hs.env _ _ hl dT)) dW
 rw[<-dr]at aX
 have zQ:=AV.r_ (ρ:=bA m k) (φ:=fun b=>φ (bA m k b)) (fun _=>rfl) _ _ aX
 have aF:(execOp a.eval {dst:=d,op:= .call {callee:= .value br,args:=xs.toArray,argTypes:=a8},type:=ty,pos:=pos,after:=af,guard:=none}).run C.P w= .ok (.enter f (eQ++xs.map a.eval++us).toArray) w:=by
  have:execOp a.eval {dst:=d,op:= .call {callee:= .value br,args:=xs.toArray,argTypes:=a8},type:=ty,pos:=pos,after:=af,guard:=none}=(do let d<-Deferred.ofValue (a.eval br) (xs.toArray.map a.eval);invoke d.target d.args):=rfl
  rw[this,oW,Ei (t:=ty) hc.gN]
  simp
 unfold Oper.wp
 rw[aF,Oper.upon_enter]
 refine(hc.run w (fun b=>φ (bA m k b)) I _ zQ (hH.real hs.st) hs.st.vk).mono fun e w' ⟨r,H1,bg,I1,v,hr,he,bc,hS⟩=>?_
 subst he
 obtain⟨eT,ji⟩:=bm r H1 hr
 obtain⟨mb,hf,jG,hI,cX⟩:=hH.after (by have:=(dw C.B.nb H).1;omega) hs.st hS eT
 refine bG _ _ (iI m k φ bg) I1 _ _ ji ?_
 have gW:bB C (iI m k φ bg) I1 (fV (cu H1 m) E) (fo m k H H1) a w':=by
  refine⟨hs.bF.mono jG hI,hs.bC,fun j x hx=>?_,mb⟩
  obtain⟨y,hy,iX⟩:=DW (w:=w) (I:=I) _ φ E j x hx
  obtain⟨u,hu,hd⟩:=hs.env j y hy
  exact⟨u,hu,AV.j_ jG hI hf cX x u (iX u hd)⟩
 exact gW.put mb (bE.refl w' (iI m k φ bg) I1) hd (AV.vW (φ':=iI m k φ bg) (fun b p hb=>hH.fwd (φ:=φ) hb) r v bc)
where
 nF {w:World} {φ:al} {I:Nat->Prop}:∀(xs ys:List AV) (us vs:List Value),AV.ab w φ I xs us->AV.ab w φ I ys vs->AV.ab w φ I (xs++ys) (us++vs)
  |[],ys,us,vs,U,h2=>by simp only[AV.ab]at U;subst U;simpa using h2
  |x::xs,ys,us,vs,U,h2=>by
   simp only[AV.ab]at U
   obtain⟨u,au,rfl,h3,h4⟩:=U
   simp only[List.cons_append,AV.ab]
   exact⟨u,_,rfl,h3,nF xs ys au vs h4 h2⟩
theorem AQ.bW (m:List (Nat×Nat)) {ds:List (Nat×Nat)} {i:Nat} {d:Option Nat} {ty:TypeId} {pos:String} {af:Array Edge} {os:List Oper} {br:Operand} {f:FuncId} {fs aN:List AV} {xs:List Operand} {a8:Array TypeId} {l ij:List AV} {Hc:aa} {R:AV->aa->Prop}
  (ah:ba C.n ({dst:=d,op:= .call {callee:= .value br,args:=xs.toArray,argTypes:=a8},type:=ty,pos:=pos,after:=af,guard:=none}::os)=true)
  (fB:ev E br=some (.fn f fs aN)) (hl:eB E xs=some l) (dT:gs l=true)
  (mi:fx m=oh Hc) (ml:gG (fx m)=true) (mm:gG (kW m)=true) (mn:lP (bA m (ay C.B.nb H)) H Hc)
  (dr:AV.cU (bA m (ay C.B.nb H)) ij=fs++l.map AV.st++aN) (hc:ai C.P f ij Hc R)
  (h:∀r H1,R r H1->lO (cu H1 m) (dC m H)=true/\vq C K os (aZ d i ds) (i+1) (a7 d (AV.rn (bA m (ay C.B.nb H)) r) (fV (cu H1 m) E)) (fo m (ay C.B.nb H) H H1)):
  AQ C ds i ({dst:=d,op:= .call {callee:= .value br,args:=xs.toArray,argTypes:=a8},type:=ty,pos:=pos,after:=af,guard:=none}::os) K E H:=
 AQ.oK m ah fB hl dT mi ml mm mn dr hc fun r H1 hr=>⟨(h r H1 hr).1,AQ.go (ef ah).2 (h r H1 hr).2⟩
end
attribute [go_sem] bA dX fx kW oh gG lP cu dC tF vL fo fV lO
def dO (l:List UInt8):List (List IV):=l.map fun b=>[.v (.int .u8 b.toNat)]
theorem pZ (l:List UInt8):(dO l).length=l.length:=by simp[dO]
theorem y5 {w:World} {I:Nat->Prop}:∀(l:List UInt8),IV.aM w I (dO l) (l.map fun b=>[Value.int .u8 b.toNat])
 |[]=>by simp[dO,IV.aM]
 |b::l=>by
  have ih:=y5 (w:=w) (I:=I) l
  simp only[dO,List.map_cons,IV.aM,IV.ab,IV.den]at ih⊢
  exact⟨_,_,rfl,⟨_,_,rfl,⟨rfl,rfl⟩,rfl⟩,ih⟩
theorem K6 (l:List UInt8):(l.map fun b=>[Value.int .u8 b.toNat]).flatten=l.map fun b=>Value.int .u8 b.toNat:=by
 induction l with
 |nil=>rfl
 |cons b l ih=>simp only[List.map_cons,List.flatten_cons,ih];rfl
theorem St.PY {B:Bs} {φ:al} {I:Nat->Prop} {H:aa} {w w':World} (h:St B φ I H w) (aT:w'.heap.size=w.heap.size+1) (hold:∀g,g<w.heap.size->w'.heap[g]?=w.heap[g]?)
  (rI:w'.os=w.os) (ht:w'.os=w.os) (vi:w'.output=w.output):
  St B φ (fun g=>I g\/g=w.heap.size) H w'/\bE w φ I w' φ (fun g=>I g\/g=w.heap.size):=by
 have hx:Ext (fun _=>False) w w':=⟨by omega,fun g hg _=>hold g hg,fun g c e fz hc=>⟨c,fz,(hold g (by
   rcases Nat.lt_or_ge g w.heap.size with h'|h'
   ·exact h'
   ·rw[Array.getElem?_eq_none h']at hc;cases hc)).trans hc,rfl⟩,rI,ht,vi⟩
 have k:bE w φ I w' φ (fun g=>I g\/g=w.heap.size):=
  ⟨fun g hg=>hold g (h.real.bN g hg),fun _ h=> .inl h,fun _ _ h=>h,fun _ g n _ hs=>hx.shaped (fun h=>h) hs⟩
 refine⟨⟨⟨h.real.bj,fun b' o' p hl hp=>?_,fun b' g hp=>?_,h.real.inj,fun g hg=>?_⟩,h.ext.trans hx (fun g hf=>hf.elim),h.cf,fun g hg=>?_,fun g hg=> .inl (h.cC g hg),h.cP⟩,k⟩
 ·refine Ob.k5 k.im k.I k.phi k.sh (fun g hg=>?_) (h.real.own b' o' p hl hp)
  subst hg
  exact hold g (h.real.off b' g hp).2
 ·have:=h.real.off b' g hp
  exact⟨fun hi=>hi.elim this.1 (by omega),by omega⟩
 ·rcases hg with hg|rfl
  ·have:=h.real.bN g hg;omega
  ·omega
 ·rcases hg with hg|rfl
  ·exact h.dj g hg
  ·exact .inr (.inr h.ext.size)
theorem St.outside {B:Bs} {φ:al} {I:Nat->Prop} {H:aa} {w w':World} (h:St B φ I H w) {g0:Nat} (hI:¬I g0) (az:∀b,φ b≠some (some g0)) (ho:B.own g0\/B.w0.heap.size<=g0) (ag:g0<w.heap.size)
  (aT:w'.heap.size=w.heap.size) (hold:∀g,g≠g0->w'.heap[g]?=w.heap[g]?) (hf:∀c e fz,w.heap[g0]?=some (.cells c e fz)->∃kq,w'.heap[g0]?=some (.cells c e kq))
  (rI:w'.os=w.os) (ht:w'.os=w.os) (vi:w'.output=w.output):
  St B φ (fun g=>I g\/g=g0) H w'/\bE w φ I w' φ (fun g=>I g\/g=g0):=by
 have hx:Ext (fun g=>g=g0) w w':=⟨by omega,fun g hg hn=>hold g hn,fun g c e fz hc=>by
   by_cases e1:g=g0
   ·subst e1;obtain⟨kq,h2⟩:=hf c e fz hc;exact⟨c,kq,h2,rfl⟩
   ·exact⟨c,fz,(hold g e1).trans hc,rfl⟩,rI,ht,vi⟩
 have k:bE w φ I w' φ (fun g=>I g\/g=g0):=
  ⟨fun g hg=>hold g (fun e=>by subst e;exact hI hg),fun _ h=> .inl h,fun _ _ h=>h,fun b g n hb hs=>hx.shaped (fun e=>by subst e;exact az b hb) hs⟩
 refine⟨⟨⟨h.real.bj,fun b' o' p hl hp=>?_,fun b' g hp=>?_,h.real.inj,fun g hg=>?_⟩,h.ext.trans hx (fun g hg=>by subst hg;exact ho),h.cf,fun g hg=>?_,fun g hg=> .inl (h.cC g hg),h.cP⟩,k⟩
 ·refine Ob.k5 k.im k.I k.phi k.sh (fun g hg=>?_) (h.real.own b' o' p hl hp)
  subst hg
  exact hold g (fun e=>by subst e;exact az b' hp)
 ·have:=h.real.off b' g hp
  refine⟨fun hi=>hi.elim this.1 (fun e=>by subst e;exact az b' hp),by omega⟩
 ·rcases hg with hg|rfl
  ·have:=h.real.bN g hg;omega
  ·omega
 ·rcases hg with hg|rfl
  ·exact h.dj g hg
  ·exact .inr ho
theorem Vg (w:World) (a:Addr) (n:Nat):(w.freeze a n).heap.size=w.heap.size:=by unfold World.freeze;split<;>simp
theorem Mv (w:World) (a:Addr) (n g:Nat) (h:g≠a.block):(w.freeze a n).heap[g]?=w.heap[g]?:=by
 unfold World.freeze
 split
 ·rfl
 ·simp only[Array.getElem?_modify,if_neg (Ne.symm h)]
theorem Mw (w:World) (a:Addr) (n:Nat) (c:Array Value) (e:TypeId) (fz:Nat×Nat) (h:w.heap[a.block]?=some (.cells c e fz)):∃kq,(w.freeze a n).heap[a.block]?=some (.cells c e kq):=by
 unfold World.freeze
 split
 ·exact⟨fz,h⟩
 ·simp only[Array.getElem?_modify,if_true,h,Option.map_some]
  exact⟨_,rfl⟩
section
variable {C:Cx} {K:List PK} {E:Env} {H:aa}
theorem AQ.s2b {ds:List (Nat×Nat)} {i:Nat} {d:Option Nat} {ty s dt e:TypeId} {x:Operand} {pos:String} {af:Array Edge} {os:List Oper} {l:List UInt8}
  (ah:ba C.n ({dst:=d,op:= .convert s dt x,type:=ty,pos:=pos,after:=af,guard:=none}::os)=true)
  (hx:ev E x=some (Sv l)) (hs:(C.P.underlying s).isSome=true) (hd:tk C.P dt= .slice e) (he:tk C.P e= .int .u8)
  (h:vq C K os (aZ d i ds) (i+1) (a7 d (.im (.sl 1 (dO l))) E) H):
  AQ C ds i ({dst:=d,op:= .convert s dt x,type:=ty,pos:=pos,after:=af,guard:=none}::os) K E H:=by
 obtain⟨fC,b7⟩:=ef ah
 have bm:=AQ.go b7 h
 unfold AQ at bm⊢
 refine AO.step (o:={dst:=d,op:= .convert s dt x,type:=ty,pos:=pos,after:=af,guard:=none}) fun ops φ I a w aV _ lC Kn bG=>?_
 have hw:Region.wanted {dst:=d,op:= .convert s dt x,type:=ty,pos:=pos,after:=af,guard:=none} (yielded ops a.tmps)=true:=by simp[Region.wanted]
 rw[if_pos hw]
 have hv:=aO lC.env hx
 rw[mM]at hv
 obtain⟨su,xl⟩:=Option.isSome_iff_exists.1 hs
 have aF:=Lib.run_convert_string_bytes (P:=C.P) w s dt e (BA l) xl (fc hd) (v_ he)
 have hex:(execOp a.eval {dst:=d,op:= .convert s dt x,type:=ty,pos:=pos,after:=af,guard:=none}).run C.P w= .ok (.value (.slice (some ⟨w.heap.size,0,none⟩) (BA l).size (grownCap w (BA l).size 0 e))) (Lib.bytesWorld w e (BA l)):=by
  simp only[execOp,hv,Sem.run_bind,aF,Result.andThen_ok,Sem.run_pure]
 unfold Oper.wp
 rw[hex,Oper.upon_value]
 have aT:=Lib.bytesWorld_size w e (BA l)
 have qk:∀{W:World} {a:Addr} {n:Nat},(W.freeze a n).os=W.os/\(W.freeze a n).tape=W.tape/\(W.freeze a n).output=W.output:=fun{W a n}=>by unfold World.freeze;split<;>exact⟨rfl,rfl,rfl⟩
 obtain⟨hS,hk⟩:=lC.st.PY (w':=Lib.bytesWorld w e (BA l)) aT (fun g hg=>Lib.bytesWorld_at_old w e (BA l) g hg)
  (by unfold Lib.bytesWorld;rw[qk.1];rfl) (by unfold Lib.bytesWorld;rw[qk.1];rfl) (by unfold Lib.bytesWorld;rw[qk.2.2];rfl)
 refine bG _ _ φ _ _ _ bm (lC.put hS hk fC ?_)
 simp only[AV.den,IV.den]
 refine⟨_,_,l.map fun b=>[Value.int .u8 b.toNat],by rw[pZ];rfl,by rw[pZ];have:=grownCap_ge w (BA l).size 0 e;rw[Fg]at this⊢;exact this,y5 l,fun vs dH=>by obtain⟨b,_,rfl⟩:=List.mem_map.1 dH;rfl,fun _=>⟨_,_,rfl,.inr rfl,fun j u hu=>?_⟩⟩
 have ej:=K6 l
 rw[ej,List.getElem?_map]at hu
 cases hj:l[j]? with
 |none=>rw[hj]at hu;cases hu
 |some b=>
  rw[hj]at hu
  simp only[Option.map_some,Option.some.injEq]at hu
  have rC:j<l.length:=by
   rcases Nat.lt_or_ge j l.length with h'|h'
   ·exact h'
   ·rw[List.getElem?_eq_none h']at hj;cases hj
  rw[Nat.zero_add,Lib.bytesWorld_cell w e (BA l) j (by rw[Fg];exact rC),wh,<-hu]
  rw[List.getD_eq_getElem?_getD,hj];rfl
theorem AQ.mark {ds:List (Nat×Nat)} {i:Nat} {d:Option Nat} {ty t e:TypeId} {x:Operand} {pos:String} {af:Array Edge} {os:List Oper} {b es n:Nat} {el:TypeId} {rows:List (List IV)}
  (ah:ba C.n ({dst:=d,op:= .convert t t x,type:=ty,pos:=pos,after:=af,guard:=none}::os)=true)
  (hx:ev E x=some (.os b es 0 n)) (hl:lk H b=some (.vec el es rows)) (hn:n=rows.length) (aK:Nat.beq n 0=false) (a_:noMen b (e6 b H)=true) (hd:tk C.P t= .slice e) (he:tk C.P e= .int .u8)
  (h:vq C K os (aZ d i ds) (i+1) (a7 d (.im (.sl es rows)) (killE b E)) (e6 b H)):
  AQ C ds i ({dst:=d,op:= .convert t t x,type:=ty,pos:=pos,after:=af,guard:=none}::os) K E H:=by
 obtain⟨fC,b7⟩:=ef ah
 have bm:=AQ.go b7 h
 unfold AQ at bm⊢
 refine AO.step (o:={dst:=d,op:= .convert t t x,type:=ty,pos:=pos,after:=af,guard:=none}) fun ops φ I a w aV _ lC Kn bG=>?_
 have hw:Region.wanted {dst:=d,op:= .convert t t x,type:=ty,pos:=pos,after:=af,guard:=none} (yielded ops a.tmps)=true:=by simp[Region.wanted]
 rw[if_pos hw]
 have hv:=aO lC.env hx
 simp only[AV.den]at hv
 have gU:n≠0:=fun e=>by rw[e]at aK;cases aK
 rcases hv with⟨_,_,h0,_⟩|⟨g,c,az,hv,ve,zM,cX⟩
 ·exact absurd h0 gU
 have bh:=lC.st.real.own b _ _ hl az
 simp only[Ob.at]at bh
 rcases bh with⟨U,_⟩|⟨g',ae,rest,bR,cB,hr,hlen⟩
 ·cases U
 cases bR
 rw[Nat.zero_mul]at hv
 have X4:w.shape? g=some (el,(ae.flatten++rest).toArray.size):=by unfold World.shape?;rw[cB]
 have aF:(convert t t (.slice (some ⟨g,0,none⟩) n c)).run C.P w= .ok (.slice (some ⟨g,0,none⟩) n c) (w.freeze ⟨g,(ae.flatten++rest).toArray.size,none⟩ 1):=by
  simp[convert,run_underlying (fc hd),run_underlying (v_ he),markStringish,X4]
 have hex:(execOp a.eval {dst:=d,op:= .convert t t x,type:=ty,pos:=pos,after:=af,guard:=none}).run C.P w= .ok (.value (.slice (some ⟨g,0,none⟩) n c)) (w.freeze ⟨g,(ae.flatten++rest).toArray.size,none⟩ 1):=by
  simp only[execOp,hv,Sem.run_bind,aF,Result.andThen_ok,Sem.run_pure]
 unfold Oper.wp
 rw[hex,Oper.upon_value]
 have qk:∀{W:World} {a:Addr} {n:Nat},(W.freeze a n).os=W.os/\(W.freeze a n).tape=W.tape/\(W.freeze a n).output=W.output:=fun{W a n}=>by unfold World.freeze;split<;>exact⟨rfl,rfl,rfl⟩
 have mV:=lC.st.real.off b g az
 have zS:=lC.forget b a_
 obtain⟨hS,hk⟩:=zS.st.outside (g0:=g) (w':=w.freeze ⟨g,(ae.flatten++rest).toArray.size,none⟩ 1) mV.1 (fun b' bK=>by
   simp only[hQ]at bK
   split at bK
   ·cases bK
   ·rename_i Xq;exact Xq (lC.st.real.inj b' b g bK az)) (lC.st.cf b g az) mV.2 (Vg _ _ _) (fun g' bR=>Mv _ _ _ _ bR)
  (fun c e fz hc=>Mw _ ⟨g,_,none⟩ _ c e fz hc) qk.1 qk.1 qk.2.2
 refine bG _ _ _ _ _ _ bm (zS.put hS hk fC ?_)
 obtain⟨kq,sY⟩:=Mw w ⟨g,(ae.flatten++rest).toArray.size,none⟩ 1 _ _ _ cB
 simp only[AV.den,IV.den]
 refine⟨_,c,ae,by rw[hn],by omega,IV.iQ (I:=I) (fun g1 oY=>Mv _ _ _ _ (fun e=>by subst e;exact mV.1 oY)) (fun _ h=> .inl h) rows ae hr,hlen,fun _=>⟨g,0,rfl,.inr rfl,fun j u hu=>?_⟩⟩
 have rC:j<ae.flatten.length:=by
  rcases Nat.lt_or_ge j ae.flatten.length with h'|h'
  ·exact h'
  ·rw[List.getElem?_eq_none h']at hu;cases hu
 simp only at sY
 simp only[World.cell?,sY,Nat.zero_add,Option.isSome_none,Bool.false_eq_true,if_false,List.getElem?_toArray]
 rw[List.getElem?_append_left rC];exact hu
end
section
variable {C:Cx} {K:List PK} {E:Env} {H:aa}
theorem AQ.K7 {ds:List (Nat×Nat)} {i:Nat} {d:Option Nat} {ty:TypeId} {pos:String} {af:Array Edge} {os:List Oper} {br:Operand} {f:FuncId} {fs aN:List AV} {xs:List Operand} {a8:Array TypeId} {l:List AV} {R:AV->Prop}
  (ah:ba C.n ({dst:=d,op:= .call {callee:= .value br,args:=xs.toArray,argTypes:=a8},type:=ty,pos:=pos,after:=af,guard:=none}::os)=true)
  (fB:ev E br=some (.fn f fs aN)) (hl:eB E xs=some l) (dT:gs l=true) (hc:ai C.P f (fs++l.map AV.st++aN) H (fun r' H'=>H'=H/\R r'))
  (bm:∀r,R r->AQ C (aZ d i ds) (i+1) os K (a7 d r E) H):
  AQ C ds i ({dst:=d,op:= .call {callee:= .value br,args:=xs.toArray,argTypes:=a8},type:=ty,pos:=pos,after:=af,guard:=none}::os) K E H:=by
 obtain⟨hd,b7⟩:=ef ah
 unfold AQ at bm⊢
 refine AO.step (o:={dst:=d,op:= .call {callee:= .value br,args:=xs.toArray,argTypes:=a8},type:=ty,pos:=pos,after:=af,guard:=none}) fun ops φ I a w aV _ hs Kn bG=>?_
 have hw:Region.wanted {dst:=d,op:= .call {callee:= .value br,args:=xs.toArray,argTypes:=a8},type:=ty,pos:=pos,after:=af,guard:=none} (yielded ops a.tmps)=true:=by simp[Region.wanted]
 rw[if_pos hw]
 have fZ:=aO hs.env fB
 simp only[AV.den]at fZ
 obtain⟨eQ,us,nT,dW,oW⟩:=fZ
 have aX:AV.ab w φ I (fs++l.map AV.st++aN) (eQ++xs.map a.eval++us):=AQ.oK.nF _ _ _ _ (AQ.oK.nF _ _ _ _ nT (nO hs.env _ _ hl dT)) dW
 have aF:(execOp a.eval {dst:=d,op:= .call {callee:= .value br,args:=xs.toArray,argTypes:=a8},type:=ty,pos:=pos,after:=af,guard:=none}).run C.P w= .ok (.enter f (eQ++xs.map a.eval++us).toArray) w:=by
  have:execOp a.eval {dst:=d,op:= .call {callee:= .value br,args:=xs.toArray,argTypes:=a8},type:=ty,pos:=pos,after:=af,guard:=none}=(do let d<-Deferred.ofValue (a.eval br) (xs.toArray.map a.eval);invoke d.target d.args):=rfl
  rw[this,oW,Ei (t:=ty) hc.gN]
  simp
 unfold Oper.wp
 rw[aF,Oper.upon_enter]
 refine(hc.run w φ I _ aX hs.st.real hs.st.vk).mono fun e w' ⟨r,H1,bg,I1,v,⟨hH,hr⟩,he,bc,hS⟩=>?_
 subst he;subst hH
 have az:bg=φ:=by
  funext b
  have d1:=hS.real.bj b
  have d0:=hs.st.real.bj b
  cases fG:lk H1 b with
  |none=>
   rw[fG]at d1 d0
   cases U:bg b with
   |some _=>rw[U]at d1;cases d1
   |none=>
    cases h0:φ b with
    |some _=>rw[h0]at d0;cases d0
    |none=>rfl
  |some o=>
   rw[fG]at d0
   cases h0:φ b with
   |none=>rw[h0]at d0;cases d0
   |some p=>exact hS.cP b p o (bZ H1 b o fG) h0 fG
 subst az
 have jG:∀g,I g->w'.heap[g]?=w.heap[g]?:=fun g hg=>hS.ext.cm g (hs.st.real.bN g hg) (fun⟨b,hb⟩=>(hs.st.real.off b g hb).1 hg)
 have mb:St C.B bg I1 H1 w':=by
  refine⟨hS.real,hs.st.ext.trans hS.ext (fun g ⟨b,hb⟩=>hs.st.cf b g hb),fun b g hb=>hs.st.cf b g hb,fun g hg=>?_,fun g hg=>hS.cC g (hs.st.cC g hg),hs.st.cP⟩
  rcases hS.dj g hg with h2|⟨b',bK⟩|h2
  ·exact hs.st.dj g h2
  ·exact .inr (hs.st.cf _ g bK)
  ·exact .inr (.inr (Nat.le_trans hs.st.ext.size h2))
 have hk:bE w bg I w' bg I1:=by
  refine⟨jG,hS.cC,fun _ _ h=>h,fun b g n hb cX=>?_⟩
  obtain⟨cc,ee,jF,hn⟩:=cX
  obtain⟨c',kq,h2,h3⟩:=hS.ext.form g cc ee _ jF
  have me:=hS.real.bj b
  rw[hb]at me
  cases hl:lk H1 b with
  |none=>rw[hl]at me;cases me
  |some o=>
   have aU:=hS.real.own b o _ hl hb
   have sY:kq=(0,0):=by
    cases o with
    |var e cs=>
     simp only[Ob.at]at aU
     obtain⟨g',us,bR,h4,_⟩:=aU
     cases bR
     exact h4.fz h2
    |vec e es rows=>
     simp only[Ob.at]at aU
     rcases aU with⟨h5,_⟩|⟨g',ae,rest,bR,h4,_⟩
     ·cases h5
     ·cases bR;rw[h2]at h4;cases h4;rfl
    |lp l n st fn q ps E=>
     simp only[Ob.at]at aU
     obtain⟨h0,T,D,cz,_,h4,_⟩:=aU
     cases h0;rw[h2]at h4;cases h4
   subst sY
   exact⟨c',ee,h2,by rw[h3];exact hn⟩
 exact bG _ _ bg I1 _ _ (bm r hr) (hs.put mb hk hd bc)
theorem AQ.Uk {ds:List (Nat×Nat)} {i:Nat} {d:Option Nat} {ty:TypeId} {pos:String} {af:Array Edge} {os:List Oper} {br:Operand} {f:FuncId} {fs aN:List AV} {xs:List Operand} {a8:Array TypeId} {l:List AV} {R:AV->Prop}
  (ah:ba C.n ({dst:=d,op:= .call {callee:= .value br,args:=xs.toArray,argTypes:=a8},type:=ty,pos:=pos,after:=af,guard:=none}::os)=true)
  (fB:ev E br=some (.fn f fs aN)) (hl:eB E xs=some l) (dT:gs l=true) (hc:ai C.P f (fs++l.map AV.st++aN) H (fun r' H'=>H'=H/\R r'))
  (h:∀r,R r->vq C K os (aZ d i ds) (i+1) (a7 d r E) H):
  AQ C ds i ({dst:=d,op:= .call {callee:= .value br,args:=xs.toArray,argTypes:=a8},type:=ty,pos:=pos,after:=af,guard:=none}::os) K E H:=
 AQ.K7 ah fB hl dT hc fun r hr=>AQ.go (ef ah).2 (h r hr)
theorem AQ.Uj {ds:List (Nat×Nat)} {i:Nat} {d:Option Nat} {ty:TypeId} {pos:String} {af:Array Edge} {os:List Oper} {br:Operand} {f:FuncId} {fs aN:List AV} {xs:List Operand} {a8:Array TypeId} {l:List AV} {r:AV}
  (ah:ba C.n ({dst:=d,op:= .call {callee:= .value br,args:=xs.toArray,argTypes:=a8},type:=ty,pos:=pos,after:=af,guard:=none}::os)=true)
  (fB:ev E br=some (.fn f fs aN)) (hl:eB E xs=some l) (dT:gs l=true) (hc:ai C.P f (fs++l.map AV.st++aN) H (fun r' H'=>H'=H/\r'=r))
  (h:AQ C (aZ d i ds) (i+1) os K (a7 d r E) H):
  AQ C ds i ({dst:=d,op:= .call {callee:= .value br,args:=xs.toArray,argTypes:=a8},type:=ty,pos:=pos,after:=af,guard:=none}::os) K E H:=
 AQ.K7 ah fB hl dT hc fun r' hr=>by subst hr;exact h
theorem AQ.y7 {ds:List (Nat×Nat)} {i:Nat} {d:Option Nat} {ty:TypeId} {pos:String} {af:Array Edge} {os:List Oper} {br:Operand} {f:FuncId} {fs aN:List AV} {xs:List Operand} {a8:Array TypeId} {l:List AV} {r:AV}
  (ah:ba C.n ({dst:=d,op:= .call {callee:= .value br,args:=xs.toArray,argTypes:=a8},type:=ty,pos:=pos,after:=af,guard:=none}::os)=true)
  (fB:ev E br=some (.fn f fs aN)) (hl:eB E xs=some l) (dT:gs l=true) (hc:ai C.P f (fs++l.map AV.st++aN) H (fun r' H'=>H'=H/\r'=r))
  (h:vq C K os (aZ d i ds) (i+1) (a7 d r E) H):
  AQ C ds i ({dst:=d,op:= .call {callee:= .value br,args:=xs.toArray,argTypes:=a8},type:=ty,pos:=pos,after:=af,guard:=none}::os) K E H:=
 AQ.Uk ah fB hl dT hc fun r' hr=>by subst hr;exact h
end
mutual
def gw (b:Nat) (l:List IV):AV->AV
 | .ob b' o=>bif Nat.beq b' b then .im (.pt (l.drop o))else .ob b' o
 | .oe b' es i j=>bif Nat.beq b' b then .top else .oe b' es i j
 | .os b' es i n=>bif Nat.beq b' b then .top else .os b' es i n
 | .fn f fs aN=> .fn f (jg b l fs) (jg b l aN)
 | .agg cs=> .agg (jg b l cs)
 | .aI cs=> .aI (jg b l cs)
 | .opt g x=> .opt g (gw b l x)
 | .im x=> .im x
 | .ar x=> .ar x
 | .top=> .top
 | .mp b'=>bif Nat.beq b' b then .top else .mp b'
 | .wr k x=> .wr k (gw b l x)
def jg (b:Nat) (l:List IV):List AV->List AV
 |[]=>[]
 |x::xs=>gw b l x::jg b l xs
end
def rh (b:Nat) (l:List IV):Env->Env
 |[]=>[]
 |(i,x)::r=>(i,gw b l x)::rh b l r
def sN (b:Nat) (l:List IV):Ob->Ob
 | .var e cs=> .var e (jg b l cs)
 | .vec e es rs=> .vec e es rs
 | .lp l0 n st fn q ps E=> .lp l0 n st fn q ps (rh b l E)
def kg (b:Nat) (l:List IV):aa->aa
 |[]=>[]
 |(j,o)::r=>bif Nat.beq j b then kg b l r else(j,sN b l o)::kg b l r
theorem AZ {b:Nat} {l:List IV}:∀(H:aa),lk (kg b l H) b=none
 |[]=>rfl
 |(j,o)::r=>by
  simp only[kg]
  cases hq:Nat.beq j b with
  |true=>simpa using AZ r
  |false=>simpa[lk,hq]using AZ r
theorem AY {b:Nat} {l:List IV}:∀(H:aa) (b':Nat),b'≠b->lk (kg b l H) b'=(lk H b').map (sN b l)
 |[],_,_=>rfl
 |(j,o)::r,b',aK=>by
  simp only[kg]
  cases hq:Nat.beq j b with
  |true=>
   have u4:=Nat.eq_of_beq_eq_true hq
   subst u4
   simp only[cond_true,lk,iO (Ne.symm aK),cond_false]
   exact AY r b' aK
  |false=>
   simp only[cond_false,lk]
   cases jM:Nat.beq j b' with
   |true=>rfl
   |false=>simpa using AY r b' aK
theorem Gc {b:Nat} {l:List IV}:∀(E:Env) (i:Nat),lk (rh b l E) i=(lk E i).map (gw b l)
 |[],_=>rfl
 |(j,x)::r,i=>by
  simp only[rh,lk]
  cases Nat.beq j i with
  |true=>rfl
  |false=>simpa using Gc r i
section
variable {w:World} {φ φ':al} {I I':Nat->Prop} {b:Nat} {l:List IV}
mutual
theorem zp (az:∀b',b'≠b->φ' b'=φ b') (hI:∀g,I g->I' g) (hb:∃g us,φ b=some (some g)/\I' g/\IV.ab w I l us/\c8 w g 0 us):∀(x:AV) (u:Value),AV.den w φ I x u->AV.den w φ' I' (gw b l x) u
 | .ob b' o,u,hx=>by
  simp only[gw]
  cases hq:Nat.beq b' b with
  |true=>
   have e:=Nat.eq_of_beq_eq_true hq
   subst e
   obtain⟨g,us,U,h2,h3,h4⟩:=hb
   simp only[AV.den]at hx
   obtain⟨g',bR,rfl⟩:=hx
   rw[U]at bR;cases bR
   simp only[cond_true,AV.den,IV.den]
   refine⟨g,o,us.drop o,rfl,h2,IV.fA (fun _ _=>rfl) hI _ _ (xG o _ _ h3),fun j v hv=>?_⟩
   rw[List.getElem?_drop]at hv
   have:=h4 (o+j) v hv
   rwa [Nat.zero_add]at this
  |false=>
   simp only[cond_false,AV.den]at hx⊢
   rw[az b' (fun e=>by subst e;simp at hq)];exact hx
 | .oe b' _ _ _,u,hx=>by
  simp only[gw]
  cases hq:Nat.beq b' b with
  |true=>simp only[cond_true,AV.den]
  |false=>simp only[cond_false,AV.den]at hx⊢;rw[az b' (fun e=>by subst e;simp at hq)];exact hx
 | .os b' _ _ _,u,hx=>by
  simp only[gw]
  cases hq:Nat.beq b' b with
  |true=>simp only[cond_true,AV.den]
  |false=>simp only[cond_false,AV.den]at hx⊢;rw[az b' (fun e=>by subst e;simp at hq)];exact hx
 | .fn f fs aN,u,hx=>by simp only[gw];simp only[AV.den]at hx⊢;obtain⟨us,vs,U,h2,h3⟩:=hx;exact⟨us,vs,wI az hI hb fs us U,wI az hI hb aN vs h2,h3⟩
 | .agg cs,u,hx=>by simp only[gw];simp only[AV.den]at hx⊢;obtain⟨us,U,h2⟩:=hx;exact⟨us,wI az hI hb cs us U,h2⟩
 | .aI cs,u,hx=>by simp only[gw];simp only[AV.den]at hx⊢;obtain⟨us,U,h2⟩:=hx;exact⟨us,wI az hI hb cs us U,h2⟩
 | .opt g x,u,hx=>by simp only[gw];simp only[AV.den]at hx⊢;exact⟨fun hg=>zp az hI hb x u (hx.1 hg),hx.2⟩
 | .im x,u,hx=>by simp only[gw];simp only[AV.den]at hx⊢;exact IV.j_ (fun _ _=>rfl) hI x u hx
 | .ar xs,u,hx=>by simp only[gw];simp only[AV.den]at hx⊢;obtain⟨us,U,h2⟩:=hx;exact⟨us,IV.fA (fun _ _=>rfl) hI xs us U,h2⟩
 | .top,_,_=>by simp only[gw,AV.den]
 | .mp b',u,hx=>by
  simp only[gw]
  cases hq:Nat.beq b' b with
  |true=>simp only[cond_true,AV.den]
  |false=>simp only[cond_false,AV.den]at hx⊢;rw[az b' (fun e=>by subst e;simp at hq)];exact hx
 | .wr k x,u,hx=>by simp only[gw];simp only[AV.den]at hx⊢;obtain⟨v,U,h2⟩:=hx;exact⟨v,U,zp az hI hb x v h2⟩
theorem wI (az:∀b',b'≠b->φ' b'=φ b') (hI:∀g,I g->I' g) (hb:∃g us,φ b=some (some g)/\I' g/\IV.ab w I l us/\c8 w g 0 us):∀(xs:List AV) (us:List Value),AV.ab w φ I xs us->AV.ab w φ' I' (jg b l xs) us
 |[],us,h=>by simpa only[jg,AV.ab]using h
 |x::xs,us,h=>by
  simp only[AV.ab]at h
  simp only[jg,AV.ab]
  obtain⟨u,au,e,U,h2⟩:=h
  exact⟨u,au,e,zp az hI hb x u U,wI az hI hb xs au h2⟩
end
theorem St.fix {B:Bs} {H:aa} {el:TypeId} {cs:List AV} (h:St B φ I H w) (hl:lk H b=some (.var (.cell el) cs)) (rB:nc cs=some l):
  ∃φ' I',St B φ' I' (kg b l H) w/\(∀g,I g->I' g)/\∀(x:AV) (u:Value),AV.den w φ I x u->AV.den w φ' I' (gw b l x) u:=by
 obtain⟨p,hp⟩:∃p,φ b=some p:=by
  have:=h.real.bj b
  rw[hl]at this
  cases hq:φ b with
  |none=>rw[hq]at this;cases this
  |some p=>exact⟨p,rfl⟩
 have aU:=h.real.own b _ p hl hp
 simp only[Ob.at,Sh.has,Sh.one]at aU
 obtain⟨g0,JY,rfl,cB,oX,h1c⟩:=aU
 have hb:∃g us,φ b=some (some g)/\(I g\/φ b=some (some g))/\IV.ab w I l us/\c8 w g 0 us:=by
  refine⟨g0,JY,hp,.inr hp,AJ cs l JY rB oX,fun j u hu=>?_⟩
  simp only[World.cell?,cB,Option.isSome_none,Bool.false_eq_true,if_false,List.getElem?_toArray,Nat.zero_add]
  exact hu
 have az:∀b',b'≠b->(fun i=>if i=b then none else φ i) b'=φ b':=fun b' hb=>by simp[hb]
 refine⟨fun i=>if i=b then none else φ i,fun g=>I g\/φ b=some (some g),⟨⟨fun b'=>?_,fun b' o p' aJ bM=>?_,fun b' g bM=>?_,fun b1 b2 g U h2=>?_,fun g hg=>?_⟩,h.ext,fun b' g bM=>?_,fun g hg=>?_,fun g hg=> .inl (h.cC g hg),fun b' g oo ag h0 aJ=>?_⟩,fun g hg=> .inl hg,fun x u hx=>zp az (fun g hg=> .inl hg) hb x u hx⟩
 ·by_cases aq:b'=b
  ·subst aq;rw[AZ];simp
  ·simp only[if_neg aq];rw[AY H b' aq,Option.isSome_map];exact h.real.bj b'
 ·by_cases aq:b'=b
  ·subst aq;rw[AZ]at aJ;cases aJ
  ·simp only[if_neg aq]at bM
   rw[AY H b' aq]at aJ
   cases hq:lk H b' with
   |none=>rw[hq]at aJ;cases aJ
   |some o1=>
    rw[hq]at aJ
    simp only[Option.map_some,Option.some.injEq]at aJ
    subst aJ
    have bh:=h.real.own b' o1 p' hq bM
    cases o1 with
    |var e cs'=>
     simp only[Ob.at,sN]at bh⊢
     obtain⟨g,us,U,h2,h3,h4⟩:=bh
     exact⟨g,us,U,h2,wI az (fun g hg=> .inl hg) hb cs' us h3,h4⟩
    |vec e eJ rs=>
     simp only[Ob.at,sN]at bh⊢
     rcases bh with h'|⟨g,ae,rest,U,h2,h3,h4⟩
     ·exact .inl h'
     ·exact .inr ⟨g,ae,rest,U,h2,IV.iQ (fun _ _=>rfl) (fun g hg=> .inl hg) rs ae h3,h4⟩
    |lp l0 n st fn q ps E=>
     simp only[Ob.at,sN]at bh⊢
     obtain⟨h0,T,D,cz,U,h2,h3⟩:=bh
     refine⟨h0,T,D,cz,U,h2,fun i x hx=>?_⟩
     rw[Gc]at hx
     cases hy:lk E i with
     |none=>rw[hy]at hx;cases hx
     |some y=>
      rw[hy]at hx
      simp only[Option.map_some,Option.some.injEq]at hx
      subst hx
      obtain⟨u,hu,hd⟩:=h3 i y hy
      exact⟨u,hu,zp az (fun g hg=> .inl hg) hb y u hd⟩
 ·by_cases aq:b'=b
  ·subst aq;simp at bM
  ·simp only[if_neg aq]at bM
   have:=h.real.off b' g bM
   exact⟨fun hg=>hg.elim this.1 (fun e=>aq (h.real.inj b' b g bM e)),this.2⟩
 ·by_cases e1:b1=b
  ·subst e1;simp at U
  ·by_cases e2:b2=b
   ·subst e2;simp at h2
   ·simp only[if_neg e1]at U
    simp only[if_neg e2]at h2
    exact h.real.inj b1 b2 g U h2
 ·rcases hg with hg|hg
  ·exact h.real.bN g hg
  ·exact(h.real.off b g hg).2
 ·by_cases aq:b'=b
  ·subst aq;simp at bM
  ·simp only[if_neg aq]at bM;exact h.cf b' g bM
 ·rcases hg with hg|hg
  ·exact h.dj g hg
  ·exact .inr (h.cf b g hg)
 ·by_cases aq:b'=b
  ·subst aq;rw[AZ]at aJ;cases aJ
  ·rw[AY H b' aq]at aJ
   simp only[if_neg aq]
   cases hq:lk H b' with
   |none=>rw[hq]at aJ;cases aJ
   |some o1=>exact h.cP b' g o1 ag h0 hq
theorem bB.fix {C:Cx} {E:Env} {H:aa} {a:Act} {el:TypeId} {cs:List AV} (h:bB C φ I E H a w) (hl:lk H b=some (.var (.cell el) cs)) (rB:nc cs=some l):
  ∃φ' I',bB C φ' I' (rh b l E) (kg b l H) a w:=by
 obtain⟨φ',I',hS,Gx,hd⟩:=h.st.fix hl rB
 refine⟨φ',I',h.bF.mono (fun _ _=>rfl) Gx,h.bC,fun i x hx=>?_,hS⟩
 rw[Gc]at hx
 cases hq:lk E i with
 |none=>rw[hq]at hx;cases hx
 |some y=>
  rw[hq]at hx;cases hx
  obtain⟨u,hu,dL⟩:=h.env i y hq
  exact⟨u,hu,hd y u dL⟩
end
section
variable {C:Cx} {K:List PK} {E:Env} {H:aa}
theorem AE.fix {e:Exit} (b:Nat) {el:TypeId} {cs:List AV} {l:List IV} (hl:lk H b=some (.var (.cell el) cs)) (rB:nc cs=some l) (h:AE C e K (rh b l E) (kg b l H)):AE C e K E H:=by
 unfold AE at h⊢
 intro φ I a w hs
 obtain⟨φ',I',da⟩:=hs.fix hl rB
 exact h φ' I' a w da
theorem AP.fix {p:List Nat} (b:Nat) {el:TypeId} {cs:List AV} {l:List IV} (hl:lk H b=some (.var (.cell el) cs)) (rB:nc cs=some l) (h:AP C p K (rh b l E) (kg b l H)):AP C p K E H:=by
 unfold AP at h⊢
 intro φ I a w hs
 obtain⟨φ',I',da⟩:=hs.fix hl rB
 exact h φ' I' a w da
theorem AQ.fix {ds:List (Nat×Nat)} {i:Nat} {rest:List Oper} (b:Nat) {el:TypeId} {cs:List AV} {l:List IV} (hl:lk H b=some (.var (.cell el) cs)) (rB:nc cs=some l) (h:AQ C ds i rest K (rh b l E) (kg b l H)):AQ C ds i rest K E H:=by
 unfold AQ at h⊢
 intro ops U h2 φ I a w hs
 obtain⟨φ',I',da⟩:=hs.fix hl rB
 exact h ops U h2 φ' I' a w da
end
attribute [go_sem] gw jg rh sN kg
theorem St.aaQ {B:Bs} {φ:al} {I:Nat->Prop} {H:aa} {w:World} (h:St B φ I H w) {b:Nat} {e:Sh} {cs cs':List AV} (hl:lk H b=some (.var e cs)) (hd:∀us,AV.ab w φ I cs us->AV.ab w φ I cs' us):
  St B φ I (aR H b (.var e cs')) w:=by
 refine⟨⟨fun b'=>?_,fun b' o p aJ hp=>?_,h.real.off,h.real.inj,h.real.bN⟩,h.ext,h.cf,h.dj,h.cC,fun b' p o ag h0 aJ=>?_⟩
 ·by_cases aq:b'=b
  ·subst aq;rw[de H b' _ hl,h.real.bj b',hl];rfl
  ·rw[cD H b b' _ aq];exact h.real.bj b'
 ·by_cases aq:b'=b
  ·subst aq
   rw[de H b' _ hl]at aJ
   cases aJ
   have:=h.real.own b' _ p hl hp
   simp only[Ob.at]at this⊢
   obtain⟨g,us,U,h2,h3,h4⟩:=this
   exact⟨g,us,U,h2,hd us h3,h4⟩
  ·rw[cD H b b' _ aq]at aJ;exact h.real.own b' o p aJ hp
 ·by_cases aq:b'=b
  ·subst aq;exact h.cP b' p _ ag h0 hl
  ·rw[cD H b b' _ aq]at aJ;exact h.cP b' p o ag h0 aJ
theorem DV {w:World} {φ:al} {I:Nat->Prop} {b:Nat}:∀(cs:List AV) (us:List Value),AV.ab w φ I cs us->AV.ab w φ I (iY b cs) us
 |[],_,h=>h
 |x::cs,us,h=>by
  simp only[AV.ab]at h
  obtain⟨u,au,rfl,U,h2⟩:=h
  simp only[iY]
  cases hm:x.men b with
  |true=>simp only[cond_true,AV.ab,AV.den];exact⟨u,au,rfl,trivial,DV cs au h2⟩
  |false=>simp only[cond_false,AV.ab];exact⟨u,au,rfl,U,DV cs au h2⟩
def fl (b:Nat):Ob->Ob
 | .var e cs=> .var e (iY b cs)
 | .vec e es rows=> .vec e es rows
 | .lp l n st fn q ps E=> .lp l n st fn q ps (killE b E)
def kM (b:Nat):aa->aa
 |[]=>[]
 |(j,o)::r=>(j,fl b o)::kM b r
theorem tx {b:Nat}:∀(H:aa) (b':Nat),lk (kM b H) b'=(lk H b').map (fl b)
 |[],_=>rfl
 |(j,o)::r,b'=>by
  simp only[kM,lk]
  cases Nat.beq j b' with
  |true=>rfl
  |false=>simpa using tx r b'
theorem St.kill {B:Bs} {φ:al} {I:Nat->Prop} {H:aa} {w:World} (h:St B φ I H w) (b:Nat):St B φ I (kM b H) w:=by
 refine⟨⟨fun b'=>?_,fun b' o p aJ hp=>?_,h.real.off,h.real.inj,h.real.bN⟩,h.ext,h.cf,h.dj,h.cC,fun b' p o ag h0 aJ=>?_⟩
 ·rw[tx,Option.isSome_map];exact h.real.bj b'
 ·rw[tx]at aJ
  cases hq:lk H b' with
  |none=>rw[hq]at aJ;cases aJ
  |some o1=>
   rw[hq]at aJ;cases aJ
   have:=h.real.own b' o1 p hq hp
   cases o1 with
   |var e cs=>
    simp only[Ob.at,fl]at this⊢
    obtain⟨g,us,U,h2,h3,h4⟩:=this
    exact⟨g,us,U,h2,DV cs us h3,h4⟩
   |lp l n st fn q ps E=>
    simp only[Ob.at,fl]at this⊢
    obtain⟨h0,T,D,cz,U,h2,h3⟩:=this
    refine⟨h0,T,D,cz,U,h2,fun i x hx=>?_⟩
    obtain⟨y,hy,iX⟩:=qu (w:=w) (φ:=φ) (φ':=φ) (I:=I) (b:=b) (fun _ _=>rfl) E i x hx
    obtain⟨u,hu,hd⟩:=h3 i y hy
    exact⟨u,hu,iX u hd⟩
   |vec e es rows=>exact this
 ·rw[tx]at aJ
  cases hq:lk H b' with
  |none=>rw[hq]at aJ;cases aJ
  |some o1=>exact h.cP b' p o1 ag h0 hq
theorem LF {w:World} {φ:al} {I:Nat->Prop} {y:AV}:∀(cs:List AV) (i:Nat) (x:AV) (us:List Value),cs[i]?=some x->(∀u,AV.den w φ I x u->AV.den w φ I y u)->AV.ab w φ I cs us->AV.ab w φ I (cs.set i y) us
 |[],_,_,_,h,_,_=>by simp at h
 |c::cs,0,x,us,h,hi,hd=>by
  simp only[List.getElem?_cons_zero,Option.some.injEq]at h
  subst h
  simp only[AV.ab]at hd
  obtain⟨u,au,rfl,U,h2⟩:=hd
  simp only[List.set_cons_zero,AV.ab]
  exact⟨u,au,rfl,hi u U,h2⟩
 |c::cs,i+1,x,us,h,hi,hd=>by
  simp only[List.getElem?_cons_succ]at h
  simp only[AV.ab]at hd
  obtain⟨u,au,rfl,U,h2⟩:=hd
  simp only[List.set_cons_succ,AV.ab]
  exact⟨u,au,rfl,U,LF cs i x au h hi h2⟩
theorem bB.jv {C:Cx} {φ:al} {I:Nat->Prop} {E:Env} {H:aa} {a:Act} {w:World} (h:bB C φ I E H a w) {b off:Nat} {e:Sh} {cs:List AV} (hl:lk H b=some (.var e cs)) (hc:cs[off]?=some (.im (.v (.slice none 0 0)))) (el:TypeId) (es:Nat):
  ∃φ',bB C φ' I E ((ay C.B.nb H,.vec el es [])::aR H b (.var e (cs.set off (.os (ay C.B.nb H) es 0 0)))) a w:=by
 obtain⟨hS,hk⟩:=h.st.Bb (lN C.B.nb H) (dw C.B.nb H).1 el es
 have aK:b≠ay C.B.nb H:=fun e=>by rw[e,lN]at hl;cases hl
 have sZ:lk ((ay C.B.nb H,Ob.vec el es [])::H) b=some (.var e cs):=by simp only[lk,iO (Ne.symm aK),cond_false];exact hl
 have kz:=hS.aaQ (cs':=cs.set off (.os (ay C.B.nb H) es 0 0)) sZ (fun us hd=>LF cs off _ us hc (fun u hu=>by
  simp only[AV.den,IV.den]at hu⊢
  exact .inl ⟨by simp[aY],trivial,trivial,hu.1⟩) hd)
 refine⟨aY φ (ay C.B.nb H) none,h.bF,h.bC,fun i x hx=>?_,?_⟩
 ·obtain⟨u,hu,hd⟩:=h.env i x hx
  exact⟨u,hu,hk.den hd⟩
 ·have e2:aR ((ay C.B.nb H,Ob.vec el es [])::H) b (.var e (cs.set off (.os (ay C.B.nb H) es 0 0)))=(ay C.B.nb H,.vec el es [])::aR H b (.var e (cs.set off (.os (ay C.B.nb H) es 0 0))):=by
   simp only[aR,iO (Ne.symm aK),cond_false]
  rw[e2]at kz
  exact kz
section
variable {C:Cx} {K:List PK} {E:Env} {H:aa}
theorem AE.kill {e:Exit} (b:Nat) (h:AE C e K E (kM b H)):AE C e K E H:=by
 unfold AE at h⊢
 exact fun φ I a w hs=>h _ _ _ _ ⟨hs.bF,hs.bC,hs.env,hs.st.kill b⟩
theorem AP.kill {p:List Nat} (b:Nat) (h:AP C p K E (kM b H)):AP C p K E H:=by
 unfold AP at h⊢
 exact fun φ I a w hs=>h _ _ _ _ ⟨hs.bF,hs.bC,hs.env,hs.st.kill b⟩
theorem AQ.kill {ds:List (Nat×Nat)} {i:Nat} {rest:List Oper} (b:Nat) (h:AQ C ds i rest K E (kM b H)):AQ C ds i rest K E H:=by
 unfold AQ at h⊢
 exact fun ops U h2 φ I a w hs=>h ops U h2 _ _ _ _ ⟨hs.bF,hs.bC,hs.env,hs.st.kill b⟩
theorem AE.jv {x:Exit} (b off:Nat) (el:TypeId) (es:Nat) {e:Sh} {cs:List AV} (hl:lk H b=some (.var e cs)) (hc:cs[off]?=some (.im (.v (.slice none 0 0))))
  (h:AE C x K E ((ay C.B.nb H,.vec el es [])::aR H b (.var e (cs.set off (.os (ay C.B.nb H) es 0 0))))):AE C x K E H:=by
 unfold AE at h⊢
 exact fun φ I a w hs=>by
  obtain⟨φ',da⟩:=hs.jv hl hc el es
  exact h _ _ _ _ da
theorem AP.jv {p:List Nat} (b off:Nat) (el:TypeId) (es:Nat) {e:Sh} {cs:List AV} (hl:lk H b=some (.var e cs)) (hc:cs[off]?=some (.im (.v (.slice none 0 0))))
  (h:AP C p K E ((ay C.B.nb H,.vec el es [])::aR H b (.var e (cs.set off (.os (ay C.B.nb H) es 0 0))))):AP C p K E H:=by
 unfold AP at h⊢
 exact fun φ I a w hs=>by
  obtain⟨φ',da⟩:=hs.jv hl hc el es
  exact h _ _ _ _ da
theorem AQ.split {ds:List (Nat×Nat)} {i:Nat} {o:Oper} {os:List Oper} {G:Bool} (ah:∀x,o.dst=some x->x<C.n) (hG:gd ds E o.guard=some G)
  (ht:G=true->AQ C ds i ({o with guard:=none}::os) K E H) (hf:G=false->AQ C (aZ o.dst i ds) (i+1) os K (a7 o.dst (.opt false .top) E) H):AQ C ds i (o::os) K E H:=by
 cases G with
 |true=>exact AQ.nQ hG (ht rfl)
 |false=>exact AQ.wL ah hG (hf rfl)
end
attribute [go_sem] fl kM iY List.set_cons_zero List.set_cons_succ
end Go.AL
end
section
namespace Go.AL
open Go Go.Lib
def bV (l:List UInt8):List (List Value):=l.map fun b=>[Value.int .u8 b.toNat]
theorem Ch (l:List UInt8):(bV l).flatten=strCells (BA l):=by
 rw[bV,K6]
 simp[strCells,BA]
theorem T6 (l:List UInt8):(bV l).flatten.length=l.length:=by rw[Ch,strCells_length];rfl
theorem TR {P:Program} {B:Bs} {φ:al} {I:Nat->Prop} {H:aa} {w:World} (hS:St B φ I H w) {b n:Nat} {e t u ty:TypeId} {rows:List (List IV)} {s:Value} {l:List UInt8}
  (hs:AV.den w φ I (.os b 1 0 n) s) (hH:lk H b=some (.vec e 1 rows)) (hn:n=rows.length)
  (ht:tk P t= .slice e) (hu:tk P u= .str) (b5:sz P e=some 1) (hz:ax P e=some [.int .u8 0]) (fR:aQ P e=some 1)
  (cM:rows.length+l.length<=140737488355328/2):
  ∃v w' p',(Builtin.append_ #[t,u] ty #[s,.string (BA l)]).run P w= .ok v w'/\Ext (fun g=>φ b=some (some g)) w w'/\(Ob.vec e 1 (rows++dO l)).at w' (aY φ b p') I p'/\
   (∀g,p'=some g->φ b=some (some g)\/w.heap.size<=g)/\(∀g,p'=some g->g<w'.heap.size)/\AV.den w' (aY φ b p') I (.os b 1 0 (rows.length+l.length)) v:=by
 subst hn
 simp only[AV.den]at hs
 obtain⟨_,ie,f_,oZ⟩:=oA b5
 have zY:ie.bytes=1:=by
  unfold aQ at fR
  rw[f_]at fR
  simpa using fR
 obtain⟨z,fI,og⟩:∃z,ie.zero=some z/\z.cells.toList=[.int .u8 0]:=by
  unfold ax at hz
  rw[f_]at hz
  simp only[Option.bind_some]at hz
  cases AH:ie.zero with
  |none=>rw[AH]at hz;cases hz
  |some z=>rw[AH]at hz;exact⟨z,rfl,by simpa using hz⟩
 have ti:z.cells.size=1:=by rw[<-Array.length_toList,og];rfl
 have sR:∀{w':World},Ext (fun g=>φ b=some (some g)) w w'->∀g,I g->w'.heap[g]?=w.heap[g]?:=fun hx g hg=>hx.cm g (hS.real.bN g hg) (fun e=>(hS.real.off b g e).1 hg)
 have qp:∀p,aY φ b p b=some p:=fun p=>by simp[aY]
 have aU:=fun p hp=>hS.real.own b _ p hH hp
 simp only[Ob.at]at aU
 have aT:(BA l).size=l.length:=rfl
 have s4:maxLen=9223372036854775807\/140737488355328<=maxLen:=by right;unfold maxLen;omega
 have hmx:140737488355328<=maxLen:=by unfold maxLen;omega
 have HQ:∀vs∈bV l,vs.length=1:=fun vs dH=>by obtain⟨b,_,rfl⟩:=List.mem_map.1 dH;rfl
 rcases hs with⟨U,_,h2,rfl⟩|⟨g,c,U,rfl,h2,h3,h4⟩
 ·have lz:rows=[]:=List.eq_nil_of_length_eq_zero h2
  subst lz
  by_cases hm:l=[]
  ·subst hm
   refine⟨.slice none 0 0,w,none,?_,Ext.refl _ w,?_,fun g hg=>(by cases hg),fun g hg=>(by cases hg),?_⟩
   ·have hf:=run_firstCells_string (P:=P) w 1 (BA [])
    have h0:(BA []).size=0:=rfl
    rw[h0]at hf
    simp[Builtin.append_,run_underlying (fc ht),run_underlying (nz hu),sizeOf,typeInfo,f_,oZ,Builtin.lenOf,h0,hf]
   ·simp only[Ob.at];exact .inl ⟨by simp,rfl⟩
   ·simp only[AV.den];exact .inl ⟨qp _,by simp⟩
  ·have o9:0<l.length:=List.length_pos_iff.2 hm
   have aF:=run_append_nil_string (P:=P) w t u ty e ie z (fc ht) (nz hu) f_ fI (BA l) (by omega) (by rw[aT];simp at cM;omega) (by rw[zY,aT];simp at cM;omega)
   have e1:((BA l).data.map fun b=>Value.int .u8 b.toNat)=(strCells (BA l)).toArray:=by
    apply Array.ext'
    simp[strCells]
   rw[e1]at aF
   have cH:=grownCap_ge w (BA l).size 0 e
   have hle:=grownCap_le_maxLen w (BA l).size 0 e (by rw[aT];simp at cM;omega)
   have gj:=zl (own:=fun g=>φ b=some (some g)) (w:=w) (.cells ((strCells (BA l)).toArray++Builtin.zeroCells z.cells (grownCap w (BA l).size 0 e-(BA l).size)) e)
   refine⟨_,_,some w.heap.size,aF,gj,?_,fun g hg=> .inr (by cases hg;exact Nat.le_refl _),fun g hg=>(by cases hg;simp),?_⟩
   ·simp only[Ob.at,List.nil_append]
    refine .inr ⟨_,bV l,(Builtin.zeroCells z.cells (grownCap w (BA l).size 0 e-(BA l).size)).toList,rfl,?_,y5 l,HQ⟩
    rw[show(w.heap.size:Nat)=w.drew.heap.size from rfl,iL w.drew,Ch]
    congr 2
    apply Array.ext'
    simp
   ·simp only[AV.den]
    refine .inr ⟨_,_,qp _,by simp[aT],by simp only[List.length_nil,Nat.zero_add];rw[aT]at cH;exact cH,hle,_,e,iL w.drew _,?_⟩
    simp only[Array.size_append,List.size_toArray,size_zeroCells,ti,strCells_length,Nat.zero_add,Nat.mul_one]
    omega
 ·rcases aU (some g) U with⟨a_,_⟩|⟨g',ae,rest,hg,cB,hr,hl⟩
  ·cases a_
  cases hg
  have fw:=l7 rows ae hr
  have ej:=q9 ae 1 hl
  obtain⟨cc,ee,jF,GU⟩:=h4
  rw[cB]at jF
  cases jF
  have wW:c<=(ae.flatten++rest).length:=by simpa using GU
  have C6:ae.flatten.length=rows.length:=by rw[ej,fw,Nat.mul_one]
  simp only[Nat.zero_mul]
  by_cases vn:rows.length+(BA l).size<=c
  ·have aF:=run_append_room_string (P:=P) w t u ty e ie (fc ht) (nz hu) f_ oZ g rows.length c (ae.flatten++rest).toArray cB (BA l) vn (by simp only[List.size_toArray];omega)
   have e1:(ae.flatten++rest).toArray.toList.take rows.length=ae.flatten:=by
    simp only[]
    rw[<-C6];simp
   obtain⟨pJ,e2⟩:∃pJ,(ae.flatten++rest).toArray.toList.drop (rows.length+(BA l).size)=pJ:=⟨_,rfl⟩
   rw[e1,e2,<-Ch]at aF
   have Au:(ae.flatten++(bV l).flatten++pJ).toArray.size=(ae.flatten++rest).toArray.size:=by
    rw[<-e2]
    simp only[List.size_toArray,List.length_append,List.length_drop,T6]at wW⊢
    rw[C6]at wW⊢
    rw[aT]at vn⊢
    omega
   have gj:Ext (fun g=>φ b=some (some g)) w (w.setRow g (ae.flatten++(bV l).flatten++pJ).toArray):=(Md cB Au).J9 (fun g' bR=>by rw[bR];exact U)
   refine⟨_,_,some g,aF,gj,?_,fun g' hg=> .inl (by cases hg;exact U),fun g' hg=>(by cases hg;simpa using(hS.real.off b g U).2),?_⟩
   ·simp only[Ob.at]
    refine .inr ⟨g,ae++bV l,pJ,rfl,?_,uA _ _ _ _ (IV.iQ (sR gj) (fun _ h=>h) rows ae hr) (y5 l),fun vs hv=>?_⟩
    ·rw[setRow_heap w g _ _ e (0,0) cB];simp
    ·rcases List.mem_append.1 hv with hv|hv
     ·exact hl vs hv
     ·exact HQ vs hv
   ·simp only[AV.den]
    exact .inr ⟨g,c,qp _,by simp[aT],vn,h3,_,e,setRow_heap w g _ _ e (0,0) cB,by rw[Au,List.size_toArray,Nat.zero_add,Nat.mul_one];exact wW⟩
  ·have holds:∀j u,ae.flatten[j]?=some u->w.cell? ((⟨g,0,none⟩:Addr).add j)=some u:=fun j u hu=>by
    rw[addr_add,Nat.zero_add]
    have ag:j<ae.flatten.length:=by
     rcases Nat.lt_or_ge j ae.flatten.length with h|h
     ·exact h
     ·rw[List.getElem?_eq_none h]at hu;cases hu
    simp only[World.cell?,cB,Option.isSome_none,Bool.false_eq_true,if_false,List.getElem?_toArray]
    rw[List.getElem?_append_left ag];exact hu
   have aF:=run_append_grow_string (P:=P) w t u ty e ie z (fc ht) (nz hu) f_ fI ⟨g,0,none⟩ rows.length c ae.flatten (by rw[C6,oZ,Nat.mul_one]) holds (BA l) (by omega) (by rw[aT];omega) (growslice_fits (by omega) (by rw[zY,aT];omega))
   have cH:=grownCap_ge w (rows.length+(BA l).size) c e
   have hle:=grownCap_le_maxLen w (rows.length+(BA l).size) c e (by rw[aT];omega)
   have gj:=zl (own:=fun g=>φ b=some (some g)) (w:=w) (.cells (ae.flatten.toArray++(strCells (BA l)).toArray++Builtin.zeroCells z.cells (grownCap w (rows.length+(BA l).size) c e-(rows.length+(BA l).size))) e)
   refine⟨_,_,some w.heap.size,aF,gj,?_,fun g hg=> .inr (by cases hg;exact Nat.le_refl _),fun g hg=>(by cases hg;simp),?_⟩
   ·simp only[Ob.at]
    refine .inr ⟨_,ae++bV l,(Builtin.zeroCells z.cells (grownCap w (rows.length+(BA l).size) c e-(rows.length+(BA l).size))).toList,rfl,?_,uA _ _ _ _ (IV.iQ (sR gj) (fun _ h=>h) rows ae hr) (y5 l),fun vs hv=>?_⟩
    ·rw[show(w.heap.size:Nat)=w.drew.heap.size from rfl,iL w.drew,List.flatten_append,Ch]
     congr 2
     apply Array.ext'
     simp
    ·rcases List.mem_append.1 hv with hv|hv
     ·exact hl vs hv
     ·exact HQ vs hv
   ·simp only[AV.den]
    refine .inr ⟨_,_,qp _,by simp[aT],cH,hle,_,e,iL w.drew _,?_⟩
    simp only[Array.size_append,List.size_toArray,size_zeroCells,ti,strCells_length,C6,Nat.zero_add,Nat.mul_one]
    omega
section
variable {C:Cx} {K:List PK} {E:Env} {H:aa}
theorem AQ.TQ {ds:List (Nat×Nat)} {i:Nat} {d:Nat} {ty:TypeId} {pos:String} {af:Array Edge} {os:List Oper} {x y:Operand} {t u e:TypeId} {b n:Nat} {rows:List (List IV)} {l:List UInt8} (hnb:Nat.ble C.B.nb b=true)
  (ah:ba C.n ({dst:=some d,op:= .call {callee:= .builtin .append,args:=#[x,y],argTypes:=#[t,u]},type:=ty,pos:=pos,after:=af,guard:=none}::os)=true)
  (hx:ev E x=some (.os b 1 0 n)) (hy:ev E y=some (Sv l)) (hH:lk H b=some (.vec e 1 rows)) (a_:noMen b H=true)
  (ht:tk C.P t= .slice e) (hu:tk C.P u= .str) (b5:sz C.P e=some 1) (hz:ax C.P e=some [.int .u8 0]) (fR:aQ C.P e=some 1)
  (hn:n=rows.length) (cM:rows.length+l.length<=70368744177664)
  (h:vq C K os ((i,d)::ds) (i+1) ((d,.os b 1 0 (rows.length+l.length))::killE b E) (aR H b (.vec e 1 (rows++dO l)))):
  AQ C ds i ({dst:=some d,op:= .call {callee:= .builtin .append,args:=#[x,y],argTypes:=#[t,u]},type:=ty,pos:=pos,after:=af,guard:=none}::os) K E H:=by
 obtain⟨fC,b7⟩:=ef ah
 have bm:=AQ.go b7 h
 have uV:d<C.n:=fC d rfl
 unfold AQ at bm⊢
 refine AO.step (o:={dst:=some d,op:= .call {callee:= .builtin .append,args:=#[x,y],argTypes:=#[t,u]},type:=ty,pos:=pos,after:=af,guard:=none}) fun ops φ I a w aV _ hs Kn bG=>?_
 have hw:Region.wanted {dst:=some d,op:= .call {callee:= .builtin .append,args:=#[x,y],argTypes:=#[t,u]},type:=ty,pos:=pos,after:=af,guard:=none} (yielded ops a.tmps)=true:=by simp[Region.wanted]
 rw[if_pos hw]
 have od:=aO hs.env hy
 rw[mM]at od
 obtain⟨v,w',p',aF,dS,qj,dQ,e8,aX⟩:=TR (P:=C.P) (ty:=ty) hs.st (aO hs.env hx) hH hn ht hu b5 hz fR (l:=l) (by omega)
 have hS:=hs.st.move (Nat.le_of_ble_eq_true hnb) hH a_ (fun g hg aK=>dS.cm g hg aK) dS qj dQ e8
 have hI:∀g,I g->w'.heap[g]?=w.heap[g]?:=fun g hg=>dS.cm g (hs.st.real.bN g hg) (fun e=>(hs.st.real.off b g e).1 hg)
 have hex:(execOp a.eval {dst:=some d,op:= .call {callee:= .builtin .append,args:=#[x,y],argTypes:=#[t,u]},type:=ty,pos:=pos,after:=af,guard:=none}).run C.P w= .ok (.value v) w':=by
  simp only[execOp,resolve,invoke,builtin,Sem.run_bind,Sem.run_pure,Result.andThen_ok,List.map_toArray,List.map_cons,List.map_nil,od,aF]
 unfold Oper.wp
 rw[hex,Oper.upon_value]
 refine bG _ _ (aY φ b p') I _ _ bm ⟨hs.bF.mono hI (fun _ h=>h),by simpa[Act.put]using hs.bC,fun j y hj=>?_,hS⟩
 simp only[lk]at hj
 cases hb:Nat.beq d j with
 |true=>
  rw[hb]at hj
  have:=Nat.eq_of_beq_eq_true hb
  subst this
  simp only[cond_true,Option.some.injEq]at hj
  subst hj
  exact⟨v,by simp only[Act.put];rw[Array.getElem?_setIfInBounds_self_of_lt (by rw[hs.bC];exact uV)],aX⟩
 |false=>
  rw[hb]at hj
  simp only[cond_false]at hj
  obtain⟨y',vu,iX⟩:=qu (w:=w) (φ:=φ) (φ':=fun c=>if c=b then none else φ c) (I:=I) (b:=b) (fun b' bK=>by simp[bK]) E j y hj
  obtain⟨v',hv,bc⟩:=hs.env j y' vu
  refine⟨v',?_,AV.j_ hI (fun _ h=>h) (fun c p hc=>?_) (fun c g1 n hc da=>?_) _ _ (iX v' bc)⟩
  rotate_left
  ·by_cases e1:c=b
   ·simp[e1]at hc
   ·simpa[aY,e1]using hc
  ·by_cases e1:c=b
   ·simp[e1]at hc
   ·exact dS.shaped (fun ho=>e1 (hs.st.real.inj c b g1 (by simpa[e1]using hc) ho)) da
  simp only[Act.put]
  rw[Array.getElem?_setIfInBounds_ne (by intro e;subst e;simp at hb)]
  exact hv
end
section
variable {C:Cx} {K:List PK} {E:Env} {H:aa}
theorem AQ.val {ds:List (Nat×Nat)} {i:Nat} {o:Oper} {os:List Oper} (x:AV) (ah:ba C.n (o::os)=true) (hg:o.guard=none)
  (hex:∀φ I a w,bB C φ I E H a w->∃u,(execOp a.eval o).run C.P w= .ok (.value u) w/\AV.den w φ I x u)
  (h:vq C K os (aZ o.dst i ds) (i+1) (a7 o.dst x E) H):AQ C ds i (o::os) K E H:=by
 obtain⟨hd,b7⟩:=ef ah
 have bm:=AQ.go b7 h
 unfold AQ at bm⊢
 refine AO.step (o:=o) fun ops φ I a w aV _ hs Kn bG=>?_
 have hw:Region.wanted o (yielded ops a.tmps)=true:=by simp[Region.wanted,hg]
 rw[if_pos hw]
 obtain⟨u,aF,aX⟩:=hex φ I a w hs
 unfold Oper.wp
 rw[aF,Oper.upon_value]
 exact bG _ _ φ I _ _ bm (hs.put hs.st (bE.refl w φ I) hd aX)
end
theorem ai.drop {P:Program} {f:FuncId} {args:List AV} {H:aa} {r:AV} {R:AV->aa->Prop} (he:enters P f=true) (hr:r.free=true) (Wf:R r [])
  (
   h:∀(w:World) (φ:al) (I:Nat->Prop) (vs:List Value),AV.ab w φ I args vs->Real w φ I H->VK P w I->
   Calls P f vs.toArray w fun e w'=>∃v,e= .returned v/\AV.den w' φ I r v/\Ext (cZ φ) w w'):ai P f args H R:=by
 refine⟨he,fun w φ I vs hd hR hV=>(h w φ I vs hd hR hV).mono fun e w' ⟨v,he,hv,hx⟩=>?_⟩
 refine⟨r,[],fun _=>none,I,v,Wf,he,AV.re _ _ hr hv,?_⟩
 exact⟨⟨fun b=>rfl,fun b o p hl=>(by simp[lk]at hl),fun b g hp=>(by cases hp),fun b b' g hp=>(by cases hp),fun g hg=>Nat.lt_of_lt_of_le (hR.bN g hg) hx.size⟩,hx,fun b g hg=>(by cases hg),fun g hg=> .inl hg,fun g hg=>hg,fun _ _ _ _ _ hl=>by simp[lk]at hl⟩
theorem U8 {own:Nat->Prop} (w:World) (p:Addr) (n:Nat) (ho:own p.block):Ext own w (w.freeze p n):=by
 unfold World.freeze
 split
 ·exact Ext.refl own w
 ·refine⟨by simp,fun k hk hn=>?_,fun k c e fz hc=>?_,rfl,rfl,rfl⟩
  ·simp only[Array.getElem?_modify]
   rw[if_neg (by intro e;subst e;exact hn ho)]
  ·simp only[Array.getElem?_modify]
   by_cases hk:p.block=k
   ·subst hk
    rw[if_pos rfl,hc]
    simp only[Option.map_some]
    exact⟨c,_,rfl,rfl⟩
   ·rw[if_neg hk,hc]
    exact⟨c,fz,rfl,rfl⟩
theorem F4 {own:Nat->Prop} (w:World):Ext own w w.drew:=⟨Nat.le_refl _,fun _ _ _=>rfl,fun _ c _ fz h=>⟨c,fz,h,rfl⟩,rfl,rfl,rfl⟩
end Go.AL
end
section
namespace Go.AL
open Go Go.ChangeShapes Go.WideShapes
structure acA {H:Type} (bu:DataW H->Nat) (wm:List (DataW H)->Nat):Prop where
 one:∀d,1<=bu d
 str:∀l,bu (.lit (.string l))=l.length+1
 ptr:∀d,bu d+1<=bu (.ptr d)
 sli:∀e r,wm e+1<=bu (.slice e r)
 agg:∀l,wm l+1<=bu (.agg l)
 nil:wm []=0
 cons:∀d r,wm (d::r)=bu d+wm r
section
variable {H:Type} {bu:DataW H->Nat} {wm:List (DataW H)->Nat}
variable {enc:TypeId×Value->H} {P:Program} {w:World}
end
end Go.AL
end
section
namespace Go.AL
open Go
section
variable {C:Cx} {K:List PK} {E:Env} {H:aa}
def E6 (C:Cx) (K:List PK) (sk:List (Nat×AV)):List Oper->List (Nat×Nat)->Nat->Env->aa->Prop
 |[],ds,i,E,H=>AQ C ds i [] K E H
 |o::os,ds,i,E,H=>match lk sk i with
  |some x=>gd ds E o.guard=some false/\E6 C K sk os (aZ o.dst i ds) (i+1) (a7 o.dst (.opt false x) E) H
  |none=>match gd ds E o.guard with
  |none=>AQ C ds i (o::os) K E H
  |some G=>match iM C.P E H o.op with
   |some (sc,v)=>(G=true->sc)/\E6 C K sk os (aZ o.dst i ds) (i+1) (a7 o.dst (wrap o.guard G v) E) H
   |none=>match o.guard with
    |some _=>AQ C ds i (o::os) K E H
    |none=>match qS C.P C.B.nb C.ob E H o with
     |some (sc,v,H')=>sc/\E6 C K sk os (aZ o.dst i ds) (i+1) (a7 o.dst v E) H'
     |none=>AQ C ds i (o::os) K E H
end
attribute [go_sem] E6
inductive Tree where
 |node (R P es:List Nat) (ts:List Tree)
def oI (ops:List Oper) (i j:Nat):Bool:=match ops[i]? with
 |some o=>o.after.any fun e=>Region.binds .any e&&e.on==j
 |none=>false
def Cu (ops:List Oper) (i:Nat) (S:List Nat):Bool:=match ops[i]? with
 |some o=>o.after.all fun e=>!Region.binds .any e||bY S e.on
 |none=>false
def qz (o:Oper):Bool:=match o.op with
 | .select _ _=>false
 |_=>true
def qU:List Nat->Bool
 |[]=>true
 |i::r=>r.all (fun j=>decide (i<j))&&qU r
mutual
def yE (ops:List Oper) (n:Nat) (prev dq:List Nat):Tree->Bool
 | .node R P es ts=>
  qU R&&qU P&&R.all (bY prev)&&P.all (fun i=>decide (i<n)&&!bY prev i&&!bY dq i)&&
  (prev.all fun i=>bY R i||(List.range n).any fun x=>decide (i<x)&&(bY dq x||(bY prev x&&!bY R x))&&oI ops x i)&&
  P.all (fun i=>Cu ops i (prev++P++dq))&&
  ((List.range n).all fun i=>bY (prev++P) i||bY dq i||bY es i||(List.range n).any fun j=>oI ops i j&&!bY (prev++P) j&&!bY dq j)&&
  (!es.isEmpty||(List.range n).all fun i=>bY (prev++P) i||bY dq i)&&yF ops n (prev++P) dq es ts
def yF (ops:List Oper) (n:Nat) (prev dq:List Nat):List Nat->List Tree->Bool
 |[],[]=>true
 |x::es,t::ts=>decide (x<n)&&!bY prev x&&!bY dq x&&Cu ops x (prev++dq)&&yE ops n prev (x::dq) t&&yF ops n prev dq es ts
 |_,_=>false
end
mutual
def FY:Tree->List Nat
 | .node _ _ es ts=>es++LZ ts
def LZ:List Tree->List Nat
 |[]=>[]
 |t::ts=>FY t++LZ ts
end
mutual
def Bc (F:List Nat):Tree->Bool
 | .node _ P _ ts=>P.all (fun i=>!bY F i)&&Eu F ts
def Eu (F:List Nat):List Tree->Bool
 |[]=>true
 |t::ts=>Bc F t&&Eu F ts
end
theorem QI {F:List Nat}:∀{ts:List Tree} {t:Tree},Eu F ts=true->t∈ts->Bc F t=true
 |[],_,_,hm=>by cases hm
 |x::ts,t,h,hm=>by
  simp only[Eu,Bool.and_eq_true]at h
  rcases List.mem_cons.1 hm with rfl|hm
  ·exact h.1
  ·exact QI h.2 hm
def Cv (ops:List Oper) (n:Nat) (t:Tree):Bool:=C5 ops n (FY t)&&(ops.take n).all qz&&yE ops n [] [] t&&Bc (FY t) t
theorem nf:∀(l:List Nat) (i:Nat),bY l i=true↔i∈l
 |[],i=>by simp[bY]
 |j::l,i=>by
  simp only[bY,List.mem_cons]
  cases hb:Nat.beq j i with
  |true=>have:=Nat.eq_of_beq_eq_true hb;simp[this]
  |false=>
   have aK:i≠j:=fun e=>by subst e;simp at hb
   have:=nf l i
   simp[aK,this]
def EI (d:Option Nat) (x:AV) (E:Env):Prop:=match d with
 |none=>True
 |some d=>match lk E d with
  |none=>True
  |some .top=>True
  |some y=>y=x
def uo (P:Program) (E:Env) (H:aa) (op:Op) (G:Bool):Option (Prop×AV):=match iM P E H op with
 |some r=>some r
 |none=>match G with
  |false=>some (True,.top)
  |true=>none
def vR (C:Cx) (ops:List Oper) (H:aa):List Nat->List (Nat×Nat)->Env->Prop
 |[],_,_=>True
 |i::r,ds,E=>(match ops[i]? with
  |none=>False
  |some o=>match gd ds E o.guard with
   |none=>False
   |some G=>match uo C.P E H o.op G with
    |none=>False
    |some (sc,v)=>(G=true->sc)/\EI o.dst (wrap o.guard G v) E)/\vR C ops H r ds E
def vP (C:Cx) (ops:List Oper) (H:aa) (k:List (Nat×Nat)->Env->Prop):List Nat->List (Nat×Nat)->Env->Prop
 |[],ds,E=>k ds E
 |i::r,ds,E=>match ops[i]? with
  |none=>False
  |some o=>match gd ds E o.guard with
   |none=>False
   |some G=>match uo C.P E H o.op G with
    |none=>False
    |some (sc,v)=>(G=true->sc)/\vP C ops H k r (aZ o.dst i ds) (a7 o.dst (wrap o.guard G v) E)
def Cx.nr (C:Cx):Cx:={C with R:=fun _ _=>False,X:=fun _ _=>False}
def rZ (C:Cx) (K:List PK) (ops:List Oper):Exit->Act->World->Prop
 | .panic c,a,w=>∀a':Act,a'.defers=a.defers->a'.tmps.size=a.tmps.size->(∀t,(∀o∈ops,o.dst≠some t)->a'.tmps[t]?=a.tmps[t]?)->d_ C (K.map (PK.ki C.fn)) (.panic c) a' w
 |_,_,_=>False
def yP (C:Cx) (V:Env->aa->Prop) (a:Act) (w:World):Prop:=∃E1 H1 φ I,bB C φ I E1 H1 a w/\V E1 H1
mutual
def vd (C:Cx) (K:List PK) (ops:List Oper) (n:Nat):Tree->List (Nat×Nat)->Env->aa->Prop
 | .node R P es ts,ds,E,H=>vR C ops H R ds E/\vP C ops H (fun ds E=>match es with
  |[]=>vq C K (ops.drop n) [] n E H
  |_::_=>oC C K ops n es ts ds E H) P ds E
def oC (C:Cx) (K:List PK) (ops:List Oper) (n:Nat):List Nat->List Tree->List (Nat×Nat)->Env->aa->Prop
 |x::es,t::ts,ds,E,H=>(match ops[x]? with
   |none=>False
   |some o=>AQ C.nr ds x [o] [.lp (yP C (vd C K ops n t (aZ o.dst x ds))),.bot (rZ C K ops)] E H)/\oC C K ops n es ts ds E H
 |_,_,_,_,_=>True
end
theorem AQ.next {C:Cx} {K:List PK} {ops:List Oper} {n:Nat} {t:Tree} {ds jB:List (Nat×Nat)} {i:Nat} {E:Env} {H:aa} (h:vd C K ops n t jB E H):
  AQ C.nr ds i [] [.lp (yP C (vd C K ops n t jB)),.bot (rZ C K ops)] E H:=by
 unfold AQ AO
 intro _ _ _ φ I a w hs
 exact⟨E,H,φ,I,⟨hs.bF,hs.bC,hs.env,hs.st⟩,h⟩
def gI (L:Array Bool) (i:Nat):Prop:=L.getD i true=false
def nj (L:Array Bool) (i:Nat):Prop:=L.getD i false=true
structure qM (ops:List Oper) (S:List Nat) (L:Array Bool) (a g:Act):Prop where
 bF:a.defers=g.defers
 bC:a.tmps.size=g.tmps.size
 at':∀t,(∀i∈S,gI L i->(ops[i]?).bind (·.dst)≠some t)->a.tmps[t]?=g.tmps[t]?
def ug (P:Program) (ops:List Oper) (g:Act) (w:World) (o:Oper) (u:Value):Prop:=
 if Region.wanted o (yielded ops.toArray g.tmps)=true then(execOp g.eval o).run P w= .ok (.value u) w else u=undef
def mJ (P:Program) (ops:List Oper) (g:Act) (w:World) (i:Nat):Prop:=
 ∀o,ops[i]?=some o->∃u,ug P ops g w o u/\∀d,o.dst=some d->g.tmps[d]?=some u
theorem xZ {ops:List Oper} {o:Oper} (hs:qz o=true) {a g:Act} (h:∀t∈looks ops o,a.tmps[t]?=g.tmps[t]?):
  execOp a.eval o=execOp g.eval o/\Region.wanted o (yielded ops.toArray a.tmps)=Region.wanted o (yielded ops.toArray g.tmps):=by
 constructor
 ·refine execOp_congr o (fun cs b hc=>by simp[qz,hc]at hs) fun x hx=>?_
  cases x with
  |tmp t=>
   have:=h t (by simp only[looks];exact List.mem_append.2 (.inl (IX _ (by simpa using hx))))
   simp only[Act.eval,Array.getD_eq_getD_getElem?,this]
  |_=>rfl
 ·unfold Region.wanted
  cases hg:o.guard with
  |none=>rfl
  |some p=>
   obtain⟨j,want⟩:=p
   simp only
   have:yielded ops.toArray a.tmps j=yielded ops.toArray g.tmps j:=by
    unfold yielded
    cases hd:(ops.toArray[j]?).bind (·.dst)with
    |none=>rfl
    |some d=>
     have eZ:(ops[j]?).bind (·.dst)=some d:=by simpa using hd
     have:=h d (by simp only[looks,hg,eZ];simp)
     simp only[Option.bind_some,this]
   rw[this]
theorem QL {C:Cx} {φ:al} {I:Nat->Prop} {E:Env} {H:aa} {g:Act} {w:World} (hs:bB C φ I E H g w) {ops:List Oper} {ds:List (Nat×Nat)} (aV:∀j d,lk ds j=some d->(ops[j]?).bind (·.dst)=some d)
  {o:Oper} {G:Bool} {sc:Prop} {v:AV} (hG:gd ds E o.guard=some G) (hv:uo C.P E H o.op G=some (sc,v)) (aB:G=true->sc):∃u,ug C.P ops g w o u/\AV.den w φ I (wrap o.guard G v) u:=by
 have hw:=zq (ops:=ops.toArray) hs.env (fun j d hj=>by simpa using aV j d hj) hG
 unfold ug
 rw[hw]
 cases G with
 |true=>
  have jP:iM C.P E H o.op=some (sc,v):=by
   unfold uo at hv
   cases hq:iM C.P E H o.op with
   |some r=>rw[hq]at hv;exact hv
   |none=>rw[hq]at hv;cases hv
  obtain⟨u,hu,aX⟩:=yX hs.env hs.st.real jP (aB rfl)
  exact⟨u,by rw[if_pos rfl];exact hu,Ka aX⟩
 |false=>
  refine⟨undef,by simp,?_⟩
  cases hg:o.guard with
  |none=>rw[hg]at hG;simp[gd]at hG
  |some p=>exact Kb
theorem Act.qE {a:Act} {d:Option Tmp} {u:Value} {t:Nat} (h:d≠some t):(a.put d u).tmps[t]?=a.tmps[t]?:=by
 cases d with
 |none=>rfl
 |some d=>simp only[Act.put];rw[Array.getElem?_setIfInBounds_ne (fun e=>h (by rw[e]))]
theorem Act.tK {a:Act} {d:Option Tmp} {u:Value}:(a.put d u).tmps.size=a.tmps.size:=by cases d<;>simp[Act.put]
theorem Act.Bf {a:Act} {d:Option Tmp} {u:Value}:(a.put d u).defers=a.defers:=by cases d<;>rfl
theorem mJ.put {P:Program} {ops:List Oper} {n:Nat} {F:List Nat} (ah:qO ops n F) (jO:∀i o,i<n->ops[i]?=some o->qz o=true) {g:Act} {w:World} {i j:Nat} {o:Oper} {u:Value} (hi:i<n) (hj:j<n) (aK:i≠j)
  (ho:ops[j]?=some o) (X3:∀oi d,ops[i]?=some oi->o.dst=some d->d∉looks ops oi) (h:mJ P ops g w i):mJ P ops (g.put o.dst u) w i:=fun oi jI=>by
 obtain⟨v,hv,hd⟩:=h oi jI
 have hl:∀t∈looks ops oi,(g.put o.dst u).tmps[t]?=g.tmps[t]?:=fun t ht=>Act.qE fun e=>X3 oi t jI e ht
 obtain⟨U,h2⟩:=xZ (ops:=ops) (jO i oi hi jI) hl
 refine⟨v,by unfold ug at hv⊢;rw[U,h2];exact hv,fun d fC=>?_⟩
 rw[Act.qE fun e=>?_]
 ·exact hd d fC
 ·exact aK (ah.LQ j i d hj hi (by rw[ho];exact e) (by rw[jI];exact fC))
theorem eA.same {w:World} {φ:al} {I:Nat->Prop} {E:Env} {g:Act} {d:Option Nat} {x:AV} {u:Value} (hp:eA w φ I (a7 d x E) (g.put d u)) (hE:eA w φ I E g) (hs:EI d x E) (ag:∀t,d=some t->t<g.tmps.size):eA w φ I E (g.put d u):=fun t y hy=>by
 by_cases hd:d=some t
 ·subst hd
  simp only[EI,hy]at hs
  obtain⟨v,hv,aX⟩:=hp t x (by simp[a7,lk])
  refine⟨v,hv,?_⟩
  split at hs
  ·rename_i h;cases h
  ·rename_i h;cases h;simp only[AV.den]
  ·rename_i z _ h;cases h;rw[hs];exact aX
 ·obtain⟨v,hv,aX⟩:=hE t y hy
  exact⟨v,by rw[Act.qE hd];exact hv,aX⟩
theorem Q9 {C:Cx} {ops:List Oper} {n:Nat} {F:List Nat} (ah:qO ops n F) (fS:ba C.n ops=true) (jO:∀i o,i<n->ops[i]?=some o->qz o=true) {H:aa} {w:World} {φ:al} {I:Nat->Prop} {ds:List (Nat×Nat)} {E:Env} {S:List Nat} {L:Array Bool} {a:Act}
  (
   aV:∀j d,lk ds j=some d->(ops[j]?).bind (·.dst)=some d) (GC:∀i∈S,bY F i=false):∀(R D:List Nat) (g:Act),(∀i∈R,i<n/\i∈S)->(∀i∈D,i<n)->(∀i∈D,∀j∈R,i<j)->qU R=true->vR C ops H R ds E->bB C φ I E H g w->qM ops S L a g->
   (∀i∈D,gI L i->mJ C.P ops g w i)->∃g',bB C φ I E H g' w/\qM ops S L a g'/\∀i,(i∈D\/i∈R)->gI L i->mJ C.P ops g' w i
 |[],D,g,_,_,_,_,_,hs,ha,hp=>⟨g,hs,ha,fun i hi=>hp i (hi.resolve_right (by simp))⟩
 |j::R,D,g,hR,hD,Gt,sW,hv,hs,ha,hp=>by
  obtain⟨fE,G9⟩:=hR j (by simp)
  simp only[qU,Bool.and_eq_true,List.all_eq_true,decide_eq_true_eq]at sW
  simp only[vR]at hv
  obtain⟨iA,lD⟩:=hv
  have fin:∀g',bB C φ I E H g' w->qM ops S L a g'->(∀i∈D++[j],gI L i->mJ C.P ops g' w i)->∃g',bB C φ I E H g' w/\qM ops S L a g'/\∀i,(i∈D\/i∈j::R)->gI L i->mJ C.P ops g' w i:=fun g' da GI bM=>by
   obtain⟨g2,U,h2,h3⟩:=Q9 ah fS jO aV GC R (D++[j]) g' (fun i hi=>hR i (by simp[hi])) (fun i hi=>by
    rcases List.mem_append.1 hi with hi|hi
    ·exact hD i hi
    ·simp at hi;subst hi;exact fE) (fun i hi k hk=>by
    rcases List.mem_append.1 hi with hi|hi
    ·exact Gt i hi k (by simp[hk])
    ·simp at hi;subst hi;exact sW.1 k hk) sW.2 lD da GI bM
   refine⟨g2,U,h2,fun i hi=>h3 i ?_⟩
   rcases hi with hi|hi
   ·exact .inl (by simp[hi])
   ·rcases List.mem_cons.1 hi with rfl|hi
    ·exact .inl (by simp)
    ·exact .inr hi
  split at iA
  ·exact iA.elim
  ·rename_i o ho
   split at iA
   ·exact iA.elim
   ·rename_i G hG
    split at iA
    ·exact iA.elim
    ·rename_i sc v wR
     obtain⟨aB,HI⟩:=iA
     by_cases hu:gI L j
     ·obtain⟨u,Al,aX⟩:=QL hs aV hG wR aB
      have n_:=hs.put (d:=o.dst) (v:=wrap o.guard G v) (u:=u) hs.st (bE.refl w φ I) (fun x hx=>uB fS (List.mem_of_getElem? ho) x hx) aX
      have HL:∀t∈looks ops o,(g.put o.dst u).tmps[t]?=g.tmps[t]?:=fun t ht=>Act.qE fun e=>by
       have:=(ah.tE j o fE ho t ht j t fE (by rw[ho];exact e) rfl (GC j G9)).1
       omega
      refine fin (g.put o.dst u) ⟨n_.bF,n_.bC,eA.same n_.env hs.env HI (fun t ht=>by rw[hs.bC];exact uB fS (List.mem_of_getElem? ho) t ht),hs.st⟩
       ⟨by rw[Act.Bf];exact ha.bF,by rw[Act.tK];exact ha.bC,fun t ht=>?_⟩ (fun i hi xo=>?_)
      ·rw[Act.qE fun e=>ht j G9 hu (by rw[ho];exact e)]
       exact ha.at' t ht
      ·rcases List.mem_append.1 hi with hi|hi
       ·refine mJ.put ah jO (hD i hi) fE (by have:=Gt i hi j (by simp);omega) ho (fun oi d jI hd lr=>?_) (hp i hi xo)
        have:=(ah.tE i oi (hD i hi) jI d lr j d fE (by rw[ho];exact hd) rfl (GC j G9)).1
        have:=Gt i hi j (by simp)
        omega
       ·simp at hi
        subst hi
        intro o' qh
        rw[ho]at qh
        cases qh
        obtain⟨U,h2⟩:=xZ (ops:=ops) (jO i o fE ho) HL
        refine⟨u,by unfold ug at Al⊢;rw[U,h2];exact Al,fun d hd=>?_⟩
        have ag:d<g.tmps.size:=by rw[hs.bC];exact uB fS (List.mem_of_getElem? ho) d hd
        rw[hd];simp[Act.put,ag]
     ·refine fin g hs ha (fun i hi xo=>?_)
      rcases List.mem_append.1 hi with hi|hi
      ·exact hp i hi xo
      ·simp at hi;subst hi;exact absurd xo hu
def Sep (ops:List Oper) (i j:Nat):Prop:=∀oi oj d,ops[i]?=some oi->ops[j]?=some oj->oj.dst=some d->d∉looks ops oi
theorem LY {ops:List Oper} {ds:List (Nat×Nat)} {i:Nat} {o:Oper} (ho:ops[i]?=some o) (aV:∀j d,lk ds j=some d->(ops[j]?).bind (·.dst)=some d):∀j d,lk (aZ o.dst i ds) j=some d->(ops[j]?).bind (·.dst)=some d:=fun j d hj=>by
 unfold aZ at hj
 split at hj
 ·rename_i d' eZ
  simp only[lk]at hj
  cases hb:Nat.beq i j with
  |true=>
   rw[hb]at hj
   have:=Nat.eq_of_beq_eq_true hb
   subst this
   simp only[cond_true,Option.some.injEq]at hj
   subst hj
   rw[ho];exact eZ
  |false=>rw[hb]at hj;exact aV j d hj
 ·exact aV j d hj
theorem Q8 {C:Cx} {ops:List Oper} {n:Nat} {F:List Nat} (ah:qO ops n F) (fS:ba C.n ops=true) (jO:∀i o,i<n->ops[i]?=some o->qz o=true) {H:aa} {w:World} {φ:al} {I:Nat->Prop} {L:Array Bool} {a:Act} {k:List (Nat×Nat)->Env->Prop}:
  ∀(P D S:List Nat) (g:Act) (ds:List (Nat×Nat)) (E:Env),(∀j d,lk ds j=some d->(ops[j]?).bind (·.dst)=some d)->(∀i∈P,i<n/\gI L i/\bY F i=false)->(∀i∈D,i<n)->(∀i∈D,∀j∈P,i≠j/\Sep ops i j)->qU P=true->
   vP C ops H k P ds E->bB C φ I E H g w->qM ops S L a g->(∀i∈D,gI L i->mJ C.P ops g w i)->
   ∃jB E' g',k jB E'/\(∀j d,lk jB j=some d->(ops[j]?).bind (·.dst)=some d)/\bB C φ I E' H g' w/\qM ops (S++P) L a g'/\∀i,(i∈D\/i∈P)->gI L i->mJ C.P ops g' w i
 |[],D,S,g,ds,E,aV,_,_,_,_,hv,hs,ha,hp=>⟨ds,E,g,hv,aV,hs,by simpa using ha,fun i hi=>hp i (hi.resolve_right (by simp))⟩
 |j::P,D,S,g,ds,E,aV,hP,hD,Gq,sW,hv,hs,ha,hp=>by
  obtain⟨fE,rD,W8⟩:=hP j (by simp)
  simp only[qU,Bool.and_eq_true,List.all_eq_true,decide_eq_true_eq]at sW
  simp only[vP]at hv
  split at hv
  ·exact hv.elim
  ·rename_i o ho
   split at hv
   ·exact hv.elim
   ·rename_i G hG
    split at hv
    ·exact hv.elim
    ·rename_i sc v wR
     obtain⟨aB,vf⟩:=hv
     obtain⟨u,Al,aX⟩:=QL hs aV hG wR aB
     have n_:=hs.put (d:=o.dst) (v:=wrap o.guard G v) (u:=u) hs.st (bE.refl w φ I) (fun x hx=>uB fS (List.mem_of_getElem? ho) x hx) aX
     have HL:∀t∈looks ops o,(g.put o.dst u).tmps[t]?=g.tmps[t]?:=fun t ht=>Act.qE fun e=>by
      have:=(ah.tE j o fE ho t ht j t fE (by rw[ho];exact e) rfl W8).1
      omega
     have X2:∀i∈D++[j],i<n:=fun i hi=>by
      rcases List.mem_append.1 hi with hi|hi
      ·exact hD i hi
      ·simp at hi;subst hi;exact fE
     obtain⟨jB,E',g',U,h2,h3,h4,h5⟩:=Q8 (a:=a) ah fS jO P (D++[j]) (S++[j]) (g.put o.dst u) _ _ (LY ho aV) (fun i hi=>hP i (by simp[hi])) X2 (fun i hi x hx=>by
       rcases List.mem_append.1 hi with hi|hi
       ·exact Gq i hi x (by simp[hx])
       ·simp at hi;subst hi
        refine⟨by have:=sW.1 x hx;omega,fun oi ox d jI XE hd lr=>?_⟩
        have U:=(ah.tE i oi fE jI d lr x d (hP x (by simp[hx])).1 (by rw[XE];exact hd) rfl (hP x (by simp[hx])).2.2).1
        have:=sW.1 x hx
        omega) sW.2 vf n_
      ⟨by rw[Act.Bf];exact ha.bF,by rw[Act.tK];exact ha.bC,fun t ht=>by
       rw[Act.qE fun e=>ht j (by simp) rD (by rw[ho];exact e)]
       exact ha.at' t fun i hi=>ht i (by simp[hi])⟩
      (
       fun i hi xo=>by
       rcases List.mem_append.1 hi with hi|hi
       ·exact mJ.put ah jO (hD i hi) fE (Gq i hi j (by simp)).1 ho (fun oi d jI hd lr=>(Gq i hi j (by simp)).2 oi o d jI ho hd lr) (hp i hi xo)
       ·simp at hi
        subst hi
        intro o' qh
        rw[ho]at qh
        cases qh
        obtain⟨U,h2⟩:=xZ (ops:=ops) (jO i o fE ho) HL
        refine⟨u,by unfold ug at Al⊢;rw[U,h2];exact Al,fun d hd=>?_⟩
        have ag:d<g.tmps.size:=by rw[hs.bC];exact uB fS (List.mem_of_getElem? ho) d hd
        rw[hd];simp[Act.put,ag])
     refine⟨jB,E',g',U,h2,h3,by simpa using h4,fun i hi=>h5 i ?_⟩
     rcases hi with hi|hi
     ·exact .inl (by simp[hi])
     ·rcases List.mem_cons.1 hi with rfl|hi
      ·exact .inl (by simp)
      ·exact .inr hi
theorem aaj {C:Cx} {ops:List Oper} {o:Oper} (hs:qz o=true) {a g:Act} {w:World} (hl:∀t∈looks ops o,a.tmps[t]?=g.tmps[t]?) (p_:a.defers=g.defers) {J J':Act->World->Prop} {Q Q':Exit->Act->World->Prop}
  (hq:∀c w,Q (.panic c) g w->Q' (.panic c) a w) (ho:¬LetsOut Q) (hn:∀dd v w',J (({g with defers:=dd}:Act).put o.dst v) w'->J' (({a with defers:=dd}:Act).put o.dst v) w') (h:o.wp C.P g w J Q):o.wp C.P a w J' Q':=by
 have Ah:∀v w',J (g.put o.dst v) w'->J' (a.put o.dst v) w':=fun v w' hj=>by
  have:=hn g.defers v w' hj
  rw[<-p_]at this
  exact this
 unfold Oper.wp at h⊢
 rw[(xZ hs hl).1]
 generalize(execOp g.eval o).run C.P w=q at*
 cases q with
 |ok x w'=>
  cases x<;>simp only[Oper.upon]at h⊢<;>first
   |exact Ah _ _ h
   |(rw[p_];exact hn _ _ _ h)
   |exact h.elim
   |exact h.mono fun v so he=>Ah _ _ he
   |(
     refine h.mono fun e so he=>?_
     cases e with
     |returned v=>exact Ah _ _ he
     |panicked c=>exact hq _ _ he
     |outgrown=>exact(ho he).elim)
 |halt x w'=>cases x<;>simp only[Oper.upon]at h⊢<;>first|exact hq _ _ h|exact h.elim
theorem aak {C:Cx} {ops:List Oper} {o:Oper} (hs:qz o=true) {a g:Act} {w:World} (hl:∀t∈looks ops o,a.tmps[t]?=g.tmps[t]?) (p_:a.defers=g.defers) {J J':Act->World->Prop} {Q Q':Exit->Act->World->Prop}
  (hq:∀c w,Q (.panic c) g w->Q' (.panic c) a w) (ho:¬LetsOut Q) (hn:∀dd v w',J (({g with defers:=dd}:Act).put o.dst v) w'->J' (({a with defers:=dd}:Act).put o.dst v) w') (h:qA C.P o g w J Q):qA C.P o a w J' Q':=by
 have Ah:∀v w',J (g.put o.dst v) w'->J' (a.put o.dst v) w':=fun v w' hj=>by
  have:=hn g.defers v w' hj
  rw[<-p_]at this
  exact this
 rcases h with h|⟨l,f,tmps,as,bd,hr,h⟩
 ·exact .inl (aaj hs hl p_ hq ho hn h)
 ·refine .inr ⟨l,f,tmps,as,bd,by rw[(xZ hs hl).1];exact hr,h.mono fun e so he=>?_⟩
  cases e with
  |returned v=>exact Ah _ _ he
  |panicked c=>exact hq _ _ he
  |outgrown=>exact(ho he).elim
theorem x3 {L:Array Bool} {i:Nat} (h:nj L i) (h':gI L i):False:=by
 unfold nj at h
 unfold gI at h'
 rcases Nat.lt_or_ge i L.size with hl|hl
 ·simp[hl]at h h';rw[h]at h';cases h'
 ·simp[Array.getElem?_eq_none hl]at h
theorem ab6 {L:Array Bool} {i j:Nat} (h:gI (L.setIfInBounds i true) j):gI L j:=by
 unfold gI at h⊢
 by_cases fT:i=j
 ·subst fT
  rcases Nat.lt_or_ge i L.size with hl|hl
  ·simp[hl]at h
  ·simp[Array.getElem?_eq_none hl]at h
 ·rwa [getD_set_ne true fT]at h
theorem EZ {L:Array Bool} {i j:Nat} (fT:i≠j) (h:gI L j):gI (L.setIfInBounds i true) j:=by
 unfold gI at h⊢
 rwa [getD_set_ne true fT]
theorem Px {L:Array Bool} {i j:Nat} (h:nj L j):nj (L.setIfInBounds i true) j:=getD_set_true h
theorem y0 {ops:List Oper} {i j:Nat}:oI ops i j=true↔∃o,ops[i]?=some o/\∃e∈o.after,Region.binds .any e=true/\e.on=j:=by
 unfold oI
 cases ho:ops[i]? with
 |none=>simp
 |some o=>
  constructor
  ·intro h
   obtain⟨e,he,hb⟩:=Array.any_eq_true'.1 h
   simp only[Bool.and_eq_true,beq_iff_eq]at hb
   exact⟨o,rfl,e,he,hb⟩
  ·rintro⟨o',qh,e,he,hb⟩
   cases qh
   exact Array.any_eq_true'.2 ⟨e,he,by simpa using hb⟩
theorem LM {ops:List Oper} {i:Nat} {S:List Nat} (h:Cu ops i S=true) {j:Nat} (hb:oI ops i j=true):j∈S:=by
 obtain⟨o,ho,e,he,cM,rfl⟩:=y0.1 hb
 unfold Cu at h
 rw[ho]at h
 have:=Array.all_eq_true'.1 h e he
 rw[cM]at this
 simpa[nf]using this
theorem abL {ops:List Oper} {n:Nat} {prev dq R P es:List Nat} {ts:List Tree} (h:yE ops n prev dq (.node R P es ts)=true):
  qU R=true/\qU P=true/\(∀i∈R,i∈prev)/\(∀i∈P,i<n/\i∉prev/\i∉dq)/\
  (∀i∈prev,i∉R->∃x,i<x/\x<n/\(x∈dq\/(x∈prev/\x∉R))/\oI ops x i=true)/\
  (∀i∈P,∀j,oI ops i j=true->j∈prev++P++dq)/\
  (∀i,i<n->i∈prev++P\/i∈dq\/i∈es\/∃j,j<n/\oI ops i j=true/\j∉prev++P/\j∉dq)/\
  (es=[]->∀i,i<n->i∈prev++P\/i∈dq)/\yF ops n (prev++P) dq es ts=true:=by
 have a_:∀(l:List Nat) (i:Nat),(!bY l i)=true->i∉l:=fun l i h hm=>by rw[(nf _ _).2 hm]at h;cases h
 simp only[yE,Bool.and_eq_true]at h
 obtain⟨⟨⟨⟨⟨⟨⟨⟨U,h2⟩,h3⟩,h4⟩,h5⟩,h6⟩,h7⟩,h8⟩,h9⟩:=h
 refine⟨U,h2,fun i hi=>(nf _ _).1 (List.all_eq_true.1 h3 i hi),fun i hi=>?_,fun i hi hR=>?_,fun i hi j hj=>LM (List.all_eq_true.1 h6 i hi) hj,fun i hi=>?_,fun he i hi=>?_,h9⟩
 ·have:=List.all_eq_true.1 h4 i hi
  simp only[Bool.and_eq_true,decide_eq_true_eq]at this
  exact⟨this.1.1,a_ _ _ this.1.2,a_ _ _ this.2⟩
 ·have:=List.all_eq_true.1 h5 i hi
  simp only[Bool.or_eq_true,List.any_eq_true,List.mem_range,Bool.and_eq_true,decide_eq_true_eq]at this
  rcases this with h|⟨x,hx,⟨Nx,XB⟩,hb⟩
  ·exact absurd ((nf _ _).1 h) hR
  ·refine⟨x,Nx,hx,?_,hb⟩
   rcases XB with h|h
   ·exact .inl ((nf _ _).1 h)
   ·exact .inr ⟨(nf _ _).1 h.1,a_ _ _ h.2⟩
 ·have:=List.all_eq_true.1 h7 i (List.mem_range.2 hi)
  simp only[Bool.or_eq_true,List.any_eq_true,List.mem_range,Bool.and_eq_true]at this
  rcases this with((h|h)|h)|⟨j,hj,⟨hb,U⟩,h2⟩
  ·exact .inl ((nf _ _).1 h)
  ·exact .inr (.inl ((nf _ _).1 h))
  ·exact .inr (.inr (.inl ((nf _ _).1 h)))
  ·exact .inr (.inr (.inr ⟨j,hj,hb,a_ _ _ U,a_ _ _ h2⟩))
 ·subst he
  simp only[List.isEmpty_nil,Bool.not_true,Bool.false_or,List.all_eq_true,List.mem_range,Bool.or_eq_true]at h8
  exact(h8 i hi).imp (nf _ _).1 (nf _ _).1
theorem JU {ops:List Oper} {n:Nat} {prev dq:List Nat} {C:Cx} {K:List PK} {ds:List (Nat×Nat)} {E:Env} {H:aa}:∀(es:List Nat) (ts:List Tree),yF ops n prev dq es ts=true->oC C K ops n es ts ds E H->∀x∈es,∃t∈ts,
  x<n/\x∉prev/\x∉dq/\(∀j,oI ops x j=true->j∈prev++dq)/\yE ops n prev (x::dq) t=true/\
   match ops[x]? with
   |none=>False
   |some o=>AQ C.nr ds x [o] [.lp (yP C (vd C K ops n t (aZ o.dst x ds))),.bot (rZ C K ops)] E H
 |[],_,_,_,x,hx=>by simp at hx
 |y::es,[],h,_,x,hx=>by simp[yF]at h
 |y::es,t::ts,h,hv,x,hx=>by
  have a_:∀(l:List Nat) (i:Nat),(!bY l i)=true->i∉l:=fun l i h hm=>by rw[(nf _ _).2 hm]at h;cases h
  simp only[yF,Bool.and_eq_true,decide_eq_true_eq]at h
  obtain⟨⟨⟨⟨⟨U,h2⟩,h3⟩,h4⟩,h5⟩,h6⟩:=h
  simp only[oC]at hv
  rcases List.mem_cons.1 hx with rfl|hx
  ·exact⟨t,by simp,U,a_ _ _ h2,a_ _ _ h3,fun j hj=>LM h4 hj,h5,hv.1⟩
  ·obtain⟨t',s9,r⟩:=JU es ts h6 hv.2 x hx
   exact⟨t',by simp[s9],r⟩
theorem Vz {L:Array Bool} {i:Nat} (h:L.getD i true=false):nj (L.setIfInBounds i true) i:=by
 unfold nj
 rcases Nat.lt_or_ge i L.size with hl|hl
 ·simp[hl]
 ·simp[Array.getElem?_eq_none hl]at h
theorem QC {C:Cx} {K:List PK} {ops:List Oper} {n:Nat} {F:List Nat} (ah:qO ops n F) (fS:ba C.n ops=true) (jO:∀i o,i<n->ops[i]?=some o->qz o=true):
  ∀(t:Tree) (prev dq:List Nat) (ds:List (Nat×Nat)) (E:Env) (H:aa),yE ops n prev dq t=true->Bc F t=true->(∀i∈prev,bY F i=false)->(∀j d,lk ds j=some d->(ops[j]?).bind (·.dst)=some d)->vd C K ops n t ds E H->
  (∀i∈prev,i<n)->(∀i∈dq,i<n)->(∀i,(i∈prev\/i∈dq)->∀j,oI ops i j=true->j∈prev\/j∈dq)->
  ∀(L:Array Bool) (a:Act) (w:World),HeadInv .any ops.toArray n L->(∀i∈dq,nj L i)->(∀i,i<n->i∉prev->i∉dq->gI L i)->(∃g φ I,bB C φ I E H g w/\qM ops prev L a g)->
   qK C.P .any ops.toArray (d_ C (K.map (PK.ki C.fn))) (fM L n+(ops.length-n)) L a w
 | .node R P es ts,prev,dq,ds,E,H,hB,N5,N3,aV,hv,Dt,WT,cG,L,a,w,inv,hle,s3,⟨g,φ,I,hs,fP⟩=>by
  obtain⟨hR,hP,M_,uN,WZ,We,WV,wZ,uK⟩:=abL hB
  simp only[vd]at hv
  obtain⟨Yi,Yh⟩:=hv
  simp only[Bc,Bool.and_eq_true,List.all_eq_true,Bool.not_eq_true']at N5
  obtain⟨Hv,XH⟩:=N5
  have N4:∀i∈prev++P,bY F i=false:=fun i hi=>(List.mem_append.1 hi).elim (N3 i) (Hv i)
  have Xc:∀(d i:Nat),n-i=d->i∈prev->i∉R->nj L i:=by
   intro d
   induction d using Nat.strongRecOn with
   |_ d ih=>
    intro i hd hi Df
    obtain⟨x,Nx,oc,hx,hb⟩:=WZ i hi Df
    have u9:nj L x:=by
     rcases hx with hx|⟨iW,rO⟩
     ·exact hle x hx
     ·exact ih (n-x) (by omega) x rfl iW rO
    obtain⟨o,ho,ed,uW,jD,rfl⟩:=y0.1 hb
    exact inv.closed x o (by simpa using ho) u9 ed uW jD
  obtain⟨g1,jN,Wp,dQ⟩:=Q9 ah fS jO aV (S:=prev) (L:=L) (a:=a) N3 R [] g (fun i hi=>⟨Dt i (M_ i hi),M_ i hi⟩) (fun i hi=>by simp at hi) (fun i hi=>by simp at hi) hR Yi hs fP (fun i hi=>by simp at hi)
  have qm:∀i∈prev,gI L i->mJ C.P ops g1 w i:=fun i hi hu=>by
   by_cases Df:i∈R
   ·exact dQ i (.inr Df) hu
   ·exact(x3 (Xc _ i rfl hi Df) hu).elim
  have CQ:∀i∈P,i<n/\gI L i:=fun i hi=>⟨(uN i hi).1,s3 i (uN i hi).1 (uN i hi).2.1 (uN i hi).2.2⟩
  obtain⟨jB,E',g',hk,wY,gW,Wq,e8⟩:=Q8 (a:=a) ah fS jO P prev prev g1 ds E aV (fun i hi=>⟨(CQ i hi).1,(CQ i hi).2,Hv i hi⟩) Dt (fun i hi j hj=>⟨fun e=>(uN j hj).2.1 (e▸hi),fun oi oj d jI Xu hd lr=>by
    obtain⟨_,ed,uW,jD,Aj⟩:=ah.tE i oi (Dt i hi) jI d lr j d (CQ j hj).1 (by rw[Xu];exact hd) rfl (Hv j hj)
    rcases cG i (.inl hi) j (y0.2 ⟨oi,jI,ed,uW,jD,Aj⟩)with h|h
    ·exact(uN j hj).2.1 h
    ·exact(uN j hj).2.2 h⟩) hP Yh jN Wp qm
  have GD:∀i∈prev++P,i<n:=fun i hi=>by
   rcases List.mem_append.1 hi with hi|hi
   ·exact Dt i hi
   ·exact(CQ i hi).1
  have inner:∀(c:Nat) (L:Array Bool) (a:Act),fM L n=c->HeadInv .any ops.toArray n L->(∀i∈dq,nj L i)->(∀i,i<n->i∉prev++P->i∉dq->gI L i)->qM ops (prev++P) L a g'->
    (∀i∈prev++P,gI L i->mJ C.P ops g' w i)->qK C.P .any ops.toArray (d_ C (K.map (PK.ki C.fn))) (c+(ops.length-n)) L a w:=by
   intro c
   induction c with
   |zero=>
    intro L a hc inv hle s3 fP hp
    have iR:=Cm L n hc
    have aT:L.size=ops.length:=by simpa using inv.size
    have NN:∀i,i<n->nj L i:=fun i hi=>by
     have U:=iR i hi
     have ag:i<L.size:=by rw[aT];have:=ah.le;omega
     unfold nj
     simp[ag]at U⊢;exact U
    cases es with
    |cons x eJ=>
     simp only at hk
     obtain⟨t',_,oc,HW,vt,_⟩:=JU _ _ uK hk x (by simp)
     exact(x3 (NN x oc) (s3 x oc HW vt)).elim
    |nil=>
     simp only at hk
     have GQ:L=canon n ops.length:=by
      apply Array.ext
      ·simp[canon,aT]
      ·intro i U h2
       simp only[canon,List.getElem_toArray,List.getElem_map,List.getElem_range]
       by_cases hi:i<n
       ·have:=iR i hi
        simp[U]at this
        simp[hi,this]
       ·have:=inv.tail i (by omega) (by simpa using(by omega:i<ops.length))
        simp[U]at this
        simp[hi,this]
     have Wo:a=g':=by
      have ht:a.tmps=g'.tmps:=by
       apply Array.ext_getElem?
       intro t
       exact fP.at' t fun i hi hu=>(x3 (NN i (GD i hi)) hu).elim
      have hd:=fP.bF
      cases a;cases g'
      simp only at ht hd
      subst ht;subst hd;rfl
     subst Wo
     rw[Nat.zero_add]
     have Ap:=ah.seq
     rw[<-GQ]at Ap
     have GX:ba C.n (ops.drop n)=true:=by
      rw[ba,List.all_eq_true]
      exact fun o ho=>List.all_eq_true.1 fS o (List.mem_of_mem_drop ho)
     have gy:=yI (C:=C) (K:=K.map (PK.ki C.fn)) (ops.drop n) [] n E' H GX (yJ C K _ _ _ _ _ hk)
     have U:=J_ (P:=C.P) (md:= .any) (ops:=ops.toArray) (Q:=d_ C (K.map (PK.ki C.fn))) (ops.drop n) n L a w (fun j=>by simp[List.getElem?_drop]) (by simpa using Ap)
      (gy ops.toArray (fun j d hj=>by simp[lk]at hj) (fun j o hj=>by rw[List.getElem?_drop]at hj;simp[hj]) φ I a w gW)
     simpa using U
   |succ c ih=>
    intro L a hc inv hle s3 fP hp
    obtain⟨i0,uY,Ax,Ag⟩:=FK L n (by omega)
    have aT:L.size=ops.length:=by simpa using inv.size
    have aeb:=ah.le
    have Am:i0∈Region.ready .any ops.toArray L:=by
     rw[mem_ready]
     have ag:i0<ops.length:=by omega
     refine⟨Ax,ops[i0],by simp[ag],fun e he hb=>?_⟩
     have mj:=ah.back i0 ops[i0] uY (List.getElem?_eq_getElem ag) e he hb
     have U:=Ag e.on mj
     have Hm:e.on<L.size:=by omega
     simp[Hm]at U⊢;exact U
    rw[show c+1+(ops.length-n)=(c+(ops.length-n))+1 by omega]
    refine⟨fun h=>(by rw[h]at Am;cases Am),fun i hi=>?_⟩
    have dP:=QN ah inv uY Ax i hi
    obtain⟨dG,o,ho,iR⟩:=mem_ready.1 hi
    have eU:ops[i]?=some o:=by simpa using ho
    have DN:=inv.set hi dP
    have ru:fM (L.setIfInBounds i true) n=c:=by have:=FL L i dG n dP;omega
    have Nl:∀j,oI ops i j=true->nj L j:=fun j hb=>by
     obtain⟨o',qh,ed,uW,jD,rfl⟩:=y0.1 hb
     rw[eU]at qh
     cases qh
     exact iR ed uW jD
    have Ae:∀t∈looks ops o,a.tmps[t]?=g'.tmps[t]?:=fun t ht=>fP.at' t fun j hj rD o5=>by
     obtain⟨_,ed,uW,jD,Aj⟩:=ah.tE i o dP eU t ht j t (GD j hj) o5 rfl (N4 j hj)
     exact x3 (Nl j (y0.2 ⟨o,eU,ed,uW,jD,Aj⟩)) rD
    obtain⟨hex,xu⟩:=xZ (ops:=ops) (jO i o dP eU) Ae
    have Wr:∀u,(∀d,o.dst=some d->d<a.tmps.size->g'.tmps[d]?=some u)->qM ops (prev++P) (L.setIfInBounds i true) (a.put o.dst u) g':=fun u hu=>by
     refine⟨by rw[Act.Bf];exact fP.bF,by rw[Act.tK];exact fP.bC,fun t ht=>?_⟩
     by_cases hd:o.dst=some t
     ·by_cases ag:t<a.tmps.size
      ·rw[hu t hd ag,hd];simp[Act.put,ag]
      ·rw[Array.getElem?_eq_none (by rw[Act.tK];exact Nat.not_lt.1 ag),Array.getElem?_eq_none (by rw[<-fP.bC];exact Nat.not_lt.1 ag)]
     ·rw[Act.qE hd]
      refine fP.at' t fun j hj rD o5=>?_
      by_cases fT:i=j
      ·subst fT;rw[eU]at o5;exact hd o5
      ·exact ht j hj (EZ fT rD) o5
    have pure:i∈prev++P->pI C.P ops.toArray (d_ C (K.map (PK.ki C.fn))) i (qK C.P .any ops.toArray (d_ C (K.map (PK.ki C.fn))) (c+(ops.length-n)) (L.setIfInBounds i true)) a w:=fun Nv=>by
     obtain⟨u,oa,xh⟩:=hp i Nv dG o eU
     have bm:=ih (L.setIfInBounds i true) (a.put o.dst u) ru DN (fun j hj=>Px (hle j hj)) (fun j fE uZ kE=>EZ (fun e=>uZ (e▸Nv)) (s3 j fE uZ kE)) (Wr u fun d hd _=>xh d hd) (fun j hj rD=>hp j hj (ab6 rD))
     unfold pI
     rw[ho]
     simp only
     rw[xu]
     unfold ug at oa
     split
     ·rename_i hw
      rw[if_pos hw]at oa
      refine Or.inl ?_
      unfold Oper.wp
      rw[hex,oa,Oper.upon_value]
      exact bm
     ·rename_i hw
      rw[if_neg hw]at oa
      rw[<-oa];exact bm
    rcases WV i dP with h|h|h|⟨j,fE,hb,uZ,kE⟩
    ·exact pure h
    ·exact(x3 (hle i h) dG).elim
    ·
     cases es with
     |nil=>simp at h
     |cons x0 eJ=>
       simp only at hk
       obtain⟨t',s9,oc,HW,vt,DD,V2,hk⟩:=JU _ _ uK hk i h
       rw[eU]at hk
       simp only at hk
       have aF:=hk
       unfold AQ AO at aF
       have aF:=aF ops.toArray (fun j d hj=>by simpa using wY j d hj) (fun j o' hj=>by
        cases j with
        |zero=>simp at hj;subst hj;rw[Nat.add_zero,ho];rfl
        |succ j=>simp at hj) φ I g' w ⟨gW.bF,gW.bC,gW.env,gW.st⟩
       simp only[h_]at aF
       have qa:∀dd v w',(∃E1 H1 φ I,bB C φ I E1 H1 (({g' with defers:=dd}:Act).put o.dst v) w'/\vd C K ops n t' (aZ o.dst i jB) E1 H1)->
         qK C.P .any ops.toArray (d_ C (K.map (PK.ki C.fn))) (c+(ops.length-n)) (L.setIfInBounds i true) (({a with defers:=dd}:Act).put o.dst v) w':=fun dd v w' ⟨E1,H1,bg,I1,xi,Ay⟩=>by
        rw[<-ru]
        refine QC ah fS jO t' (prev++P) (i::dq) _ E1 H1 V2 (QI XH s9) N4 (LY eU wY) Ay GD (fun j hj=>by
          rcases List.mem_cons.1 hj with rfl|hj
          ·exact oc
          ·exact WT j hj) (fun j hj k hb=>by
          have:k∈prev++P++dq:=by
           rcases hj with hj|hj
           ·rcases List.mem_append.1 hj with hj|hj
            ·rcases cG j (.inl hj) k hb with h|h<;>simp[h]
            ·exact We j hj k hb
           ·rcases List.mem_cons.1 hj with rfl|hj
            ·exact DD k hb
            ·rcases cG j (.inr hj) k hb with h|h<;>simp[h]
          rcases List.mem_append.1 this with h|h
          ·exact .inl h
          ·exact .inr (List.mem_cons_of_mem _ h)) _ _ w' DN (fun j hj=>by
          rcases List.mem_cons.1 hj with rfl|hj
          ·exact Vz dG
          ·exact Px (hle j hj)) (fun j fE uZ kE=>EZ (fun e=>kE (by simp[e])) (s3 j fE uZ fun hm=>kE (List.mem_cons_of_mem _ hm))) ⟨_,bg,I1,xi,?_⟩
        refine⟨by rw[Act.Bf,Act.Bf],by rw[Act.tK,Act.tK];exact fP.bC,fun t ht=>?_⟩
        by_cases hd:o.dst=some t
        ·by_cases ag:t<a.tmps.size
         ·rw[hd];simp[Act.put,ag,<-fP.bC]
         ·rw[Array.getElem?_eq_none (by rw[Act.tK];exact Nat.not_lt.1 ag),Array.getElem?_eq_none (by rw[Act.tK,<-fP.bC];exact Nat.not_lt.1 ag)]
        ·rw[Act.qE hd,Act.qE hd]
         exact fP.at' t fun j hj rD=>ht j hj (EZ (fun e=>by subst e;exact HW hj) rD)
       unfold pI
       rw[ho]
       simp only
       rw[xu]
       split
       ·rename_i hw
        rw[if_pos hw]at aF
        exact aak (ops:=ops) (jO i o dP eU) Ae fP.bF (fun c w hq=>hq _ fP.bF fP.bC fun t ht=>fP.at' t fun i _ _ he=>by
         cases ho:ops[i]? with
         |none=>rw[ho]at he;cases he
         |some o=>rw[ho]at he;exact ht o (List.mem_of_getElem? ho) he) (fun⟨a,w,hq⟩=>hq) qa aF
       ·rename_i hw
        rw[if_neg hw]at aF
        have:=qa g'.defers undef w aF
        rw[<-fP.bF]at this
        exact this
    ·
     exact(x3 (Nl j hb) (s3 j fE uZ kE)).elim
  refine inner _ L a rfl inv hle (fun i dP U h2=>s3 i dP (fun hm=>U (List.mem_append_left _ hm)) h2) Wq (fun i hi hu=>e8 i (by
   rcases List.mem_append.1 hi with hi|hi
   ·exact .inl hi
   ·exact .inr hi) hu)
termination_by t=>SizeOf.sizeOf t
decreasing_by
 have:=List.sizeOf_lt_of_mem s9
 simp only[Tree.node.sizeOf_spec]
 omega
section
variable {C:Cx} {K:List PK} {E:Env} {H:aa} {p:List Nat}
theorem AP.bQ {id:Nat} {ops:List Oper} (n:Nat) (t:Tree) (hm:C.P.follows .mixedOrders=true) (hc:cd C.fn p= .region id ops.toArray true) (ah:ba C.n ops=true) (hB:Cv ops n t=true)
  (h:vd C K ops n t [] E H):AP C p K E H:=by
 simp only[Cv,Bool.and_eq_true]at hB
 obtain⟨⟨⟨VZ,zz⟩,V0⟩,V1⟩:=hB
 have b7:=No VZ
 have hle:=b7.le
 have jO:∀i o,i<n->ops[i]?=some o->qz o=true:=fun i o hi ho=>List.all_eq_true.1 zz o (by
  rw[List.mem_take_iff_getElem]
  obtain⟨hl,he⟩:=List.getElem?_eq_some_iff.1 ho
  exact⟨i,by omega,he⟩)
 unfold AP
 rw[hc]
 intro φ I a w hs
 refine S0 hm (FW ah) ?_
 have ru:∀k,fM (Array.replicate ops.length false) k=min k ops.length:=by
  intro k
  induction k with
  |zero=>simp[fM]
  |succ k ih=>
   simp only[fM,ih]
   by_cases hk:k<ops.length
   ·simp[hk];omega
   ·simp[hk];omega
 have Ih:HeadInv .any ops.toArray n (Array.replicate ops.length false):=
  ⟨by simp,fun j oj _ hl=>(by rw[getD_replicate_false]at hl;cases hl),fun t _ ht=>getD_in (by simpa using ht) (getD_replicate_false _ _)⟩
 have:=QC (K:=K) b7 ah jO t [] [] [] E H V0 V1 (fun i hi=>by simp at hi) (fun j d hj=>by simp[lk]at hj) h (fun i hi=>by simp at hi) (fun i hi=>by simp at hi) (fun i hi=>by simp at hi) (Array.replicate ops.length false) a {w with drawn:=w.drawn+1} Ih
  (fun i hi=>by simp at hi) (fun i hi _ _=>getD_in (by simp;omega) (getD_replicate_false _ _)) ⟨a,φ,I,⟨hs.bF,hs.bC,fun t x hx=>?_,hs.st.zh⟩,⟨rfl,rfl,fun t _=>rfl⟩⟩
 ·rw[ru,show min n ops.length+(ops.length-n)=ops.length by omega]at this
  simpa using this
 ·obtain⟨u,hu,hd⟩:=hs.env t x hx
  exact⟨u,hu,(bE.zh w φ I).den hd⟩
end
theorem bO {C:Cx} {K:List PK} {ops:List Oper} {n:Nat} {R P es:List Nat} {ts:List Tree} {ds:List (Nat×Nat)} {E:Env} {H:aa}
  (h:vR C ops H R ds E/\vP C ops H (fun ds E=>match es with
  |[]=>vq C K (ops.drop n) [] n E H
  |_::_=>oC C K ops n es ts ds E H) P ds E):vd C K ops n (.node R P es ts) ds E H:=by
 simp only[vd];exact h
theorem acb {C:Cx} {K:List PK} {ops:List Oper} {n x:Nat} {es:List Nat} {t:Tree} {ts:List Tree} {ds:List (Nat×Nat)} {E:Env} {H:aa}:
  oC C K ops n (x::es) (t::ts) ds E H=((match ops[x]? with
   |none=>False
   |some o=>AQ C.nr ds x [o] [.lp (yP C (vd C K ops n t (aZ o.dst x ds))),.bot (rZ C K ops)] E H)/\oC C K ops n es ts ds E H):=by first|(simp only[oC];done)|(simp only[oC];rfl)
theorem acd {C:Cx} {K:List PK} {ops:List Oper} {n:Nat} {ts:List Tree} {ds:List (Nat×Nat)} {E:Env} {H:aa}:oC C K ops n [] ts ds E H=True:=by cases ts<;>simp only[oC]
theorem Z6 (C:Cx):C.nr.P=C.P:=rfl
theorem Z7 (C:Cx):C.nr.fn=C.fn:=rfl
theorem Z9 (C:Cx):C.nr.n=C.n:=rfl
theorem Z5 (C:Cx):C.nr.B=C.B:=rfl
theorem Z8 (C:Cx):C.nr.kp=C.kp:=rfl
theorem Z_ (C:Cx):C.nr.ob=C.ob:=rfl
attribute [go_sem] acb acd vR vP uo EI Z6 Z7 Z9 Z5 Z8 Z_
section
variable {C:Cx} {K:List PK} {E:Env} {H:aa}
theorem AQ.K8 {ds:List (Nat×Nat)} {i:Nat} {d:Option Nat} {ty:TypeId} {pos:String} {af:Array Edge} {os:List Oper} {br:Operand} {f:FuncId} {fs aN:List AV} {xs:List Operand} {a8:Array TypeId} {l:List AV} {r:AV} {gu:Option (Nat×Bool)} {G:Bool}
  (ah:ba C.n ({dst:=d,op:= .call {callee:= .value br,args:=xs.toArray,argTypes:=a8},type:=ty,pos:=pos,after:=af,guard:=gu}::os)=true)
  (hG:gd ds E gu=some G) (fB:ev E br=some (.fn f fs aN)) (hl:eB E xs=some l) (dT:G=true->gs l=true)
  (hc:G=true->ai C.P f (fs++l.map AV.st++aN) H (fun r' H'=>H'=H/\r'=r))
  (h:vq C K os (aZ d i ds) (i+1) (a7 d (.opt G r) E) H):
  AQ C ds i ({dst:=d,op:= .call {callee:= .value br,args:=xs.toArray,argTypes:=a8},type:=ty,pos:=pos,after:=af,guard:=gu}::os) K E H:=by
 obtain⟨hd,b7⟩:=ef ah
 have bm:=AQ.go b7 h
 cases G with
 |true=>
  refine AQ.nQ hG ?_
  have hn:vq C [] [] (aZ d i ds) (i+1) (a7 d r E) H=AQ C (aZ d i ds) (i+1) [] [] (a7 d r E) H:=rfl
  have key:∀El:List Oper,AQ C (aZ d i ds) (i+1) El K (a7 d r E) H->ba C.n ({dst:=d,op:= .call {callee:= .value br,args:=xs.toArray,argTypes:=a8},type:=ty,pos:=pos,after:=af,guard:=none}::El)=true->
    AQ C ds i ({dst:=d,op:= .call {callee:= .value br,args:=xs.toArray,argTypes:=a8},type:=ty,pos:=pos,after:=af,guard:=none}::El) K E H:=fun El h' Xv=>AQ.Uj Xv fB hl (dT rfl) (hc rfl) h'
  refine key os (AQ.imp (fun w φ I a=>Be fun u hu=>?_) bm) ?_
  ·simp only[AV.den];exact⟨fun _=>hu,fun h=>by cases h⟩
  ·simp only[ba,List.all_cons,Bool.and_eq_true]at ah⊢
   exact ah
 |false=>
  refine AQ.wL hd hG ?_
  exact AQ.imp (fun w φ I a=>Be fun u hu=>by simp only[AV.den]at hu⊢;exact⟨fun h=>(by cases h),hu.2⟩) bm
end
structure dz (P:Program) (nb:Nat) (f:FuncId) (args:List AV) (H:aa) (R:AV->aa->Prop):Prop where
 gN:enters P f=true
 run:∀(w:World) (φ:al) (I:Nat->Prop) (vs:List Value),AV.ab w φ I args vs->Real w φ I H->VK P w I->Calls P f vs.toArray w (nC ⟨w,cZ φ,I,φ,nb⟩ R)
structure gp (P:Program) (nb l:Nat) (args:List AV) (H:aa) (R:AV->aa->Prop):Prop where
 run:∀(w:World) (φ:al) (I:Nat->Prop) (vs:List Value),AV.ab w φ I args vs->Real w φ I H->VK P w I->
  ∃(cz:FuncId) (T:Array Value) (as bd:Code),(Instr.yield l vs.toArray).run P w= .ok (.round l cz T as bd) w/\RoundIn Fence.wide 3 P l cz T as bd w (nC ⟨w,cZ φ,I,φ,nb⟩ R)
theorem dz.mono {P:Program} {nb:Nat} {f:FuncId} {args:List AV} {H:aa} {R R':AV->aa->Prop} (h:dz P nb f args H R) (hr:∀r H',R r H'->R' r H'):dz P nb f args H R':=
 ⟨h.gN,fun w φ I vs hd hR hV=>(h.run w φ I vs hd hR hV).mono fun _ _ ⟨r,H',φ',I',v,U,h2⟩=>⟨r,H',φ',I',v,hr _ _ U,h2⟩⟩
theorem gp.mono {P:Program} {nb l:Nat} {args:List AV} {H:aa} {R R':AV->aa->Prop} (h:gp P nb l args H R) (hr:∀r H',R r H'->R' r H'):gp P nb l args H R':=
 ⟨fun w φ I vs hd hR hV=>let⟨cz,T,as,bd,U,h2⟩:=h.run w φ I vs hd hR hV;⟨cz,T,as,bd,U,h2.mono fun _ _ ⟨r,H',φ',I',v,U,h2⟩=>⟨r,H',φ',I',v,hr _ _ U,h2⟩⟩⟩
mutual
def AV.ge (nb:Nat):AV->Bool
 | .ob b _=>Nat.ble nb b
 | .oe b _ _ _=>Nat.ble nb b
 | .os b _ _ _=>Nat.ble nb b
 | .fn _ fs aN=>AV.jh nb fs||AV.jh nb aN
 | .agg cs=>AV.jh nb cs
 | .aI cs=>AV.jh nb cs
 | .opt _ x=>AV.ge nb x
 | .im _=>false
 | .ar _=>false
 | .top=>false
 | .mp b=>Nat.ble nb b
 | .wr _ x=>AV.ge nb x
def AV.jh (nb:Nat):List AV->Bool
 |[]=>false
 |x::xs=>AV.ge nb x||AV.jh nb xs
end
theorem sy {a b:Nat} (h:Nat.ble a b=false):b<a:=by
 rcases Nat.lt_or_ge b a with h'|h'
 ·exact h'
 ·rw[Nat.ble_eq_true_of_le h']at h;cases h
mutual
theorem AV.CF {w:World} {φ φ':al} {I:Nat->Prop} {nb:Nat} (az:∀b',b'<nb->φ' b'=φ b'):∀(x:AV) (u:Value),x.ge nb=false->AV.den w φ I x u->AV.den w φ' I x u
 | .ob b' _,u,h,hd=>by simp only[AV.ge]at h;simp only[AV.den]at hd⊢;rw[az b' (sy h)];exact hd
 | .oe b' _ _ _,u,h,hd=>by simp only[AV.ge]at h;simp only[AV.den]at hd⊢;rw[az b' (sy h)];exact hd
 | .os b' _ _ _,u,h,hd=>by simp only[AV.ge]at h;simp only[AV.den]at hd⊢;rw[az b' (sy h)];exact hd
 | .fn f fs aN,u,h,hd=>by simp only[AV.ge,Bool.or_eq_false_iff]at h;simp only[AV.den]at hd⊢;obtain⟨us,vs,U,h2,h3⟩:=hd;exact⟨us,vs,AV.zr az fs us h.1 U,AV.zr az aN vs h.2 h2,h3⟩
 | .agg cs,u,h,hd=>by simp only[AV.ge]at h;simp only[AV.den]at hd⊢;obtain⟨us,U,h2⟩:=hd;exact⟨us,AV.zr az cs us h U,h2⟩
 | .aI cs,u,h,hd=>by simp only[AV.ge]at h;simp only[AV.den]at hd⊢;obtain⟨us,U,h2⟩:=hd;exact⟨us,AV.zr az cs us h U,h2⟩
 | .opt g x,u,h,hd=>by simp only[AV.ge]at h;simp only[AV.den]at hd⊢;exact⟨fun hg=>AV.CF az x u h (hd.1 hg),hd.2⟩
 | .im x,u,_,hd=>by simpa only[AV.den]using hd
 | .ar x,u,_,hd=>by simpa only[AV.den]using hd
 | .top,_,_,_=>by simp only[AV.den]
 | .mp b',u,h,hd=>by simp only[AV.ge]at h;simp only[AV.den]at hd⊢;rw[az b' (sy h)];exact hd
 | .wr k x,u,h,hd=>by simp only[AV.ge]at h;simp only[AV.den]at hd⊢;obtain⟨v,U,h2⟩:=hd;exact⟨v,U,AV.CF az x v h h2⟩
theorem AV.zr {w:World} {φ φ':al} {I:Nat->Prop} {nb:Nat} (az:∀b',b'<nb->φ' b'=φ b'):∀(xs:List AV) (us:List Value),AV.jh nb xs=false->AV.ab w φ I xs us->AV.ab w φ' I xs us
 |[],us,_,h=>by simpa only[AV.ab]using h
 |x::xs,us,h,hd=>by
  simp only[AV.jh,Bool.or_eq_false_iff]at h
  simp only[AV.ab]at hd⊢
  obtain⟨u,au,e,U,h2⟩:=hd
  exact⟨u,au,e,AV.CF az x u h.1 U,AV.zr az xs au h.2 h2⟩
end
def lJ (nb:Nat):Env->Env
 |[]=>[]
 |(i,x)::r=>bif x.ge nb then(i,.top)::lJ nb r else(i,x)::lJ nb r
theorem Iy {w w':World} {φ φ':al} {I I':Nat->Prop} {nb:Nat} (az:∀b',b'<nb->φ' b'=φ b') (hw:∀g,I g->w'.heap[g]?=w.heap[g]?) (hI:∀g,I g->I' g)
  (hs:∀b g n,b<nb->φ b=some (some g)->shaped w g n->shaped w' g n):∀(E:Env) (i:Nat) (x:AV),lk (lJ nb E) i=some x->∃y,lk E i=some y/\∀u,AV.den w φ I y u->AV.den w' φ' I' x u
 |[],i,x,h=>by simp[lJ,lk]at h
 |(j,y)::r,i,x,h=>by
  simp only[lJ]at h
  cases hm:y.ge nb with
  |true=>
   rw[hm]at h
   simp only[cond_true,lk]at h⊢
   cases hb:Nat.beq j i with
   |true=>
    rw[hb]at h
    simp only[cond_true,Option.some.injEq]at h⊢
    subst h
    exact⟨y,rfl,fun u _=>by simp only[AV.den]⟩
   |false=>rw[hb]at h;exact Iy az hw hI hs r i x h
  |false=>
   rw[hm]at h
   simp only[cond_false,lk]at h⊢
   cases hb:Nat.beq j i with
   |true=>
    rw[hb]at h
    simp only[cond_true,Option.some.injEq]at h⊢
    subst h
    refine⟨y,rfl,fun u hu=>?_⟩
    have U:=AV.CF (φ':=fun b=>if b<nb then φ b else none) (fun b' bK=>by simp[bK]) y u hm hu
    refine AV.j_ hw hI (fun b p hb=>?_) (fun b g n hb cX=>?_) y u U
    ·by_cases ag:b<nb
     ·rw[az b ag];simpa[ag]using hb
     ·simp[ag]at hb
    ·by_cases ag:b<nb
     ·exact hs b g n ag (by simpa[ag]using hb) cX
     ·simp[ag]at hb
   |false=>rw[hb]at h;exact Iy az hw hI hs r i x h
def cE (nb:Nat) (H H':aa):Prop:=∀b,b<nb->(lk H' b).isSome=(lk H b).isSome
theorem cE.refl (nb:Nat) (H:aa):cE nb H H:=fun _ _=>rfl
theorem St.yV {B:Bs} {φ bg:al} {I I1:Nat->Prop} {H H1:aa} {w w1:World} {nb:Nat} (h:St B φ I H w) (hnb:B.nb<=nb) (U:St ⟨w,cZ φ,I,φ,nb⟩ bg I1 H1 w1) (jk:cE nb H H1):
  St B bg I1 H1 w1/\(∀b,b<nb->bg b=φ b)/\(∀g,I g->w1.heap[g]?=w.heap[g]?)/\(∀g,I g->I1 g)/\∀b g n,b<nb->φ b=some (some g)->shaped w g n->shaped w1 g n:=by
 have az:∀b,b<nb->bg b=φ b:=fun b hb=>by
  have d1:=U.real.bj b
  have d0:=h.real.bj b
  have hl:=jk b hb
  cases fG:lk H1 b with
  |none=>
   rw[fG]at hl d1
   cases hp:bg b with
   |some _=>rw[hp]at d1;cases d1
   |none=>
    rw[<-hl]at d0
    cases h0:φ b with
    |some _=>rw[h0]at d0;cases d0
    |none=>rfl
  |some o=>
   rw[fG]at hl
   rw[<-hl]at d0
   cases h0:φ b with
   |none=>rw[h0]at d0;cases d0
   |some p=>exact U.cP b p o hb h0 fG
 have jG:∀g,I g->w1.heap[g]?=w.heap[g]?:=fun g hg=>U.ext.cm g (h.real.bN g hg) (fun⟨b,hb⟩=>(h.real.off b g hb).1 hg)
 refine⟨⟨U.real,h.ext.trans U.ext (fun g ⟨b,hb⟩=>h.cf b g hb),fun b g hb=>?_,fun g hg=>?_,fun g hg=>U.cC g (h.cC g hg),fun b p o hb h0 hl=>?_⟩,az,jG,U.cC,fun b g n hb hp cX=>?_⟩
 ·rcases U.cf b g hb with⟨b',bK⟩|h2
  ·exact h.cf b' g bK
  ·exact .inr (Nat.le_trans h.ext.size h2)
 ·rcases U.dj g hg with h2|⟨b',bK⟩|h2
  ·exact h.dj g h2
  ·exact .inr (h.cf _ g bK)
  ·exact .inr (.inr (Nat.le_trans h.ext.size h2))
 ·have bK:b<nb:=by omega
  rw[az b bK]
  have sZ:=jk b bK
  rw[hl]at sZ
  cases NF:lk H b with
  |none=>rw[NF]at sZ;cases sZ
  |some o'=>exact h.cP b p o' hb h0 NF
 ·obtain⟨cc,ee,jF,hn⟩:=cX
  obtain⟨c',kq,h2,h3⟩:=U.ext.form g cc ee _ jF
  have dQ:bg b=some (some g):=(az b hb).trans hp
  have me:=U.real.bj b
  rw[dQ]at me
  cases hl:lk H1 b with
  |none=>rw[hl]at me;cases me
  |some o=>
   have aU:=U.real.own b o _ hl dQ
   have sY:kq=(0,0):=by
    cases o with
    |var e cs=>
     simp only[Ob.at]at aU
     obtain⟨g',us,bR,h4,_⟩:=aU
     cases bR
     exact h4.fz h2
    |vec e es rows=>
     simp only[Ob.at]at aU
     rcases aU with⟨h5,_⟩|⟨g',ae,rest,bR,h4,_⟩
     ·cases h5
     ·cases bR;rw[h2]at h4;cases h4;rfl
    |lp l n st fn q ps E=>
     simp only[Ob.at]at aU
     obtain⟨h0,T,D,cz,_,h4,_⟩:=aU
     cases h0;rw[h2]at h4;cases h4
   subst sY
   exact⟨c',ee,h2,by rw[h3];exact hn⟩
theorem bB.yV {C:Cx} {φ bg:al} {I I1:Nat->Prop} {E:Env} {H H1:aa} {a:Act} {w w1:World} {nb:Nat} (h:bB C φ I E H a w) (hnb:C.B.nb<=nb) (U:St ⟨w,cZ φ,I,φ,nb⟩ bg I1 H1 w1) (jk:cE nb H H1):
  bB C bg I1 (lJ nb E) H1 a w1:=by
 obtain⟨hS,az,jG,hI,cX⟩:=h.st.yV hnb U jk
 refine⟨h.bF.mono jG hI,h.bC,fun i x hx=>?_,hS⟩
 obtain⟨y,hy,iX⟩:=Iy az jG hI cX E i x hx
 obtain⟨u,hu,hd⟩:=h.env i y hy
 exact⟨u,hu,iX u hd⟩
section
variable {C:Cx} {K:List PK} {E:Env} {H:aa}
theorem AQ.iP (nb:Nat) {ds:List (Nat×Nat)} {i:Nat} {d:Option Nat} {ty:TypeId} {pos:String} {af:Array Edge} {os:List Oper} {br:Operand} {f:FuncId} {fs aN:List AV} {xs:List Operand} {a8:Array TypeId} {l:List AV} {R:AV->aa->Prop}
  (hnb:Nat.ble C.B.nb nb=true)
  (ah:ba C.n ({dst:=d,op:= .call {callee:= .value br,args:=xs.toArray,argTypes:=a8},type:=ty,pos:=pos,after:=af,guard:=none}::os)=true)
  (fB:ev E br=some (.fn f fs aN)) (hl:eB E xs=some l) (dT:gs l=true) (hc:dz C.P nb f (fs++l.map AV.st++aN) H R) (jk:∀r H',R r H'->cE nb H H')
  (bm:∀r H',R r H'->AQ C (aZ d i ds) (i+1) os K (a7 d r (lJ nb E)) H'):
  AQ C ds i ({dst:=d,op:= .call {callee:= .value br,args:=xs.toArray,argTypes:=a8},type:=ty,pos:=pos,after:=af,guard:=none}::os) K E H:=by
 obtain⟨hd,b7⟩:=ef ah
 unfold AQ at bm⊢
 refine AO.step (o:={dst:=d,op:= .call {callee:= .value br,args:=xs.toArray,argTypes:=a8},type:=ty,pos:=pos,after:=af,guard:=none}) fun ops φ I a w aV _ hs Kn bG=>?_
 have hw:Region.wanted {dst:=d,op:= .call {callee:= .value br,args:=xs.toArray,argTypes:=a8},type:=ty,pos:=pos,after:=af,guard:=none} (yielded ops a.tmps)=true:=by simp[Region.wanted]
 rw[if_pos hw]
 have fZ:=aO hs.env fB
 simp only[AV.den]at fZ
 obtain⟨eQ,us,nT,dW,oW⟩:=fZ
 have aX:AV.ab w φ I (fs++l.map AV.st++aN) (eQ++xs.map a.eval++us):=AQ.oK.nF _ _ _ _ (AQ.oK.nF _ _ _ _ nT (nO hs.env _ _ hl dT)) dW
 have aF:(execOp a.eval {dst:=d,op:= .call {callee:= .value br,args:=xs.toArray,argTypes:=a8},type:=ty,pos:=pos,after:=af,guard:=none}).run C.P w= .ok (.enter f (eQ++xs.map a.eval++us).toArray) w:=by
  have:execOp a.eval {dst:=d,op:= .call {callee:= .value br,args:=xs.toArray,argTypes:=a8},type:=ty,pos:=pos,after:=af,guard:=none}=(do let d<-Deferred.ofValue (a.eval br) (xs.toArray.map a.eval);invoke d.target d.args):=rfl
  rw[this,oW,Ei (t:=ty) hc.gN]
  simp
 unfold Oper.wp
 rw[aF,Oper.upon_enter]
 refine(hc.run w φ I _ aX hs.st.real hs.st.vk).mono fun e w' ⟨r,H1,bg,I1,v,hr,he,bc,hS⟩=>?_
 subst he
 have jN:=hs.yV (Nat.le_of_ble_eq_true hnb) hS (jk r H1 hr)
 exact bG _ _ bg I1 _ _ (bm r H1 hr) (jN.put jN.st (bE.refl _ _ _) hd bc)
abbrev Yl (l:Nat):AV:= .im (.v (.func (.yield l) #[] #[]))
theorem AQ.yL (nb:Nat) {ds:List (Nat×Nat)} {i:Nat} {d:Option Nat} {ty:TypeId} {pos:String} {af:Array Edge} {os:List Oper} {br:Operand} {l0:Nat} {xs:List Operand} {a8:Array TypeId} {l:List AV} {R:AV->aa->Prop}
  (hnb:Nat.ble C.B.nb nb=true)
  (ah:ba C.n ({dst:=d,op:= .call {callee:= .value br,args:=xs.toArray,argTypes:=a8},type:=ty,pos:=pos,after:=af,guard:=none}::os)=true)
  {cv:AV} (fB:ev E br=some cv) (fZ:cv.g=true/\cv.st=Yl l0) (hl:eB E xs=some l) (dT:gs l=true) (hc:gp C.P nb l0 (l.map AV.st) H R) (jk:∀r H',R r H'->cE nb H H')
  (bm:∀r H',R r H'->AQ C (aZ d i ds) (i+1) os K (a7 d r (lJ nb E)) H'):
  AQ C ds i ({dst:=d,op:= .call {callee:= .value br,args:=xs.toArray,argTypes:=a8},type:=ty,pos:=pos,after:=af,guard:=none}::os) K E H:=by
 obtain⟨hd,b7⟩:=ef ah
 unfold AQ at bm⊢
 refine AO.aby (o:={dst:=d,op:= .call {callee:= .value br,args:=xs.toArray,argTypes:=a8},type:=ty,pos:=pos,after:=af,guard:=none}) fun ops φ I a w aV _ hs Kn bG=>?_
 have hw:Region.wanted {dst:=d,op:= .call {callee:= .value br,args:=xs.toArray,argTypes:=a8},type:=ty,pos:=pos,after:=af,guard:=none} (yielded ops a.tmps)=true:=by simp[Region.wanted]
 rw[if_pos hw]
 have GV:=ct (aO hs.env fB) fZ.1
 rw[fZ.2]at GV
 simp only[AV.den,IV.den]at GV
 obtain⟨oW,_⟩:=GV
 have aX:=nO hs.env _ _ hl dT
 obtain⟨cz,T,as,bd,hy,An⟩:=hc.run w φ I _ aX hs.st.real hs.st.vk
 refine .inr ⟨l0,cz,T,as,bd,?_,An.mono fun e w' ⟨r,H1,bg,I1,v,hr,he,bc,hS⟩=>?_⟩
 ·have:execOp a.eval {dst:=d,op:= .call {callee:= .value br,args:=xs.toArray,argTypes:=a8},type:=ty,pos:=pos,after:=af,guard:=none}=(do let d<-Deferred.ofValue (a.eval br) (xs.toArray.map a.eval);invoke d.target d.args):=rfl
  rw[this,oW]
  simp only[Deferred.ofValue,Sem.run_bind,Sem.run_pure,Result.andThen_ok,invoke]
  rw[<-hy]
  simp
 ·subst he
  have jN:=hs.yV (Nat.le_of_ble_eq_true hnb) hS (jk r H1 hr)
  exact bG _ _ bg I1 _ _ (bm r H1 hr) (jN.put jN.st (bE.refl _ _ _) hd bc)
end
theorem dz.walk {P:Program} {f:FuncId} {fn:Func} {c:Code} {n nb:Nat} {args:List AV} {H:aa} {R:AV->aa->Prop} (kp ob:List Nat) (hf:P.funcs[f]?=some fn) (hb:fn.body=some c) (hn:fn.ntmps=n)
  (lx:enters P f=true) (dr:Nat.ble args.length n=true)
  (h:∀(w:World) (own I0:Nat->Prop) (ao:al) (lay:Lay P ⟨w,own,I0,ao,nb⟩),AP ⟨P,fn,n,⟨w,own,I0,ao,nb⟩,kp,ob,R,none,fun _ _=>False,[],lay⟩ [] [] (enum 0 args) H):dz P nb f args H R:=by
 refine⟨lx,fun w φ I vs hd hR hV=>?_⟩
 have hl:=jA args vs hd
 have zI:=Nat.le_of_ble_eq_true dr
 have h0:=h w (cZ φ) I φ (hR.lay hV _)
 unfold AP at h0
 simp only[cd,hb,Option.getD_some]at h0
 refine Calls.mono ?_ fun e w' he=>kX.only (C:=⟨P,fn,n,⟨w,cZ φ,I,φ,nb⟩,kp,ob,R,none,fun _ _=>False,[],hR.lay hV _⟩) (fun _ _ h=>h) he
 refine FB (C:=⟨P,fn,n,⟨w,cZ φ,I,φ,nb⟩,kp,ob,R,none,fun _ _=>False,[],hR.lay hV _⟩) hf hb rfl (h0 φ I _ w ⟨Marks.nil,?_,fun i x hx=>?_,tL hR _⟩)
 ·simp only[Array.size_append,List.size_toArray,Array.size_replicate,hn];omega
 ·obtain⟨j,rfl,hj⟩:=uC args 0 i x hx
  obtain⟨u,hu,dL⟩:=ig args vs j x hd hj
  refine⟨u,?_,dL⟩
  have ag:j<vs.length:=by
   rcases Nat.lt_or_ge j vs.length with h|h
   ·exact h
   ·rw[List.getElem?_eq_none h]at hu;cases hu
  rw[Nat.zero_add,Array.getElem?_append_left (by simpa using ag)]
  simpa using hu
attribute [go_sem] AV.ge AV.jh lJ
section
variable {w:World} {φ:al} {I:Nat->Prop} {l:Nat} {r:Loop} {o':Obj}
theorem abf (hl:w.heap[l]?=some (.loop r)) (g n:Nat) (h:shaped w g n):shaped (w.putObj l o') g n:=by
 obtain⟨c,e,hc,hn⟩:=h
 have hg:g≠l:=fun h=>by subst h;rw[hl]at hc;cases hc
 exact⟨c,e,(World.putObj_heap_other hg).trans hc,hn⟩
theorem DT (hl:w.heap[l]?=some (.loop r)) (hI:¬I l):bE w φ I (w.putObj l o') φ I:=
 ⟨fun g hg=>World.putObj_heap_other (fun e=>hI (e▸hg)),fun _ h=>h,fun _ _ h=>h,fun _ g n _=>abf hl g n⟩
theorem Mc {own:Nat->Prop} (hl:w.heap[l]?=some (.loop r)) (ho:own l):Ext own w (w.putObj l o'):=
 ⟨by simp,fun g _ hn=>World.putObj_heap_other (fun e=>hn (e▸ho)),fun g c e fz hc=>⟨c,fz,(World.putObj_heap_other (fun e=>by subst e;rw[hl]at hc;cases hc)).trans hc,rfl⟩,rfl,rfl,rfl⟩
theorem St.QJ {B:Bs} {H H':aa} (h:St B φ I H w) {b:Nat} (hb:φ b=some (some l)) (hl:w.heap[l]?=some (.loop r)) {ob:Ob} (gz:lk H' b=some ob) (aU:ob.at (w.putObj l o') φ I (some l))
  (dU:∀b',b'≠b->lk H' b'=lk H b'):St B φ I H' (w.putObj l o')/\bE w φ I (w.putObj l o') φ I:=by
 have hI:¬I l:=(h.real.off b l hb).1
 have k:bE w φ I (w.putObj l o') φ I:=DT hl hI
 have zO:∃o,lk H b=some o:=by
  have:=h.real.bj b
  rw[hb]at this
  cases hq:lk H b with
  |none=>rw[hq]at this;cases this
  |some o=>exact⟨o,rfl⟩
 refine⟨⟨⟨fun b'=>?_,fun b' o p aJ hp=>?_,fun b' g hp=>?_,h.real.inj,fun g hg=>?_⟩,h.ext.trans (Mc (own:=fun g=>g=l) hl rfl) (fun g hg=>by subst hg;exact h.cf b _ hb),h.cf,h.dj,h.cC,fun b' p o ag h0 aJ=>?_⟩,k⟩
 ·by_cases aq:b'=b
  ·subst aq;rw[gz,hb];rfl
  ·rw[dU b' aq];exact h.real.bj b'
 ·by_cases aq:b'=b
  ·subst aq
   rw[gz]at aJ;cases aJ
   rw[hb]at hp;cases hp
   exact aU
  ·rw[dU b' aq]at aJ
   exact Ob.k5 k.im k.I k.phi k.sh (fun g hg=>World.putObj_heap_other (fun e=>by subst e;subst hg;exact aq (h.real.inj b' b g hp hb))) (h.real.own b' o p aJ hp)
 ·have:=h.real.off b' g hp
  exact⟨this.1,by simpa using this.2⟩
 ·have:=h.real.bN g hg
  simpa using this
 ·by_cases aq:b'=b
  ·subst aq
   obtain⟨o1,mU⟩:=zO
   exact h.cP b' p o1 ag h0 mU
  ·rw[dU b' aq]at aJ;exact h.cP b' p o ag h0 aJ
end
def pQ:List Tmp->List AV->Env->Env
 |t::ts,x::xs,E=>pQ ts xs ((t,x)::E)
 |_,_,E=>E
theorem S5 {w:World} {φ:al} {I:Nat->Prop}:∀(ps:List Tmp) (args:List AV) (vs:List Value) (E:Env) (T:Array Value),AV.ab w φ I args vs->ps.length=args.length->(∀t∈ps,t<T.size)->
  (∀i x,lk E i=some x->∃u,T[i]?=some u/\AV.den w φ I x u)->
  ((ps.zip vs).foldl (fun tmps (p:Tmp×Value)=>tmps.setIfInBounds p.1 p.2) T).size=T.size/\
  ∀i x,lk (pQ ps args E) i=some x->∃u,((ps.zip vs).foldl (fun tmps (p:Tmp×Value)=>tmps.setIfInBounds p.1 p.2) T)[i]?=some u/\AV.den w φ I x u
 |[],[],vs,E,T,h,_,_,hE=>by simp only[AV.ab]at h;subst h;exact⟨rfl,hE⟩
 |[],_::_,_,_,_,_,h,_,_=>by simp at h
 |_::_,[],_,_,_,_,h,_,_=>by simp at h
 |t::ts,x::xs,vs,E,T,h,hlen,ag,hE=>by
  simp only[AV.ab]at h
  obtain⟨u,us,rfl,U,h2⟩:=h
  simp only[List.zip_cons_cons,List.foldl_cons,pQ]
  have:=S5 ts xs us ((t,x)::E) (T.setIfInBounds t u) h2 (by simpa using hlen) (fun t' s9=>by simpa using ag t' (by simp[s9])) (fun i y hy=>by
   simp only[lk]at hy
   cases hb:Nat.beq t i with
   |true=>
    rw[hb]at hy
    have:=Nat.eq_of_beq_eq_true hb
    subst this
    simp only[cond_true,Option.some.injEq]at hy
    subst hy
    exact⟨u,by rw[Array.getElem?_setIfInBounds_self_of_lt (ag t (by simp))],U⟩
   |false=>
    rw[hb]at hy
    have aK:t≠i:=fun e=>by subst e;simp at hb
    obtain⟨v,hv,hd⟩:=hE i y hy
    exact⟨v,by rw[Array.getElem?_setIfInBounds_ne aK];exact hv,hd⟩)
  refine⟨?_,this.2⟩
  rw[this.1];simp
theorem Vf (ps:List Tmp) (vs:List Value) (T:Array Value):
  (ps.toArray.zip vs.toArray).foldl (fun tmps (t,a)=>tmps.setIfInBounds t a) T=(ps.zip vs).foldl (fun tmps (p:Tmp×Value)=>tmps.setIfInBounds p.1 p.2) T:=by
 simp
def Fs (C:Cx) (l:Nat) (p:List Nat):Exit->Act->World->Prop:=
 Exit.then (fun lZ mF=>∃Fb,(Instr.beginRound l).run C.P mF= .ok () Fb/\oE (some l) C.P (cd C.fn (1::p)) (roundPost C.P l (nC C.B C.R)) lZ Fb) (fun _ _ _=>False)
def zi (C:Cx) (l:Nat):Exit->Act->World->Prop:=roundPost C.P l (nC C.B C.R)
section
variable {C:Cx} {K:List PK} {E:Env} {H:aa}
theorem AE.begin {l b n:Nat} {fn:Func} {p:List Nat} {ps:List Tmp} {EL:Env} (gB:C.rd=some l) (hl:lk H b=some (.lp l n .ready fn p ps EL)) (q:List Nat)
  (h:AP C (1::q) [.bot (zi C l)] E (aR H b (.lp l n .busy fn p ps EL))):AE C .normal [.bot (Fs C l q)] E H:=by
 unfold AE
 unfold AP at h
 intro φ I a w hs
 simp only[List.map_cons,List.map_nil,PK.ki,d_,Fs,Exit.then]
 have hd:=hs.st.real.bj b
 rw[hl]at hd
 cases hp:φ b with
 |none=>rw[hp]at hd;cases hd
 |some p0=>
  have aU:=hs.st.real.own b _ p0 hl hp
  simp only[Ob.at]at aU
  obtain⟨rfl,T,D,cz,U,h2,h3⟩:=aU
  refine⟨_,run_beginRound h2 rfl,?_⟩
  obtain⟨hS,k⟩:=hs.st.QJ (o':= .loop {state:=iK.busy.state,pending:=iK.busy.vM,fn:=cz,tmps:=T,params:=ps.toArray,assign:=child 0 (cd fn p),body:=child 1 (cd fn p),defers:=D}) (H':=aR H b (.lp l n .busy fn p ps EL)) hp h2 (de H b _ hl) (by
   simp only[Ob.at]
   refine⟨trivial,T,D,cz,U,World.putObj_heap_same (Array.getElem?_eq_some_iff.1 h2).1,fun i x hx=>?_⟩
   obtain⟨u,hu,hd⟩:=h3 i x hx
   exact⟨u,hu,(DT (φ:=φ) h2 (hs.st.real.off b l hp).1).den hd⟩) (fun b' bK=>cD H b b' _ bK)
  have h4:=h φ I a _ ⟨hs.bF.mono k.im k.I,hs.bC,fun i x hx=>let⟨u,hu,hd⟩:=hs.env i x hx;⟨u,hu,k.den hd⟩,hS⟩
  rw[gB]at h4
  exact h4
theorem QY {l b n:Nat} {fn:Func} {p:List Nat} {ps:List Tmp} {EL:Env} {φ:al} {I:Nat->Prop} {a:Act} {w:World} (hs:bB C φ I E H a w) (jump:Option Code) (st:iK)
  (bI:st.state=(if jump.isNone then .ready else .done)) (N1:st.vM=jump) (hl:lk H b=some (.lp l n .busy fn p ps EL)) (hR:C.R (.im (.v (.bool jump.isNone))) (aR H b (.lp l n st fn p ps EL))):
  ∃v w',(Instr.endRound l jump).run C.P w= .ok v w'/\nC C.B C.R (.returned v) w':=by
 have hd:=hs.st.real.bj b
 rw[hl]at hd
 cases hp:φ b with
 |none=>rw[hp]at hd;cases hd
 |some p0=>
  have aU:=hs.st.real.own b _ p0 hl hp
  simp only[Ob.at]at aU
  obtain⟨rfl,T,D,cz,U,h2,h3⟩:=aU
  refine⟨_,_,run_endRound jump h2,?_⟩
  obtain⟨hS,k⟩:=hs.st.QJ (o':= .loop {state:=st.state,pending:=st.vM,fn:=cz,tmps:=T,params:=ps.toArray,assign:=child 0 (cd fn p),body:=child 1 (cd fn p),defers:=D}) (H':=aR H b (.lp l n st fn p ps EL)) hp h2 (de H b _ hl) (by
   simp only[Ob.at]
   refine⟨trivial,T,D,cz,U,World.putObj_heap_same (Array.getElem?_eq_some_iff.1 h2).1,fun i x hx=>?_⟩
   obtain⟨u,hu,hd⟩:=h3 i x hx
   exact⟨u,hu,(DT (φ:=φ) h2 (hs.st.real.off b l hp).1).den hd⟩) (fun b' bK=>cD H b b' _ bK)
  rw[<-bI,<-N1]
  rw[N1]at hS⊢
  refine⟨_,_,φ,I,_,hR,rfl,by simp only[AV.den,IV.den];exact⟨trivial,rfl⟩,?_⟩
  exact hS
theorem AE.vX {l b n:Nat} {fn:Func} {p:List Nat} {ps:List Tmp} {EL:Env} (hl:lk H b=some (.lp l n .busy fn p ps EL)) (hR:C.R (.im (.v (.bool true))) (aR H b (.lp l n .ready fn p ps EL))):
  AE C .normal [.bot (zi C l)] E H:=by
 unfold AE
 intro φ I a w hs
 simp only[List.map_cons,List.map_nil,PK.ki,d_,zi,roundPost]
 exact QY hs none .ready rfl rfl hl hR
theorem AE.QX {l b n:Nat} {fn:Func} {p:List Nat} {ps:List Tmp} {EL:Env} (hl:lk H b=some (.lp l n .busy fn p ps EL)) (hR:C.R (.im (.v (.bool false))) (aR H b (.lp l n (.done .ret) fn p ps EL))):
  AE C .ret [.bot (zi C l)] E H:=by
 unfold AE
 intro φ I a w hs
 simp only[List.map_cons,List.map_nil,PK.ki,d_,zi,roundPost]
 exact QY hs (some .ret) (.done .ret) rfl rfl hl hR
end
theorem gp.walk {P:Program} {fn:Func} {n nb l b:Nat} {p:List Nat} {ps:List Tmp} {EL:Env} {args:List AV} {H:aa} {R:AV->aa->Prop} (kp ob:List Nat)
  (hl:lk H b=some (.lp l n .ready fn p ps EL)) (XN:Nat.beq ps.length args.length=true) (ag:(ps.all fun t=>Nat.blt t n)=true)
  (h:∀(w:World) (own I0:Nat->Prop) (ao:al) (lay:Lay P ⟨w,own,I0,ao,nb⟩),AP ⟨P,fn,n,⟨w,own,I0,ao,nb⟩,kp,ob,R,some l,fun _ _=>False,[],lay⟩ (0::p) [.bot (Fs ⟨P,fn,n,⟨w,own,I0,ao,nb⟩,kp,ob,R,some l,fun _ _=>False,[],lay⟩ l p)] (pQ ps args EL) H):gp P nb l args H R:=by
 refine⟨fun w φ I vs hd hR hV=>?_⟩
 have wX:=hR.bj b
 rw[hl]at wX
 cases hp:φ b with
 |none=>rw[hp]at wX;cases wX
 |some p0=>
  have aU:=hR.own b _ p0 hl hp
  simp only[Ob.at]at aU
  obtain⟨rfl,T,D,cz,U,h2,h3⟩:=aU
  have fw:=jA args vs hd
  have qn:=Nat.eq_of_beq_eq_true XN
  refine⟨cz,_,_,_,run_yield h2 (by simp[fw,qn]),?_⟩
  have h0:=h w (cZ φ) I φ (hR.lay hV _)
  unfold AP at h0
  have hz:=S5 ps args vs EL T hd qn (fun t ht=>by
   have:=List.all_eq_true.1 ag t ht
   rw[Nat.blt_eq]at this
   rw[U];exact this) h3
  have h4:=h0 φ I {tmps:=(ps.zip vs).foldl (fun tmps (p:Tmp×Value)=>tmps.setIfInBounds p.1 p.2) T,defers:=[]} w ⟨Marks.nil,by rw[hz.1];exact U,hz.2,tL hR _⟩
  have hF:∀(c:Code) (Q:Exit->Act->World->Prop) (a:Act) (w:World),oE (some l) P c Q a w->c.wpIn (Fence.wide.inRound l) 3 P Q a w:=fun _ _ _ _ h=>h
  refine roundIn_of_wpIn (F:=Fence.wide) (n:=3) trivial (hF _ _ _ _ ?_)
  rw[Vf]
  exact h4
end Go.AL
end
