import Derived.Test.YtpfohmboflcneaaGreatDoorAl1
import Derived.StillTail
import Derived.OpenShut
import Derived.WideKeyArgs
import Derived.ChangeSame
import Derived.ProofKit
import Derived.JoinedCond
import Derived.Below
import Derived.Lib.ConvBytes
import Derived.Lib.AppendStr
import Derived.Lib.UnsafeStr
import Derived.Lib.Builder
import Derived.RangeFuncRecord
set_option linter.unusedSimpArgs false
set_option linter.unusedVariables false
set_option linter.unnecessarySimpa false
section
namespace Go.AL
open Go
inductive PK where
 |seq (p:List Nat)
 |dn (id:Nat)
 |lp (J:Act->World->Prop)
 |sc
 |bot (Q:Exit->Act->World->Prop)
def PK.ki (fn:Func):PK->KI
 | .seq p=> .seq (bS fn p)
 | .dn id=> .dn id
 | .lp J=> .lp J
 | .sc=> .sc
 | .bot Q=> .bot Q
def AP (C:Cx) (p:List Nat) (K:List PK) (E:Env) (H:aa):Prop:=AR C (bS C.fn p) (K.map (PK.ki C.fn)) E H
def AE (C:Cx) (e:Exit) (K:List PK) (E:Env) (H:aa):Prop:=AX C e (K.map (PK.ki C.fn)) E H
def AQ (C:Cx) (ds:List (Nat×Nat)) (i:Nat) (rest:List Oper) (K:List PK) (E:Env) (H:aa):Prop:=AO C ds i rest (K.map (PK.ki C.fn)) E H
def vq (C:Cx) (K:List PK):List Oper->List (Nat×Nat)->Nat->Env->aa->Prop
 |[],ds,i,E,H=>AQ C ds i [] K E H
 |o::os,ds,i,E,H=>match gd ds E o.guard with
  |none=>AQ C ds i (o::os) K E H
  |some G=>match gf C.P E H o.op with
   |some (sc,v)=>(G=true->sc)/\vq C K os (aQ o.dst i ds) (i+1) (aS o.dst (wrap o.guard G v) E) H
   |none=>match o.guard with
    |some _=>AQ C ds i (o::os) K E H
    |none=>match ml C.P C.B.nb C.ob E H o with
     |some (sc,v,H')=>sc/\vq C K os (aQ o.dst i ds) (i+1) (aS o.dst v E) H'
     |none=>AQ C ds i (o::os) K E H
theorem sq (C:Cx) (K:List PK):∀(rest:List Oper) (ds:List (Nat×Nat)) (i:Nat) (E:Env) (H:aa),vq C K rest ds i E H->vc C.P C.B.nb C.ob (fun rest ds i E H=>AO C ds i rest (K.map (PK.ki C.fn)) E H) rest ds i E H
 |[],ds,i,E,H,h=>h
 |o::os,ds,i,E,H,h=>by
  simp only[vq]at h
  simp only[vc]
  cases hG:gd ds E o.guard with
  |none=>simp only[hG]at h⊢;exact h
  |some G=>
   simp only[hG]at h⊢
   cases hv:gf C.P E H o.op with
   |some q=>
    obtain⟨sc,v⟩:=q
    simp only[hv]at h⊢
    exact⟨h.1,sq C K os _ _ _ _ h.2⟩
   |none=>
    simp only[hv]at h⊢
    cases hg:o.guard with
    |some q=>simp only[hg]at h⊢;exact h
    |none=>
     simp only[hg]at h⊢
     cases he:ml C.P C.B.nb C.ob E H o with
     |some q=>
      obtain⟨sc,v,H'⟩:=q
      simp only[he]at h⊢
      exact⟨h.1,sq C K os _ _ _ _ h.2⟩
     |none=>simp only[he]at h⊢;exact h
section
variable {C:Cx} {K:List PK} {E:Env} {H:aa} {p:List Nat}
theorem AP.seq {a b:Code} (hc:bS C.fn p= .seq a b) (h:AP C (0::p) (.seq (1::p)::K) E H):AP C p K E H:=by
 unfold AP at h⊢
 simp only[bS,hc,child,List.map_cons,PK.ki]at h⊢
 exact AR.seq h
theorem AP.block {id:Nat} {a:Code} (hc:bS C.fn p= .block id a) (h:AP C (0::p) (.dn id::K) E H):AP C p K E H:=by
 unfold AP at h⊢
 simp only[bS,hc,child,List.map_cons,PK.ki]at h⊢
 exact AR.block h
theorem AP.scope {a:Code} (hc:bS C.fn p= .scope a) (h:AP C (0::p) (.sc::K) E H):AP C p K E H:=by
 unfold AP at h⊢
 simp only[bS,hc,child,List.map_cons,PK.ki]at h⊢
 exact AR.scope h
theorem AP.skip (hc:bS C.fn p= .skip) (h:AE C .normal K E H):AP C p K E H:=by
 unfold AP;rw[hc];exact AR.skip h
theorem AP.ret (hc:bS C.fn p= .ret) (h:AE C .ret K E H):AP C p K E H:=by
 unfold AP;rw[hc];exact AR.ret h
theorem AP.exit {id:Nat} (hc:bS C.fn p= .exit id) (h:AE C (.exit id) K E H):AP C p K E H:=by
 unfold AP;rw[hc];exact AR.exit h
theorem AP.label {id:Nat} (hc:bS C.fn p= .label id) (h:AE C .normal K E H):AP C p K E H:=by
 unfold AP;rw[hc];exact AR.label h
theorem AP.region {id:Nat} {ops:List Oper} (hc:bS C.fn p= .region id ops.toArray false) (ah:a6 C.n ops=true) (h:vq C K ops [] 0 E H):AP C p K E H:=by
 unfold AP;rw[hc]
 exact AR.region ah (by simpa using sq C K ops [] 0 E H h)
theorem AP.cond {t:Tmp} {x y:Code} {b:Bool} (hc:bS C.fn p= .cond (.tmp t) x y) (hb:lk E t=some (.im (.v (.bool b)))) (ht:b=true->AP C (0::p) K E H) (hf:b=false->AP C (1::p) K E H):AP C p K E H:=by
 unfold AP at ht hf⊢
 simp only[bS,hc,child]at ht hf⊢
 exact AR.cond rfl hb ht hf
theorem AP.cond_true {t:Tmp} {x y:Code} (hc:bS C.fn p= .cond (.tmp t) x y) (hb:lk E t=some (.im (.v (.bool true)))) (ht:AP C (0::p) K E H):AP C p K E H:=
 AP.cond hc hb (fun _=>ht) (fun h=>by cases h)
theorem AP.cond_false {t:Tmp} {x y:Code} (hc:bS C.fn p= .cond (.tmp t) x y) (hb:lk E t=some (.im (.v (.bool false)))) (hf:AP C (1::p) K E H):AP C p K E H:=
 AP.cond hc hb (fun h=>by cases h) (fun _=>hf)
theorem AP.loop {α:Type} {c:Code} (hc:bS C.fn p= .loop c) (LE:α->Env) (LH:α->aa) (ok:α->Prop) (μ:α->Nat) (p0:α) (h0:ok p0) (hE:Sub E (LE p0)) (hH:H=LH p0)
  (round:∀q,ok q->AP C (0::p) (.lp (qz C LE LH ok μ (μ q))::K) (LE q) (LH q)):AP C p K E H:=by
 unfold AP at round⊢
 simp only[bS,hc,child,List.map_cons,PK.ki]at round⊢
 exact AR.loop LE LH ok μ p0 h0 hE hH round
theorem AE.seq {q:List Nat} (h:AP C q K E H):AE C .normal (.seq q::K) E H:=h
theorem AE.JB {q:List Nat} {id:Nat} (h:AE C (.exit id) K E H):AE C (.exit id) (.seq q::K) E H:=h
theorem AE.JC {q:List Nat} (h:AE C .ret K E H):AE C .ret (.seq q::K) E H:=h
theorem AE.dn {id:Nat} (h:AE C .normal K E H):AE C .normal (.dn id::K) E H:=h
theorem AE.zh {id:Nat} (h:AE C .normal K E H):AE C (.exit id) (.dn id::K) E H:=AX.zh h
theorem AE.zi {id jU:Nat} (aG:(jU==id)=false) (h:AE C (.exit jU) K E H):AE C (.exit jU) (.dn id::K) E H:=AX.zi aG h
theorem AE.D3 {id:Nat} (h:AE C .ret K E H):AE C .ret (.dn id::K) E H:=h
theorem AE.sc (h:AE C .normal K E H):AE C .normal (.sc::K) E H:=h
theorem AE.Jy {id:Nat} (h:AE C (.exit id) K E H):AE C (.exit id) (.sc::K) E H:=h
theorem AE.Jz (h:AE C .ret K E H):AE C .ret (.sc::K) E H:=h
theorem AE.HJ {J:Act->World->Prop} {id:Nat} (h:AE C (.exit id) K E H):AE C (.exit id) (.lp J::K) E H:=h
theorem AE.HK {J:Act->World->Prop} (h:AE C .ret K E H):AE C .ret (.lp J::K) E H:=h
theorem AE.round {α:Type} {LE:α->Env} {LH:α->aa} {ok:α->Prop} {μ:α->Nat} {m:Nat} (q:α) (ah:ok q) (BE:μ q<m) (hE:Sub E (LE q)) (hH:H=LH q):
  AE C .normal (.lp (qz C LE LH ok μ m)::K) E H:=AX.round q ah BE hE hH
theorem AE.ret {sc:Prop} {xs:List AV} (h:gT C.P E H C.fn.results.toList=some (sc,xs)) (au:sc) (hR:C.R (dA xs) H):AE C .ret [] E H:=AX.ret h au hR
theorem AE.gZ {sc:Prop} {xs:List AV} (h:gT C.P E H C.fn.results.toList=some (sc,xs)) (au:sc) (hR:C.R (dA xs) H):AE C .normal [] E H:=AX.gZ h au hR
theorem AQ.done {ds:List (Nat×Nat)} {i:Nat} (h:AE C .normal K (jX C.kp E) H):AQ C ds i [] K E H:=AO.done h
theorem AQ.go {ds:List (Nat×Nat)} {i:Nat} {rest:List Oper} (ah:a6 C.n rest=true) (h:vq C K rest ds i E H):AQ C ds i rest K E H:=so rest ds i E H ah (sq C K rest ds i E H h)
theorem AQ.nW {ds:List (Nat×Nat)} {i:Nat} {o:Oper} {os:List Oper} (hG:gd ds E o.guard=some true) (h:AQ C ds i ({o with guard:=none}::os) K E H):AQ C ds i (o::os) K E H:=AO.nW hG h
theorem AQ.qZ {ds:List (Nat×Nat)} {i:Nat} {o:Oper} {os:List Oper} (ah:∀x,o.dst=some x->x<C.n) (hG:gd ds E o.guard=some false) (h:AQ C (aQ o.dst i ds) (i+1) os K (aS o.dst (.opt false .top) E) H):AQ C ds i (o::os) K E H:=AO.qZ ah hG h
theorem AQ.call {ds:List (Nat×Nat)} {i:Nat} {d:Option Nat} {ty:TypeId} {pos:String} {af:Array Edge} {os:List Oper} {f:FuncId} {xs:List Operand} {aP:Array TypeId} {l:List AV} {R:AV->aa->Prop}
  (ah:a6 C.n ({dst:=d,op:= .call {callee:= .value (.func f),args:=xs.toArray,argTypes:=aP},type:=ty,pos:=pos,after:=af,guard:=none}::os)=true)
  (hl:di E xs=some l) (cZ:gs l=true) (eA:AV.frees (l.map AV.st)=true) (hc:al C.P f (l.map AV.st) [] R)
  (hR:∀r H',R r H'->H'=[]/\r.free=true) (h:∀r,R r []->vq C K os (aQ d i ds) (i+1) (aS d r E) H):
  AQ C ds i ({dst:=d,op:= .call {callee:= .value (.func f),args:=xs.toArray,argTypes:=aP},type:=ty,pos:=pos,after:=af,guard:=none}::os) K E H:=by
 obtain⟨hd,b9⟩:=dE ah
 exact AO.call rfl rfl hd (by simpa using hl) cZ eA hc hR fun r hr=>AQ.go b9 (h r hr)
theorem AQ.append {ds:List (Nat×Nat)} {i:Nat} {d:Nat} {ty:TypeId} {pos:String} {af:Array Edge} {os:List Oper} {x y:Operand} {t e:TypeId} {b n es bytes:Nat} {rows xs:List (List IV)} (hnb:Nat.ble C.B.nb b=true)
  (ah:a6 C.n ({dst:=some d,op:= .call {callee:= .builtin .append,args:=#[x,y],argTypes:=#[t,t]},type:=ty,pos:=pos,after:=af,guard:=none}::os)=true)
  (hx:ev E x=some (.os b (es+1) 0 n)) (hy:ev E y=some (.im (.sl (es+1) xs))) (hH:lk H b=some (.vec e (es+1) rows)) (bG:noMen b H=true)
  (ht:tk C.P t= .slice e) (cm:sz C.P e=some (es+1)) (hz:(az C.P e).map List.length=some (es+1)) (iD:aI C.P e=some bytes)
  (hn:n=rows.length) (eL:(rows.length+xs.length)*bytes<=140737488355328) (kf:rows.length+xs.length<=70368744177664)
  (h:vq C K os ((i,d)::ds) (i+1) ((d,.os b (es+1) 0 (rows.length+xs.length))::killE b E) (bt H b (.vec e (es+1) (rows++xs)))):
  AQ C ds i ({dst:=some d,op:= .call {callee:= .builtin .append,args:=#[x,y],argTypes:=#[t,t]},type:=ty,pos:=pos,after:=af,guard:=none}::os) K E H:=by
 obtain⟨hd,b9⟩:=dE ah
 exact AO.append hnb rfl rfl rfl (by rw[Nat.blt_eq];exact hd d rfl) hx (fun φ I a w hs=>Src.im (by have:=aL hs.env hy;simpa only[AV.den]using this)) hH bG ht cm hz iD hn eL kf (AQ.go b9 h)
theorem AQ.fn {ds:List (Nat×Nat)} {i:Nat} {d:Option Nat} {ty:TypeId} {pos:String} {af:Array Edge} {os:List Oper} {f:FuncId} {xs:List Operand} {aP:Array TypeId} {l:List AV} {r:AV}
  (ah:a6 C.n ({dst:=d,op:= .call {callee:= .value (.func f),args:=xs.toArray,argTypes:=aP},type:=ty,pos:=pos,after:=af,guard:=none}::os)=true)
  (hl:di E xs=some l) (cZ:gs l=true) (eA:AV.frees (l.map AV.st)=true) (hc:al C.P f (l.map AV.st) [] (fun r' H'=>H'=[]/\r'=r)) (hr:r.free=true)
  (h:vq C K os (aQ d i ds) (i+1) (aS d r E) H):
  AQ C ds i ({dst:=d,op:= .call {callee:= .value (.func f),args:=xs.toArray,argTypes:=aP},type:=ty,pos:=pos,after:=af,guard:=none}::os) K E H:=
 AQ.call ah hl cZ eA hc (fun r' H' ⟨U,h2⟩=>⟨U,by rw[h2];exact hr⟩) fun r' ⟨_,h2⟩=>by rw[h2];exact h
theorem AP.weaken {E':Env} (h:AP C p K E' H) (hE:Sub E E'):AP C p K E H:=AR.weaken h hE
theorem AE.weaken {e:Exit} {E':Env} (h:AE C e K E' H) (hE:Sub E E'):AE C e K E H:=AX.weaken h hE
end
theorem al.walk {P:Program} {f:FuncId} {fn:Func} {c:Code} {n nb:Nat} {args:List AV} {H:aa} {R:AV->aa->Prop} (kp ob:List Nat) (hf:P.funcs[f]?=some fn) (hb:fn.body=some c) (hn:fn.ntmps=n)
  (iG:enters P f=true) (cE:Nat.ble args.length n=true) (hnb:cH H=nb)
  (h:∀(w:World) (own I0:Nat->Prop) (aw:ak) (lay:Lay P ⟨w,own,I0,aw,nb⟩),AP ⟨P,fn,n,⟨w,own,I0,aw,nb⟩,kp,ob,R,none,fun _ _=>False,[],lay⟩ [] [] (enum 0 args) H):al P f args H R:=
 al.intro kp ob hf hb hn iG cE hnb fun w own I0 aw lay=>by
  have:=h w own I0 aw lay
  unfold AP at this
  simp only[bS,hb,Option.getD_some]at this
  exact this
def aR (P:Program) (f:FuncId) (args:List AV) (r:AV):Prop:=al P f args [] (fun r' H'=>H'=[]/\r'=r)
theorem wr {x:Int} (h:-9223372036854775808<=x/\x<=9223372036854775807):IntKind.i64.wrap x=x:=by
 simp only[IntKind.wrap,IntKind.bits,IntKind.signed]
 simp only[Bool.true_and,decide_eq_true_eq,ge_iff_le]
 split<;>omega
theorem Sub.nil (E:Env):Sub E []:=fun i x h=>by simp[lk]at h
theorem Sub.cons {E E':Env} {i:Nat} {x:AV} (h:lk E i=some x) (h':Sub E E'):Sub E ((i,x)::E'):=fun j y hj=>by
 simp only[lk]at hj
 cases hb:Nat.beq i j with
 |true=>
  rw[hb]at hj
  have:=Nat.eq_of_beq_eq_true hb
  subst this
  simp only[cond_true,Option.some.injEq]at hj
  subst hj
  exact h
 |false=>rw[hb]at hj;exact h' j y hj
theorem Sub.refl (E:Env):Sub E E:=fun _ _ h=>h
attribute [go_sem] vq gd bw aS aQ wrap gf dX gY kR fh o7 vD jx gS oJ jw sF vy vu sG Nat.beq_refl ev bl un bi AV.g AV.st vF vL uy sC rH s5 lH py Ck TK.BK sK sB vw vM vK vx vG vC vE qT vB vJ mY qf sD vA vz qB vI vH lk enum TK.agg jX cond_true cond_false ux bC aE cH ml pa qb iL jV setAt bt gT dA di gs
 killE menE AV.men AV.mens noMen AV.free AV.frees rowsOf fillParts placesOf aBuild setRowI
attribute [go_sem] Int.toNat_natCast Rv Ru Ns Nt cond Bool.false_or Bool.or_false Bool.true_or Bool.or_true decide_true decide_false eq_self Bool.false_and Bool.and_false true_and and_true imp_self forall_const implies_true Bool.and_true Bool.true_and Bool.not_true Bool.not_false Bool.and_self Bool.or_self
attribute [irreducible] AP AE AQ
def BA (l:List UInt8):ByteArray:=⟨l.toArray⟩
theorem K4 (l:List UInt8):ByteArray.mk (List.toArray l)=BA l:=rfl
theorem K5 (s:ByteArray):s=BA s.data.toList:=by cases s;simp[BA]
theorem y9 (l:List UInt8):(BA l).size=l.length:=rfl
theorem o3 (l:List UInt8):(BA l).data.toList=l:=by simp[BA]
theorem y_ (l:List UInt8):(BA l).toList=l:=by rw[ByteArray.toList_eq,o3]
theorem K3 (l:List UInt8) (a b:Nat):(BA l).extract a b=BA ((l.drop a).take (b-a)):=ByteArray.extract_mk l a b
theorem K2 (l m:List UInt8):BA l++BA m=BA (l++m):=ByteArray.mk_append_mk l m
abbrev Sv (l:List UInt8):AV:= .im (.v (.string (BA l)))
abbrev Iv (n:Int):AV:= .im (.v (.int .i64 n))
abbrev Bv (b:Bool):AV:= .im (.v (.bool b))
abbrev Si (l:List UInt8):IV:= .v (.string (BA l))
abbrev Ii (n:Int):IV:= .v (.int .i64 n)
attribute [go_sem] K4 y9 o3 y_ K3 K2
mutual
def fj (b dN:Nat) (rows:List (List IV)):AV->AV
 | .os b' es i n=>bif Nat.beq b' b then bif Nat.beq es dN then .im (.sl es ((rows.drop i).take n))else .top else .os b' es i n
 | .oe b' es i j=>bif Nat.beq b' b then .top else .oe b' es i j
 | .ob b' o=>bif Nat.beq b' b then(bif Nat.beq o 0 then .im (.pt rows.flatten)else .top)else .ob b' o
 | .fn f fs aD=> .fn f (gy b dN rows fs) (gy b dN rows aD)
 | .agg cs=> .agg (gy b dN rows cs)
 | .aK cs=> .aK (gy b dN rows cs)
 | .opt g x=> .opt g (fj b dN rows x)
 | .im x=> .im x
 | .ar x=> .ar x
 | .top=> .top
 | .mp b'=>bif Nat.beq b' b then .top else .mp b'
 | .wr k x=> .wr k (fj b dN rows x)
def gy (b dN:Nat) (rows:List (List IV)):List AV->List AV
 |[]=>[]
 |x::xs=>fj b dN rows x::gy b dN rows xs
end
mutual
def gj (b:Nat) (rows:List (List IV)):AV->Prop
 | .os b' _ i n=>bif Nat.beq b' b then i+n<=rows.length else True
 | .fn _ fs aD=>gk b rows fs/\gk b rows aD
 | .agg cs=>gk b rows cs
 | .aK cs=>gk b rows cs
 | .opt _ x=>gj b rows x
 | .wr _ x=>gj b rows x
 |_=>True
def gk (b:Nat) (rows:List (List IV)):List AV->Prop
 |[]=>True
 |x::xs=>gj b rows x/\gk b rows xs
end
def kZ (b dN:Nat) (rows:List (List IV)):Env->Env
 |[]=>[]
 |(i,x)::r=>(i,fj b dN rows x)::kZ b dN rows r
def lI (b:Nat) (rows:List (List IV)):Env->Prop
 |[]=>True
 |(_,x)::r=>gj b rows x/\lI b rows r
def fD (b dN:Nat) (rows:List (List IV)):aa->aa
 |[]=>[]
 |(j,.var e cs)::r=>bif Nat.beq j b then fD b dN rows r else(j,.var e (gy b dN rows cs))::fD b dN rows r
 |(j,.vec e es rs)::r=>bif Nat.beq j b then fD b dN rows r else(j,.vec e es rs)::fD b dN rows r
 |(j,.lp l n st fn q ps E)::r=>bif Nat.beq j b then fD b dN rows r else(j,.lp l n st fn q ps (kZ b dN rows E))::fD b dN rows r
def jf (b:Nat) (rows:List (List IV)):aa->Prop
 |[]=>True
 |(_,.var _ cs)::r=>gk b rows cs/\jf b rows r
 |(_,.vec _ _ _)::r=>jf b rows r
 |(_,.lp _ _ _ _ _ _ E)::r=>lI b rows E/\jf b rows r
section
variable {w:World} {φ φ':ak} {I I':Nat->Prop} {b:Nat} {es:Nat} {rows:List (List IV)}
mutual
theorem qX (aq:∀b',b'≠b->φ' b'=φ b') (hI:∀g,I g->I' g) (hb:(φ b=some none/\rows=[])\/∃g ae,φ b=some (some g)/\I' g/\IV.aC w I rows ae/\(∀vs∈ae,vs.length=es)/\cr w g 0 ae.flatten):∀(x:AV) (u:Value),gj b rows x->AV.den w φ I x u->AV.den w φ' I' (fj b es rows x) u
 | .os b' cX i n,u,h,hx=>by
  simp only[fj,gj]at h⊢
  cases hq:Nat.beq b' b with
  |true=>
   rw[hq]at h
   have:=Nat.eq_of_beq_eq_true hq
   subst this
   cases Bb:Nat.beq cX es with
   |false=>simp only[cond_true,cond_false,AV.den]
   |true=>
    have Oe:=Nat.eq_of_beq_eq_true Bb
    subst Oe
    simp only[cond_true]at h⊢
    simp only[AV.den]at hx
    have k9:((rows.drop i).take n).length=n:=by rw[List.length_take,List.length_drop];omega
    rcases hx with⟨U,rfl,rfl,rfl⟩|⟨g',c,U,rfl,h2,h3,h4⟩
    ·simp only[AV.den,IV.den,List.take_zero]
     exact⟨none,0,[],rfl,by simp,by simp only[IV.aC],by simp,fun e=>absurd rfl e⟩
    ·rcases hb with⟨hb,_⟩|⟨g,ae,hb,hg,hd,hl,hc⟩
     ·rw[hb]at U;cases U
     rw[hb]at U
     cases U
     have fo:=je rows ae hd
     simp only[AV.den,IV.den]
     refine⟨_,c,(ae.drop i).take n,by rw[k9],by rw[k9];exact h2,?_,fun vs hv=>hl vs (List.mem_of_mem_drop (List.mem_of_mem_take hv)),fun _=>⟨g',i*cX,rfl,hg,?_⟩⟩
     ·exact IV.fT (fun _ _=>rfl) hI _ _ (wv n _ _ (wo i _ _ hd))
     ·rw[s8 n _ cX (fun vs hv=>hl vs (List.mem_of_mem_drop hv)) (by rw[List.length_drop];omega),qU i ae cX hl (by omega)]
      have:=(hc.drop (i*cX)).take (n*cX)
      rw[Nat.zero_add]at this
      exact this
  |false=>
   simp only[cond_false]
   simp only[AV.den]at hx⊢
   rw[aq b' (by intro e;subst e;simp at hq)]
   exact hx
 | .oe b' cX i j,u,_,hx=>by
  simp only[fj]
  cases hq:Nat.beq b' b with
  |true=>simp only[cond_true,AV.den]
  |false=>
   simp only[cond_false]
   simp only[AV.den]at hx⊢
   rw[aq b' (by intro e;subst e;simp at hq)]
   exact hx
 | .ob b' o,u,_,hx=>by
  simp only[fj]
  cases hq:Nat.beq b' b with
  |true=>
   simp only[cond_true]
   cases ho:Nat.beq o 0 with
   |false=>simp only[cond_false,AV.den]
   |true=>
    have:=Nat.eq_of_beq_eq_true hq
    subst this
    have:=Nat.eq_of_beq_eq_true ho
    subst this
    simp only[cond_true]
    simp only[AV.den,IV.den]at hx⊢
    obtain⟨g',U,rfl⟩:=hx
    rcases hb with⟨hb,_⟩|⟨g,ae,hb,hg,hd,hl,hc⟩
    ·rw[hb]at U;cases U
    rw[hb]at U
    cases U
    exact⟨g',0,ae.flatten,rfl,hg,IV.gh (fun _ _=>rfl) hI _ _ (pq rows ae hd),hc⟩
  |false=>
   simp only[cond_false]
   simp only[AV.den]at hx⊢
   rw[aq b' (by intro e;subst e;simp at hq)]
   exact hx
 | .fn f fs aD,u,h,hx=>by simp only[fj,gj]at h⊢;simp only[AV.den]at hx⊢;obtain⟨us,vs,U,h2,h3⟩:=hx;exact⟨us,vs,qY aq hI hb fs us h.1 U,qY aq hI hb aD vs h.2 h2,h3⟩
 | .agg cs,u,h,hx=>by simp only[fj,gj]at h⊢;simp only[AV.den]at hx⊢;obtain⟨us,U,h2⟩:=hx;exact⟨us,qY aq hI hb cs us h U,h2⟩
 | .aK cs,u,h,hx=>by simp only[fj,gj]at h⊢;simp only[AV.den]at hx⊢;obtain⟨us,U,h2⟩:=hx;exact⟨us,qY aq hI hb cs us h U,h2⟩
 | .opt q x,u,h,hx=>by simp only[fj,gj]at h⊢;simp only[AV.den]at hx⊢;exact⟨fun hq=>qX aq hI hb x u h (hx.1 hq),hx.2⟩
 | .im x,u,_,hx=>by simp only[fj];simp only[AV.den]at hx⊢;exact IV.jc (fun _ _=>rfl) hI x u hx
 | .ar x,u,_,hx=>by simp only[fj];simp only[AV.den]at hx⊢;obtain⟨us,U,h2⟩:=hx;exact⟨us,IV.gh (fun _ _=>rfl) hI x us U,h2⟩
 | .top,_,_,_=>by simp only[fj,AV.den]
 | .mp b',u,_,hx=>by
  simp only[fj]
  cases hq:Nat.beq b' b with
  |true=>simp only[cond_true,AV.den]
  |false=>
   simp only[cond_false]
   simp only[AV.den]at hx⊢
   rw[aq b' (by intro e;subst e;simp at hq)]
   exact hx
 | .wr k x,u,h,hx=>by simp only[fj,gj]at h⊢;simp only[AV.den]at hx⊢;obtain⟨v,U,h2⟩:=hx;exact⟨v,U,qX aq hI hb x v h h2⟩
theorem qY (aq:∀b',b'≠b->φ' b'=φ b') (hI:∀g,I g->I' g) (hb:(φ b=some none/\rows=[])\/∃g ae,φ b=some (some g)/\I' g/\IV.aC w I rows ae/\(∀vs∈ae,vs.length=es)/\cr w g 0 ae.flatten):∀(xs:List AV) (us:List Value),gk b rows xs->AV.ab w φ I xs us->AV.ab w φ' I' (gy b es rows xs) us
 |[],us,_,h=>by simpa only[gy,AV.ab]using h
 |x::xs,us,h,hx=>by
  simp only[gy,gk]at h⊢
  simp only[AV.ab]at hx⊢
  obtain⟨u,aj,e,U,h2⟩:=hx
  exact⟨u,aj,e,qX aq hI hb x u h.1 U,qY aq hI hb xs aj h.2 h2⟩
end
theorem mW:∀(H:aa),lk (fD b es rows H) b=none
 |[]=>rfl
 |(j,.var e cs)::r=>by
  simp only[fD]
  cases hq:Nat.beq j b with
  |true=>simpa using mW r
  |false=>simpa[lk,hq]using mW r
 |(j,.vec e cX rs)::r=>by
  simp only[fD]
  cases hq:Nat.beq j b with
  |true=>simpa using mW r
  |false=>simpa[lk,hq]using mW r
 |(j,.lp l n st fn q ps E)::r=>by
  simp only[fD]
  cases hq:Nat.beq j b with
  |true=>simpa using mW r
  |false=>simpa[lk,hq]using mW r
def pB (b dN:Nat) (rows:List (List IV)):Ob->Ob
 | .var e cs=> .var e (gy b dN rows cs)
 | .vec e es rs=> .vec e es rs
 | .lp l n st fn q ps E=> .lp l n st fn q ps (kZ b dN rows E)
theorem mV:∀(H:aa) (b':Nat),b'≠b->lk (fD b es rows H) b'=(lk H b').map (pB b es rows)
 |[],_,_=>rfl
 |(j,.var e cs)::r,b',aG=>by
  simp only[fD]
  cases hq:Nat.beq j b with
  |true=>
   have pN:=Nat.eq_of_beq_eq_true hq
   have gK:Nat.beq j b'=false:=by
    cases gK:Nat.beq j b' with
    |false=>rfl
    |true=>exact absurd ((Nat.eq_of_beq_eq_true gK).symm.trans pN) aG
   simp only[cond_true,lk,gK,cond_false]
   exact mV r b' aG
  |false=>
   simp only[cond_false,lk]
   cases gK:Nat.beq j b' with
   |true=>simp[pB]
   |false=>simpa using mV r b' aG
 |(j,.vec e cX rs)::r,b',aG=>by
  simp only[fD]
  cases hq:Nat.beq j b with
  |true=>
   have pN:=Nat.eq_of_beq_eq_true hq
   have gK:Nat.beq j b'=false:=by
    cases gK:Nat.beq j b' with
    |false=>rfl
    |true=>exact absurd ((Nat.eq_of_beq_eq_true gK).symm.trans pN) aG
   simp only[cond_true,lk,gK,cond_false]
   exact mV r b' aG
  |false=>
   simp only[cond_false,lk]
   cases gK:Nat.beq j b' with
   |true=>simp[pB]
   |false=>simpa using mV r b' aG
 |(j,.lp l n st fn q ps E)::r,b',aG=>by
  simp only[fD]
  cases hq:Nat.beq j b with
  |true=>
   have pN:=Nat.eq_of_beq_eq_true hq
   have gK:Nat.beq j b'=false:=by
    cases gK:Nat.beq j b' with
    |false=>rfl
    |true=>exact absurd ((Nat.eq_of_beq_eq_true gK).symm.trans pN) aG
   simp only[cond_true,lk,gK,cond_false]
   exact mV r b' aG
  |false=>
   simp only[cond_false,lk]
   cases gK:Nat.beq j b' with
   |true=>simp[pB]
   |false=>simpa using mV r b' aG
theorem wE:∀(H:aa),jf b rows H->∀b' e cs,lk H b'=some (.var e cs)->gk b rows cs
 |[],_,_,_,_,h=>by simp[lk]at h
 |(j,.var e0 UY)::r,hc,b',e,cs,h=>by
  simp only[jf]at hc
  simp only[lk]at h
  cases hq:Nat.beq j b' with
  |true=>rw[hq]at h;simp at h;obtain⟨_,rfl⟩:=h;exact hc.1
  |false=>rw[hq]at h;exact wE r hc.2 b' e cs h
 |(j,.vec _ _ _)::r,hc,b',e,cs,h=>by
  simp only[jf]at hc
  simp only[lk]at h
  cases hq:Nat.beq j b' with
  |true=>rw[hq]at h;simp at h
  |false=>rw[hq]at h;exact wE r hc b' e cs h
 |(j,.lp _ _ _ _ _ _ _)::r,hc,b',e,cs,h=>by
  simp only[jf]at hc
  simp only[lk]at h
  cases hq:Nat.beq j b' with
  |true=>rw[hq]at h;simp at h
  |false=>rw[hq]at h;exact wE r hc.2 b' e cs h
theorem Fz:∀(H:aa),jf b rows H->∀b' l n st fn q ps E,lk H b'=some (.lp l n st fn q ps E)->lI b rows E
 |[],_,_,_,_,_,_,_,_,_,h=>by simp[lk]at h
 |(j,o)::r,hc,b',l,n,st,fn,q,ps,E,h=>by
  simp only[lk]at h
  cases hq:Nat.beq j b' with
  |true=>
   rw[hq]at h
   simp only[cond_true,Option.some.injEq]at h
   subst h
   exact hc.1
  |false=>
   rw[hq]at h
   refine Fz r ?_ b' l n st fn q ps E h
   cases o with
   |var _ _=>exact hc.2
   |vec _ _ _=>exact hc
   |lp _ _ _ _ _ _ _=>exact hc.2
theorem zW:∀(E:Env),lI b rows E->∀i x,lk (kZ b es rows E) i=some x->∃y,lk E i=some y/\gj b rows y/\x=fj b es rows y
 |[],_,i,x,h=>by simp[kZ,lk]at h
 |(j,y)::r,hc,i,x,h=>by
  simp only[lI]at hc
  simp only[kZ,lk]at h⊢
  cases hq:Nat.beq j i with
  |true=>rw[hq]at h;simp at h⊢;exact⟨hc.1,h.symm⟩
  |false=>rw[hq]at h;simpa using zW r hc.2 i x h
theorem St.freeze {B:Bs} {H:aa} {el:TypeId} (h:St B φ I H w) (hl:lk H b=some (.vec el es rows)) (hC:jf b rows H):
  ∃φ' I',St B φ' I' (fD b es rows H) w/\(∀g,I g->I' g)/\∀(x:AV) (u:Value),gj b rows x->AV.den w φ I x u->AV.den w φ' I' (fj b es rows x) u:=by
 obtain⟨p,hp⟩:∃p,φ b=some p:=by
  have:=h.real.bf b
  rw[hl]at this
  cases hq:φ b with
  |none=>rw[hq]at this;cases this
  |some p=>exact⟨p,rfl⟩
 have aH:=h.real.own b _ p hl hp
 simp only[Ob.at]at aH
 let φ':ak:=fun i=>if i=b then none else φ i
 let I':Nat->Prop:=fun g=>I g\/φ b=some (some g)
 have aq:∀b',b'≠b->φ' b'=φ b':=fun b' hb=>by simp[φ',hb]
 have hI:∀g,I g->I' g:=fun g hg=> .inl hg
 have hb:(φ b=some none/\rows=[])\/∃g ae,φ b=some (some g)/\I' g/\IV.aC w I rows ae/\(∀vs∈ae,vs.length=es)/\cr w g 0 ae.flatten:=by
  rcases aH with⟨rfl,hr⟩|⟨g,ae,rest,rfl,b5,hd,tJ⟩
  ·exact .inl ⟨hp,hr⟩
  ·refine .inr ⟨g,ae,hp,.inr hp,hd,tJ,fun j u hu=>?_⟩
   have ag:j<ae.flatten.length:=by
    rcases Nat.lt_or_ge j ae.flatten.length with h|h
    ·exact h
    ·rw[List.getElem?_eq_none h]at hu;cases hu
   simp only[World.cell?,b5,Option.isSome_none,Bool.false_eq_true,if_false,List.getElem?_toArray,Nat.zero_add]
   rw[List.getElem?_append_left ag];exact hu
 refine⟨φ',I',⟨⟨fun b'=>?_,fun b' o p' aA b6=>?_,fun b' g b6=>?_,fun b1 b2 g U h2=>?_,fun g hg=>?_⟩,h.ext,fun b' g b6=>?_,fun g hg=>?_,fun g hg=> .inl (h.cd g hg),fun b' g oo ag h0 aA=>?_⟩,hI,fun x u hc hx=>qX aq hI hb x u hc hx⟩
 ·by_cases ai:b'=b
  ·subst ai;rw[mW];simp[φ']
  ·rw[aq b' ai,mV H b' ai,Option.isSome_map];exact h.real.bf b'
 ·by_cases ai:b'=b
  ·subst ai;rw[mW]at aA;cases aA
  ·rw[aq b' ai]at b6
   rw[mV H b' ai]at aA
   cases hq:lk H b' with
   |none=>rw[hq]at aA;cases aA
   |some o1=>
    rw[hq]at aA
    simp only[Option.map_some,Option.some.injEq]at aA
    subst aA
    have bg:=h.real.own b' o1 p' hq b6
    cases o1 with
    |var e cs=>
     simp only[Ob.at,pB]at bg⊢
     obtain⟨g,us,U,h2,h3,h4⟩:=bg
     exact⟨g,us,U,h2,qY aq hI hb cs us (wE H hC b' e cs hq) h3,h4⟩
    |vec e cX rs=>
     simp only[Ob.at,pB]at bg⊢
     rcases bg with h'|⟨g,ae,rest,U,h2,h3,h4⟩
     ·exact .inl h'
     ·exact .inr ⟨g,ae,rest,U,h2,IV.fT (fun _ _=>rfl) hI rs ae h3,h4⟩
    |lp l n st fn q ps E=>
     simp only[Ob.at,pB]at bg⊢
     obtain⟨h0,T,D,b8,U,h2,h3⟩:=bg
     refine⟨h0,T,D,b8,U,h2,fun i x hx=>?_⟩
     obtain⟨y,hy,BB,rfl⟩:=zW E (Fz H hC b' l n st fn q ps E hq) i x hx
     obtain⟨u,hu,hd⟩:=h3 i y hy
     exact⟨u,hu,qX aq hI hb y u BB hd⟩
 ·by_cases ai:b'=b
  ·subst ai;simp[φ']at b6
  ·rw[aq b' ai]at b6
   have:=h.real.off b' g b6
   refine⟨fun hg=>hg.elim this.1 (fun e=>ai (h.real.inj b' b g b6 e)),this.2⟩
 ·by_cases e1:b1=b
  ·subst e1;simp[φ']at U
  ·by_cases e2:b2=b
   ·subst e2;simp[φ']at h2
   ·rw[aq b1 e1]at U
    rw[aq b2 e2]at h2
    exact h.real.inj b1 b2 g U h2
 ·rcases hg with hg|hg
  ·exact h.real.bI g hg
  ·exact(h.real.off b g hg).2
 ·by_cases ai:b'=b
  ·subst ai;simp[φ']at b6
  ·rw[aq b' ai]at b6;exact h.bU b' g b6
 ·rcases hg with hg|hg
  ·exact h.cN g hg
  ·exact .inr (h.bU b g hg)
 ·by_cases ai:b'=b
  ·subst ai;rw[mW]at aA;cases aA
  ·rw[mV H b' ai]at aA
   rw[aq b' ai]
   cases hq:lk H b' with
   |none=>rw[hq]at aA;cases aA
   |some o1=>
    rw[hq]at aA
    exact h.cu b' g o1 ag h0 hq
theorem a_.freeze {C:Cx} {E:Env} {H:aa} {a:Act} {el:TypeId} (h:a_ C φ I E H a w) (hl:lk H b=some (.vec el es rows)) (pE:lI b rows E) (hC:jf b rows H):
  ∃φ' I',a_ C φ' I' (kZ b es rows E) (fD b es rows H) a w:=by
 obtain⟨φ',I',hS,Ab,hd⟩:=h.st.freeze hl hC
 refine⟨φ',I',h.bo.mono (fun _ _=>rfl) Ab,h.bp,fun i x hx=>?_,hS⟩
 obtain⟨y,hy,BB,rfl⟩:=zW E pE i x hx
 obtain⟨u,hu,cP⟩:=h.env i y hy
 exact⟨u,hu,hd y u BB cP⟩
end
section
variable {C:Cx} {K:List PK} {E:Env} {H:aa}
theorem AE.freeze {e:Exit} (b:Nat) {el:TypeId} {es:Nat} {rows:List (List IV)} (hl:lk H b=some (.vec el es rows)) (hC:jf b rows H) (pE:lI b rows E) (h:AE C e K (kZ b es rows E) (fD b es rows H)):AE C e K E H:=by
 unfold AE at h⊢
 intro φ I a w hs
 obtain⟨φ',I',dQ⟩:=hs.freeze hl pE hC
 exact h φ' I' a w dQ
theorem AQ.freeze {ds:List (Nat×Nat)} {i:Nat} {rest:List Oper} (b:Nat) {el:TypeId} {es:Nat} {rows:List (List IV)} (hl:lk H b=some (.vec el es rows)) (hC:jf b rows H) (pE:lI b rows E) (h:AQ C ds i rest K (kZ b es rows E) (fD b es rows H)):AQ C ds i rest K E H:=by
 unfold AQ at h⊢
 intro ops U h2 φ I a w hs
 obtain⟨φ',I',dQ⟩:=hs.freeze hl pE hC
 exact h ops U h2 φ' I' a w dQ
end
attribute [go_sem] fj gy gj gk kZ lI fD jf
theorem zR {place:Nat->Option (Nat×Nat)} {E E':Env}:∀(parts:List (Nat×Operand)) (cs:List AV),(∀p∈parts,ev E p.2=ev E' p.2)->fillParts place E cs parts=fillParts place E' cs parts
 |[],_,_=>rfl
 |(i,x)::r,cs,h=>by
  have hx:ev E x=ev E' x:=h (i,x) (by simp)
  have ih:∀cs,fillParts place E cs r=fillParts place E' cs r:=fun cs=>zR r cs (fun p hp=>h p (by simp[hp]))
  simp only[fillParts,hx,ih]
theorem K_ {P:Program} {t:TypeId} {E E':Env} (parts:List (Nat×Operand)) (h:∀p∈parts,ev E p.2=ev E' p.2):aBuild P t parts E=aBuild P t parts E':=by
 unfold aBuild
 split
 ·split
  ·rw[zR parts _ h]
  ·rfl
 ·split
  ·rw[zR parts _ h]
  ·rfl
 ·rfl
theorem LI {P:Program} {E E':Env} {H:aa} (op:Op) (h:∀x∈op.operands,ev E x=ev E' x):dX P E H op=dX P E' H op:=by
 cases op with
 |build t parts=>
  simp only[dX]
  exact K_ _ fun p hp=>h p.2 (by simp only[Op.operands];simp;exact⟨p.1,by simpa using hp⟩)
 |call c=>
  obtain⟨callee,args,ts⟩:=c
  cases callee with
  |builtin b=>
   cases b<;>simp only[dX]<;>split<;>first
    |rfl
    |(
      rename_i x hx _
      rw[h x (
          by
            simp only[Op.operands,Call.operands];obtain rfl:args=#[x]:=by cases args;simpa using hx
            simp)];done)
    |(
      rename_i x t hx ht
      obtain rfl:args=#[x]:=by cases args;simpa using hx
      rw[h x (by simp[Op.operands,Call.operands])])
    |(
      rename_i x y hx
      obtain rfl:args=#[x,y]:=by cases args;simpa using hx
      rw[h x (by simp[Op.operands,Call.operands]),h y (by simp[Op.operands,Call.operands])])
  |value f=>simp only[dX]
  |invoke r m=>simp only[dX]
 |slice t x lo hi mx=>
  cases mx with
  |some _=>simp only[dX]
  |none=>
   cases lo<;>cases hi<;>simp only[dX]<;>first
    |rfl
    |(rename_i l r;rw[h l (by simp[Op.operands]),h r (by simp[Op.operands]),h x (by simp[Op.operands])])
    |(rename_i l;rw[h l (by simp[Op.operands]),h x (by simp[Op.operands])])
 |pick c a b=>simp only[dX];rw[h c (by simp[Op.operands]),h a (by simp[Op.operands]),h b (by simp[Op.operands])]
 |binOp o t x y u=>simp only[dX];rw[h x (by simp[Op.operands]),h y (by simp[Op.operands])]
 |index t x i=>simp only[dX];rw[h x (by simp[Op.operands]),h i (by simp[Op.operands])]
 |indexAddr t x i=>simp only[dX];rw[h x (by simp[Op.operands]),h i (by simp[Op.operands])]
 |move x=>simp only[dX];rw[h x (by simp[Op.operands])]
 |assign x=>simp only[dX];rw[h x (by simp[Op.operands])]
 |unOp o t x=>simp only[dX];rw[h x (by simp[Op.operands])]
 |convert s d x=>simp only[dX];rw[h x (by simp[Op.operands])]
 |nilCheck x=>simp only[dX];rw[h x (by simp[Op.operands])]
 |fieldAddr t x f=>simp only[dX];rw[h x (by simp[Op.operands])]
 |field t x f=>simp only[dX];rw[h x (by simp[Op.operands])]
 |load t x=>simp only[dX];rw[h x (by simp[Op.operands])]
 |extract x i=>simp only[dX];rw[h x (by simp[Op.operands])]
 |_=>simp only[dX]
theorem wA {E E':Env}:∀(xs:List Operand),(∀x∈xs,ev E x=ev E' x)->di E xs=di E' xs
 |[],_=>rfl
 |x::r,h=>by
  simp only[di]
  rw[h x (by simp),wA r (fun y hy=>h y (by simp[hy]))]
theorem LK {P:Program} {E E':Env} (op:Op) (h:∀x∈op.operands,ev E x=ev E' x):gY P E op=gY P E' op:=by
 cases op with
 |makeFunc f first cap=>
  cases f with
  |func f=>
   simp only[gY]
   rw[wA first.toList (fun x hx=>h x (by simp only[Op.operands];simp;exact .inl (by simpa using hx))),wA cap.toList (fun x hx=>h x (by simp only[Op.operands];simp;exact .inr (by simpa using hx)))]
  |_=>simp only[gY]
 |sliceToArrayPointer t x=>simp only[gY];rw[h x (by simp[Op.operands])]
 |convert s d x=>simp only[gY];rw[h x (by simp[Op.operands])]
 |binOp o t x y u=>simp only[gY];rw[h x (by simp[Op.operands]),h y (by simp[Op.operands])]
 |slice t x lo hi mx=>
  cases lo with
  |some _=>simp only[gY]
  |none=>
   cases hi with
   |none=>simp only[gY]
   |some hh=>
    cases mx with
    |none=>simp only[gY];rw[h x (by simp[Op.operands]),h hh (by simp[Op.operands])]
    |some m=>simp only[gY];rw[h x (by simp[Op.operands]),h hh (by simp[Op.operands]),h m (by simp[Op.operands])]
 |_=>simp only[gY]
theorem E9 {E E':Env} {d:Nat} (o:Option Operand) (h:∀x∈o,ev E x=ev E' x):fh E d o=fh E' d o:=by
 cases o with
 |none=>rfl
 |some x=>simp only[fh];rw[h x rfl]
theorem Lq {P:Program} {E E':Env} {H:aa} {t:TypeId} (lo hi:Option Operand) (U:∀x∈lo,ev E x=ev E' x) (h2:∀x∈hi,ev E x=ev E' x):o7 P H t E lo hi=o7 P H t E' lo hi:=by
 funext v
 unfold o7
 simp only[E9 lo U,E9 hi h2]
theorem LM {P:Program} {E E':Env} {H:aa} (op:Op) (h:∀x∈op.operands,ev E x=ev E' x):kR P E H op=kR P E' H op:=by
 cases op with
 |slice t x lo hi mx=>
  cases mx with
  |none=>
   simp only[kR]
   rw[h x (by simp[Op.operands]),Lq lo hi (fun y hy=>h y (by cases hy;simp[Op.operands])) (fun y hy=>h y (by cases hy;simp[Op.operands]))]
  |some m=>simp only[kR]
 |indexAddr t x i=>simp only[kR];rw[h x (by simp[Op.operands]),h i (by simp[Op.operands])]
 |binOp op t x y yt=>simp only[kR];rw[h x (by simp[Op.operands])]
 |_=>simp only[kR]
theorem LO {P:Program} {E E':Env} {H:aa} (op:Op) (h:∀x∈op.operands,ev E x=ev E' x):gf P E H op=gf P E' H op:=by
 unfold gf
 rw[LI op h,LK op h,LM op h]
def tmpsOf:List Operand->List Nat
 |[]=>[]
 | .tmp t::r=>t::tmpsOf r
 |_::r=>tmpsOf r
theorem Ca {t:Tmp}:∀(l:List Operand),Operand.tmp t∈l->t∈tmpsOf l
 |[],h=>by cases h
 |x::r,h=>by
  rcases List.mem_cons.1 h with rfl|h
  ·simp[tmpsOf]
  ·have:=Ca r h
   cases x<;>simp[tmpsOf,this]
def looks (ops:List Oper) (o:Oper):List Nat:=
 tmpsOf o.op.operands.toList++match o.guard with
  |some (j,_)=>match(ops[j]?).bind (·.dst)with
   |some d=>[d]
   |none=>[]
  |none=>[]
def canon (n m:Nat):Array Bool:=((List.range m).map fun i=>decide (i<n)).toArray
def wU (ops:List Oper) (n:Nat) (F:List Nat):Bool:=
 decide (n<=ops.length)&&
 (
  (
  List.range n).all fun i=>match ops[i]? with
  |none=>false
  |some o=>(o.after.all fun e=>!Region.binds .any e||decide (e.on<i))&&
   (
    (
    looks ops o).all fun t=>(List.range n).all fun j=>match(ops[j]?).bind (·.dst)with
    |some d=>d !=t||bC F j||(decide (j<i)&&o.after.any fun e=>Region.binds .any e&&e.on==j)
    |none=>true)&&
   (
    (
    List.range n).all fun j=>match(ops[j]?).bind (·.dst),o.dst with
    |some d,some d'=>d !=d'||j==i
    |_,_=>true))&&
 (n==ops.length||(Region.sinkB .any ops.toArray n&&Region.chainB .any ops.toArray n))&&
 Region.seqB .any ops.toArray (ops.length-n) n (canon n ops.length)
def F2 (ops:List Oper) (n:Nat):Bool:=wU ops n []
def vh (C:Cx) (H:aa) (cv:List (Nat×AV)) (k:Env->Prop):List Oper->List (Nat×Nat)->Nat->Env->Prop
 |[],_,_,E=>k E
 |o::os,ds,i,E=>match gd ds E o.guard with
  |none=>False
  |some G=>match gf C.P E H o.op with
   |some (sc,v)=>(G=true->sc)/\vh C H cv k os (aQ o.dst i ds) (i+1) (aS o.dst (wrap o.guard G v) E)
   |none=>match o.op,o.guard with
    | .call {callee:= .value (.func f),args:=xs,.. },none=>match di E xs.toList,lk cv i with
     |some l,some r=>(gs l=true/\AV.frees (l.map AV.st)=true/\r.free=true/\aR C.P f (l.map AV.st) r)/\vh C H cv k os (aQ o.dst i ds) (i+1) (aS o.dst r E)
     |_,_=>False
    |_,_=>False
theorem oD (p:Nat->Bool):∀(E:Env) (t:Nat),lk (E.filter fun q=>p q.1) t=if p t then lk E t else none
 |[],t=>by simp[lk]
 |(j,x)::r,t=>by
  rw[List.filter_cons]
  cases hb:Nat.beq j t with
  |true=>
   have:=Nat.eq_of_beq_eq_true hb
   subst this
   cases hp:p j with
   |true=>simp[lk]
   |false=>
    have:=oD p r j
    rw[hp]at this
    simpa[hp]using this
  |false=>
   cases hp:p j with
   |true=>simp only[hp,if_true,lk,hb,cond_false];exact oD p r t
   |false=>simp only[hp,lk,hb,cond_false];exact oD p r t
def eJ (listed:Array Bool):Nat->Nat
 |0=>0
 |k+1=>eJ listed k+bif listed.getD k true then 0 else 1
theorem Et (listed:Array Bool) (i:Nat):∀k,k<=i->eJ (listed.setIfInBounds i true) k=eJ listed k
 |0,_=>rfl
 |k+1,h=>by
  simp only[eJ]
  rw[Et listed i k (by omega),getD_set_ne true (by omega:i≠k)]
theorem zy (listed:Array Bool) (i:Nat) (hi:listed.getD i true=false):∀k,i<k->eJ (listed.setIfInBounds i true) k+1=eJ listed k
 |0,h=>by omega
 |k+1,h=>by
  simp only[eJ]
  by_cases tB:i=k
  ·subst tB
   have ag:i<listed.size:=by
    rcases Nat.lt_or_ge i listed.size with h'|h'
    ·exact h'
    ·simp[Array.getElem?_eq_none h']at hi
   rw[Et listed i i (Nat.le_refl _)]
   have e1:(listed.setIfInBounds i true).getD i true=true:=by simp[ag]
   rw[e1,hi]
   rfl
  ·rw[getD_set_ne true (by omega:i≠k)]
   have:=zy listed i hi k (by omega)
   omega
theorem wg (listed:Array Bool):∀k,eJ listed k=0->∀i,i<k->listed.getD i true=true
 |0,_,i,h=>by omega
 |k+1,h,i,hi=>by
  simp only[eJ]at h
  by_cases tB:i=k
  ·subst tB
   cases hq:listed.getD i true with
   |true=>rfl
   |false=>rw[hq]at h;simp at h
  ·exact wg listed k (by omega) i (by omega)
theorem zx (listed:Array Bool):∀k,0<eJ listed k->∃i,i<k/\listed.getD i true=false/\∀j,j<i->listed.getD j true=true
 |0,h=>by simp[eJ]at h
 |k+1,h=>by
  rcases Nat.eq_zero_or_pos (eJ listed k)with h0|h0
  ·simp only[eJ,h0]at h
   refine⟨k,by omega,?_,wg listed k h0⟩
   cases hq:listed.getD k true with
   |true=>rw[hq]at h;simp at h
   |false=>rfl
  ·obtain⟨i,U,h2,h3⟩:=zx listed k h0
   exact⟨i,by omega,h2,h3⟩
structure mh (ops:List Oper) (n:Nat) (F:List Nat):Prop where
 le:n<=ops.length
 back:∀i o,i<n->ops[i]?=some o->∀e∈o.after,Region.binds .any e=true->e.on<i
 oH:∀i o,i<n->ops[i]?=some o->∀t∈looks ops o,∀j d,j<n->(ops[j]?).bind (·.dst)=some d->d=t->bC F j=false->j<i/\∃e∈o.after,Region.binds .any e=true/\e.on=j
 EX:∀i j d,i<n->j<n->(ops[i]?).bind (·.dst)=some d->(ops[j]?).bind (·.dst)=some d->j=i
 tail:n=ops.length\/(Region.sinkB .any ops.toArray n=true/\Region.chainB .any ops.toArray n=true)
 seq:Region.seqB .any ops.toArray (ops.length-n) n (canon n ops.length)=true
theorem F3 {ops:List Oper} {n:Nat} {F:List Nat} (h:wU ops n F=true):mh ops n F:=by
 simp only[wU,Bool.and_eq_true,decide_eq_true_eq,Bool.or_eq_true,beq_iff_eq]at h
 obtain⟨⟨⟨hle,gz⟩,ht⟩,hs⟩:=h
 have key:∀i o,i<n->ops[i]?=some o->((o.after.all fun e=>!Region.binds .any e||decide (e.on<i))=true/\
   (
    (
    looks ops o).all fun t=>(List.range n).all fun j=>match(ops[j]?).bind (·.dst)with
    |some d=>d !=t||bC F j||(decide (j<i)&&o.after.any fun e=>Region.binds .any e&&e.on==j)
    |none=>true)=true)/\((List.range n).all fun j=>match(ops[j]?).bind (·.dst),o.dst with
    |some d,some d'=>d !=d'||j==i
    |_,_=>true)=true:=fun i o hi ho=>by
  have:=List.all_eq_true.1 gz i (List.mem_range.2 hi)
  rw[ho]at this
  simpa only[Bool.and_eq_true]using this
 refine⟨hle,fun i o hi ho e he hb=>?_,fun i o hi ho t ht j d hj hd jM hF=>?_,fun i j d hi hj U h2=>?_,ht.imp id id,hs⟩
 ·have:=Array.all_eq_true'.1 (key i o hi ho).1.1 e he
  simpa[hb]using this
 ·have U:=List.all_eq_true.1 (key i o hi ho).1.2 t ht
  have h2:=List.all_eq_true.1 U j (List.mem_range.2 hj)
  rw[hd]at h2
  subst jM
  simp only[bne_self_eq_false,hF,Bool.false_or,Bool.and_eq_true,decide_eq_true_eq]at h2
  obtain⟨h3,h4⟩:=h2
  obtain⟨e,he,hb⟩:=Array.any_eq_true'.1 h4
  simp only[Bool.and_eq_true,beq_iff_eq]at hb
  exact⟨h3,e,he,hb.1,hb.2⟩
 ·cases ho:ops[i]? with
  |none=>rw[ho]at U;cases U
  |some o=>
   rw[ho]at U
   simp only[Option.bind_some]at U
   have h3:=List.all_eq_true.1 (key i o hi ho).2 j (List.mem_range.2 hj)
   rw[h2,U]at h3
   simpa using h3
theorem Oa {ops:List Oper} {n:Nat} (h:F2 ops n=true):mh ops n []:=F3 h
def me (ops:List Oper) (n:Nat) (listed:Array Bool) (t:Nat):Bool:=
 (
  List.range n).all fun j=>match(ops[j]?).bind (·.dst)with
  |some d=>d !=t||listed.getD j false
  |none=>true
theorem vj {ops:List Oper} {n:Nat} {listed:Array Bool} {t:Nat}:me ops n listed t=true↔∀j d,j<n->(ops[j]?).bind (·.dst)=some d->d=t->listed.getD j false=true:=by
 unfold me
 rw[List.all_eq_true]
 constructor
 ·intro h j d hj hd jM
  have:=h j (List.mem_range.2 hj)
  rw[hd]at this
  subst jM
  simpa using this
 ·intro h j hj
  cases hd:(ops[j]?).bind (·.dst)with
  |none=>simp
  |some d=>
   simp only[Bool.or_eq_true,bne_iff_ne,ne_eq]
   by_cases jM:d=t
   ·exact .inr (h j d (List.mem_range.1 hj) hd jM)
   ·exact .inl jM
theorem St.s3 {B:Bs} {φ:ak} {I:Nat->Prop} {H:aa} {w:World} (h:St B φ I H w):St B φ I H {w with drawn:=w.drawn+1}:=by
 have k:Ext (fun _=>False) w {w with drawn:=w.drawn+1}:=⟨Nat.le_refl _,fun _ _ _=>rfl,fun _ c _ _ h=>⟨c,_,h,rfl⟩,rfl,rfl,rfl⟩
 exact⟨⟨h.real.bf,fun b o p hl hp=>Ob.ja (w:=w) (w':={w with drawn:=w.drawn+1}) (fun _ _=>rfl) (fun _ h=>h) (fun _ _ h=>h) (fun _ _ _ _ hs=>k.shaped (fun h=>h) hs) (fun _ _=>rfl) (h.real.own b o p hl hp),h.real.off,h.real.inj,h.real.bI⟩,h.ext.trans k (fun g hf=>hf.elim),h.bU,h.cN,h.cd,h.cu⟩
theorem bh.s3 (w:World) (φ:ak) (I:Nat->Prop):bh w φ I {w with drawn:=w.drawn+1} φ I:=by
 have k:Ext (fun _=>False) w {w with drawn:=w.drawn+1}:=⟨Nat.le_refl _,fun _ _ _=>rfl,fun _ c _ _ h=>⟨c,_,h,rfl⟩,rfl,rfl,rfl⟩
 exact⟨fun _ _=>rfl,fun _ h=>h,fun _ _ h=>h,fun _ _ _ _ hs=>k.shaped (fun h=>h) hs⟩
def zb (C:Cx) (H:aa) (ops:List Oper) (n:Nat) (En:Env) (i:Nat) (o:Oper):Prop:=
 ∃E' ds G val,(∀j d,lk ds j=some d->(ops[j]?).bind (·.dst)=some d)/\gd ds E' o.guard=some G/\(∀t,(∀j,i<=j->j<n->(ops[j]?).bind (·.dst)≠some t)->lk E' t=lk En t)/\
  (∀d,o.dst=some d->lk En d=some val)/\(∀j,ds.find? (fun q=>q.1==j)=ds.find? (fun q=>q.1==j))/\
  (
   (
   ∃sc v,gf C.P E' H o.op=some (sc,v)/\(G=true->sc)/\val=wrap o.guard G v)\/
   (o.guard=none/\∃f xs aP l,o.op= .call {callee:= .value (.func f),args:=xs,argTypes:=aP}/\di E' xs.toList=some l/\gs l=true/\AV.frees (l.map AV.st)=true/\val.free=true/\aR C.P f (l.map AV.st) val))
theorem Kz {C:Cx} {H:aa} {cv:List (Nat×AV)} {k:Env->Prop} {ops:List Oper} {n:Nat} (ah:mh ops n []):∀(rest:List Oper) (ds:List (Nat×Nat)) (i:Nat) (E:Env),(∀m,rest[m]?=(ops.take n)[i+m]?)->
  (∀j d,lk ds j=some d->(ops[j]?).bind (·.dst)=some d)->vh C H cv k rest ds i E->
  ∃En,k En/\(∀t,(∀j,i<=j->j<n->(ops[j]?).bind (·.dst)≠some t)->lk E t=lk En t)/\(∀m o,rest[m]?=some o->zb C H ops n En (i+m) o)
 |[],ds,i,E,_,_,h=>⟨E,h,fun _ _=>rfl,fun m o hm=>by simp at hm⟩
 |o::os,ds,i,E,hr,aM,h=>by
  have h0:=hr 0
  simp only[List.getElem?_cons_zero,Nat.add_zero]at h0
  have bH:i<n:=by
   rcases Nat.lt_or_ge i n with h'|h'
   ·exact h'
   ·rw[List.getElem?_eq_none (by rw[List.length_take];omega)]at h0;cases h0
  have gJ:ops[i]?=some o:=by rw[List.getElem?_take,if_pos bH]at h0;exact h0.symm
  have mN:∀m,os[m]?=(ops.take n)[i+1+m]?:=fun m=>by
   have:=hr (m+1)
   rw[List.getElem?_cons_succ]at this
   rw[this];congr 1;omega
  have ra:∀j d,lk (aQ o.dst i ds) j=some d->(ops[j]?).bind (·.dst)=some d:=fun j d hj=>by
   unfold aQ at hj
   split at hj
   ·rename_i d' dF
    simp only[lk]at hj
    cases hb:Nat.beq i j with
    |true=>
     rw[hb]at hj
     have:=Nat.eq_of_beq_eq_true hb
     subst this
     simp only[cond_true,Option.some.injEq]at hj
     subst hj
     rw[gJ];exact dF
    |false=>rw[hb]at hj;exact aM j d hj
   ·exact aM j d hj
  have fin:∀(G:Bool) (val:AV),gd ds E o.guard=some G->vh C H cv k os (aQ o.dst i ds) (i+1) (aS o.dst val E)->
    (
     (
     ∃sc v,gf C.P E H o.op=some (sc,v)/\(G=true->sc)/\val=wrap o.guard G v)\/
     (o.guard=none/\∃f xs aP l,o.op= .call {callee:= .value (.func f),args:=xs,argTypes:=aP}/\di E xs.toList=some l/\gs l=true/\AV.frees (l.map AV.st)=true/\val.free=true/\aR C.P f (l.map AV.st) val))->
    ∃En,k En/\(∀t,(∀j,i<=j->j<n->(ops[j]?).bind (·.dst)≠some t)->lk E t=lk En t)/\(∀m o',(o::os)[m]?=some o'->zb C H ops n En (i+m) o'):=by
   intro G val hG hv Ap
   obtain⟨En,U,h2,h3⟩:=Kz ah os _ (i+1) _ mN ra hv
   have kr:∀t,(∀j,i<=j->j<n->(ops[j]?).bind (·.dst)≠some t)->lk E t=lk En t:=fun t ht=>by
    rw[<-h2 t (fun j hj eC=>ht j (by omega) eC)]
    cases hd:o.dst with
    |none=>rfl
    |some d=>
     have aG:d≠t:=fun e=>ht i (Nat.le_refl _) bH (by rw[gJ,<-e];exact hd)
     have:Nat.beq d t=false:=by
      cases hq:Nat.beq d t with
      |false=>rfl
      |true=>exact absurd (Nat.eq_of_beq_eq_true hq) aG
     simp[aS,lk,this]
   refine⟨En,U,kr,fun m o' hm=>?_⟩
   cases m with
   |succ m=>
    rw[List.getElem?_cons_succ]at hm
    have:=h3 m o' hm
    rw[show i+(m+1)=i+1+m by omega];exact this
   |zero=>
    simp only[List.getElem?_cons_zero,Option.some.injEq]at hm
    subst hm
    refine⟨E,ds,G,val,aM,hG,kr,fun d hd=>?_,fun _=>rfl,Ap⟩
    rw[<-h2 d (fun j hj eC Ov=>?_)]
    ·rw[hd];simp[aS,lk]
    ·have:=ah.EX i j d bH eC (by rw[gJ];exact hd) Ov
     omega
  simp only[vh]at h
  split at h
  ·exact h.elim
  ·rename_i G hG
   split at h
   ·rename_i sc v hv
    exact fin G _ hG h.2 (.inl ⟨sc,v,hv,h.1,rfl⟩)
   ·split at h
    ·rename_i f xs aP ky AG
     split at h
     ·rename_i l r hl Vn
      obtain⟨⟨U,h2,h3,h4⟩,h5⟩:=h
      exact fin G r hG h5 (.inr ⟨AG,f,xs,_,l,ky,hl,U,h2,h3,h4⟩)
     ·exact h.elim
    ·exact h.elim
theorem I2 {ops:List Oper} {n:Nat} {F:List Nat} (ah:mh ops n F) {listed:Array Bool} (inv:HeadInv .any ops.toArray n listed) {i:Nat} (hi:i<n) (og:listed.getD i true=false):∀j∈Region.ready .any ops.toArray listed,j<n:=by
 intro j hj
 rcases Nat.lt_or_ge j n with h|h
 ·exact h
 ·exfalso
  rcases ah.tail with he|⟨hs,hc⟩
  ·obtain⟨_,o,ho,_⟩:=mem_ready.1 hj
   have:=(Array.getElem?_eq_some_iff.1 ho).1
   simp at this;omega
  ·have tD:j<ops.toArray.size:=by
    obtain⟨_,o,ho,_⟩:=mem_ready.1 hj
    exact(Array.getElem?_eq_some_iff.1 ho).1
   exact tail_waits hs hc (by omega) inv _ i rfl hi og j h hj
theorem F4 {C:Cx} {H:aa} {ops:List Oper} {n:Nat} {En:Env} {Q:Exit->Act->World->Prop} (ah:mh ops n []) (fG:a6 C.n ops=true) (hf:∀i o,i<n->ops[i]?=some o->zb C H ops n En i o)
  (GC:∀φ I a w,a_ C φ I En H a w->fw C.P ops.toArray Q (ops.drop n) a w):
  ∀(c:Nat) (listed:Array Bool) (a:Act) (w:World),eJ listed n=c->HeadInv .any ops.toArray n listed->
   (∃φ I,a_ C φ I (En.filter fun q=>me ops n listed q.1) H a w)->mc C.P .any ops.toArray Q (c+(ops.length-n)) listed a w
 |0,listed,a,w,hc,inv,⟨φ,I,hs⟩=>by
  have gz:=wg listed n hc
  have aO:listed.size=ops.length:=by simpa using inv.size
  have Ao:listed=canon n ops.length:=by
   apply Array.ext
   ·simp[canon,aO]
   ·intro i U h2
    simp only[canon,List.getElem_toArray,List.getElem_map,List.getElem_range]
    by_cases hi:i<n
    ·have:=gz i hi
     simp[U]at this
     simp[hi,this]
    ·have:=inv.tail i (by omega) (by simpa using(by omega:i<ops.length))
     simp[U]at this
     simp[hi,this]
  rw[Nat.zero_add]
  have tW:=ah.seq
  rw[<-Ao]at tW
  have U:=Dv (P:=C.P) (md:= .any) (ops:=ops.toArray) (Q:=Q) (ops.drop n) n listed a w (fun j=>by simp[List.getElem?_drop]) (by simpa using tW) (GC φ I a w (by
   refine⟨hs.bo,hs.bp,fun t x hx=>hs.env t x ?_,hs.st⟩
   rw[oD]
   rw[if_pos (vj.2 fun j d hj _ _=>by
    have U:=gz j hj
    have ag:j<listed.size:=by rw[aO];have:=ah.le;omega
    simp[ag]at U⊢;exact U)]
   exact hx))
  simpa using U
 |c+1,listed,a,w,hc,inv,⟨φ,I,hs⟩=>by
  obtain⟨i0,tz,ub,AW⟩:=zx listed n (by omega)
  have aO:listed.size=ops.length:=by simpa using inv.size
  have hle:=ah.le
  have tR:i0∈Region.ready .any ops.toArray listed:=by
   rw[mem_ready]
   have ag:i0<ops.length:=by omega
   refine⟨ub,ops[i0],by simp[ag],fun e he hb=>?_⟩
   have jk:=ah.back i0 ops[i0] tz (List.getElem?_eq_getElem ag) e he hb
   have U:=AW e.on jk
   have AM:e.on<listed.size:=by omega
   simp[AM]at U⊢;exact U
  rw[show c+1+(ops.length-n)=(c+(ops.length-n))+1 by omega]
  refine⟨fun h=>(by rw[h]at tR;cases tR),fun i hi=>?_⟩
  have bH:=I2 ah inv tz ub i hi
  obtain⟨og,o,ho,gz⟩:=mem_ready.1 hi
  have eU:ops[i]?=some o:=by simpa using ho
  have Pc:listed.getD i true=false:=og
  have xL:=inv.set hi bH
  have mG:eJ (listed.setIfInBounds i true) n=c:=by have:=zy listed i Pc n bH;omega
  obtain⟨E',ds,G,val,aM,hG,NS,iJ,_,Ap⟩:=hf i o bH eU
  have tI:∀t∈looks ops o,me ops n listed t=true/\lk E' t=lk En t:=fun t ht=>by
   refine⟨vj.2 fun j d hj hd jM=>?_,NS t fun j ia eC k6=>?_⟩
   ·obtain⟨_,e,he,hb,tL⟩:=ah.oH i o bH eU t ht j d hj hd jM rfl
    rw[<-tL];exact gz e he hb
   ·have:=(ah.oH i o bH eU t ht j t eC k6 rfl rfl).1
    omega
  have fV:∀t∈looks ops o,lk (En.filter fun q=>me ops n listed q.1) t=lk E' t:=fun t ht=>by
   rw[oD,if_pos (tI t ht).1,(tI t ht).2]
  have kj:∀x∈o.op.operands,ev (En.filter fun q=>me ops n listed q.1) x=ev E' x:=fun x hx=>by
   cases x with
   |tmp t=>simp only[ev];exact fV t (by simp only[looks];exact List.mem_append.2 (.inl (Ca _ (by simpa using hx))))
   |_=>rfl
  have kl:gd ds (En.filter fun q=>me ops n listed q.1) o.guard=some G:=by
   rw[<-hG]
   unfold gd
   cases hg:o.guard with
   |none=>rfl
   |some p=>
    obtain⟨j,want⟩:=p
    simp only
    cases hj:lk ds j with
    |none=>rfl
    |some d=>
     simp only
     rw[fV d (by simp only[looks,hg];rw[aM j d hj];simp)]
  have Pn:=ta (ops:=ops.toArray) hs.env (fun j d hj=>by simpa using aM j d hj) kl
  have N7:∀x,o.dst=some x->x<C.n:=fun x hx=>by
   exact pv fG (List.mem_of_getElem? eU) x hx
  have next:∀(φ':ak) (I':Nat->Prop) (w':World) (u:Value),St C.B φ' I' H w'->bh w φ I w' φ' I'->AV.den w' φ' I' val u->mc C.P .any ops.toArray Q (c+(ops.length-n)) (listed.setIfInBounds i true) (a.put o.dst u) w':=by
   intro φ' I' w' u hS hk aW
   refine F4 ah fG hf GC c _ _ _ mG xL ⟨φ',I',?_⟩
   have kz:=hs.put (d:=o.dst) (v:=val) (u:=u) hS hk N7 aW
   refine⟨kz.bo,kz.bp,fun t x hx=>?_,hS⟩
   rw[oD]at hx
   split at hx
   ·rename_i rE
    by_cases jM:o.dst=some t
    ·rw[iJ t jM]at hx
     cases hx
     exact kz.env t val (by rw[jM];simp[aS,lk])
    ·refine kz.env t x ?_
     have aG:lk (aS o.dst val (En.filter fun q=>me ops n listed q.1)) t=lk (En.filter fun q=>me ops n listed q.1) t:=by
      cases hd:o.dst with
      |none=>rfl
      |some d=>
       have:Nat.beq d t=false:=by
        cases hq:Nat.beq d t with
        |false=>rfl
        |true=>exact absurd (by rw[hd,Nat.eq_of_beq_eq_true hq]) jM
       simp[aS,lk,this]
     rw[aG,oD,if_pos (vj.2 fun j d hj hd ez=>?_)]
     ·exact hx
     ·have U:=vj.1 rE j d hj hd ez
      by_cases ia:i=j
      ·subst ia
       rw[eU]at hd
       exact absurd (by rw[<-ez];exact hd) jM
      ·rwa [getD_set_ne false ia]at U
   ·cases hx
  unfold lj
  rw[ho]
  simp only
  rw[Pn]
  rcases Ap with⟨sc,v,q5,au,rfl⟩|⟨AG,f,xs,aP,l,ky,hl,cZ,eA,AB,dz⟩
  ·rw[<-LO o.op kj]at q5
   cases G with
   |true=>
    obtain⟨u,hu,aW⟩:=vY hs.env hs.st.real q5 (au rfl)
    rw[if_pos rfl]
    refine Or.inl ?_
    unfold Oper.wp
    rw[hu,Oper.upon_value]
    exact next φ I w u hs.st (bh.refl _ _ _) (Dw aW)
   |false=>
    rw[if_neg (by simp)]
    refine next φ I w undef hs.st (bh.refl _ _ _) ?_
    cases hg:o.guard with
    |none=>rw[hg]at kl;simp[gd]at kl
    |some p=>exact Dx
  ·have NC:G=true:=by rw[AG]at kl;simp[gd]at kl;exact kl
   subst NC
   rw[if_pos rfl]
   have aA:di (En.filter fun q=>me ops n listed q.1) xs.toList=some l:=by
    rw[<-hl]
    exact wA _ fun x hx=>kj x (by rw[ky];simp only[Op.operands,Call.operands];simp;exact .inr (by simpa using hx))
   have aW:=AV.nT (φ':=fun _=>none) _ _ eA (kc hs.env _ _ aA cZ)
   have ax:(execOp a.eval o).run C.P w= .ok (.enter f (xs.toList.map a.eval).toArray) w:=by
    have:execOp a.eval o=callFunc f (#[]++xs.map a.eval++#[]):=by simp only[execOp,ky];rfl
    rw[this,r8 dz.fC]
    cases xs
    simp
   refine Or.inl ?_
   unfold Oper.wp
   rw[ax,Oper.upon_enter]
   refine(dz.run w (fun _=>none) I _ aW (yy hs.st.real) hs.st.vk).mono fun e w' ⟨r,H',φ',I',v,hr,he,bN,hS⟩=>?_
   subst he
   obtain⟨rfl,rfl⟩:=hr
   obtain⟨jg,hk⟩:=hs.st.DN hS
   exact next φ I' w' v jg hk (AV.nS r v AB bN)
section
variable {C:Cx} {K:List PK} {E:Env} {H:aa} {p:List Nat}
theorem AP.draw {id:Nat} {ops:List Oper} (n:Nat) (cv:List (Nat×AV)) (hm:C.P.follows .mixedOrders=true) (hc:bS C.fn p= .region id ops.toArray true) (ah:a6 C.n ops=true) (hB:F2 ops n=true)
  (h:vh C H cv (fun En=>vq C K (ops.drop n) [] n En H) (ops.take n) [] 0 E):AP C p K E H:=by
 unfold AP
 rw[hc]
 intro φ I a w hs
 have b9:=Oa hB
 obtain⟨En,hk,eK,hf⟩:=Kz b9 (ops.take n) [] 0 E (fun m=>by rw[Nat.zero_add]) (fun j d hj=>by simp[lk]at hj) h
 refine KQ hm (zG ah) ?_
 have mG:∀k,eJ (Array.replicate ops.length false) k=min k ops.length:=by
  intro k
  induction k with
  |zero=>simp[eJ]
  |succ k ih=>
   simp only[eJ,ih]
   by_cases hk:k<ops.length
   ·simp[hk];omega
   ·simp[hk];omega
 have BI:HeadInv .any ops.toArray n (Array.replicate ops.length false):=
  ⟨by simp,fun j oj _ hl=>(by rw[getD_replicate_false]at hl;cases hl),fun t _ ht=>getD_in (by simpa using ht) (getD_replicate_false _ _)⟩
 have hle:=b9.le
 have:=F4 (C:=C) (H:=H) (En:=En) (Q:=c8 C (K.map (PK.ki C.fn))) b9 ah (fun i o hi ho=>by
   have:=hf i o (by rw[List.getElem?_take,if_pos hi];exact ho)
   rwa [Nat.zero_add]at this) (fun φ I a w hs=>by
   have Ax:a6 C.n (ops.drop n)=true:=by
    rw[a6,List.all_eq_true]
    exact fun o ho=>List.all_eq_true.1 ah o (List.mem_of_mem_drop ho)
   have eZ:=so (C:=C) (K:=K.map (PK.ki C.fn)) (ops.drop n) [] n En H Ax (sq C K _ _ _ _ _ hk)
   exact eZ ops.toArray (fun j d hj=>by simp[lk]at hj) (fun j o hj=>by rw[List.getElem?_drop]at hj;simp[hj]) φ I a w hs)
  n (Array.replicate ops.length false) a {w with drawn:=w.drawn+1} (by rw[mG];omega) BI ⟨φ,I,?_⟩
 ·simp only[List.size_toArray]
  rwa [show n+(ops.length-n)=ops.length by omega]at this
 ·refine⟨hs.bo,hs.bp,fun t x hx=>?_,hs.st.s3⟩
  rw[oD]at hx
  split at hx
  ·rename_i rE
   rw[<-eK t (fun j _ hj hd=>by
    have:=vj.1 rE j t hj hd rfl
    rw[getD_replicate_false]at this;cases this)]at hx
   obtain⟨u,hu,hd⟩:=hs.env t x hx
   exact⟨u,hu,(bh.s3 w φ I).den hd⟩
  ·cases hx
end
attribute [go_sem] vh List.drop List.take
end Go.AL
end
section
namespace Go.AL
open Go Go.ChangeShapes Go.WideShapes
def Typed (P:Program):Nat->TypeId->List IV->Prop
 |0,_,_=>False
 |n+1,t,xs=>match P.underlying t with
  |some .bool=>∃b,xs=[.v (.bool b)]
  |some (.int k)=>∃i,xs=[.v (.int k i)]/\(Lit.int k i).wf=true
  |some (.float k)=>∃b,xs=[.v (.float k b)]/\(Lit.float k b).wf=true
  |some .string=>∃s:ByteArray,xs=[.v (.string s)]/\s.size<=maxLen
  |some (.pointer e)=>xs=[.v (.pointer none)]\/∃cs,xs=[.pt cs]/\Typed P n e cs
  |some (.slice e)=>∃rows,xs=[.sl (P.cellsOf e) rows]/\rows.length<=maxLen/\∀r∈rows,Typed P n e r
  |some (.struct fs)=>xs.length=P.cellsOf t/\∀(i:Nat) (f:Field),fs.toList[i]?=some f->Typed P n f.type ((xs.drop f.offset).take (P.cellsOf f.type))
  |some (.array m e)=>xs.length=P.cellsOf t/\∀i,i<m->Typed P n e ((xs.drop (i*P.cellsOf e)).take (P.cellsOf e))
  |_=>False
def rJ (P:Program) (T:List TypeId) (t:TypeId):Bool:=
 match P.underlying t with
 |some .bool|some (.int _)|some (.float _)|some .string=>P.cellsOf t==1
 |some (.pointer e)=>P.cellsOf t==1&&T.contains e&&P.cellsOf e !=0
 |some (.slice e)=>P.cellsOf t==1&&T.contains e&&P.cellsOf e !=0
 |some (.struct fs)=>fs.toList.all (fun f=>T.contains f.type)&&P.cellsOf t==(fs.toList.map fun f=>P.cellsOf f.type).sum&&
   (List.range fs.toList.length).all fun j=>match fs.toList[j]? with|some f=>f.offset==((fs.toList.take j).map fun f=>P.cellsOf f.type).sum|none=>true
 |some (.array n e)=>T.contains e&&P.cellsOf t==n*P.cellsOf e
 |_=>false
theorem ED {w:World} {I:Nat->Prop}:∀(xs ys:List IV) (us vs:List Value),IV.ab w I xs us->IV.ab w I ys vs->IV.ab w I (xs++ys) (us++vs)
 |[],_,_,_,h,h'=>by simp only[IV.ab]at h;subst h;exact h'
 |x::xs,ys,us,vs,h,h'=>by
  simp only[IV.ab]at h
  obtain⟨u,aj,rfl,U,h2⟩:=h
  simp only[List.cons_append,IV.ab]
  exact⟨u,aj++vs,rfl,U,ED xs ys aj vs h2 h'⟩
theorem wm {w:World} {I:Nat->Prop}:∀(xs:List IV) (us:List Value),IV.ab w I xs us->xs.length=us.length
 |[],_,h=>by simp only[IV.ab]at h;subst h;rfl
 |x::xs,us,h=>by
  simp only[IV.ab]at h
  obtain⟨u,aj,rfl,_,h2⟩:=h
  simp[wm xs aj h2]
theorem pieces {α:Type} {w:World} {I:Nat->Prop} {len:α->Nat} {Q:α->List IV->Prop}:∀(l:List α) (cs:List Value),cs.length=(l.map len).sum->
  (∀j a,l[j]?=some a->∃ys,IV.ab w I ys ((cs.drop ((l.take j).map len).sum).take (len a))/\Q a ys)->
  ∃xs,IV.ab w I xs cs/\∀j a,l[j]?=some a->Q a ((xs.drop ((l.take j).map len).sum).take (len a))
 |[],cs,hl,_=>by
  have:cs=[]:=List.eq_nil_of_length_eq_zero (by simpa using hl)
  subst this
  exact⟨[],rfl,fun j a h=>by simp at h⟩
 |a::l,cs,hl,h=>by
  simp only[List.map_cons,List.sum_cons]at hl
  obtain⟨ys,U,h2⟩:=h 0 a rfl
  simp only[List.take_zero,List.map_nil,List.sum_nil,List.drop_zero]at U
  obtain⟨xs,h3,h4⟩:=pieces (w:=w) (I:=I) (len:=len) (Q:=Q) l (cs.drop (len a)) (by simp;omega) (fun j b hb=>by
   obtain⟨zs,hz,hq⟩:=h (j+1) b (by simpa using hb)
   refine⟨zs,?_,hq⟩
   simpa[List.drop_drop,Nat.add_comm]using hz)
  have Gk:ys.length=len a:=by
   rw[wm _ _ U];simp;omega
  refine⟨ys++xs,?_,fun j b hb=>?_⟩
  ·have:=ED _ _ _ _ U h3
   rwa [List.take_append_drop]at this
  ·cases j with
   |zero=>
    simp only[List.getElem?_cons_zero,Option.some.injEq]at hb
    subst hb
    simp only[List.take_zero,List.map_nil,List.sum_nil,List.drop_zero]
    rw[<-Gk,List.take_left];exact h2
   |succ j=>
    simp only[List.getElem?_cons_succ]at hb
    simp only[List.take_succ_cons,List.map_cons,List.sum_cons]
    rw[<-List.drop_drop,<-Gk,List.drop_left]
    exact h4 j b hb
theorem Hl {α:Type} {R:Nat->α->Prop}:∀(n:Nat),(∀i,i<n->∃a,R i a)->∃l:List α,l.length=n/\∀i a,l[i]?=some a->R i a
 |0,_=>⟨[],rfl,fun i a h=>by simp at h⟩
 |n+1,h=>by
  obtain⟨l,hl,hr⟩:=Hl n (fun i hi=>h i (by omega))
  obtain⟨a,ha⟩:=h n (by omega)
  refine⟨l++[a],by simp[hl],fun i b hb=>?_⟩
  rcases Nat.lt_trichotomy i n with hi|hi|hi
  ·rw[List.getElem?_append_left (by omega)]at hb;exact hr i b hb
  ·subst hi
   rw[List.getElem?_append_right (by omega),hl]at hb
   simp at hb;subst hb;exact ha
  ·rw[List.getElem?_eq_none (by simp;omega)]at hb;cases hb
theorem Jg {w:World} {g es:Nat}:∀(ae:List (List Value)) (off:Nat),(∀i vs,ae[i]?=some vs->vs.length=es/\cr w g (off+i*es) vs)->cr w g off ae.flatten
 |[],_,_=>fun j u h=>by simp at h
 |vs::ae,off,h=>by
  obtain⟨hl,h0⟩:=h 0 vs rfl
  simp only[Nat.zero_mul,Nat.add_zero]at h0
  have hr:=Jg ae (off+es) (fun i us hu=>by
   obtain⟨U,h2⟩:=h (i+1) us (by simpa using hu)
   refine⟨U,?_⟩
   rw[Nat.add_assoc,Nat.add_comm es,<-Nat.succ_mul];exact h2)
  intro j u hu
  rw[List.flatten_cons]at hu
  rcases Nat.lt_or_ge j es with hj|hj
  ·rw[List.getElem?_append_left (by omega)]at hu
   exact h0 j u hu
  ·rw[List.getElem?_append_right (by omega),hl]at hu
   have:=hr (j-es) u hu
   rwa [Nat.add_assoc,Nat.add_sub_cancel' hj]at this
theorem Me {w:World} {b n:Nat} {a:Addr} {cs:List Value} (h:w.cells? b a n=some cs):
  cs.length=n/\∀(i:Nat) u,cs[i]?=some u->w.cell? (a.add i)=some u:=by
 obtain⟨_,U,h2⟩:=World.cells?_some h
 refine⟨U,fun i u hu=>?_⟩
 rw[h2 i (by rw[<-U];exact(List.getElem?_eq_some_iff.1 hu).1)]
 exact hu
theorem zo {w:World} {b n:Nat} {a:Addr} {cs:List Value} (h:w.cells? b a n=some cs) (hn:0<n):
  a=⟨a.block,a.off,none⟩/\a.block<w.heap.size/\cr w a.block a.off cs:=by
 obtain⟨hl,hc⟩:=Me h
 have h0:∃u,cs[0]?=some u:=⟨cs[0]'(by omega),List.getElem?_eq_getElem _⟩
 obtain⟨u,hu⟩:=h0
 have hs:=hc 0 u hu
 have xk:a.spot=none:=by
  simp only[Addr.add,if_true,World.cell?]at hs
  split at hs
  ·split at hs
   ·cases hs
   ·rename_i hn;simpa using hn
  ·cases hs
 have ea:a=⟨a.block,a.off,none⟩:=by
  obtain⟨x,y,z⟩:=a
  simp only at xk
  subst xk;rfl
 refine⟨ea,World.cells?_block h hn,fun j u hu=>?_⟩
 have:=hc j u hu
 unfold Addr.add at this
 split at this
 ·rename_i hj;subst hj;rw[Nat.add_zero,<-ea];exact this
 ·exact this
section
variable {H:Type} {enc:TypeId×Value->H} {P:Program} {w:World}
theorem opens {T:List TypeId} (hT:T.all (rJ P T)=true):∀(fuel:Nat) (t:TypeId) (cs:List Value) (x:DataW H×List MemPlace),T.contains t=true->
  DataW.trod enc P w 0 (fun _=>true) true fuel t cs=some x->cs.length=P.cellsOf t/\∃xs,IV.ab w (fun g=>g<w.heap.size) xs cs/\Typed P fuel t xs:=by
 intro fuel
 induction fuel with
 |zero=>intro t cs x _ h;simp[DataW.trod]at h
 |succ n ih=>
  intro t cs x ht h
  have hk:rJ P T t=true:=by
   rw[List.all_eq_true]at hT
   exact hT t (by simpa using ht)
  unfold rJ at hk
  have one:∀(v:Value),v.oneCell'=true->IV.ab w (fun g=>g<w.heap.size) [.v v] [v]:=fun v hv=>by
   simp only[IV.ab,IV.den];exact⟨v,[],rfl,⟨rfl,hv⟩,rfl⟩
  split at hk
  ·rename_i hu
   obtain⟨b,rfl,rfl⟩:=DataW.trod_bool hu h
   refine⟨by simpa using(by simpa using hk:P.cellsOf t=1).symm,[.v (.bool b)],one _ rfl,?_⟩
   simp only[Typed,hu];exact⟨b,rfl⟩
  ·rename_i k hu
   obtain⟨b,rfl,rfl,hw⟩:=DataW.trod_int hu h
   refine⟨by simpa using(by simpa using hk:P.cellsOf t=1).symm,[.v (.int k b)],one _ rfl,?_⟩
   simp only[Typed,hu];exact⟨b,rfl,hw⟩
  ·rename_i k hu
   unfold DataW.trod at h
   rw[hu]at h
   have hx:∃b,cs=[.float k b]/\(Lit.float k b).wf=true:=by split at h<;>simp_all
   obtain⟨b,rfl,hw⟩:=hx
   refine⟨by simpa using(by simpa using hk:P.cellsOf t=1).symm,[.v (.float k b)],one _ rfl,?_⟩
   simp only[Typed,hu];exact⟨b,rfl,hw⟩
  ·rename_i hu
   obtain⟨s,rfl,rfl,hw⟩:=DataW.trod_string hu h
   refine⟨by simpa using(by simpa using hk:P.cellsOf t=1).symm,[.v (.string s)],one _ rfl,?_⟩
   simp only[Typed,hu];exact⟨s,rfl,hw⟩
  ·rename_i e hu
   simp only[Bool.and_eq_true,beq_iff_eq,bne_iff_ne,ne_eq]at hk
   obtain⟨⟨lN,k7⟩,AI⟩:=hk
   rcases DataW.trod_pointer hu h with⟨rfl,rfl⟩|⟨a,cs',y,m,hm,rfl,rfl,hc,hy⟩
   ·refine⟨by simp[lN],[.v (.pointer none)],one _ rfl,?_⟩
    simp only[Typed,hu];exact .inl trivial
   ·obtain rfl:m=n:=by omega
    obtain⟨hl,xs,hd,Bo⟩:=ih e cs' y k7 hy
    obtain⟨ea,hb,q7⟩:=zo hc (by omega)
    refine⟨by simp[lN],[.pt xs],?_,?_⟩
    ·simp only[IV.ab,IV.den]
     exact⟨_,[],rfl,⟨a.block,a.off,cs',by rw[<-ea],hb,hd,q7⟩,rfl⟩
    ·simp only[Typed,hu];exact .inr ⟨xs,rfl,Bo⟩
  ·rename_i e hu
   simp only[Bool.and_eq_true,beq_iff_eq,bne_iff_ne,ne_eq]at hk
   obtain⟨⟨lN,k7⟩,AI⟩:=hk
   rcases DataW.trod_slice hu h with⟨rfl,rfl⟩|⟨a,len,cap,elems,rest,m,hm,rfl,rfl,_,AJ,Vf,wV,hr,_,_⟩
   ·refine⟨by simp[lN],[.sl (P.cellsOf e) []],?_,?_⟩
    ·simp only[IV.ab,IV.den]
     exact⟨_,[],rfl,⟨none,0,[],rfl,Nat.le_refl _,rfl,by simp,by simp⟩,rfl⟩
    ·simp only[Typed,hu];exact⟨[],rfl,by simp,by simp⟩
   ·obtain rfl:m=n:=by omega
    obtain⟨l,n8,hl⟩:=Hl (R:=fun i (p:List Value×List IV)=>w.cells? 0 (a.add (i*P.cellsOf e)) (P.cellsOf e)=some p.1/\p.1.length=P.cellsOf e/\IV.ab w (fun g=>g<w.heap.size) p.2 p.1/\Typed P m e p.2) len (fun i hi=>by
     have:=hr i hi
     rw[List.getElem?_eq_getElem (by omega),Option.bind_eq_some_iff]at this
     obtain⟨cs',hc,hy⟩:=this
     obtain⟨U,xs,h2,h3⟩:=ih e cs' _ k7 hy
     exact⟨(cs',xs),hc,U,h2,h3⟩)
    refine⟨by simp[lN],[.sl (P.cellsOf e) (l.map Prod.snd)],?_,?_⟩
    ·simp only[IV.ab,IV.den]
     refine⟨_,[],rfl,⟨some a,cap,l.map Prod.fst,by simp[n8],by simp[n8,AJ],?_,?_,fun aG=>?_⟩,rfl⟩
     ·have:∀(l:List (List Value×List IV)),(∀p∈l,IV.ab w (fun g=>g<w.heap.size) p.2 p.1)->IV.aC w (fun g=>g<w.heap.size) (l.map Prod.snd) (l.map Prod.fst):=by
       intro l
       induction l with
       |nil=>intro _;rfl
       |cons p l PC=>
        intro hp
        simp only[List.map_cons,IV.aC]
        exact⟨_,_,rfl,hp p (by simp),PC (fun q hq=>hp q (by simp[hq]))⟩
      refine this l (fun p hp=>?_)
      obtain⟨i,hi⟩:=List.getElem?_of_mem hp
      exact(hl i p hi).2.2.1
     ·intro vs db
      obtain⟨p,hp,rfl⟩:=List.mem_map.1 db
      obtain⟨i,hi⟩:=List.getElem?_of_mem hp
      exact(hl i p hi).2.1
     ·have A_:0<l.length:=by
       rcases l with _|⟨p,l⟩
       ·simp at aG
       ·simp
      have h0:=hl 0 (l[0]'A_) (List.getElem?_eq_getElem _)
      have z6:=h0.1
      rw[Nat.zero_mul]at z6
      have MN:a.add 0=a:=by simp[Addr.add]
      rw[MN]at z6
      obtain⟨ea,hb,_⟩:=zo z6 (by omega)
      refine⟨a.block,a.off,by rw[<-ea],hb,Jg (es:=P.cellsOf e) _ _ (fun i vs hv=>?_)⟩
      rw[List.getElem?_map,Option.map_eq_some_iff]at hv
      obtain⟨p,hp,rfl⟩:=hv
      obtain⟨g1,g2,g3,g4⟩:=hl i p hp
      refine⟨g2,?_⟩
      obtain⟨_,_,q7⟩:=zo g1 (by omega)
      have e1:(a.add (i*P.cellsOf e)).block=a.block:=by unfold Addr.add;split<;>rfl
      have e2:(a.add (i*P.cellsOf e)).off=a.off+i*P.cellsOf e:=by
       unfold Addr.add;split
       ·rename_i hz;rw[hz];rfl
       ·rfl
      rw[e1,e2]at q7
      exact q7
    ·simp only[Typed,hu]
     refine⟨_,rfl,by simp[n8];omega,fun r mN=>?_⟩
     obtain⟨p,hp,rfl⟩:=List.mem_map.1 mN
     obtain⟨i,hi⟩:=List.getElem?_of_mem hp
     exact(hl i p hi).2.2.2
  ·rename_i fs hu
   simp only[Bool.and_eq_true,beq_iff_eq,List.all_eq_true]at hk
   obtain⟨⟨lN,k7⟩,AI⟩:=hk
   obtain⟨xs,m,hm,rfl,hlen,mT,hf⟩:=DataW.trod_struct hu h
   obtain rfl:m=n:=by omega
   have off:∀(i:Nat) (f:Field),fs.toList[i]?=some f->f.offset=((fs.toList.take i).map fun f=>P.cellsOf f.type).sum:=fun i f hi=>by
    have:=AI i (by simpa using(List.getElem?_eq_some_iff.1 hi).1)
    rw[hi]at this
    simpa using this
   obtain⟨ys,hy,hq⟩:=pieces (w:=w) (I:=fun g=>g<w.heap.size) (len:=fun f:Field=>P.cellsOf f.type) (Q:=fun f ys=>Typed P m f.type ys) fs.toList cs (by rw[hlen,k7]) (fun i f hi=>by
    rw[<-off i f hi]
    have rh:fs[i]?=some f:=by simpa using hi
    have hx:=hf i f rh
    have ag:i<fs.size:=by
     rcases Nat.lt_or_ge i fs.size with h'|h'
     ·exact h'
     ·rw[Array.getElem?_eq_none h']at rh;cases rh
    rw[List.getElem?_eq_getElem (by omega)]at hx
    obtain⟨_,zs,h2,h3⟩:=ih f.type _ _ (lN f (List.mem_of_getElem? hi)) hx
    exact⟨zs,h2,h3⟩)
   refine⟨hlen,ys,hy,?_⟩
   simp only[Typed,hu]
   exact⟨by rw[wm _ _ hy,hlen],fun i f hi=>by rw[off i f hi];exact hq i f hi⟩
  ·rename_i m' e hu
   simp only[Bool.and_eq_true,beq_iff_eq]at hk
   obtain⟨lN,k7⟩:=hk
   obtain⟨xs,m,hm,rfl,hlen,mT,hf⟩:=DataW.trod_array hu h
   obtain rfl:m=n:=by omega
   have sm:∀k,((List.replicate k ()).map fun _=>P.cellsOf e).sum=k*P.cellsOf e:=fun k=>by simp
   obtain⟨ys,hy,hq⟩:=pieces (w:=w) (I:=fun g=>g<w.heap.size) (len:=fun _:Unit=>P.cellsOf e) (Q:=fun _ ys=>Typed P m e ys) (List.replicate m' ()) cs (by rw[hlen,k7,sm]) (fun i f hi=>by
    have ag:i<m':=by simpa using(List.getElem?_eq_some_iff.1 hi).1
    rw[List.take_replicate,sm,Nat.min_eq_left (Nat.le_of_lt ag)]
    have hx:=hf i ag
    rw[List.getElem?_eq_getElem (by omega)]at hx
    obtain⟨_,zs,h2,h3⟩:=ih e _ _ lN hx
    exact⟨zs,h2,h3⟩)
   refine⟨hlen,ys,hy,?_⟩
   simp only[Typed,hu]
   exact⟨by rw[wm _ _ hy,hlen],fun i hi=>by
    have:=hq i () (by simp[hi])
    rwa [List.take_replicate,sm,Nat.min_eq_left (Nat.le_of_lt hi)]at this⟩
  ·cases hk
end
section
variable {H:Type} {enc:TypeId×Value->H} {P:Program}
def o8 (P:Program) (t:TypeId) (xs:List IV):AV:=match P.underlying t,xs with
 |some (.struct _),xs=> .ar xs
 |some (.array _ _),xs=> .ar xs
 |_,[x]=> .im x
 |_,_=> .top
def o9 (P:Program):List TypeId->List (List IV)->List AV
 |t::ts,xs::gW=>o8 P t xs::o9 P ts gW
 |_,_=>[]
def vt (P:Program):List TypeId->List (List IV)->Prop
 |t::ts,xs::gW=>(∃n,Typed P n t xs)/\vt P ts gW
 |[],[]=>True
 |_,_=>False
theorem ME {w:World} {φ:ak} {I:Nat->Prop} {xs:List IV} {v:Value} (h:IV.ab w I xs v.cells.toList) (hv:v.oneCell'=true):∃x,xs=[x]/\AV.den w φ I (.im x) v:=by
 have e:v.cells.toList=[v]:=by cases v<;>simp_all [Value.cells,Value.oneCell']
 rw[e]at h
 match xs,h with
 |[],h=>simp[IV.ab]at h
 |[x],h=>
  simp only[IV.ab]at h
  obtain⟨u,us,he,U,h2⟩:=h
  simp only[List.cons.injEq]at he
  refine⟨x,rfl,?_⟩
  simp only[AV.den]
  rw[he.1];exact U
 |x::y::l,h=>
  simp only[IV.ab]at h
  obtain⟨u,us,he,U,u',aj,N_,_⟩:=h
  simp[N_]at he
theorem Re {T:List TypeId} (hT:T.all (rJ P T)=true) {w:World} {r:Reach} {b:Nat} {t:TypeId} {v:Value} {d:DataW H} {p:List MemPlace} (ht:T.contains t=true)
  (iJ:Value.okWide P w r b t v) (h:DataW.Trod enc P w 0 (fun _=>true) true t v d p) (φ:ak):
  ∃xs,(∃n,Typed P n t xs)/\AV.den w φ (fun g=>g<w.heap.size) (o8 P t xs) v:=by
 obtain⟨n,h⟩:=h
 obtain⟨_,xs,hd,Bo⟩:=opens hT n t _ _ ht h
 refine⟨xs,⟨n,Bo⟩,?_⟩
 have mF:∀cs:Array Value,v= .agg cs->AV.den w φ (fun g=>g<w.heap.size) (.ar xs) v:=by
  rintro cs rfl
  simp only[AV.den]
  exact⟨cs.toList,hd,by simp⟩
 unfold Value.okWide at iJ
 split at iJ
 ·rename_i hu
  obtain⟨cs,rfl,_⟩:=iJ
  simp only[o8,hu]
  exact mF cs rfl
 ·rename_i hu
  obtain⟨cs,rfl,_⟩:=iJ
  simp only[o8,hu]
  exact mF cs rfl
 ·rename_i hs ha
  have hv:v.oneCell'=true:=by
   cases v<;>simp only[Value.oneCell']<;>(unfold Cell.okWide at iJ;split at iJ<;>simp_all [Cell.ok])
  obtain⟨x,rfl,hx⟩:=ME (φ:=φ) hd hv
  have e:o8 P t [x]= .im x:=by
   unfold o8
   split
   ·rename_i fs hu;exact absurd hu (hs _)
   ·rename_i m e hu;exact absurd hu (ha _ _)
   ·rename_i he _ _;injection he with he;rw[he]
   ·rename_i hn;exact(hn x rfl).elim
  rw[e];exact hx
theorem Ix {T:List TypeId} (hT:T.all (rJ P T)=true) {w:World} {r:Reach} {b:Nat} (φ:ak):∀(ts:List TypeId) (vs:List Value) (ds:List (DataW H)) (p:List MemPlace),ts.all T.contains=true->
  (∀(j:Nat) t v,ts[j]?=some t->vs[j]?=some v->Value.okWide P w r b t v)->DataW.TrodAll enc P w 0 (fun _=>true) true ts vs ds p->
  ∃gW,vt P ts gW/\AV.ab w φ (fun g=>g<w.heap.size) (o9 P ts gW) vs/\ds.length=ts.length
 |[],vs,ds,p,_,_,h=>by
  obtain⟨rfl,rfl,rfl⟩:=trodAll_nil h
  exact⟨[],trivial,rfl,rfl⟩
 |t::ts,vs,ds,p,hc,iJ,h=>by
  obtain⟨v,y0,d,gw,p',q,rfl,rfl,rfl,U,h2⟩:=trodAll_cons h
  simp only[List.all_cons,Bool.and_eq_true]at hc
  obtain⟨xs,oh,hd⟩:=Re hT hc.1 (iJ 0 t v rfl rfl) U φ
  obtain⟨gW,h3,h4,h5⟩:=Ix hT φ ts y0 gw q hc.2 (fun j t v=>iJ (j+1) t v) h2
  refine⟨xs::gW,⟨oh,h3⟩,?_,by simp[h5]⟩
  simp only[o9,AV.ab]
  exact⟨v,y0,rfl,hd,h4⟩
theorem JW (hl:laidOutB P=true) {W W':World} {sp:Nat->Bool}:∀(ts:List TypeId) (vs:List Value) (ds:List (DataW H)) (p:List MemPlace),
  ts.all (fun t=>P.readableRec t&&decide (t<P.types.size))=true->DataW.TrodAll enc P W 0 (fun _=>true) true ts vs ds p->(∀q∈p,W.sameAt W' q)->(∀q∈p,sp q.block=true)->
  DataW.TrodAll enc P W' 0 sp true ts vs ds p
 |[],vs,ds,p,_,h,_,_=>by
  obtain⟨rfl,rfl,rfl⟩:=trodAll_nil h
  exact trodAll_mk0
 |t::ts,vs,ds,p,hr,h,hs,hp=>by
  obtain⟨v,y0,d,gw,p',q,rfl,rfl,rfl,U,h2⟩:=trodAll_cons h
  simp only[List.all_cons,Bool.and_eq_true,decide_eq_true_eq]at hr
  exact trodAll_cons_mk (WideElems.Trod_stays hl hr.1.1 hr.1.2 U (fun x hx=>hs x (List.mem_append_left _ hx)) (fun x hx=>hp x (List.mem_append_left _ hx)))
   (JW hl ts y0 gw q hr.2 h2 (fun x hx=>hs x (List.mem_append_right _ hx)) (fun x hx=>hp x (List.mem_append_right _ hx)))
def K7 (P:Program) (f:FuncId) (args:Array Value) (W:World):Prop:=
 Calls P f args W fun e W'=>e= .returned (.bool true)/\W.heap.size<=W'.heap.size/\(∀g,g<W.heap.size->W'.heap[g]?=W.heap[g]?)/\W'.os=W.os/\W'.output=W.output
theorem PY {f:FuncId} {DX:List AV} (h:aR P f DX (.im (.v (.bool true)))) {W:World} {vs:List Value} (hd:AV.ab W (fun _=>none) (fun g=>g<W.heap.size) DX vs) (hV:VK P W (fun g=>g<W.heap.size)):
  K7 P f vs.toArray W:=by
 have hR:Real W (fun _=>none) (fun g=>g<W.heap.size) []:=by
  refine⟨fun b=>rfl,fun b o p hb=>?_,fun b g hg=>?_,fun b b' g hg=>?_,fun g hg=>hg⟩
  ·simp[lk]at hb
  ·cases hg
  ·cases hg
 refine(h.run W _ _ vs hd hR hV).mono fun e W' hq=>?_
 obtain⟨r,H',φ',I',v,⟨rfl,rfl⟩,rfl,hv,bz⟩:=hq
 simp only[AV.den,IV.den]at hv
 obtain⟨rfl,_⟩:=hv
 exact⟨rfl,bz.ext.size,fun g hg=>bz.ext.dj g hg (fun⟨b,hb⟩=>by cases hb),bz.ext.os,bz.ext.output⟩
theorem PX {fn:Func} {s:ChangeSpec} {again:Bool} {W W':World} {args:Array Value} {ds gs:List (DataW H)} {before:List MemPlace} {tb:TypeId}
  (hW:DataW.Whole enc P fn.params.toList s.vars false W args.toList ds gs before) (xr:s.vars=[])
  (tw:s.fn H ds={results:=[.lit (.bool true)],args:=ds}) (hl:laidOutB P=true) (hr:fn.params.toList.all (fun t=>P.readableRec t&&decide (t<P.types.size))=true)
  (xi:fn.resultTypes=#[tb]) (xn:P.underlying tb=some .bool)
  (aO:W.heap.size<=W'.heap.size) (hk:∀g,g<W.heap.size->W'.heap[g]?=W.heap[g]?) (pY:W'.os=W.os) (p3:W'.output=W.output):
  s.post enc P fn false true false again W args (.bool true) W':=by
 have ti:=hW
 obtain⟨p,q,hA,hV,rfl,hz,hn⟩:=hW
 rw[xr]at hV
 obtain⟨rfl,rfl⟩:=trodVars_none hV
 have ag:=ti.lt
 simp only[List.append_nil]at hz hn ag ti
 have Bj:∀x∈p,W.sameAt W' x:=fun x hx=>by
  have:=hk x.block (ag x hx)
  cases x with
  |cell b off=>exact zn this off
  |map b=>exact this
 have cE:∀sp:Nat->Bool,(∀x∈p,sp x.block=true)->DataW.TrodAll enc P W' 0 sp true fn.params.toList args.toList ds p:=fun sp xk=>JW hl _ _ _ _ hr hA Bj xk
 have Gy:∀(b:Nat) (sp:Nat->Bool) (hd:Bool),DataW.TrodAll enc P W' b sp hd fn.resultTypes.toList ((Value.bool true).resultList fn.resultTypes.size) [.lit (.bool true)] []:=fun b sp hd=>by
  rw[xi]
  exact trodAll_cons_mk (Go.RowKit.shut_bool xn true) trodAll_mk0
 have hv:∀sp:Nat->Bool,DataW.TrodVars enc P W' sp s.vars [] []:=fun sp=>by rw[xr];rfl
 have AA:s.fn H (ds++[])={results:=[.lit (.bool true)],args:=ds}:=by rw[List.append_nil];exact tw
 refine⟨ds,[],p,[],p,[],ti,by rw[AA];exact Gy _ _ _,by rw[AA];exact cE _ (fun x hx=>by simpa using ag x hx),by rw[AA];exact hv _,?_,fun _=>?_⟩
 ·refine⟨pY,p3,fun i hi=>?_⟩
  rw[hk i hi]
  cases hh:W.heap[i]? with
  |none=>rfl
  |some o=>
   cases o with
   |cells c t fr=>exact⟨rfl,rfl,rfl,fun _ _=>rfl⟩
   |map es clock=>exact .inr ⟨rfl,rfl⟩
   |_=>rfl
 ·refine⟨Go.RowKit.ok_one xi rfl (Go.RowKit.okWide_bool_mk xn true),_,_,([]++p)++[],⟨[]++p,[],trodAll_append (cE _ (fun _ _=>rfl)) (Gy _ _ _),hv _,rfl,?_,fun h=>by cases h⟩,?_⟩
  ·intro b off hp
   have b6:MemPlace.cell b off∈p:=by simpa using hp
   have:=hk b (ag _ b6)
   have GM:=hz b off b6
   simp only[World.frozen?,this]at GM⊢
   exact GM
  ·intro x hx _
   simpa using hx
theorem law {f:FuncId} {fn:Func} {s:ChangeSpec} {W:World} {base:Nat} {args:Array Value} {ds gs:List (DataW H)} {before:List MemPlace} (tb:TypeId) (T:List TypeId)
  (xr:s.vars=[]) (tw:∀ds:List (DataW H),ds.length=fn.params.size->s.fn H ds={results:=[.lit (.bool true)],args:=ds}) (hl:laidOutB P=true)
  (hr:fn.params.toList.all (fun t=>P.readableRec t&&decide (t<P.types.size))=true) (xi:fn.resultTypes=#[tb]) (xn:P.underlying tb=some .bool)
  (hT:T.all (rJ P T)=true) (NM:fn.params.toList.all T.contains=true)
  (rD:∀gW,vt P fn.params.toList gW->aR P f (o9 P fn.params.toList gW) (.im (.v (.bool true))))
  (iJ:∀(j:Nat) t v,fn.params[j]?=some t->args[j]?=some v->Value.okWide P W .any base t v)
  (hW:DataW.Whole enc P fn.params.toList s.vars false W args.toList ds gs before)
  (NN:VK P W (fun g=>g<W.heap.size):=by exact VK.none (by kernel_rfl)):
  Calls P f args W fun e W'=>∃v,e= .returned v/\s.post enc P fn false true false false W args v W':=by
 have ti:=hW
 obtain⟨p,q,hA,hV,rfl,hz,hn⟩:=hW
 obtain⟨gW,U,h2,h3⟩:=Ix hT (r:= .any) (b:=base) (fun _=>none) _ _ _ _ NM (fun j t v ht hv=>iJ j t v (by simpa using ht) (by simpa using hv)) hA
 have:=PY (rD gW U) h2 NN
 simp only[Array.toArray_toList]at this
 refine this.mono fun e W' ⟨he,aO,hk,pY,p3⟩=>?_
 subst he
 exact⟨_,rfl,PX ti xr (tw ds (by simpa using h3)) hl hr xi xn aO hk pY p3⟩
end
end Go.AL
end
section
namespace Go.AL
open Go
section
variable {C:Cx} {K:List PK} {E:Env} {H:aa}
theorem St.drop {B:Bs} {φ:ak} {I:Nat->Prop} {w:World} (h:St B φ I H w):St B (fun _=>none) I [] w:=
 ⟨yy h.real,h.ext,fun b g hg=>(by cases hg),h.cN,h.cd,fun _ _ _ _ _ hl=>by simp[lk]at hl⟩
theorem AE.a7 {sc:Prop} {xs:List AV} (h:gT C.P E H C.fn.results.toList=some (sc,xs)) (au:sc) (hf:(dA xs).free=true) (hR:C.R (dA xs) []):AE C .ret [] E H:=by
 unfold AE
 intro φ I a w hs
 refine hs.leave fun w' hS hE=>?_
 obtain⟨v,hv,hd⟩:=qn hE hS.real h au
 exact⟨v,hv,dA xs,[],fun _=>none,I,v,hR,rfl,AV.nS _ _ hf hd,hS.drop⟩
theorem St.uR {B:Bs} {φ:ak} {I:Nat->Prop} {w:World} (h:St B φ I H w) {b:Nat} (hb:lk H b=none) (A2:B.nb<=b) (el:TypeId) (es:Nat):
  St B (aT φ b none) I ((b,.vec el es [])::H) w/\bh w φ I w (aT φ b none) I:=by
 have hnb:φ b=none:=by
  have:=h.real.bf b
  rw[hb]at this
  cases aq:φ b with
  |none=>rfl
  |some x=>rw[aq]at this;cases this
 have k:bh w φ I w (aT φ b none) I:=by
  refine⟨fun g hg=>rfl,fun _ h=>h,fun b' p hp=>?_,fun _ g n _ hs=>hs⟩
  unfold aT
  rw[if_neg (by intro e;subst e;rw[hnb]at hp;cases hp)]
  exact hp
 have nq:∀b',b'≠b->Nat.beq b b'=false:=fun b' ai=>by
  cases hq:Nat.beq b b' with
  |false=>rfl
  |true=>exact absurd (Nat.eq_of_beq_eq_true hq).symm ai
 refine⟨⟨⟨fun b'=>?_,fun b' o' p hl hp=>?_,fun b' g hp=>?_,fun b1 b2 g U h2=>?_,h.real.bI⟩,h.ext,fun b' g hp=>?_,h.cN,h.cd,fun b' g oo ag h0 hl=>?_⟩,k⟩
 ·simp only[aT,lk]
  by_cases ai:b'=b
  ·subst ai;simp
  ·rw[if_neg ai,nq b' ai]
   exact h.real.bf b'
 ·by_cases ai:b'=b
  ·subst ai
   simp only[aT,if_true,Option.some.injEq]at hp
   subst hp
   simp[lk]at hl
   subst hl
   exact .inl ⟨rfl,rfl⟩
  ·simp only[lk,nq b' ai,cond_false]at hl
   simp only[aT,if_neg ai]at hp
   exact Ob.ja k.im k.I k.phi k.sh (fun g hg=>rfl) (h.real.own b' o' p hl hp)
 ·by_cases ai:b'=b
  ·subst ai;simp[aT]at hp
  ·simp only[aT,if_neg ai]at hp
   exact h.real.off b' g hp
 ·by_cases e1:b1=b
  ·subst e1;simp[aT]at U
  ·by_cases e2:b2=b
   ·subst e2;simp[aT]at h2
   ·simp only[aT,if_neg e1]at U
    simp only[aT,if_neg e2]at h2
    exact h.real.inj b1 b2 g U h2
 ·by_cases ai:b'=b
  ·subst ai;simp[aT]at hp
  ·simp only[aT,if_neg ai]at hp
   exact h.bU b' g hp
 ·have ai:b'≠b:=by omega
  simp only[lk,nq b' ai,cond_false]at hl
  simp only[aT,if_neg ai]
  exact h.cu b' g oo ag h0 hl
theorem a_.uR {φ:ak} {I:Nat->Prop} {a:Act} {w:World} (h:a_ C φ I E H a w) {t:Nat} (ht:lk E t=some (.im (.v (.slice none 0 0)))) (el:TypeId) (es:Nat):
  a_ C (aT φ (aE C.B.nb H) none) I ((t,.os (aE C.B.nb H) es 0 0)::E) ((aE C.B.nb H,.vec el es [])::H) a w:=by
 obtain⟨hS,hk⟩:=h.st.uR (jZ C.B.nb H) (fZ C.B.nb H).1 el es
 refine⟨h.bo,h.bp,fun i x hx=>?_,hS⟩
 simp only[lk]at hx
 cases hb:Nat.beq t i with
 |true=>
  rw[hb]at hx
  have:=Nat.eq_of_beq_eq_true hb
  subst this
  simp only[cond_true,Option.some.injEq]at hx
  subst hx
  obtain⟨u,hu,hd⟩:=h.env t _ ht
  refine⟨u,hu,?_⟩
  simp only[AV.den,IV.den]at hd⊢
  exact .inl ⟨by simp[aT],trivial,trivial,hd.1⟩
 |false=>
  rw[hb]at hx
  obtain⟨u,hu,hd⟩:=h.env i x hx
  exact⟨u,hu,hk.den hd⟩
theorem AE.own {e:Exit} (t:Nat) (el:TypeId) (es:Nat) (ht:lk E t=some (.im (.v (.slice none 0 0)))) (h:AE C e K ((t,.os (aE C.B.nb H) es 0 0)::E) ((aE C.B.nb H,.vec el es [])::H)):AE C e K E H:=by
 unfold AE at h⊢
 exact fun φ I a w hs=>h _ I a w (hs.uR ht el es)
theorem AP.own {p:List Nat} (t:Nat) (el:TypeId) (es:Nat) (ht:lk E t=some (.im (.v (.slice none 0 0)))) (h:AP C p K ((t,.os (aE C.B.nb H) es 0 0)::E) ((aE C.B.nb H,.vec el es [])::H)):AP C p K E H:=by
 unfold AP at h⊢
 exact fun φ I a w hs=>h _ I a w (hs.uR ht el es)
theorem AP.freeze {p:List Nat} (b:Nat) {el:TypeId} {es:Nat} {rows:List (List IV)} (hl:lk H b=some (.vec el es rows)) (hC:jf b rows H) (pE:lI b rows E) (h:AP C p K (kZ b es rows E) (fD b es rows H)):AP C p K E H:=by
 unfold AP at h⊢
 intro φ I a w hs
 obtain⟨φ',I',dQ⟩:=hs.freeze hl pE hC
 exact h φ' I' a w dQ
end
theorem aR.yl {P:Program} {f:FuncId} {args:List AV} {r:AV} (he:enters P f=true) (hr:r.free=true)
  (
   h:∀(w:World) (φ:ak) (I:Nat->Prop) (vs:List Value),AV.ab w φ I args vs->(∀g,I g->g<w.heap.size)->VK P w I->
   Calls P f vs.toArray w fun e w'=>∃v,e= .returned v/\AV.den w' φ I r v/\Go.RowKit.Below w.heap.size w w'):aR P f args r:=by
 refine⟨he,fun w φ I vs hd hR hV=>(h w φ I vs hd hR.bI hV).mono fun e w' ⟨v,he,hv,hb⟩=>?_⟩
 refine⟨r,[],fun _=>none,I,v,⟨rfl,rfl⟩,he,AV.nS _ _ hr hv,?_⟩
 have hx:Ext (cB φ) w w':=by
  refine⟨hb.size,fun g hg _=>hb.block g hg,fun g c e fz hc=>?_,hb.os,hb.os,hb.output⟩
  have ag:g<w.heap.size:=by
   rcases Nat.lt_or_ge g w.heap.size with h|h
   ·exact h
   ·rw[Array.getElem?_eq_none h]at hc;cases hc
  exact⟨c,_,(hb.block g ag).trans hc,rfl⟩
 refine⟨⟨fun b=>rfl,fun b o p hl=>(by simp[lk]at hl),fun b g hp=>(by cases hp),fun b b' g hp=>(by cases hp),fun g hg=>Nat.lt_of_lt_of_le (hR.bI g hg) hb.size⟩,hx,fun b g hg=>(by cases hg),fun g hg=> .inl hg,fun g hg=>hg,fun _ _ _ _ _ hl=>by simp[lk]at hl⟩
theorem mb {C:Cx} {K:List PK} {os:List Oper} {ds:List (Nat×Nat)} {i:Nat} {E:Env} {H:aa} (h:vq C K os ds i E H):vq C K os ds i E H:=h
def upto (n:Nat):List Nat:=List.range n
theorem Df (n:Nat):(upto n).length=n:=List.length_range
def oP (k:IntKind) (n:Nat) (f:Nat->Int):List (List IV):=(upto n).map fun j=>[.v (.int k (f j))]
def qK (k:IntKind) (n:Nat) (f:Nat->Int):List IV:=(upto n).map fun j=> .v (.int k (f j))
theorem RU (k:IntKind) (n:Nat) (f:Nat->Int):(oP k n f).length=n:=by simp[oP,Df]
theorem Ms (k:IntKind) (n:Nat) (f:Nat->Int):(qK k n f).length=n:=by simp[qK,Df]
theorem RS (k:IntKind) (n:Nat) (f:Nat->Int):(oP k n f).flatten=qK k n f:=by
 unfold oP qK
 induction upto n with
 |nil=>rfl
 |cons n l ih=>simp[ih]
theorem Mt (k:IntKind) (n:Nat) (f:Nat->Int):(qK k n f).map (fun c=>[c])=oP k n f:=by
 simp[qK,oP,Function.comp_def]
theorem RV (k:IntKind) (n:Nat):(List.replicate n (Value.int k 0)).map (fun c=>[IV.v c])=oP k n (fun _=>0):=by
 unfold oP
 apply List.ext_getElem
 ·simp[Df]
 ·intro j U h2;simp
theorem Lx (k:IntKind) (n:Nat) (x:Int):(List.replicate n (Value.int k x)).all Value.oneCell'=true:=by
 rw[List.all_eq_true];intro v hv;rw[List.eq_of_mem_replicate hv];rfl
attribute [go_sem] Lx RV RU RS Ms Mt List.nil_append List.cons_append List.length_cons List.length_nil Nat.zero_add
end Go.AL
namespace Go.AL
section
variable {C:Cx} {K:List PK} {E:Env} {H:aa}
end
attribute [go_sem] Int.toNat_natCast_add_one
end Go.AL
namespace Go.AL
theorem S3 {P:Program} {n:Nat} {t:TypeId} {xs:List IV} (ht:P.underlying t=some .string) (h:Typed P n t xs):∃s:ByteArray,xs=[.v (.string s)]/\s.size<=maxLen:=by
 cases n with
 |zero=>exact h.elim
 |succ n=>simpa only[Typed,ht]using h
theorem S1 {P:Program} {n:Nat} {t:TypeId} {xs:List IV} (ht:P.underlying t=some .bool) (h:Typed P n t xs):∃b,xs=[.v (.bool b)]:=by
 cases n with
 |zero=>exact h.elim
 |succ n=>simpa only[Typed,ht]using h
theorem S2 {P:Program} {n:Nat} {t:TypeId} {k:IntKind} {xs:List IV} (ht:P.underlying t=some (.int k)) (h:Typed P n t xs):∃i,xs=[.v (.int k i)]/\(Lit.int k i).wf=true:=by
 cases n with
 |zero=>exact h.elim
 |succ n=>simpa only[Typed,ht]using h
theorem yC {α:Type} {p:α->Prop} {f:α->List IV}:∀(rows:List (List IV)),(∀r∈rows,∃a,r=f a/\p a)->∃l:List α,rows=l.map f/\∀a∈l,p a
 |[],_=>⟨[],rfl,by simp⟩
 |r::rows,h=>by
  obtain⟨a,rfl,ha⟩:=h r (by simp)
  obtain⟨l,rfl,hl⟩:=yC rows (fun r hr=>h r (by simp[hr]))
  exact⟨a::l,rfl,by simpa using⟨ha,hl⟩⟩
section
variable {C:Cx} {K:List PK} {E:Env} {H:aa}
theorem AQ.imp {ds:List (Nat×Nat)} {i:Nat} {os:List Oper} {E':Env} (hE:∀w φ I a,df w φ I E a->df w φ I E' a) (h:AQ C ds i os K E' H):AQ C ds i os K E H:=by
 unfold AQ at h⊢
 intro ops U h2 φ I a w hs
 exact h ops U h2 φ I a w ⟨hs.bo,hs.bp,hE w φ I a hs.env,hs.st⟩
theorem yr {w:World} {φ:ak} {I:Nat->Prop} {a:Act} {d:Option Nat} {x y:AV} (eW:∀u,AV.den w φ I x u->AV.den w φ I y u) (h:df w φ I (aS d x E) a):df w φ I (aS d y E) a:=by
 cases d with
 |none=>exact h
 |some d=>
  intro i z hz
  simp only[aS,lk]at hz
  cases hb:Nat.beq d i with
  |true=>
   rw[hb]at hz
   simp only[cond_true,Option.some.injEq]at hz
   subst hz
   obtain⟨u,hu,hd⟩:=h i x (by simp[aS,lk,hb])
   exact⟨u,hu,eW u hd⟩
  |false=>
   rw[hb]at hz
   exact h i z (by simpa[aS,lk,hb]using hz)
theorem AQ.kd {ds:List (Nat×Nat)} {i:Nat} {d:Option Nat} {ty:TypeId} {pos:String} {af:Array Edge} {os:List Oper} {f:FuncId} {xs:List Operand} {aP:Array TypeId} {l:List AV} {r:AV} {gu:Option (Nat×Bool)} {G:Bool}
  (ah:a6 C.n ({dst:=d,op:= .call {callee:= .value (.func f),args:=xs.toArray,argTypes:=aP},type:=ty,pos:=pos,after:=af,guard:=gu}::os)=true)
  (hG:gd ds E gu=some G)
  (hl:di E xs=some l) (cZ:G=true->gs l=true) (eA:AV.frees (l.map AV.st)=true) (hc:G=true->al C.P f (l.map AV.st) [] (fun r' H'=>H'=[]/\r'=r)) (hr:r.free=true)
  (h:vq C K os (aQ d i ds) (i+1) (aS d (.opt G r) E) H):
  AQ C ds i ({dst:=d,op:= .call {callee:= .value (.func f),args:=xs.toArray,argTypes:=aP},type:=ty,pos:=pos,after:=af,guard:=gu}::os) K E H:=by
 obtain⟨hd,b9⟩:=dE ah
 have bm:=AQ.go b9 h
 cases G with
 |true=>
  refine AQ.nW hG ?_
  unfold AQ
  refine AO.call (o:={dst:=d,op:= .call {callee:= .value (.func f),args:=xs.toArray,argTypes:=aP},type:=ty,pos:=pos,after:=af,guard:=none}) rfl rfl hd (by simpa using hl) (cZ rfl) eA (hc rfl) (fun r' H' ⟨U,h2⟩=>⟨U,by rw[h2];exact hr⟩) fun r' ⟨_,h2⟩=>?_
  subst h2
  have:=AQ.imp (fun w φ I a=>yr (x:=r') (y:= .opt true r') fun u hu=>by simp only[AV.den];exact⟨fun _=>hu,fun h=>by cases h⟩) bm
  unfold AQ at this
  exact this
 |false=>
  refine AQ.qZ hd hG ?_
  exact AQ.imp (fun w φ I a=>yr fun u hu=>by simp only[AV.den]at hu⊢;exact⟨fun h=>(by cases h),hu.2⟩) bm
def dG (b:Nat):aa->aa
 |[]=>[]
 |(j,o)::r=>bif Nat.beq j b then dG b r else(j,o)::dG b r
theorem wP (b:Nat):∀H:aa,lk (dG b H) b=none
 |[]=>rfl
 |(j,o)::r=>by
  simp only[dG]
  cases hb:Nat.beq j b with
  |true=>simpa using wP b r
  |false=>simp only[cond_false,lk,hb];exact wP b r
theorem tn (b:Nat):∀(H:aa) (b':Nat),b'≠b->lk (dG b H) b'=lk H b'
 |[],_,_=>rfl
 |(j,o)::r,b',aG=>by
  simp only[dG]
  cases hb:Nat.beq j b with
  |true=>
   have hj:=Nat.eq_of_beq_eq_true hb
   have:Nat.beq j b'=false:=by
    cases hq:Nat.beq j b' with
    |false=>rfl
    |true=>have:=Nat.eq_of_beq_eq_true hq;omega
   simp only[cond_true,lk,this,cond_false]
   exact tn b r b' aG
  |false=>
   simp only[cond_false,lk]
   cases hq:Nat.beq j b' with
   |true=>rfl
   |false=>simpa using tn b r b' aG
def fv (φ:ak) (b:Nat):ak:=fun b'=>if b'=b then none else φ b'
theorem St.forget {B:Bs} {φ:ak} {I:Nat->Prop} {w:World} (h:St B φ I H w) (b:Nat) (hn:noMen b (dG b H)=true):St B (fv φ b) I (dG b H) w:=by
 have aq:∀b',b'≠b->fv φ b b'=φ b':=fun b' hb=>by simp[fv,hb]
 have e5:fv φ b b=none:=by simp[fv]
 refine⟨⟨fun b'=>?_,fun b' o p hl hp=>?_,fun b' g hp=>?_,fun b1 b2 g U h2=>?_,h.real.bI⟩,h.ext,fun b' g hp=>?_,h.cN,h.cd,fun b' g oo ag h0 hl=>?_⟩
 ·by_cases ai:b'=b
  ·subst ai;rw[e5,wP];rfl
  ·rw[aq b' ai,tn b H b' ai];exact h.real.bf b'
 ·by_cases ai:b'=b
  ·subst ai;rw[e5]at hp;cases hp
  ·have jO:=hl
   rw[tn b H b' ai]at hl
   rw[aq b' ai]at hp
   have bg:=h.real.own b' o p hl hp
   cases o with
   |var e cs=>
    simp only[Ob.at]at bg⊢
    obtain⟨g,us,rfl,h2,h3,h4⟩:=bg
    exact⟨g,us,rfl,h2,AV.oF aq cs us (yg _ hn b' e cs jO) h3,h4⟩
   |vec e dN Je=>exact bg
   |lp l n st fn q ps E=>
    simp only[Ob.at]at bg⊢
    obtain⟨h0,T,D,b8,U,h2,h3⟩:=bg
    exact⟨h0,T,D,b8,U,h2,fun i x hx=>let⟨u,hu,hd⟩:=h3 i x hx;⟨u,hu,AV.mX aq x u (x_ E (yh _ hn b' l n st fn q ps E jO) i x hx) hd⟩⟩
 ·by_cases ai:b'=b
  ·subst ai;rw[e5]at hp;cases hp
  ·rw[aq b' ai]at hp;exact h.real.off b' g hp
 ·by_cases e1:b1=b
  ·subst e1;rw[e5]at U;cases U
  ·by_cases e2:b2=b
   ·subst e2;rw[e5]at h2;cases h2
   ·rw[aq b1 e1]at U;rw[aq b2 e2]at h2;exact h.real.inj b1 b2 g U h2
 ·by_cases ai:b'=b
  ·subst ai;rw[e5]at hp;cases hp
  ·rw[aq b' ai]at hp;exact h.bU b' g hp
 ·by_cases ai:b'=b
  ·subst ai;rw[wP]at hl;cases hl
  ·rw[tn b H b' ai]at hl
   rw[aq b' ai];exact h.cu b' g oo ag h0 hl
theorem a_.forget {φ:ak} {I:Nat->Prop} {a:Act} {w:World} (h:a_ C φ I E H a w) (b:Nat) (hn:noMen b (dG b H)=true):a_ C (fv φ b) I (killE b E) (dG b H) a w:=by
 refine⟨h.bo,h.bp,fun i x hx=>?_,h.st.forget b hn⟩
 obtain⟨y,hy,hd⟩:=qe (w:=w) (φ:=φ) (φ':=fv φ b) (I:=I) (b:=b) (fun b' hb=>by simp[fv,hb]) E i x hx
 obtain⟨u,hu,cP⟩:=h.env i y hy
 exact⟨u,hu,hd u cP⟩
theorem AE.forget {e:Exit} (b:Nat) (hn:noMen b (dG b H)=true) (h:AE C e K (killE b E) (dG b H)):AE C e K E H:=by
 unfold AE at h⊢
 exact fun φ I a w hs=>h _ I a w (hs.forget b hn)
theorem AP.forget {p:List Nat} (b:Nat) (hn:noMen b (dG b H)=true) (h:AP C p K (killE b E) (dG b H)):AP C p K E H:=by
 unfold AP at h⊢
 exact fun φ I a w hs=>h _ I a w (hs.forget b hn)
end
attribute [go_sem] dG List.map_cons List.map_nil List.getElem?_cons_zero List.getElem?_cons_succ
mutual
def AV.sh (k:Nat):AV->AV
 | .ob b o=> .ob (k+b) o
 | .oe b es i j=> .oe (k+b) es i j
 | .os b es i n=> .os (k+b) es i n
 | .fn f fs aD=> .fn f (AV.iW k fs) (AV.iW k aD)
 | .agg cs=> .agg (AV.iW k cs)
 | .aK cs=> .aK (AV.iW k cs)
 | .opt g x=> .opt g (AV.sh k x)
 | .im x=> .im x
 | .ar x=> .ar x
 | .top=> .top
 | .mp b=> .mp (k+b)
 | .wr q x=> .wr q (AV.sh k x)
def AV.iW (k:Nat):List AV->List AV
 |[]=>[]
 |x::xs=>AV.sh k x::AV.iW k xs
end
def r9 (k:Nat):Env->Env
 |[]=>[]
 |(i,x)::r=>(i,AV.sh k x)::r9 k r
theorem JF (k:Nat):∀(E:Env) (i:Nat),lk (r9 k E) i=(lk E i).map (AV.sh k)
 |[],_=>rfl
 |(j,x)::r,i=>by
  simp only[r9,lk]
  cases Nat.beq j i with
  |true=>rfl
  |false=>simpa using JF k r i
def gU (k:Nat):aa->aa
 |[]=>[]
 |(j,.var e cs)::r=>(k+j,.var e (AV.iW k cs))::gU k r
 |(j,.vec e es rows)::r=>(k+j,.vec e es rows)::gU k r
 |(j,.lp l n st fn q ps E)::r=>(k+j,.lp l n st fn q ps (r9 k E))::gU k r
def r_ (k:Nat):Ob->Ob
 | .var e cs=> .var e (AV.iW k cs)
 | .vec e es rows=> .vec e es rows
 | .lp l n st fn q ps E=> .lp l n st fn q ps (r9 k E)
mutual
theorem AV.u4 {w:World} {φ φ':ak} {I:Nat->Prop} {k:Nat} (h:∀b p,φ b=some p->φ' (k+b)=some p):∀(x:AV) (u:Value),AV.den w φ I x u->AV.den w φ' I (AV.sh k x) u
 | .ob b o,u,hd=>by simp only[AV.sh,AV.den]at hd⊢;obtain⟨g,U,h2⟩:=hd;exact⟨g,h _ _ U,h2⟩
 | .oe b es i j,u,hd=>by simp only[AV.sh,AV.den]at hd⊢;obtain⟨g,U,h2⟩:=hd;exact⟨g,h _ _ U,h2⟩
 | .os b es i n,u,hd=>by
  simp only[AV.sh,AV.den]at hd⊢
  rcases hd with⟨U,h2⟩|⟨g,c,U,h2⟩
  ·exact .inl ⟨h _ _ U,h2⟩
  ·exact .inr ⟨g,c,h _ _ U,h2⟩
 | .fn f fs aD,u,hd=>by simp only[AV.sh,AV.den]at hd⊢;obtain⟨us,vs,U,h2,h3⟩:=hd;exact⟨us,vs,AV.sa h fs us U,AV.sa h aD vs h2,h3⟩
 | .agg cs,u,hd=>by simp only[AV.sh,AV.den]at hd⊢;obtain⟨us,U,h2⟩:=hd;exact⟨us,AV.sa h cs us U,h2⟩
 | .aK cs,u,hd=>by simp only[AV.sh,AV.den]at hd⊢;obtain⟨us,U,h2⟩:=hd;exact⟨us,AV.sa h cs us U,h2⟩
 | .opt g x,u,hd=>by simp only[AV.sh,AV.den]at hd⊢;exact⟨fun hg=>AV.u4 h x u (hd.1 hg),hd.2⟩
 | .im x,u,hd=>by simpa only[AV.sh,AV.den]using hd
 | .ar x,u,hd=>by simpa only[AV.sh,AV.den]using hd
 | .top,_,_=>by simp only[AV.sh,AV.den]
 | .mp b,u,hd=>by simp only[AV.sh,AV.den]at hd⊢;obtain⟨g,U,h2⟩:=hd;exact⟨g,h _ _ U,h2⟩
 | .wr q x,u,hd=>by simp only[AV.sh,AV.den]at hd⊢;obtain⟨v,U,h2⟩:=hd;exact⟨v,U,AV.u4 h x v h2⟩
theorem AV.sa {w:World} {φ φ':ak} {I:Nat->Prop} {k:Nat} (h:∀b p,φ b=some p->φ' (k+b)=some p):∀(xs:List AV) (us:List Value),AV.ab w φ I xs us->AV.ab w φ' I (AV.iW k xs) us
 |[],us,hd=>by simpa only[AV.iW,AV.ab]using hd
 |x::xs,us,hd=>by
  simp only[AV.iW,AV.ab]at hd⊢
  obtain⟨u,aj,e,U,h2⟩:=hd
  exact⟨u,aj,e,AV.u4 h x u U,AV.sa h xs aj h2⟩
end
theorem x6 (k:Nat):∀(H:aa) (b:Nat),b<k->lk (gU k H) b=none
 |[],_,_=>rfl
 |(j,.var e cs)::r,b,h=>by
  have:Nat.beq (k+j) b=false:=by
   cases hq:Nat.beq (k+j) b with
   |false=>rfl
   |true=>have:=Nat.eq_of_beq_eq_true hq;omega
  simp only[gU,lk,this,cond_false];exact x6 k r b h
 |(j,.vec e es rows)::r,b,h=>by
  have:Nat.beq (k+j) b=false:=by
   cases hq:Nat.beq (k+j) b with
   |false=>rfl
   |true=>have:=Nat.eq_of_beq_eq_true hq;omega
  simp only[gU,lk,this,cond_false];exact x6 k r b h
 |(j,.lp l n st fn q ps E)::r,b,h=>by
  have:Nat.beq (k+j) b=false:=by
   cases hq:Nat.beq (k+j) b with
   |false=>rfl
   |true=>have:=Nat.eq_of_beq_eq_true hq;omega
  simp only[gU,lk,this,cond_false];exact x6 k r b h
theorem zg (k j b:Nat):Nat.beq (k+j) (k+b)=Nat.beq j b:=by
 cases h:Nat.beq j b with
 |true=>have:=Nat.eq_of_beq_eq_true h;subst this;exact Nat.beq_refl _
 |false=>
  cases hq:Nat.beq (k+j) (k+b)with
  |false=>rfl
  |true=>
   have U:=Nat.eq_of_beq_eq_true hq
   have:j=b:=by omega
   subst this
   rw[Nat.beq_refl]at h;cases h
theorem x5 (k:Nat):∀(H:aa) (b:Nat),lk (gU k H) (k+b)=(lk H b).map (r_ k)
 |[],_=>rfl
 |(j,.var e cs)::r,b=>by
  simp only[gU,lk,zg]
  cases Nat.beq j b with
  |true=>rfl
  |false=>simpa using x5 k r b
 |(j,.vec e es rows)::r,b=>by
  simp only[gU,lk,zg]
  cases Nat.beq j b with
  |true=>rfl
  |false=>simpa using x5 k r b
 |(j,.lp l n st fn q ps E)::r,b=>by
  simp only[gU,lk,zg]
  cases Nat.beq j b with
  |true=>rfl
  |false=>simpa using x5 k r b
theorem uB:∀(H H':aa) (b:Nat),lk (H++H') b=match lk H b with|some o=>some o|none=>lk H' b
 |[],_,_=>rfl
 |(j,o)::r,H',b=>by
  simp only[List.cons_append,lk]
  cases Nat.beq j b with
  |true=>rfl
  |false=>simpa using uB r H' b
def ou (k:Nat) (φ aU:ak):ak:=fun b=>if b<k then φ b else aU (b-k)
theorem R9 {w:World} {φ φ':ak} {I:Nat->Prop} {k:Nat} (h:∀b p,φ b=some p->φ' (k+b)=some p) {o:Ob} {p:Option Nat} (ho:o.at w φ I p):(r_ k o).at w φ' I p:=by
 cases o with
 |var e cs=>
  simp only[r_,Ob.at]at ho⊢
  obtain⟨g,us,U,h2,h3,h4⟩:=ho
  exact⟨g,us,U,h2,AV.sa h cs us h3,h4⟩
 |vec e es rows=>exact ho
 |lp l n st fn q ps E=>
  simp only[r_,Ob.at]at ho⊢
  obtain⟨h0,T,D,b8,U,h2,h3⟩:=ho
  refine⟨h0,T,D,b8,U,h2,fun i x hx=>?_⟩
  rw[JF]at hx
  cases hy:lk E i with
  |none=>rw[hy]at hx;cases hx
  |some y=>
   rw[hy]at hx
   simp only[Option.map_some,Option.some.injEq]at hx
   subst hx
   obtain⟨u,hu,hd⟩:=h3 i y hy
   exact⟨u,hu,AV.u4 h y u hd⟩
theorem St.Lv {B:Bs} {φ aU:ak} {I I1:Nat->Prop} {H H1:aa} {w w1:World} (h:St B φ I H w) (U:St ⟨w,cB (fun _=>none),I,fun _=>none,0⟩ aU I1 H1 w1):
  St B (ou (aE B.nb H) φ aU) I1 (gU (aE B.nb H) H1++H) w1/\bh w φ I w1 (ou (aE B.nb H) φ aU) I1/\∀b p,aU b=some p->ou (aE B.nb H) φ aU (aE B.nb H+b)=some p:=by
 have hnb:=fZ B.nb H
 have eA:∀b,aE B.nb H<=b->lk H b=none:=fun b hb=>by
  cases hl:lk H b with
  |none=>rfl
  |some o=>have:=mZ H b o hl;omega
 generalize hk:aE B.nb H=k at*
 have Py:∀b,k<=b->φ b=none:=fun b hb=>by
  have:=h.real.bf b
  rw[eA b hb]at this
  cases hq:φ b with
  |none=>rfl
  |some x=>rw[hq]at this;cases this
 have jl:∀b,b<k->ou k φ aU b=φ b:=fun b hb=>by simp[ou,hb]
 have jr:∀b,ou k φ aU (k+b)=aU b:=fun b=>by
  have:¬k+b<k:=by omega
  simp[ou,this]
 have ag:∀b p,φ b=some p->b<k:=fun b p hp=>by
  rcases Nat.lt_or_ge b k with h'|h'
  ·exact h'
  ·rw[Py b h']at hp;cases hp
 have bG:∀g,¬cB (fun _=>none) g:=fun g ⟨b,hb⟩=>by cases hb
 have kr:∀g,g<w.heap.size->w1.heap[g]?=w.heap[g]?:=fun g hg=>U.ext.dj g hg (bG g)
 have jQ:∀b g,aU b=some (some g)->w.heap.size<=g:=fun b g hb=>(U.bU b g hb).resolve_left (bG g)
 have tC:∀g,I1 g->I g\/w.heap.size<=g:=fun g hg=>by
  rcases U.cN g hg with h|h|h
  ·exact .inl h
  ·exact absurd h (bG g)
  ·exact .inr h
 have kp:bh w φ I w1 (ou k φ aU) I1:=⟨fun g hg=>kr g (h.real.bI g hg),U.cd,fun b p hp=>by rw[jl b (ag b p hp)];exact hp,fun _ g n _ hs=>U.ext.shaped (bG g) hs⟩
 have split:∀b,b<k\/∃c,b=k+c:=fun b=>by
  rcases Nat.lt_or_ge b k with h'|h'
  ·exact .inl h'
  ·exact .inr ⟨b-k,by omega⟩
 have B4:∀b,b<k->lk (gU k H1++H) b=lk H b:=fun b hb=>by rw[uB,x6 k H1 b hb]
 have Hz:∀c,lk (gU k H1++H) (k+c)=(lk H1 c).map (r_ k):=fun c=>by
  rw[uB,x5 k H1 c]
  cases hl:lk H1 c with
  |none=>simpa using eA (k+c) (by omega)
  |some o=>rfl
 refine⟨⟨⟨fun b=>?_,fun b o p hl hp=>?_,fun b g hp=>?_,fun b1 b2 g eG dP=>?_,U.real.bI⟩,h.ext.trans U.ext (fun g hg=>absurd hg (bG g)),fun b g hp=>?_,fun g hg=>?_,fun g hg=>U.cd g (h.cd g hg),fun b g oo hb h0 hl=>?_⟩,kp,fun b p hb=>by rw[jr];exact hb⟩
 ·rcases split b with hb|⟨c,rfl⟩
  ·rw[jl b hb,B4 b hb];exact h.real.bf b
  ·rw[jr,Hz]
   have:=U.real.bf c
   rw[this];cases lk H1 c<;>rfl
 ·rcases split b with hb|⟨c,rfl⟩
  ·rw[jl b hb]at hp;rw[B4 b hb]at hl
   refine Ob.ja kp.im kp.I kp.phi kp.sh (fun g hg=>?_) (h.real.own b o p hl hp)
   subst hg
   exact kr g (h.real.off b g hp).2
  ·rw[jr]at hp;rw[Hz]at hl
   cases eM:lk H1 c with
   |none=>rw[eM]at hl;cases hl
   |some o1=>
    rw[eM]at hl
    cases hl
    exact R9 (fun b p hb=>by rw[jr];exact hb) (U.real.own c o1 p eM hp)
 ·rcases split b with hb|⟨c,rfl⟩
  ·rw[jl b hb]at hp
   have:=h.real.off b g hp
   exact⟨fun hi=>(tC g hi).elim this.1 (by omega),Nat.lt_of_lt_of_le this.2 U.ext.size⟩
  ·rw[jr]at hp;exact U.real.off c g hp
 ·rcases split b1 with e1|⟨c1,rfl⟩<;>rcases split b2 with e2|⟨c2,rfl⟩
  ·rw[jl b1 e1]at eG;rw[jl b2 e2]at dP;exact h.real.inj b1 b2 g eG dP
  ·rw[jl b1 e1]at eG;rw[jr]at dP
   have:=(h.real.off b1 g eG).2;have:=jQ c2 g dP;omega
  ·rw[jr]at eG;rw[jl b2 e2]at dP
   have:=(h.real.off b2 g dP).2;have:=jQ c1 g eG;omega
  ·rw[jr]at eG dP;rw[U.real.inj c1 c2 g eG dP]
 ·rcases split b with hb|⟨c,rfl⟩
  ·rw[jl b hb]at hp;exact h.bU b g hp
  ·rw[jr]at hp;exact .inr (Nat.le_trans h.ext.size (jQ c g hp))
 ·rcases tC g hg with hg|hg
  ·exact h.cN g hg
  ·exact .inr (.inr (Nat.le_trans h.ext.size hg))
 ·have bF:b<k:=by omega
  rw[jl b bF];rw[B4 b bF]at hl
  exact h.cu b g oo hb h0 hl
section
variable {C:Cx} {K:List PK} {E:Env} {H:aa}
theorem AQ.Ee {ds:List (Nat×Nat)} {i:Nat} {d:Option Nat} {ty:TypeId} {pos:String} {af:Array Edge} {os:List Oper} {f:FuncId} {xs:List Operand} {aP:Array TypeId} {l:List AV} {R:AV->aa->Prop}
  (ah:a6 C.n ({dst:=d,op:= .call {callee:= .value (.func f),args:=xs.toArray,argTypes:=aP},type:=ty,pos:=pos,after:=af,guard:=none}::os)=true)
  (hl:di E xs=some l) (cZ:gs l=true) (eA:AV.frees (l.map AV.st)=true) (hc:al C.P f (l.map AV.st) [] R)
  (h:∀r H',R r H'->vq C K os (aQ d i ds) (i+1) (aS d (AV.sh (aE C.B.nb H) r) E) (gU (aE C.B.nb H) H'++H)):
  AQ C ds i ({dst:=d,op:= .call {callee:= .value (.func f),args:=xs.toArray,argTypes:=aP},type:=ty,pos:=pos,after:=af,guard:=none}::os) K E H:=by
 obtain⟨hd,b9⟩:=dE ah
 have bm:∀r H',R r H'->AQ C (aQ d i ds) (i+1) os K (aS d (AV.sh (aE C.B.nb H) r) E) (gU (aE C.B.nb H) H'++H):=fun r H' hr=>AQ.go b9 (h r H' hr)
 unfold AQ at bm⊢
 refine AO.step (o:={dst:=d,op:= .call {callee:= .value (.func f),args:=xs.toArray,argTypes:=aP},type:=ty,pos:=pos,after:=af,guard:=none}) fun ops φ I a w aM _ hs Kn bB=>?_
 have hw:Region.wanted {dst:=d,op:= .call {callee:= .value (.func f),args:=xs.toArray,argTypes:=aP},type:=ty,pos:=pos,after:=af,guard:=none} (yielded ops a.tmps)=true:=by simp[Region.wanted]
 rw[if_pos hw]
 have aW:=AV.nT (φ':=fun _=>none) _ _ eA (kc hs.env _ _ hl cZ)
 have ax:(execOp a.eval {dst:=d,op:= .call {callee:= .value (.func f),args:=xs.toArray,argTypes:=aP},type:=ty,pos:=pos,after:=af,guard:=none}).run C.P w= .ok (.enter f (xs.map a.eval).toArray) w:=by
  have:execOp a.eval {dst:=d,op:= .call {callee:= .value (.func f),args:=xs.toArray,argTypes:=aP},type:=ty,pos:=pos,after:=af,guard:=none}=callFunc f (#[]++xs.toArray.map a.eval++#[]):=by simp only[execOp];rfl
  rw[this,r8 hc.fC]
  simp
 unfold Oper.wp
 rw[ax,Oper.upon_enter]
 refine(hc.run w (fun _=>none) I _ aW (yy hs.st.real) hs.st.vk).mono fun e w' ⟨r,H',φ',I',v,hr,he,bN,hS⟩=>?_
 subst he
 obtain⟨jg,hk,hj⟩:=hs.st.Lv hS
 exact bB _ _ _ I' _ _ (bm r H' hr) (hs.put jg hk hd (AV.u4 hj r v bN))
end
attribute [go_sem] AV.sh AV.iW gU r_ r9
section
variable {C:Cx} {K:List PK} {E:Env} {H:aa}
def u6:AV->AV
 | .opt true x=>x
 |x=>x
def qq:Env->Env
 |[]=>[]
 |(i,x)::r=>(i,u6 x)::qq r
theorem Sp {w:World} {φ:ak} {I:Nat->Prop} {x:AV} {u:Value} (h:AV.den w φ I x u):AV.den w φ I (u6 x) u:=by
 unfold u6
 split
 ·simp only[AV.den]at h;exact h.1 trivial
 ·exact h
theorem JR:∀(E:Env) (i:Nat) (x:AV),lk (qq E) i=some x->∃y,lk E i=some y/\x=u6 y
 |[],i,x,h=>by simp[qq,lk]at h
 |(j,y)::r,i,x,h=>by
  simp only[qq,lk]at h⊢
  cases hb:Nat.beq j i with
  |true=>rw[hb]at h;simp at h⊢;exact h.symm
  |false=>rw[hb]at h;simpa using JR r i x h
end
attribute [go_sem] u6 qq
mutual
def AV.rn (ρ:Nat->Nat):AV->AV
 | .ob b o=> .ob (ρ b) o
 | .oe b es i j=> .oe (ρ b) es i j
 | .os b es i n=> .os (ρ b) es i n
 | .fn f fs aD=> .fn f (AV.cy ρ fs) (AV.cy ρ aD)
 | .agg cs=> .agg (AV.cy ρ cs)
 | .aK cs=> .aK (AV.cy ρ cs)
 | .opt g x=> .opt g (AV.rn ρ x)
 | .im x=> .im x
 | .ar x=> .ar x
 | .top=> .top
 | .mp b=> .mp (ρ b)
 | .wr q x=> .wr q (AV.rn ρ x)
def AV.cy (ρ:Nat->Nat):List AV->List AV
 |[]=>[]
 |x::xs=>AV.rn ρ x::AV.cy ρ xs
end
def nj (ρ:Nat->Nat):Env->Env
 |[]=>[]
 |(i,x)::r=>(i,AV.rn ρ x)::nj ρ r
theorem yz (ρ:Nat->Nat):∀(E:Env) (i:Nat),lk (nj ρ E) i=(lk E i).map (AV.rn ρ)
 |[],_=>rfl
 |(j,x)::r,i=>by
  simp only[nj,lk]
  cases Nat.beq j i with
  |true=>rfl
  |false=>simpa using yz ρ r i
def c7 (ρ:Nat->Nat):Ob->Ob
 | .var e cs=> .var e (AV.cy ρ cs)
 | .vec e es rows=> .vec e es rows
 | .lp l n st fn q ps E=> .lp l n st fn q ps (nj ρ E)
mutual
theorem AV.qp {w:World} {φ φ':ak} {I:Nat->Prop} {ρ:Nat->Nat} (h:∀b p,φ b=some p->φ' (ρ b)=some p):∀(x:AV) (u:Value),AV.den w φ I x u->AV.den w φ' I (AV.rn ρ x) u
 | .ob b o,u,hd=>by simp only[AV.rn,AV.den]at hd⊢;obtain⟨g,U,h2⟩:=hd;exact⟨g,h _ _ U,h2⟩
 | .oe b es i j,u,hd=>by simp only[AV.rn,AV.den]at hd⊢;obtain⟨g,U,h2⟩:=hd;exact⟨g,h _ _ U,h2⟩
 | .os b es i n,u,hd=>by
  simp only[AV.rn,AV.den]at hd⊢
  rcases hd with⟨U,h2⟩|⟨g,c,U,h2⟩
  ·exact .inl ⟨h _ _ U,h2⟩
  ·exact .inr ⟨g,c,h _ _ U,h2⟩
 | .fn f fs aD,u,hd=>by simp only[AV.rn,AV.den]at hd⊢;obtain⟨us,vs,U,h2,h3⟩:=hd;exact⟨us,vs,AV.r6 h fs us U,AV.r6 h aD vs h2,h3⟩
 | .agg cs,u,hd=>by simp only[AV.rn,AV.den]at hd⊢;obtain⟨us,U,h2⟩:=hd;exact⟨us,AV.r6 h cs us U,h2⟩
 | .aK cs,u,hd=>by simp only[AV.rn,AV.den]at hd⊢;obtain⟨us,U,h2⟩:=hd;exact⟨us,AV.r6 h cs us U,h2⟩
 | .opt g x,u,hd=>by simp only[AV.rn,AV.den]at hd⊢;exact⟨fun hg=>AV.qp h x u (hd.1 hg),hd.2⟩
 | .im x,u,hd=>by simpa only[AV.rn,AV.den]using hd
 | .ar x,u,hd=>by simpa only[AV.rn,AV.den]using hd
 | .top,_,_=>by simp only[AV.rn,AV.den]
 | .mp b,u,hd=>by simp only[AV.rn,AV.den]at hd⊢;obtain⟨g,U,h2⟩:=hd;exact⟨g,h _ _ U,h2⟩
 | .wr q x,u,hd=>by simp only[AV.rn,AV.den]at hd⊢;obtain⟨v,U,h2⟩:=hd;exact⟨v,U,AV.qp h x v h2⟩
theorem AV.r6 {w:World} {φ φ':ak} {I:Nat->Prop} {ρ:Nat->Nat} (h:∀b p,φ b=some p->φ' (ρ b)=some p):∀(xs:List AV) (us:List Value),AV.ab w φ I xs us->AV.ab w φ' I (AV.cy ρ xs) us
 |[],us,hd=>by simpa only[AV.cy,AV.ab]using hd
 |x::xs,us,hd=>by
  simp only[AV.cy,AV.ab]at hd⊢
  obtain⟨u,aj,e,U,h2⟩:=hd
  exact⟨u,aj,e,AV.qp h x u U,AV.r6 h xs aj h2⟩
end
mutual
theorem AV.uW {w:World} {φ φ':ak} {I:Nat->Prop} {ρ:Nat->Nat} (h:∀b,φ b=φ' (ρ b)):∀(x:AV) (u:Value),AV.den w φ' I (AV.rn ρ x) u->AV.den w φ I x u
 | .ob b o,u,hd=>by simp only[AV.rn,AV.den]at hd⊢;rw[h];exact hd
 | .oe b es i j,u,hd=>by simp only[AV.rn,AV.den]at hd⊢;rw[h];exact hd
 | .os b es i n,u,hd=>by simp only[AV.rn,AV.den]at hd⊢;rw[h];exact hd
 | .fn f fs aD,u,hd=>by simp only[AV.rn,AV.den]at hd⊢;obtain⟨us,vs,U,h2,h3⟩:=hd;exact⟨us,vs,AV.nn h fs us U,AV.nn h aD vs h2,h3⟩
 | .agg cs,u,hd=>by simp only[AV.rn,AV.den]at hd⊢;obtain⟨us,U,h2⟩:=hd;exact⟨us,AV.nn h cs us U,h2⟩
 | .aK cs,u,hd=>by simp only[AV.rn,AV.den]at hd⊢;obtain⟨us,U,h2⟩:=hd;exact⟨us,AV.nn h cs us U,h2⟩
 | .opt g x,u,hd=>by simp only[AV.rn,AV.den]at hd⊢;exact⟨fun hg=>AV.uW h x u (hd.1 hg),hd.2⟩
 | .im x,u,hd=>by simpa only[AV.rn,AV.den]using hd
 | .ar x,u,hd=>by simpa only[AV.rn,AV.den]using hd
 | .top,_,_=>by simp only[AV.den]
 | .mp b,u,hd=>by simp only[AV.rn,AV.den]at hd⊢;rw[h];exact hd
 | .wr q x,u,hd=>by simp only[AV.rn,AV.den]at hd⊢;obtain⟨v,U,h2⟩:=hd;exact⟨v,U,AV.uW h x v h2⟩
theorem AV.nn {w:World} {φ φ':ak} {I:Nat->Prop} {ρ:Nat->Nat} (h:∀b,φ b=φ' (ρ b)):∀(xs:List AV) (us:List Value),AV.ab w φ' I (AV.cy ρ xs) us->AV.ab w φ I xs us
 |[],us,hd=>by simpa only[AV.cy,AV.ab]using hd
 |x::xs,us,hd=>by
  simp only[AV.cy,AV.ab]at hd⊢
  obtain⟨u,aj,e,U,h2⟩:=hd
  exact⟨u,aj,e,AV.uW h x u U,AV.nn h xs aj h2⟩
end
theorem yA {w:World} {φ φ':ak} {I:Nat->Prop} {ρ:Nat->Nat} (h:∀b p,φ b=some p->φ' (ρ b)=some p) {o:Ob} {p:Option Nat} (ho:o.at w φ I p):(c7 ρ o).at w φ' I p:=by
 cases o with
 |var e cs=>
  simp only[c7,Ob.at]at ho⊢
  obtain⟨g,us,U,h2,h3,h4⟩:=ho
  exact⟨g,us,U,h2,AV.r6 h cs us h3,h4⟩
 |vec e es rows=>exact ho
 |lp l n st fn q ps E=>
  simp only[c7,Ob.at]at ho⊢
  obtain⟨h0,T,D,b8,U,h2,h3⟩:=ho
  refine⟨h0,T,D,b8,U,h2,fun i x hx=>?_⟩
  rw[yz]at hx
  cases hy:lk E i with
  |none=>rw[hy]at hx;cases hx
  |some y=>
   rw[hy]at hx
   simp only[Option.map_some,Option.some.injEq]at hx
   subst hx
   obtain⟨u,hu,hd⟩:=h3 i y hy
   exact⟨u,hu,AV.qp h y u hd⟩
theorem RM {w:World} {φ φ':ak} {I:Nat->Prop} {ρ:Nat->Nat} (h:∀b,φ b=φ' (ρ b)) {o:Ob} {p:Option Nat} (ho:(c7 ρ o).at w φ' I p):o.at w φ I p:=by
 cases o with
 |var e cs=>
  simp only[c7,Ob.at]at ho⊢
  obtain⟨g,us,U,h2,h3,h4⟩:=ho
  exact⟨g,us,U,h2,AV.nn h cs us h3,h4⟩
 |vec e es rows=>exact ho
 |lp l n st fn q ps E=>
  simp only[c7,Ob.at]at ho⊢
  obtain⟨h0,T,D,b8,U,h2,h3⟩:=ho
  refine⟨h0,T,D,b8,U,h2,fun i x hx=>?_⟩
  obtain⟨u,hu,hd⟩:=h3 i (AV.rn ρ x) (by rw[yz,hx];rfl)
  exact⟨u,hu,AV.uW h x u hd⟩
theorem St.B5 {B:Bs} {φ:ak} {I:Nat->Prop} {H:aa} {w:World} (h:St B φ I H w) {b:Nat} (hb:lk H b=none):φ b=none:=by
 have:=h.real.bf b
 rw[hb]at this
 cases hq:φ b with
 |none=>rfl
 |some x=>rw[hq]at this;cases this
def r1 (b b' c:Nat):Nat:=bif Nat.beq c b then b' else c
def j0 (b b':Nat):aa->aa
 |[]=>[]
 |(c,o)::r=>(r1 b b' c,c7 (r1 b b') o)::j0 b b' r
theorem yu {b b' c:Nat} (h:c≠b):r1 b b' c=c:=by
 unfold r1
 cases hq:Nat.beq c b with
 |true=>exact absurd (Nat.eq_of_beq_eq_true hq) h
 |false=>rfl
theorem CO {b b':Nat}:r1 b b' b=b':=by simp[r1]
theorem B2 {b b':Nat} (aG:b≠b'):∀(H:aa),lk H b'=none->lk (j0 b b' H) b'=(lk H b).map (c7 (r1 b b'))
 |[],_=>rfl
 |(c,o)::r,h=>by
  simp only[lk]at h
  simp only[j0,lk]
  by_cases hc:c=b
  ·subst hc;simp[r1]
  ·rw[yu hc]
   cases hq:Nat.beq c b' with
   |true=>rw[hq]at h;simp at h
   |false=>
    rw[hq]at h
    have:Nat.beq c b=false:=by
     cases hz:Nat.beq c b with
     |false=>rfl
     |true=>exact absurd (Nat.eq_of_beq_eq_true hz) hc
    simp only[this,cond_false]at h⊢
    exact B2 aG r h
theorem B3 {b b':Nat} (aG:b≠b'):∀(H:aa),lk (j0 b b' H) b=none
 |[]=>rfl
 |(c,o)::r=>by
  simp only[j0,lk]
  have:Nat.beq (r1 b b' c) b=false:=by
   cases hz:Nat.beq (r1 b b' c) b with
   |false=>rfl
   |true=>
    have:=Nat.eq_of_beq_eq_true hz
    by_cases hc:c=b
    ·subst hc;rw[CO]at this;exact absurd this.symm aG
    ·rw[yu hc]at this;exact absurd this hc
  rw[this];exact B3 aG r
theorem uE {b b' c:Nat} (U:c≠b) (h2:c≠b'):∀(H:aa),lk (j0 b b' H) c=(lk H c).map (c7 (r1 b b'))
 |[]=>rfl
 |(d,o)::r=>by
  simp only[j0,lk]
  by_cases hd:d=b
  ·subst hd
   have e1:Nat.beq b' c=false:=by
    cases hz:Nat.beq b' c with
    |false=>rfl
    |true=>exact absurd (Nat.eq_of_beq_eq_true hz).symm h2
   have e2:Nat.beq d c=false:=by
    cases hz:Nat.beq d c with
    |false=>rfl
    |true=>exact absurd (Nat.eq_of_beq_eq_true hz).symm U
   rw[CO,e1,e2];exact uE U h2 r
  ·rw[yu hd]
   cases Nat.beq d c with
   |true=>rfl
   |false=>simpa using uE U h2 r
def iw (b b':Nat) (φ:ak):ak:=fun c=>if c=b then none else if c=b' then φ b else φ c
theorem St.rename {B:Bs} {φ:ak} {I:Nat->Prop} {H:aa} {w:World} (h:St B φ I H w) (b b':Nat) (bF:lk H b'=none) (aG:b≠b') (hnb:B.nb<=b'):St B (iw b b' φ) I (j0 b b' H) w/\∀c p,φ c=some p->iw b b' φ (r1 b b' c)=some p:=by
 have h0:=h.B5 bF
 have AD:∀c p,φ c=some p->iw b b' φ (r1 b b' c)=some p:=fun c p hc=>by
  by_cases e:c=b
  ·subst e;rw[CO];simp only[iw,if_neg (Ne.symm aG),if_true];exact hc
  ·rw[yu e]
   have:c≠b':=fun e2=>by subst e2;rw[h0]at hc;cases hc
   simp only[iw,if_neg e,if_neg this];exact hc
 refine⟨⟨⟨fun c=>?_,fun c o p hl hp=>?_,fun c g hp=>?_,fun c1 c2 g U h2=>?_,h.real.bI⟩,h.ext,fun c g hp=>?_,h.cN,h.cd,fun c p o ag A6 hl=>?_⟩,AD⟩
 ·by_cases e1:c=b
  ·subst e1;rw[B3 aG];simp[iw]
  ·by_cases e2:c=b'
   ·subst e2;rw[B2 aG H bF];simp only[iw,if_neg e1,if_true];rw[h.real.bf b];cases lk H b<;>rfl
   ·rw[uE e1 e2];simp only[iw,if_neg e1,if_neg e2];rw[h.real.bf c];cases lk H c<;>rfl
 ·by_cases e1:c=b
  ·subst e1;simp[iw]at hp
  ·by_cases e2:c=b'
   ·subst e2
    rw[B2 aG H bF]at hl
    simp only[iw,if_neg e1,if_true]at hp
    cases hq:lk H b with
    |none=>rw[hq]at hl;cases hl
    |some o1=>rw[hq]at hl;cases hl;exact yA AD (h.real.own b o1 p hq hp)
   ·rw[uE e1 e2]at hl
    simp only[iw,if_neg e1,if_neg e2]at hp
    cases hq:lk H c with
    |none=>rw[hq]at hl;cases hl
    |some o1=>rw[hq]at hl;cases hl;exact yA AD (h.real.own c o1 p hq hp)
 ·unfold iw at hp
  split at hp
  ·cases hp
  ·split at hp
   ·exact h.real.off b g hp
   ·exact h.real.off c g hp
 ·unfold iw at U h2
  split at U
  ·cases U
  ·split at h2
   ·cases h2
   ·split at U<;>split at h2
    ·rename_i e1 e2;rw[e1,e2]
    ·rename_i n1 n2 e1 e2;exact absurd (h.real.inj _ _ g U h2).symm n2
    ·rename_i n1 n2 e1 e2;exact absurd (h.real.inj _ _ g U h2) n1
    ·exact h.real.inj _ _ g U h2
 ·unfold iw at hp
  split at hp
  ·cases hp
  ·split at hp
   ·exact h.bU b g hp
   ·exact h.bU c g hp
 ·by_cases e1:c=b
  ·subst e1;rw[B3 aG]at hl;cases hl
  ·have e2:c≠b':=by omega
   rw[uE e1 e2]at hl
   simp only[iw,if_neg e1,if_neg e2]
   cases hq:lk H c with
   |none=>rw[hq]at hl;cases hl
   |some o1=>exact h.cu c p o1 ag A6 hq
theorem a_.rename {C:Cx} {φ:ak} {I:Nat->Prop} {E:Env} {H:aa} {a:Act} {w:World} (h:a_ C φ I E H a w) (b b':Nat) (bF:lk H b'=none) (aG:b≠b') (hnb:C.B.nb<=b'):a_ C (iw b b' φ) I (nj (r1 b b') E) (j0 b b' H) a w:=by
 obtain⟨hS,hf⟩:=h.st.rename b b' bF aG hnb
 refine⟨h.bo,h.bp,fun i x hx=>?_,hS⟩
 rw[yz]at hx
 cases hq:lk E i with
 |none=>rw[hq]at hx;cases hx
 |some y=>
  rw[hq]at hx;cases hx
  obtain⟨u,hu,hd⟩:=h.env i y hq
  exact⟨u,hu,AV.qp hf y u hd⟩
theorem St.perm {B:Bs} {φ:ak} {I:Nat->Prop} {H H':aa} {w:World} (h:St B φ I H w) (hp:∀b,lk H b=lk H' b):St B φ I H' w:=
 ⟨⟨fun b=>by rw[<-hp];exact h.real.bf b,fun b o p hl=>h.real.own b o p (by rw[hp];exact hl),h.real.off,h.real.inj,h.real.bI⟩,h.ext,h.bU,h.cN,h.cd,fun b p o ag h0 hl=>h.cu b p o ag h0 (by rw[hp];exact hl)⟩
section
variable {C:Cx} {K:List PK} {E:Env} {H:aa}
theorem AE.rename {e:Exit} (b b':Nat) (bF:lk H b'=none) (aG:Nat.beq b b'=false) (hnb:Nat.ble C.B.nb b'=true) (h:AE C e K (nj (r1 b b') E) (j0 b b' H)):AE C e K E H:=by
 unfold AE at h⊢
 exact fun φ I a w hs=>h _ _ _ _ (hs.rename b b' bF (fun e=>by subst e;simp at aG) (Nat.le_of_ble_eq_true hnb))
theorem AP.rename {p:List Nat} (b b':Nat) (bF:lk H b'=none) (aG:Nat.beq b b'=false) (hnb:Nat.ble C.B.nb b'=true) (h:AP C p K (nj (r1 b b') E) (j0 b b' H)):AP C p K E H:=by
 unfold AP at h⊢
 exact fun φ I a w hs=>h _ _ _ _ (hs.rename b b' bF (fun e=>by subst e;simp at aG) (Nat.le_of_ble_eq_true hnb))
theorem AQ.rename {ds:List (Nat×Nat)} {i:Nat} {rest:List Oper} (b b':Nat) (bF:lk H b'=none) (aG:Nat.beq b b'=false) (hnb:Nat.ble C.B.nb b'=true) (h:AQ C ds i rest K (nj (r1 b b') E) (j0 b b' H)):AQ C ds i rest K E H:=by
 unfold AQ at h⊢
 exact fun ops U h2 φ I a w hs=>h ops U h2 _ _ _ _ (hs.rename b b' bF (fun e=>by subst e;simp at aG) (Nat.le_of_ble_eq_true hnb))
theorem AE.perm {e:Exit} (H':aa) (hp:∀b,lk H b=lk H' b) (h:AE C e K E H'):AE C e K E H:=by
 unfold AE at h⊢
 exact fun φ I a w hs=>h _ _ _ _ ⟨hs.bo,hs.bp,hs.env,hs.st.perm hp⟩
theorem AP.perm {p:List Nat} (H':aa) (hp:∀b,lk H b=lk H' b) (h:AP C p K E H'):AP C p K E H:=by
 unfold AP at h⊢
 exact fun φ I a w hs=>h _ _ _ _ ⟨hs.bo,hs.bp,hs.env,hs.st.perm hp⟩
theorem AQ.perm {ds:List (Nat×Nat)} {i:Nat} {rest:List Oper} (H':aa) (hp:∀b,lk H b=lk H' b) (h:AQ C ds i rest K E H'):AQ C ds i rest K E H:=by
 unfold AQ at h⊢
 exact fun ops U h2 φ I a w hs=>h ops U h2 _ _ _ _ ⟨hs.bo,hs.bp,hs.env,hs.st.perm hp⟩
end
attribute [go_sem] AV.rn AV.cy c7 nj r1 j0
def a8 (m:List (Nat×Nat)) (k b:Nat):Nat:=match lk m b with
 |some c=>c
 |none=>k+b
def c6:List (Nat×Nat)->Nat->Option Nat
 |[],_=>none
 |(b,c')::r,c=>bif Nat.beq c' c then some b else c6 r c
def ec:List (Nat×Nat)->List Nat
 |[]=>[]
 |(b,_)::r=>b::ec r
def iy:List (Nat×Nat)->List Nat
 |[]=>[]
 |(_,c)::r=>c::iy r
def kA:aa->List Nat
 |[]=>[]
 |(b,_)::r=>b::kA r
def fb:List Nat->Bool
 |[]=>true
 |x::r=>!(bC r x)&&fb r
def iU (ρ:Nat->Nat) (H:aa):aa->Prop
 |[]=>True
 |(b,o)::r=>lk H (ρ b)=some (c7 ρ o)/\iU ρ H r
def bZ (H1:aa):List (Nat×Nat)->List Nat
 |[]=>[]
 |(b,c)::r=>match lk H1 b with
  |some _=>bZ H1 r
  |none=>c::bZ H1 r
def cK (m:List (Nat×Nat)):aa->aa
 |[]=>[]
 |(c,o)::r=>match c6 m c with
  |some _=>cK m r
  |none=>(c,o)::cK m r
def oI (m:List (Nat×Nat)) (k:Nat):aa->aa
 |[]=>[]
 |(b,o)::r=>match lk m b with
  |some _=>oI m k r
  |none=>(k+b,c7 (a8 m k) o)::oI m k r
def qj (m:List (Nat×Nat)) (k:Nat) (H1:aa):aa->aa
 |[]=>[]
 |(c,o)::r=>match c6 m c with
  |none=>(c,o)::qj m k H1 r
  |some b=>match lk H1 b with
   |some o1=>(c,c7 (a8 m k) o1)::qj m k H1 r
   |none=>qj m k H1 r
def dU (m:List (Nat×Nat)) (k:Nat) (H H1:aa):aa:=oI m k H1++qj m k H1 H
def eN:List Nat->Env->Env
 |[],E=>E
 |d::r,E=>eN r (killE d E)
def iT:List Nat->aa->Bool
 |[],_=>true
 |d::r,H=>noMen d H&&iT r H
theorem fR {a b:Nat} (h:a≠b):Nat.beq a b=false:=by
 cases hq:Nat.beq a b with
 |false=>rfl
 |true=>exact absurd (Nat.eq_of_beq_eq_true hq) h
theorem BJ:∀(m:List (Nat×Nat)) (b c:Nat),c6 m c=some b->(b,c)∈m
 |[],_,_,h=>by cases h
 |(b',c')::r,b,c,h=>by
  simp only[c6]at h
  cases hq:Nat.beq c' c with
  |true=>
   rw[hq]at h
   have:=Nat.eq_of_beq_eq_true hq
   subst this
   simp at h;subst h;simp
  |false=>rw[hq]at h;exact List.mem_cons_of_mem _ (BJ r b c h)
theorem Hy:∀(m:List (Nat×Nat)) (b c:Nat),lk m b=some c->(b,c)∈m
 |[],_,_,h=>by cases h
 |(b',c')::r,b,c,h=>by
  simp only[lk]at h
  cases hq:Nat.beq b' b with
  |true=>
   rw[hq]at h
   have:=Nat.eq_of_beq_eq_true hq
   subst this
   simp at h;subst h;simp
  |false=>rw[hq]at h;exact List.mem_cons_of_mem _ (Hy r b c h)
theorem xH:∀(l:List Nat) (x:Nat),bC l x=true↔x∈l
 |[],x=>by simp[bC]
 |y::l,x=>by
  simp only[bC]
  cases hq:Nat.beq y x with
  |true=>have:=Nat.eq_of_beq_eq_true hq;subst this;simp
  |false=>
   have:x≠y:=fun e=>by subst e;simp at hq
   simp[xH l x,this]
theorem Qx {m:List (Nat×Nat)} {b c:Nat} (h:(b,c)∈m):b∈ec m:=by
 induction m with
 |nil=>cases h
 |cons x r ih=>
  obtain⟨b',c'⟩:=x
  rcases List.mem_cons.1 h with e|h
  ·cases e;simp[ec]
  ·simp[ec,ih h]
theorem Qy {m:List (Nat×Nat)} {b c:Nat} (h:(b,c)∈m):c∈iy m:=by
 induction m with
 |nil=>cases h
 |cons x r ih=>
  obtain⟨b',c'⟩:=x
  rcases List.mem_cons.1 h with e|h
  ·cases e;simp[iy]
  ·simp[iy,ih h]
theorem Hw:∀(m:List (Nat×Nat)) (b c:Nat),fb (ec m)=true->(b,c)∈m->lk m b=some c
 |[],_,_,_,h=>by cases h
 |(b',c')::r,b,c,hn,h=>by
  simp only[ec,fb,Bool.and_eq_true,Bool.not_eq_true']at hn
  simp only[lk]
  rcases List.mem_cons.1 h with e|h
  ·cases e;simp
  ·have:b'≠b:=fun e=>by
    subst e
    have:=(xH (ec r) b').2 (Qx h)
    rw[hn.1]at this;cases this
   rw[fR this];exact Hw r b c hn.2 h
theorem G9:∀(m:List (Nat×Nat)) (b c:Nat),fb (iy m)=true->(b,c)∈m->c6 m c=some b
 |[],_,_,_,h=>by cases h
 |(b',c')::r,b,c,hn,h=>by
  simp only[iy,fb,Bool.and_eq_true,Bool.not_eq_true']at hn
  simp only[c6]
  rcases List.mem_cons.1 h with e|h
  ·cases e;simp
  ·have:c'≠c:=fun e=>by
    subst e
    have:=(xH (iy r) c').2 (Qy h)
    rw[hn.1]at this;cases this
   rw[fR this];exact G9 r b c hn.2 h
theorem CL {ρ:Nat->Nat} {H:aa}:∀(Hc:aa),iU ρ H Hc->∀b o,lk Hc b=some o->lk H (ρ b)=some (c7 ρ o)
 |[],_,_,_,h=>by cases h
 |(b',o')::r,hp,b,o,h=>by
  simp only[lk]at h
  cases hq:Nat.beq b' b with
  |true=>
   rw[hq]at h
   have:=Nat.eq_of_beq_eq_true hq
   subst this
   simp at h;subst h;exact hp.1
  |false=>rw[hq]at h;exact CL r hp.2 b o h
theorem Ht:∀(H:aa) (b:Nat),(lk H b).isSome=bC (kA H) b
 |[],_=>rfl
 |(b',o)::r,b=>by
  simp only[lk,kA,bC]
  cases Nat.beq b' b with
  |true=>rfl
  |false=>simpa using Ht r b
theorem Hu:∀(m:List (Nat×Nat)) (b:Nat),(lk m b).isSome=bC (ec m) b
 |[],_=>rfl
 |(b',o)::r,b=>by
  simp only[lk,ec,bC]
  cases Nat.beq b' b with
  |true=>rfl
  |false=>simpa using Hu r b
theorem B0 {m:List (Nat×Nat)} {k:Nat}:∀(H1:aa) (c:Nat),c<k->lk (oI m k H1) c=none
 |[],_,_=>rfl
 |(b,o)::r,c,h=>by
  simp only[oI]
  cases lk m b with
  |some _=>exact B0 r c h
  |none=>simp only[lk,fR (show k+b≠c by omega),cond_false];exact B0 r c h
theorem Hv {m:List (Nat×Nat)} {k:Nat}:∀(H1:aa) (b:Nat),lk (oI m k H1) (k+b)=match lk m b with|some _=>none|none=>(lk H1 b).map (c7 (a8 m k))
 |[],b=>by cases lk m b<;>rfl
 |(b',o)::r,b=>by
  have ih:=Hv (m:=m) (k:=k) r b
  simp only[oI]
  by_cases e:b'=b
  ·subst e
   cases hm:lk m b' with
   |some c=>rw[hm]at ih;simpa using ih
   |none=>simp[lk]
  ·cases AN:lk m b' with
   |some c=>
    simp only
    rw[ih]
    simp only[lk,fR e,cond_false]
   |none=>simp only[lk,fR e,fR (show k+b'≠k+b by omega),cond_false];exact ih
theorem B1 {m:List (Nat×Nat)} {k:Nat} {H1:aa}:∀(H:aa) (c:Nat),lk (qj m k H1 H) c=match c6 m c with|none=>lk H c|some b=>match lk H c with|none=>none|some _=>(lk H1 b).map (c7 (a8 m k))
 |[],c=>by cases c6 m c<;>rfl
 |(c',o)::r,c=>by
  have ih:=B1 (m:=m) (k:=k) (H1:=H1) r c
  simp only[qj]
  by_cases e:c'=c
  ·subst e
   cases hi:c6 m c' with
   |none=>simp[lk]
   |some b=>
    rw[hi]at ih
    simp only at ih⊢
    cases U:lk H1 b with
    |some o1=>simp[lk]
    |none=>
     rw[U]at ih
     simp only[Option.map_none]at ih⊢
     rw[ih]
     cases lk r c'<;>simp[lk]
  ·have hl:lk ((c',o)::r) c=lk r c:=by simp only[lk,fR e,cond_false]
   rw[hl]
   cases rh:c6 m c' with
   |none=>simp only[lk,fR e,cond_false];exact ih
   |some b'=>
    simp only
    cases U:lk H1 b' with
    |some o1=>simp only[lk,fR e,cond_false];exact ih
    |none=>exact ih
theorem HQ:∀(m:List (Nat×Nat)) (H1:aa) (c:Nat),c∈bZ H1 m↔∃b,(b,c)∈m/\lk H1 b=none
 |[],H1,c=>by simp[bZ]
 |(b',c')::r,H1,c=>by
  have ih:=HQ r H1 c
  simp only[bZ]
  cases h:lk H1 b' with
  |some o=>
   simp only
   rw[ih]
   constructor
   ·rintro⟨b,U,h2⟩;exact⟨b,List.mem_cons_of_mem _ U,h2⟩
   ·rintro⟨b,U,h2⟩
    rcases List.mem_cons.1 U with e|U
    ·cases e;rw[h]at h2;cases h2
    ·exact⟨b,U,h2⟩
  |none=>
   simp only[List.mem_cons]
   rw[ih]
   constructor
   ·rintro(rfl|⟨b,U,h2⟩)
    ·exact⟨b',.inl rfl,h⟩
    ·exact⟨b,.inr U,h2⟩
   ·rintro⟨b,U,h2⟩
    rcases U with e|U
    ·cases e;exact .inl rfl
    ·exact .inr ⟨b,U,h2⟩
def jE (l:List Nat) (φ:ak):ak:=fun c=>bif bC l c then none else φ c
theorem DB (d:Nat) (l:List Nat) (φ:ak):jE (d::l) φ=jE l (fv φ d):=by
 funext c
 simp only[jE,bC,fv]
 by_cases e:c=d
 ·subst e;simp
 ·rw[fR (Ne.symm e),if_neg e];rfl
theorem xX {w:World} {I:Nat->Prop}:∀(l:List Nat) (φ:ak) (E:Env) (i:Nat) (x:AV),lk (eN l E) i=some x->∃y,lk E i=some y/\∀u,AV.den w φ I y u->AV.den w (jE l φ) I x u
 |[],φ,E,i,x,h=>⟨x,h,fun _ h=>h⟩
 |d::l,φ,E,i,x,h=>by
  obtain⟨y,hy,fW⟩:=xX (w:=w) (I:=I) l (fv φ d) (killE d E) i x h
  obtain⟨z,hz,BC⟩:=qe (w:=w) (φ:=φ) (φ':=fv φ d) (I:=I) (b:=d) (fun b' bF=>by simp[fv,bF]) E i y hy
  exact⟨z,hz,fun u hu=>by rw[DB];exact fW u (BC u hu)⟩
theorem Ih {w:World} {I:Nat->Prop} {b:Nat} {el:Sh} {cs:List AV} {us:List Value} {H:aa}:∀(l:List Nat) (φ:ak),iT l H=true->lk H b=some (.var el cs)->AV.ab w φ I cs us->AV.ab w (jE l φ) I cs us
 |[],_,_,_,h=>h
 |d::l,φ,hn,hl,h=>by
  simp only[iT,Bool.and_eq_true]at hn
  rw[DB]
  exact Ih l _ hn.2 hl (AV.oF (fun b' bF=>by simp[fv,bF]) cs us (yg H hn.1 b el cs hl) h)
theorem Ig {w:World} {I:Nat->Prop} {b:Nat} {l0 n:Nat} {st:fP} {fn:Func} {q:List Nat} {ps:List Tmp} {E:Env} {i:Nat} {x:AV} {u:Value} {H:aa}:∀(l:List Nat) (φ:ak),iT l H=true->lk H b=some (.lp l0 n st fn q ps E)->lk E i=some x->AV.den w φ I x u->AV.den w (jE l φ) I x u
 |[],_,_,_,_,h=>h
 |d::l,φ,hn,hl,hx,h=>by
  simp only[iT,Bool.and_eq_true]at hn
  rw[DB]
  exact Ig l _ hn.2 hl hx (AV.mX (fun b' bF=>by simp[fv,bF]) x u (x_ E (yh H hn.1 b l0 n st fn q ps E hl) i x hx) h)
theorem xZ {m:List (Nat×Nat)}:∀(H:aa) (c:Nat),c6 m c=none->lk (cK m H) c=lk H c
 |[],_,_=>rfl
 |(c',o)::r,c,h=>by
  simp only[cK]
  by_cases e:c'=c
  ·subst e;rw[h];simp[lk]
  ·have hl:lk ((c',o)::r) c=lk r c:=by simp only[lk,fR e,cond_false]
   rw[hl]
   cases c6 m c' with
   |none=>simp only[lk,fR e,cond_false];exact xZ r c h
   |some b=>exact xZ r c h
structure Hand (m:List (Nat×Nat)) (k:Nat) (H Hc:aa):Prop where
 keys:ec m=kA Hc
 nk:fb (ec m)=true
 nv:fb (iy m)=true
 pass:iU (a8 m k) H Hc
 fresh:∀b o,lk H b=some o->b<k
section
variable {B:Bs} {φ aU:ak} {I I1:Nat->Prop} {H H1 Hc:aa} {w w1:World} {m:List (Nat×Nat)} {k:Nat}
theorem l_ {b c:Nat} (h:lk m b=some c):a8 m k b=c:=by simp[a8,h]
theorem r5 {b:Nat} (h:lk m b=none):a8 m k b=k+b:=by simp[a8,h]
theorem Hand.bf (h:Hand m k H Hc) (b:Nat):(lk m b).isSome=(lk Hc b).isSome:=by rw[Hu,Ht,h.keys]
theorem Hand.get (h:Hand m k H Hc) {b c:Nat} (hb:lk m b=some c):∃o,lk Hc b=some o/\lk H c=some (c7 (a8 m k) o):=by
 have:=h.bf b
 rw[hb]at this
 cases hq:lk Hc b with
 |none=>rw[hq]at this;cases this
 |some o=>
  have h2:=CL Hc h.pass b o hq
  rw[l_ hb]at h2
  exact⟨o,rfl,h2⟩
theorem Hand.Dj (h:Hand m k H Hc) {b c:Nat} (hb:lk m b=some c):c<k:=by
 obtain⟨o,_,h2⟩:=h.get hb
 exact h.fresh _ _ h2
theorem Hand.xN (h:Hand m k H Hc) {b c:Nat} (hb:lk m b=some c):c6 m c=some b:=G9 m b c h.nv (Hy m b c hb)
theorem Hand.rG (h:Hand m k H Hc) {b c:Nat} (hb:c6 m c=some b):lk m b=some c:=Hw m b c h.nk (BJ m b c hb)
theorem Hand.G8 (h:Hand m k H Hc) (b:Nat):c6 m (k+b)=none:=by
 cases hq:c6 m (k+b)with
 |none=>rfl
 |some x=>have:=h.Dj (h.rG hq);omega
theorem Hand.inj (h:Hand m k H Hc) {b b':Nat} (e:a8 m k b=a8 m k b'):b=b':=by
 cases U:lk m b with
 |some c=>
  rw[l_ U]at e
  cases h2:lk m b' with
  |some c'=>
   rw[l_ h2]at e
   subst e
   have:=h.xN U
   rw[h.xN h2]at this
   cases this;rfl
  |none=>rw[r5 h2]at e;have:=h.Dj U;omega
 |none=>
  rw[r5 U]at e
  cases h2:lk m b' with
  |some c'=>rw[l_ h2]at e;have:=h.Dj h2;omega
  |none=>rw[r5 h2]at e;omega
theorem Hand.out (h:Hand m k H Hc) (hS:St B φ I H w) {b:Nat} (hb:lk m b=none):φ (a8 m k b)=none:=by
 rw[r5 hb]
 refine hS.B5 ?_
 cases hq:lk H (k+b)with
 |none=>rfl
 |some o=>have:=h.fresh _ _ hq;omega
theorem Hand.real (h:Hand m k H Hc) (hS:St B φ I H w):Real w (fun b=>φ (a8 m k b)) I Hc:=by
 refine⟨fun b=>?_,fun b o p hl hp=>?_,fun b g hp=>hS.real.off _ g hp,fun b b' g U h2=>h.inj (hS.real.inj _ _ g U h2),hS.real.bI⟩
 ·rw[<-h.bf b]
  cases hm:lk m b with
  |none=>show(φ (a8 m k b)).isSome=_;rw[h.out hS hm];rfl
  |some c=>
   obtain⟨o,_,h2⟩:=h.get hm
   show(φ (a8 m k b)).isSome=_
   rw[l_ hm,hS.real.bf c,h2];rfl
 ·have h2:=CL Hc h.pass b o hl
  exact RM (ρ:=a8 m k) (φ':=φ) (fun _=>rfl) (hS.real.own _ _ p h2 hp)
def fO (m:List (Nat×Nat)) (k:Nat) (φ aU:ak):ak:=fun c=>match c6 m c with
 |some b=>aU b
 |none=>if c<k then φ c else match lk m (c-k)with
  |some _=>none
  |none=>aU (c-k)
theorem qy {c b:Nat} (h:c6 m c=some b):fO m k φ aU c=aU b:=by simp[fO,h]
theorem vo {c:Nat} (h:c6 m c=none) (hc:c<k):fO m k φ aU c=φ c:=by simp[fO,h,hc]
theorem Hand.y8 (h:Hand m k H Hc) (b:Nat):fO m k φ aU (k+b)=match lk m b with|some _=>none|none=>aU b:=by
 have:¬k+b<k:=by omega
 simp only[fO,h.G8 b,if_neg this,Nat.add_sub_cancel_left]
theorem Hand.cls (h:Hand m k H Hc) {c:Nat} {p:Option Nat} (hp:fO m k φ aU c=some p):(c6 m c=none/\c<k/\φ c=some p)\/∃b,c=a8 m k b/\aU b=some p:=by
 cases hi:c6 m c with
 |some b=>
  rw[qy hi]at hp
  exact .inr ⟨b,(l_ (h.rG hi)).symm,hp⟩
 |none=>
  rcases Nat.lt_or_ge c k with hc|hc
  ·rw[vo hi hc]at hp;exact .inl ⟨rfl,hc,hp⟩
  ·obtain⟨b,rfl⟩:∃b,c=k+b:=⟨c-k,by omega⟩
   rw[h.y8 b]at hp
   cases hm:lk m b with
   |some _=>rw[hm]at hp;cases hp
   |none=>rw[hm]at hp;exact .inr ⟨b,(r5 hm).symm,hp⟩
theorem Hand.fwd (h:Hand m k H Hc) {b:Nat} {p:Option Nat} (hp:aU b=some p):fO m k φ aU (a8 m k b)=some p:=by
 cases hm:lk m b with
 |some c=>rw[l_ hm,qy (h.xN hm)];exact hp
 |none=>rw[r5 hm,h.y8 b,hm];exact hp
theorem Hand.x3 (h:Hand m k H Hc) {c:Nat} (hc:c<k):lk (dU m k H H1) c=match c6 m c with|none=>lk H c|some b=>(lk H1 b).map (c7 (a8 m k)):=by
 unfold dU
 rw[uB,B0 H1 c hc,B1]
 simp only
 cases hi:c6 m c with
 |none=>rfl
 |some b=>
  obtain⟨o,_,h2⟩:=h.get (h.rG hi)
  simp only[h2]
theorem Hand.BZ (h:Hand m k H Hc) (b:Nat):lk (dU m k H H1) (k+b)=match lk m b with|some _=>none|none=>(lk H1 b).map (c7 (a8 m k)):=by
 have hf:lk H (k+b)=none:=by
  cases hq:lk H (k+b)with
  |none=>rfl
  |some o=>have:=h.fresh _ _ hq;omega
 unfold dU
 rw[uB,Hv,B1,h.G8 b,hf]
 cases lk m b with
 |some _=>rfl
 |none=>simp only;cases lk H1 b<;>rfl
theorem Hand.after (h:Hand m k H Hc) (Ow:B.nb<=k) (hS:St B φ I H w) (U:St ⟨w,cB (fun b=>φ (a8 m k b)),I,fun b=>φ (a8 m k b),cH Hc⟩ aU I1 H1 w1) (hd:iT (bZ H1 m) (cK m H)=true):
  St B (fO m k φ aU) I1 (dU m k H H1) w1/\(∀c p,jE (bZ H1 m) φ c=some p->fO m k φ aU c=some p)/\(∀g,I g->w1.heap[g]?=w.heap[g]?)/\(∀g,I g->I1 g)/\(∀c g n,jE (bZ H1 m) φ c=some (some g)->shaped w g n->shaped w1 g n):=by
 have jR:∀g,I g->¬cB (fun b=>φ (a8 m k b)) g:=fun g hg ⟨b,hb⟩=>(hS.real.off _ g hb).1 hg
 have w7:∀g,I g->w1.heap[g]?=w.heap[g]?:=fun g hg=>U.ext.dj g (hS.real.bI g hg) (jR g hg)
 have bH:∀{b:Nat} {p:Option Nat},φ (a8 m k b)=some p->∃c,lk m b=some c:=fun{b p} hp=>by
  cases hm:lk m b with
  |some c=>exact⟨c,rfl⟩
  |none=>rw[h.out hS hm]at hp;cases hp
 have mL:∀{c g:Nat},c6 m c=none->φ c=some (some g)->¬cB (fun b=>φ (a8 m k b)) g:=fun{c g} hi hc ⟨b,hb⟩=>by
  obtain⟨c',hm⟩:=bH hb
  simp only[l_ hm]at hb
  have:=hS.real.inj _ _ g hc hb
  subst this
  rw[h.xN hm]at hi;cases hi
 have ag:∀{c:Nat} {p:Option Nat},φ c=some p->c<k:=fun{c p} hc=>by
  have:=hS.real.bf c
  rw[hc]at this
  cases hq:lk H c with
  |none=>rw[hq]at this;cases this
  |some o=>exact h.fresh c o hq
 have Gm:∀{b c:Nat},lk m b=some c->b<cH Hc:=fun{b c} hb=>by
  obtain⟨o,ho,_⟩:=h.get hb
  exact mZ Hc b o ho
 have wF:∀c p,jE (bZ H1 m) φ c=some p->fO m k φ aU c=some p:=fun c p hc=>by
  have wO:bC (bZ H1 m) c=false:=by
   cases hq:bC (bZ H1 m) c with
   |false=>rfl
   |true=>simp[jE,hq]at hc
  have dz:φ c=some p:=by simpa[jE,wO]using hc
  cases hi:c6 m c with
  |none=>rw[vo hi (ag dz)];exact dz
  |some b=>
   have hm:=h.rG hi
   rw[qy hi]
   cases hl:lk H1 b with
   |none=>
    have:=(xH (bZ H1 m) c).2 ((HQ m H1 c).2 ⟨b,BJ m b c hi,hl⟩)
    rw[wO]at this;cases this
   |some o=>exact U.cu b p o (Gm hm) (by show φ (a8 m k b)=_;rw[l_ hm];exact dz) hl
 have da:∀c g n,jE (bZ H1 m) φ c=some (some g)->shaped w g n->shaped w1 g n:=fun c g n hc hs=>by
  have wO:bC (bZ H1 m) c=false:=by
   cases hq:bC (bZ H1 m) c with
   |false=>rfl
   |true=>simp[jE,hq]at hc
  have dz:φ c=some (some g):=by simpa[jE,wO]using hc
  cases hi:c6 m c with
  |none=>exact U.ext.shaped (mL hi dz) hs
  |some b=>
   have eG:=wF c _ hc
   rw[qy hi]at eG
   obtain⟨cc,ee,gC,hn⟩:=hs
   obtain⟨c',hQ,h2,h3⟩:=U.ext.form g cc ee _ gC
   have jK:=U.real.bf b
   rw[eG]at jK
   cases hl:lk H1 b with
   |none=>rw[hl]at jK;cases jK
   |some o=>
    have aH:=U.real.own b o _ hl eG
    have n7:hQ=(0,0):=by
     cases o with
     |var e cs=>
      simp only[Ob.at]at aH
      obtain⟨g',us,cg,h4,_⟩:=aH
      cases cg
      exact h4.fz h2
     |vec e es rows=>
      simp only[Ob.at]at aH
      rcases aH with⟨h5,_⟩|⟨g',ae,rest,cg,h4,_⟩
      ·cases h5
      ·cases cg;rw[h2]at h4;cases h4;rfl
     |lp l n st fn q ps E=>
      simp only[Ob.at]at aH
      obtain⟨h0,T,D,b8,_,h4,_⟩:=aH
      cases h0;rw[h2]at h4;cases h4
    subst n7
    exact⟨c',ee,h2,by rw[h3];exact hn⟩
 refine⟨⟨⟨fun c=>?_,fun c o p hl hp=>?_,fun c g hp=>?_,fun c1 c2 g eG dP=>?_,U.real.bI⟩,hS.ext.trans U.ext (fun g ⟨b,hb⟩=>hS.bU _ g hb),fun c g hp=>?_,fun g hg=>?_,fun g hg=>U.cd g (hS.cd g hg),fun c p o hc h0 hl=>?_⟩,wF,w7,U.cd,da⟩
 ·rcases Nat.lt_or_ge c k with hc|hc
  ·rw[h.x3 hc]
   cases hi:c6 m c with
   |none=>rw[vo hi hc];exact hS.real.bf c
   |some b=>rw[qy hi,U.real.bf b];simp
  ·obtain⟨b,rfl⟩:∃b,c=k+b:=⟨c-k,by omega⟩
   rw[h.BZ b,h.y8 b]
   cases hm:lk m b with
   |some _=>rfl
   |none=>simp only;rw[U.real.bf b];simp
 ·rcases Nat.lt_or_ge c k with hc|hc
  ·rw[h.x3 hc]at hl
   cases hi:c6 m c with
   |none=>
    rw[hi]at hl
    rw[vo hi hc]at hp
    have bg:=hS.real.own c o p hl hp
    have p5:∀g,p=some g->w1.heap[g]?=w.heap[g]?:=fun g hg=>by
     subst hg
     exact U.ext.dj g (hS.real.off c g hp).2 (mL hi hp)
    cases o with
    |var e cs=>
     simp only[Ob.at]at bg⊢
     obtain⟨g,us,rfl,h2,h3,h4⟩:=bg
     refine⟨g,us,rfl,h2.dj (p5 g rfl),?_,h4⟩
     have h5:=Ih (H:=cK m H) (b:=c) (el:=e) _ φ hd (by rw[xZ H c hi];exact hl) h3
     exact AV.gh w7 U.cd wF da cs us h5
    |vec e es rows=>
     simp only[Ob.at]at bg⊢
     rcases bg with h'|⟨g,ae,rest,rfl,h2,h3,h4⟩
     ·exact .inl h'
     ·exact .inr ⟨g,ae,rest,rfl,(p5 g rfl).trans h2,IV.fT w7 U.cd rows ae h3,h4⟩
    |lp l n st fn q ps E=>
     simp only[Ob.at]at bg⊢
     obtain⟨rfl,T,D,b8,h2,h3,h4⟩:=bg
     refine⟨rfl,T,D,b8,h2,(p5 l rfl).trans h3,fun i x hx=>?_⟩
     obtain⟨u,hu,jL⟩:=h4 i x hx
     exact⟨u,hu,AV.jc w7 U.cd wF da x u (Ig (H:=cK m H) (b:=c) _ φ hd (by rw[xZ H c hi];exact hl) hx jL)⟩
   |some b=>
    rw[hi]at hl
    simp only at hl
    rw[qy hi]at hp
    cases hq:lk H1 b with
    |none=>rw[hq]at hl;cases hl
    |some o1=>rw[hq]at hl;cases hl;exact yA (fun b p hb=>h.fwd hb) (U.real.own b o1 p hq hp)
  ·obtain⟨b,rfl⟩:∃b,c=k+b:=⟨c-k,by omega⟩
   rw[h.BZ b]at hl
   rw[h.y8 b]at hp
   cases hm:lk m b with
   |some _=>rw[hm]at hl;cases hl
   |none=>
    rw[hm]at hl hp
    simp only at hl hp
    cases hq:lk H1 b with
    |none=>rw[hq]at hl;cases hl
    |some o1=>rw[hq]at hl;cases hl;exact yA (fun b p hb=>h.fwd hb) (U.real.own b o1 p hq hp)
 ·rcases h.cls hp with⟨hi,hc,b6⟩|⟨b,rfl,b6⟩
  ·have ho:=hS.real.off c g b6
   refine⟨fun hg=>?_,Nat.lt_of_lt_of_le ho.2 U.ext.size⟩
   rcases U.cN g hg with h2|h2|h2
   ·exact ho.1 h2
   ·exact mL hi b6 h2
   ·have:=ho.2;have:w.heap.size<=g:=h2;omega
  ·exact U.real.off b g b6
 ·have mix:∀{c1 b2:Nat},c6 m c1=none->φ c1=some (some g)->aU b2=some (some g)->False:=fun{c1 b2} hi lR p4=>by
   rcases U.bU b2 g p4 with h2|h2
   ·exact mL hi lR h2
   ·have:=(hS.real.off c1 g lR).2;have:w.heap.size<=g:=h2;omega
  rcases h.cls eG with⟨Oq,FU,lR⟩|⟨b1,rfl,lR⟩<;>rcases h.cls dP with⟨F8,wN,p4⟩|⟨b2,rfl,p4⟩
  ·exact hS.real.inj _ _ g lR p4
  ·exact(mix Oq lR p4).elim
  ·exact(mix F8 p4 lR).elim
  ·rw[U.real.inj _ _ g lR p4]
 ·rcases h.cls hp with⟨hi,hc,b6⟩|⟨b,rfl,b6⟩
  ·exact hS.bU c g b6
  ·rcases U.bU b g b6 with⟨b',bF⟩|h2
   ·exact hS.bU _ g bF
   ·exact .inr (Nat.le_trans hS.ext.size h2)
 ·rcases U.cN g hg with h2|⟨b',bF⟩|h2
  ·exact hS.cN g h2
  ·exact .inr (hS.bU _ g bF)
  ·exact .inr (.inr (Nat.le_trans hS.ext.size h2))
 ·have dZ:c<k:=Nat.lt_of_lt_of_le hc Ow
  rw[h.x3 dZ]at hl
  cases hi:c6 m c with
  |none=>rw[hi]at hl;rw[vo hi dZ];exact hS.cu c p o hc h0 hl
  |some b=>
   rw[hi]at hl
   simp only at hl
   have hm:=h.rG hi
   obtain⟨o',_,AJ⟩:=h.get hm
   have tN:=hS.cu c p _ hc h0 AJ
   rw[qy hi]
   cases hq:lk H1 b with
   |none=>rw[hq]at hl;cases hl
   |some o1=>exact U.cu b p o1 (Gm hm) (by show φ (a8 m k b)=_;rw[l_ hm];exact tN) hq
end
section
variable {C:Cx} {K:List PK} {E:Env} {H:aa}
theorem yk {f:FuncId} {dw us xs:Array Value} {P:Program} {w:World} {t:TypeId} (tu:enters P f=true):
  (do let d<-Deferred.ofValue (.func (.func f) dw us) xs;invoke d.target d.args:Sem Next).run P w= .ok (.enter f (dw++xs++us).toList.toArray) w:=by
 simp only[Deferred.ofValue,Sem.run_bind,Sem.run_pure,Result.andThen_ok,invoke,Array.toArray_toList]
 rw[r8 tu]
theorem AQ.kU (m:List (Nat×Nat)) {ds:List (Nat×Nat)} {i:Nat} {d:Option Nat} {ty:TypeId} {pos:String} {af:Array Edge} {os:List Oper} {aZ:Operand} {f:FuncId} {fs aD:List AV} {xs:List Operand} {aP:Array TypeId} {l fy:List AV} {Hc:aa} {R:AV->aa->Prop}
  (ah:a6 C.n ({dst:=d,op:= .call {callee:= .value aZ,args:=xs.toArray,argTypes:=aP},type:=ty,pos:=pos,after:=af,guard:=none}::os)=true)
  (ew:ev E aZ=some (.fn f fs aD)) (hl:di E xs=some l) (cZ:gs l=true)
  (jj:ec m=kA Hc) (gn:fb (ec m)=true) (jn:fb (iy m)=true) (jo:iU (a8 m (aE C.B.nb H)) H Hc)
  (cE:AV.cy (a8 m (aE C.B.nb H)) fy=fs++l.map AV.st++aD) (hc:al C.P f fy Hc R)
  (h:∀r H1,R r H1->iT (bZ H1 m) (cK m H)=true/\AQ C (aQ d i ds) (i+1) os K (aS d (AV.rn (a8 m (aE C.B.nb H)) r) (eN (bZ H1 m) E)) (dU m (aE C.B.nb H) H H1)):
  AQ C ds i ({dst:=d,op:= .call {callee:= .value aZ,args:=xs.toArray,argTypes:=aP},type:=ty,pos:=pos,after:=af,guard:=none}::os) K E H:=by
 obtain⟨hd,b9⟩:=dE ah
 generalize hk:aE C.B.nb H=k at*
 have hH:Hand m k H Hc:=⟨jj,gn,jn,jo,fun b o hb=>by have:=mZ H b o hb;have:=(fZ C.B.nb H).2;omega⟩
 have bm:=h
 unfold AQ at bm⊢
 refine AO.step (o:={dst:=d,op:= .call {callee:= .value aZ,args:=xs.toArray,argTypes:=aP},type:=ty,pos:=pos,after:=af,guard:=none}) fun ops φ I a w aM _ hs Kn bB=>?_
 have hw:Region.wanted {dst:=d,op:= .call {callee:= .value aZ,args:=xs.toArray,argTypes:=aP},type:=ty,pos:=pos,after:=af,guard:=none} (yielded ops a.tmps)=true:=by simp[Region.wanted]
 rw[if_pos hw]
 have fE:=aL hs.env ew
 simp only[AV.den]at fE
 obtain⟨dw,us,kk,fH,k0⟩:=fE
 have aW:AV.ab w φ I (fs++l.map AV.st++aD) (dw++xs.map a.eval++us):=j7 _ _ _ _ (j7 _ _ _ _ kk (kc hs.env _ _ hl cZ)) fH
 rw[<-cE]at aW
 have tq:=AV.nn (ρ:=a8 m k) (φ:=fun b=>φ (a8 m k b)) (fun _=>rfl) _ _ aW
 have ax:(execOp a.eval {dst:=d,op:= .call {callee:= .value aZ,args:=xs.toArray,argTypes:=aP},type:=ty,pos:=pos,after:=af,guard:=none}).run C.P w= .ok (.enter f (dw++xs.map a.eval++us).toArray) w:=by
  have:execOp a.eval {dst:=d,op:= .call {callee:= .value aZ,args:=xs.toArray,argTypes:=aP},type:=ty,pos:=pos,after:=af,guard:=none}=(do let d<-Deferred.ofValue (a.eval aZ) (xs.toArray.map a.eval);invoke d.target d.args):=rfl
  rw[this,k0,yk (t:=ty) hc.fC]
  simp
 unfold Oper.wp
 rw[ax,Oper.upon_enter]
 refine(hc.run w (fun b=>φ (a8 m k b)) I _ tq (hH.real hs.st) hs.st.vk).mono fun e w' ⟨r,H1,aU,I1,v,hr,he,bN,hS⟩=>?_
 subst he
 obtain⟨ic,gl⟩:=bm r H1 hr
 obtain⟨jg,hf,ji,hI,da⟩:=hH.after (by have:=(fZ C.B.nb H).1;omega) hs.st hS ic
 refine bB _ _ (fO m k φ aU) I1 _ _ gl ?_
 have ig:a_ C (fO m k φ aU) I1 (eN (bZ H1 m) E) (dU m k H H1) a w':=by
  refine⟨hs.bo.mono ji hI,hs.bp,fun j x hx=>?_,jg⟩
  obtain⟨y,hy,fW⟩:=xX (w:=w) (I:=I) _ φ E j x hx
  obtain⟨u,hu,hd⟩:=hs.env j y hy
  exact⟨u,hu,AV.jc ji hI hf da x u (fW u hd)⟩
 exact ig.put jg (bh.refl w' (fO m k φ aU) I1) hd (AV.qp (φ':=fO m k φ aU) (fun b p hb=>hH.fwd (φ:=φ) hb) r v bN)
where
 j7 {w:World} {φ:ak} {I:Nat->Prop}:∀(xs ys:List AV) (us vs:List Value),AV.ab w φ I xs us->AV.ab w φ I ys vs->AV.ab w φ I (xs++ys) (us++vs)
  |[],ys,us,vs,U,h2=>by simp only[AV.ab]at U;subst U;simpa using h2
  |x::xs,ys,us,vs,U,h2=>by
   simp only[AV.ab]at U
   obtain⟨u,aj,rfl,h3,h4⟩:=U
   simp only[List.cons_append,AV.ab]
   exact⟨u,_,rfl,h3,j7 xs ys aj vs h4 h2⟩
theorem AQ.bE (m:List (Nat×Nat)) {ds:List (Nat×Nat)} {i:Nat} {d:Option Nat} {ty:TypeId} {pos:String} {af:Array Edge} {os:List Oper} {aZ:Operand} {f:FuncId} {fs aD:List AV} {xs:List Operand} {aP:Array TypeId} {l fy:List AV} {Hc:aa} {R:AV->aa->Prop}
  (ah:a6 C.n ({dst:=d,op:= .call {callee:= .value aZ,args:=xs.toArray,argTypes:=aP},type:=ty,pos:=pos,after:=af,guard:=none}::os)=true)
  (ew:ev E aZ=some (.fn f fs aD)) (hl:di E xs=some l) (cZ:gs l=true)
  (jj:ec m=kA Hc) (gn:fb (ec m)=true) (jn:fb (iy m)=true) (jo:iU (a8 m (aE C.B.nb H)) H Hc)
  (cE:AV.cy (a8 m (aE C.B.nb H)) fy=fs++l.map AV.st++aD) (hc:al C.P f fy Hc R)
  (h:∀r H1,R r H1->iT (bZ H1 m) (cK m H)=true/\vq C K os (aQ d i ds) (i+1) (aS d (AV.rn (a8 m (aE C.B.nb H)) r) (eN (bZ H1 m) E)) (dU m (aE C.B.nb H) H H1)):
  AQ C ds i ({dst:=d,op:= .call {callee:= .value aZ,args:=xs.toArray,argTypes:=aP},type:=ty,pos:=pos,after:=af,guard:=none}::os) K E H:=
 AQ.kU m ah ew hl cZ jj gn jn jo cE hc fun r H1 hr=>⟨(h r H1 hr).1,AQ.go (dE ah).2 (h r H1 hr).2⟩
end
attribute [go_sem] a8 c6 ec iy kA fb iU bZ cK oI qj dU eN iT
def cU (l:List UInt8):List (List IV):=l.map fun b=>[.v (.int .u8 b.toNat)]
theorem lE (l:List UInt8):(cU l).length=l.length:=by simp[cU]
theorem sR {w:World} {I:Nat->Prop}:∀(l:List UInt8),IV.aC w I (cU l) (l.map fun b=>[Value.int .u8 b.toNat])
 |[]=>by simp[cU,IV.aC]
 |b::l=>by
  have ih:=sR (w:=w) (I:=I) l
  simp only[cU,List.map_cons,IV.aC,IV.ab,IV.den]at ih⊢
  exact⟨_,_,rfl,⟨_,_,rfl,⟨rfl,rfl⟩,rfl⟩,ih⟩
theorem Ea (l:List UInt8):(l.map fun b=>[Value.int .u8 b.toNat]).flatten=l.map fun b=>Value.int .u8 b.toNat:=by
 induction l with
 |nil=>rfl
 |cons b l ih=>simp only[List.map_cons,List.flatten_cons,ih];rfl
theorem St.H8 {B:Bs} {φ:ak} {I:Nat->Prop} {H:aa} {w w':World} (h:St B φ I H w) (aO:w'.heap.size=w.heap.size+1) (hold:∀g,g<w.heap.size->w'.heap[g]?=w.heap[g]?)
  (pY:w'.os=w.os) (ht:w'.os=w.os) (p3:w'.output=w.output):
  St B φ (fun g=>I g\/g=w.heap.size) H w'/\bh w φ I w' φ (fun g=>I g\/g=w.heap.size):=by
 have hx:Ext (fun _=>False) w w':=⟨by omega,fun g hg _=>hold g hg,fun g c e fz hc=>⟨c,fz,(hold g (by
   rcases Nat.lt_or_ge g w.heap.size with h'|h'
   ·exact h'
   ·rw[Array.getElem?_eq_none h']at hc;cases hc)).trans hc,rfl⟩,pY,ht,p3⟩
 have k:bh w φ I w' φ (fun g=>I g\/g=w.heap.size):=
  ⟨fun g hg=>hold g (h.real.bI g hg),fun _ h=> .inl h,fun _ _ h=>h,fun _ g n _ hs=>hx.shaped (fun h=>h) hs⟩
 refine⟨⟨⟨h.real.bf,fun b' o' p hl hp=>?_,fun b' g hp=>?_,h.real.inj,fun g hg=>?_⟩,h.ext.trans hx (fun g hf=>hf.elim),h.bU,fun g hg=>?_,fun g hg=> .inl (h.cd g hg),h.cu⟩,k⟩
 ·refine Ob.ja k.im k.I k.phi k.sh (fun g hg=>?_) (h.real.own b' o' p hl hp)
  subst hg
  exact hold g (h.real.off b' g hp).2
 ·have:=h.real.off b' g hp
  exact⟨fun hi=>hi.elim this.1 (by omega),by omega⟩
 ·rcases hg with hg|rfl
  ·have:=h.real.bI g hg;omega
  ·omega
 ·rcases hg with hg|rfl
  ·exact h.cN g hg
  ·exact .inr (.inr h.ext.size)
theorem St.outside {B:Bs} {φ:ak} {I:Nat->Prop} {H:aa} {w w':World} (h:St B φ I H w) {g0:Nat} (hI:¬I g0) (aq:∀b,φ b≠some (some g0)) (ho:B.own g0\/B.w0.heap.size<=g0) (ag:g0<w.heap.size)
  (aO:w'.heap.size=w.heap.size) (hold:∀g,g≠g0->w'.heap[g]?=w.heap[g]?) (hf:∀c e fz,w.heap[g0]?=some (.cells c e fz)->∃hQ,w'.heap[g0]?=some (.cells c e hQ))
  (pY:w'.os=w.os) (ht:w'.os=w.os) (p3:w'.output=w.output):
  St B φ (fun g=>I g\/g=g0) H w'/\bh w φ I w' φ (fun g=>I g\/g=g0):=by
 have hx:Ext (fun g=>g=g0) w w':=⟨by omega,fun g hg hn=>hold g hn,fun g c e fz hc=>by
   by_cases e1:g=g0
   ·subst e1;obtain⟨hQ,h2⟩:=hf c e fz hc;exact⟨c,hQ,h2,rfl⟩
   ·exact⟨c,fz,(hold g e1).trans hc,rfl⟩,pY,ht,p3⟩
 have k:bh w φ I w' φ (fun g=>I g\/g=g0):=
  ⟨fun g hg=>hold g (fun e=>by subst e;exact hI hg),fun _ h=> .inl h,fun _ _ h=>h,fun b g n hb hs=>hx.shaped (fun e=>by subst e;exact aq b hb) hs⟩
 refine⟨⟨⟨h.real.bf,fun b' o' p hl hp=>?_,fun b' g hp=>?_,h.real.inj,fun g hg=>?_⟩,h.ext.trans hx (fun g hg=>by subst hg;exact ho),h.bU,fun g hg=>?_,fun g hg=> .inl (h.cd g hg),h.cu⟩,k⟩
 ·refine Ob.ja k.im k.I k.phi k.sh (fun g hg=>?_) (h.real.own b' o' p hl hp)
  subst hg
  exact hold g (fun e=>by subst e;exact aq b' hp)
 ·have:=h.real.off b' g hp
  refine⟨fun hi=>hi.elim this.1 (fun e=>by subst e;exact aq b' hp),by omega⟩
 ·rcases hg with hg|rfl
  ·have:=h.real.bI g hg;omega
  ·omega
 ·rcases hg with hg|rfl
  ·exact h.cN g hg
  ·exact .inr ho
theorem M6 (w:World) (a:Addr) (n:Nat):(w.freeze a n).heap.size=w.heap.size:=by unfold World.freeze;split<;>simp
theorem Fv (w:World) (a:Addr) (n g:Nat) (h:g≠a.block):(w.freeze a n).heap[g]?=w.heap[g]?:=by
 unfold World.freeze
 split
 ·rfl
 ·simp only[Array.getElem?_modify,if_neg (Ne.symm h)]
theorem Fx (w:World) (a:Addr) (n:Nat) (c:Array Value) (e:TypeId) (fz:Nat×Nat) (h:w.heap[a.block]?=some (.cells c e fz)):∃hQ,(w.freeze a n).heap[a.block]?=some (.cells c e hQ):=by
 unfold World.freeze
 split
 ·exact⟨fz,h⟩
 ·simp only[Array.getElem?_modify,if_true,h,Option.map_some]
  exact⟨_,rfl⟩
section
variable {C:Cx} {K:List PK} {E:Env} {H:aa}
theorem AQ.R0 {ds:List (Nat×Nat)} {i:Nat} {d:Option Nat} {ty s dt e:TypeId} {x:Operand} {pos:String} {af:Array Edge} {os:List Oper} {l:List UInt8}
  (ah:a6 C.n ({dst:=d,op:= .convert s dt x,type:=ty,pos:=pos,after:=af,guard:=none}::os)=true)
  (hx:ev E x=some (Sv l)) (hs:(C.P.underlying s).isSome=true) (hd:tk C.P dt= .slice e) (he:tk C.P e= .int .u8)
  (h:vq C K os (aQ d i ds) (i+1) (aS d (.im (.sl 1 (cU l))) E) H):
  AQ C ds i ({dst:=d,op:= .convert s dt x,type:=ty,pos:=pos,after:=af,guard:=none}::os) K E H:=by
 obtain⟨ez,b9⟩:=dE ah
 have bm:=AQ.go b9 h
 unfold AQ at bm⊢
 refine AO.step (o:={dst:=d,op:= .convert s dt x,type:=ty,pos:=pos,after:=af,guard:=none}) fun ops φ I a w aM _ iH Kn bB=>?_
 have hw:Region.wanted {dst:=d,op:= .convert s dt x,type:=ty,pos:=pos,after:=af,guard:=none} (yielded ops a.tmps)=true:=by simp[Region.wanted]
 rw[if_pos hw]
 have hv:=aL iH.env hx
 rw[jd]at hv
 obtain⟨su,mQ⟩:=Option.isSome_iff_exists.1 hs
 have ax:=Lib.run_convert_string_bytes (P:=C.P) w s dt e (BA l) mQ (ei hd) (qw he)
 have hex:(execOp a.eval {dst:=d,op:= .convert s dt x,type:=ty,pos:=pos,after:=af,guard:=none}).run C.P w= .ok (.value (.slice (some ⟨w.heap.size,0,none⟩) (BA l).size (grownCap w (BA l).size 0 e))) (Lib.bytesWorld w e (BA l)):=by
  simp only[execOp,hv,Sem.run_bind,ax,Result.andThen_ok,Sem.run_pure]
 unfold Oper.wp
 rw[hex,Oper.upon_value]
 have aO:=Lib.bytesWorld_size w e (BA l)
 have pZ:∀{W:World} {a:Addr} {n:Nat},(W.freeze a n).os=W.os/\(W.freeze a n).tape=W.tape/\(W.freeze a n).output=W.output:=fun{W a n}=>by unfold World.freeze;split<;>exact⟨rfl,rfl,rfl⟩
 obtain⟨hS,hk⟩:=iH.st.H8 (w':=Lib.bytesWorld w e (BA l)) aO (fun g hg=>Lib.bytesWorld_at_old w e (BA l) g hg)
  (by unfold Lib.bytesWorld;rw[pZ.1];rfl) (by unfold Lib.bytesWorld;rw[pZ.1];rfl) (by unfold Lib.bytesWorld;rw[pZ.2.2];rfl)
 refine bB _ _ φ _ _ _ bm (iH.put hS hk ez ?_)
 simp only[AV.den,IV.den]
 refine⟨_,_,l.map fun b=>[Value.int .u8 b.toNat],by rw[lE];rfl,by rw[lE];have:=grownCap_ge w (BA l).size 0 e;rw[y9]at this⊢;exact this,sR l,fun vs db=>by obtain⟨b,_,rfl⟩:=List.mem_map.1 db;rfl,fun _=>⟨_,_,rfl,.inr rfl,fun j u hu=>?_⟩⟩
 have c_:=Ea l
 rw[c_,List.getElem?_map]at hu
 cases hj:l[j]? with
 |none=>rw[hj]at hu;cases hu
 |some b=>
  rw[hj]at hu
  simp only[Option.map_some,Option.some.injEq]at hu
  have kn:j<l.length:=by
   rcases Nat.lt_or_ge j l.length with h'|h'
   ·exact h'
   ·rw[List.getElem?_eq_none h']at hj;cases hj
  rw[Nat.zero_add,Lib.bytesWorld_cell w e (BA l) j (by rw[y9];exact kn),o3,<-hu]
  rw[List.getD_eq_getElem?_getD,hj];rfl
theorem AQ.mark {ds:List (Nat×Nat)} {i:Nat} {d:Option Nat} {ty t e:TypeId} {x:Operand} {pos:String} {af:Array Edge} {os:List Oper} {b es n:Nat} {el:TypeId} {rows:List (List IV)}
  (ah:a6 C.n ({dst:=d,op:= .convert t t x,type:=ty,pos:=pos,after:=af,guard:=none}::os)=true)
  (hx:ev E x=some (.os b es 0 n)) (hl:lk H b=some (.vec el es rows)) (hn:n=rows.length) (aG:Nat.beq n 0=false) (bG:noMen b (dG b H)=true) (hd:tk C.P t= .slice e) (he:tk C.P e= .int .u8)
  (h:vq C K os (aQ d i ds) (i+1) (aS d (.im (.sl es rows)) (killE b E)) (dG b H)):
  AQ C ds i ({dst:=d,op:= .convert t t x,type:=ty,pos:=pos,after:=af,guard:=none}::os) K E H:=by
 obtain⟨ez,b9⟩:=dE ah
 have bm:=AQ.go b9 h
 unfold AQ at bm⊢
 refine AO.step (o:={dst:=d,op:= .convert t t x,type:=ty,pos:=pos,after:=af,guard:=none}) fun ops φ I a w aM _ iH Kn bB=>?_
 have hw:Region.wanted {dst:=d,op:= .convert t t x,type:=ty,pos:=pos,after:=af,guard:=none} (yielded ops a.tmps)=true:=by simp[Region.wanted]
 rw[if_pos hw]
 have hv:=aL iH.env hx
 simp only[AV.den]at hv
 have rp:n≠0:=fun e=>by rw[e]at aG;cases aG
 rcases hv with⟨_,_,h0,_⟩|⟨g,c,aq,hv,pU,FW,da⟩
 ·exact absurd h0 rp
 have bg:=iH.st.real.own b _ _ hl aq
 simp only[Ob.at]at bg
 rcases bg with⟨U,_⟩|⟨g',ae,rest,cg,b5,hr,hlen⟩
 ·cases U
 cases cg
 rw[Nat.zero_mul]at hv
 have O6:w.shape? g=some (el,(ae.flatten++rest).toArray.size):=by unfold World.shape?;rw[b5]
 have ax:(convert t t (.slice (some ⟨g,0,none⟩) n c)).run C.P w= .ok (.slice (some ⟨g,0,none⟩) n c) (w.freeze ⟨g,(ae.flatten++rest).toArray.size,none⟩ 1):=by
  simp[convert,run_underlying (ei hd),run_underlying (qw he),markStringish,O6]
 have hex:(execOp a.eval {dst:=d,op:= .convert t t x,type:=ty,pos:=pos,after:=af,guard:=none}).run C.P w= .ok (.value (.slice (some ⟨g,0,none⟩) n c)) (w.freeze ⟨g,(ae.flatten++rest).toArray.size,none⟩ 1):=by
  simp only[execOp,hv,Sem.run_bind,ax,Result.andThen_ok,Sem.run_pure]
 unfold Oper.wp
 rw[hex,Oper.upon_value]
 have pZ:∀{W:World} {a:Addr} {n:Nat},(W.freeze a n).os=W.os/\(W.freeze a n).tape=W.tape/\(W.freeze a n).output=W.output:=fun{W a n}=>by unfold World.freeze;split<;>exact⟨rfl,rfl,rfl⟩
 have jR:=iH.st.real.off b g aq
 have pK:=iH.forget b bG
 obtain⟨hS,hk⟩:=pK.st.outside (g0:=g) (w':=w.freeze ⟨g,(ae.flatten++rest).toArray.size,none⟩ 1) jR.1 (fun b' bF=>by
   simp only[fv]at bF
   split at bF
   ·cases bF
   ·rename_i OI;exact OI (iH.st.real.inj b' b g bF aq)) (iH.st.bU b g aq) jR.2 (M6 _ _ _) (fun g' cg=>Fv _ _ _ _ cg)
  (fun c e fz hc=>Fx _ ⟨g,_,none⟩ _ c e fz hc) pZ.1 pZ.1 pZ.2.2
 refine bB _ _ _ _ _ _ bm (pK.put hS hk ez ?_)
 obtain⟨hQ,n7⟩:=Fx w ⟨g,(ae.flatten++rest).toArray.size,none⟩ 1 _ _ _ b5
 simp only[AV.den,IV.den]
 refine⟨_,c,ae,by rw[hn],by omega,IV.fT (I:=I) (fun g1 k3=>Fv _ _ _ _ (fun e=>by subst e;exact jR.1 k3)) (fun _ h=> .inl h) rows ae hr,hlen,fun _=>⟨g,0,rfl,.inr rfl,fun j u hu=>?_⟩⟩
 have kn:j<ae.flatten.length:=by
  rcases Nat.lt_or_ge j ae.flatten.length with h'|h'
  ·exact h'
  ·rw[List.getElem?_eq_none h']at hu;cases hu
 simp only at n7
 simp only[World.cell?,n7,Nat.zero_add,Option.isSome_none,Bool.false_eq_true,if_false,List.getElem?_toArray]
 rw[List.getElem?_append_left kn];exact hu
end
section
variable {C:Cx} {K:List PK} {E:Env} {H:aa}
theorem AQ.Eb {ds:List (Nat×Nat)} {i:Nat} {d:Option Nat} {ty:TypeId} {pos:String} {af:Array Edge} {os:List Oper} {aZ:Operand} {f:FuncId} {fs aD:List AV} {xs:List Operand} {aP:Array TypeId} {l:List AV} {R:AV->Prop}
  (ah:a6 C.n ({dst:=d,op:= .call {callee:= .value aZ,args:=xs.toArray,argTypes:=aP},type:=ty,pos:=pos,after:=af,guard:=none}::os)=true)
  (ew:ev E aZ=some (.fn f fs aD)) (hl:di E xs=some l) (cZ:gs l=true) (hc:al C.P f (fs++l.map AV.st++aD) H (fun r' H'=>H'=H/\R r'))
  (bm:∀r,R r->AQ C (aQ d i ds) (i+1) os K (aS d r E) H):
  AQ C ds i ({dst:=d,op:= .call {callee:= .value aZ,args:=xs.toArray,argTypes:=aP},type:=ty,pos:=pos,after:=af,guard:=none}::os) K E H:=by
 obtain⟨hd,b9⟩:=dE ah
 unfold AQ at bm⊢
 refine AO.step (o:={dst:=d,op:= .call {callee:= .value aZ,args:=xs.toArray,argTypes:=aP},type:=ty,pos:=pos,after:=af,guard:=none}) fun ops φ I a w aM _ hs Kn bB=>?_
 have hw:Region.wanted {dst:=d,op:= .call {callee:= .value aZ,args:=xs.toArray,argTypes:=aP},type:=ty,pos:=pos,after:=af,guard:=none} (yielded ops a.tmps)=true:=by simp[Region.wanted]
 rw[if_pos hw]
 have fE:=aL hs.env ew
 simp only[AV.den]at fE
 obtain⟨dw,us,kk,fH,k0⟩:=fE
 have aW:AV.ab w φ I (fs++l.map AV.st++aD) (dw++xs.map a.eval++us):=AQ.kU.j7 _ _ _ _ (AQ.kU.j7 _ _ _ _ kk (kc hs.env _ _ hl cZ)) fH
 have ax:(execOp a.eval {dst:=d,op:= .call {callee:= .value aZ,args:=xs.toArray,argTypes:=aP},type:=ty,pos:=pos,after:=af,guard:=none}).run C.P w= .ok (.enter f (dw++xs.map a.eval++us).toArray) w:=by
  have:execOp a.eval {dst:=d,op:= .call {callee:= .value aZ,args:=xs.toArray,argTypes:=aP},type:=ty,pos:=pos,after:=af,guard:=none}=(do let d<-Deferred.ofValue (a.eval aZ) (xs.toArray.map a.eval);invoke d.target d.args):=rfl
  rw[this,k0,yk (t:=ty) hc.fC]
  simp
 unfold Oper.wp
 rw[ax,Oper.upon_enter]
 refine(hc.run w φ I _ aW hs.st.real hs.st.vk).mono fun e w' ⟨r,H1,aU,I1,v,⟨hH,hr⟩,he,bN,hS⟩=>?_
 subst he;subst hH
 have aq:aU=φ:=by
  funext b
  have d1:=hS.real.bf b
  have d0:=hs.st.real.bf b
  cases eM:lk H1 b with
  |none=>
   rw[eM]at d1 d0
   cases U:aU b with
   |some _=>rw[U]at d1;cases d1
   |none=>
    cases h0:φ b with
    |some _=>rw[h0]at d0;cases d0
    |none=>rfl
  |some o=>
   rw[eM]at d0
   cases h0:φ b with
   |none=>rw[h0]at d0;cases d0
   |some p=>exact hS.cu b p o (mZ H1 b o eM) h0 eM
 subst aq
 have ji:∀g,I g->w'.heap[g]?=w.heap[g]?:=fun g hg=>hS.ext.dj g (hs.st.real.bI g hg) (fun⟨b,hb⟩=>(hs.st.real.off b g hb).1 hg)
 have jg:St C.B aU I1 H1 w':=by
  refine⟨hS.real,hs.st.ext.trans hS.ext (fun g ⟨b,hb⟩=>hs.st.bU b g hb),fun b g hb=>hs.st.bU b g hb,fun g hg=>?_,fun g hg=>hS.cd g (hs.st.cd g hg),hs.st.cu⟩
  rcases hS.cN g hg with h2|⟨b',bF⟩|h2
  ·exact hs.st.cN g h2
  ·exact .inr (hs.st.bU _ g bF)
  ·exact .inr (.inr (Nat.le_trans hs.st.ext.size h2))
 have hk:bh w aU I w' aU I1:=by
  refine⟨ji,hS.cd,fun _ _ h=>h,fun b g n hb da=>?_⟩
  obtain⟨cc,ee,gC,hn⟩:=da
  obtain⟨c',hQ,h2,h3⟩:=hS.ext.form g cc ee _ gC
  have jK:=hS.real.bf b
  rw[hb]at jK
  cases hl:lk H1 b with
  |none=>rw[hl]at jK;cases jK
  |some o=>
   have aH:=hS.real.own b o _ hl hb
   have n7:hQ=(0,0):=by
    cases o with
    |var e cs=>
     simp only[Ob.at]at aH
     obtain⟨g',us,cg,h4,_⟩:=aH
     cases cg
     exact h4.fz h2
    |vec e es rows=>
     simp only[Ob.at]at aH
     rcases aH with⟨h5,_⟩|⟨g',ae,rest,cg,h4,_⟩
     ·cases h5
     ·cases cg;rw[h2]at h4;cases h4;rfl
    |lp l n st fn q ps E=>
     simp only[Ob.at]at aH
     obtain⟨h0,T,D,b8,_,h4,_⟩:=aH
     cases h0;rw[h2]at h4;cases h4
   subst n7
   exact⟨c',ee,h2,by rw[h3];exact hn⟩
 exact bB _ _ aU I1 _ _ (bm r hr) (hs.put jg hk hd bN)
theorem AQ.Mc {ds:List (Nat×Nat)} {i:Nat} {d:Option Nat} {ty:TypeId} {pos:String} {af:Array Edge} {os:List Oper} {aZ:Operand} {f:FuncId} {fs aD:List AV} {xs:List Operand} {aP:Array TypeId} {l:List AV} {R:AV->Prop}
  (ah:a6 C.n ({dst:=d,op:= .call {callee:= .value aZ,args:=xs.toArray,argTypes:=aP},type:=ty,pos:=pos,after:=af,guard:=none}::os)=true)
  (ew:ev E aZ=some (.fn f fs aD)) (hl:di E xs=some l) (cZ:gs l=true) (hc:al C.P f (fs++l.map AV.st++aD) H (fun r' H'=>H'=H/\R r'))
  (h:∀r,R r->vq C K os (aQ d i ds) (i+1) (aS d r E) H):
  AQ C ds i ({dst:=d,op:= .call {callee:= .value aZ,args:=xs.toArray,argTypes:=aP},type:=ty,pos:=pos,after:=af,guard:=none}::os) K E H:=
 AQ.Eb ah ew hl cZ hc fun r hr=>AQ.go (dE ah).2 (h r hr)
theorem AQ.Mb {ds:List (Nat×Nat)} {i:Nat} {d:Option Nat} {ty:TypeId} {pos:String} {af:Array Edge} {os:List Oper} {aZ:Operand} {f:FuncId} {fs aD:List AV} {xs:List Operand} {aP:Array TypeId} {l:List AV} {r:AV}
  (ah:a6 C.n ({dst:=d,op:= .call {callee:= .value aZ,args:=xs.toArray,argTypes:=aP},type:=ty,pos:=pos,after:=af,guard:=none}::os)=true)
  (ew:ev E aZ=some (.fn f fs aD)) (hl:di E xs=some l) (cZ:gs l=true) (hc:al C.P f (fs++l.map AV.st++aD) H (fun r' H'=>H'=H/\r'=r))
  (h:AQ C (aQ d i ds) (i+1) os K (aS d r E) H):
  AQ C ds i ({dst:=d,op:= .call {callee:= .value aZ,args:=xs.toArray,argTypes:=aP},type:=ty,pos:=pos,after:=af,guard:=none}::os) K E H:=
 AQ.Eb ah ew hl cZ hc fun r' hr=>by subst hr;exact h
theorem AQ.sS {ds:List (Nat×Nat)} {i:Nat} {d:Option Nat} {ty:TypeId} {pos:String} {af:Array Edge} {os:List Oper} {aZ:Operand} {f:FuncId} {fs aD:List AV} {xs:List Operand} {aP:Array TypeId} {l:List AV} {r:AV}
  (ah:a6 C.n ({dst:=d,op:= .call {callee:= .value aZ,args:=xs.toArray,argTypes:=aP},type:=ty,pos:=pos,after:=af,guard:=none}::os)=true)
  (ew:ev E aZ=some (.fn f fs aD)) (hl:di E xs=some l) (cZ:gs l=true) (hc:al C.P f (fs++l.map AV.st++aD) H (fun r' H'=>H'=H/\r'=r))
  (h:vq C K os (aQ d i ds) (i+1) (aS d r E) H):
  AQ C ds i ({dst:=d,op:= .call {callee:= .value aZ,args:=xs.toArray,argTypes:=aP},type:=ty,pos:=pos,after:=af,guard:=none}::os) K E H:=
 AQ.Mc ah ew hl cZ hc fun r' hr=>by subst hr;exact h
end
mutual
def eY (b:Nat) (l:List IV):AV->AV
 | .ob b' o=>bif Nat.beq b' b then .im (.pt (l.drop o))else .ob b' o
 | .oe b' es i j=>bif Nat.beq b' b then .top else .oe b' es i j
 | .os b' es i n=>bif Nat.beq b' b then .top else .os b' es i n
 | .fn f fs aD=> .fn f (gi b l fs) (gi b l aD)
 | .agg cs=> .agg (gi b l cs)
 | .aK cs=> .aK (gi b l cs)
 | .opt g x=> .opt g (eY b l x)
 | .im x=> .im x
 | .ar x=> .ar x
 | .top=> .top
 | .mp b'=>bif Nat.beq b' b then .top else .mp b'
 | .wr k x=> .wr k (eY b l x)
def gi (b:Nat) (l:List IV):List AV->List AV
 |[]=>[]
 |x::xs=>eY b l x::gi b l xs
end
def mC (b:Nat) (l:List IV):Env->Env
 |[]=>[]
 |(i,x)::r=>(i,eY b l x)::mC b l r
def nU (b:Nat) (l:List IV):Ob->Ob
 | .var e cs=> .var e (gi b l cs)
 | .vec e es rs=> .vec e es rs
 | .lp l0 n st fn q ps E=> .lp l0 n st fn q ps (mC b l E)
def g_ (b:Nat) (l:List IV):aa->aa
 |[]=>[]
 |(j,o)::r=>bif Nat.beq j b then g_ b l r else(j,nU b l o)::g_ b l r
theorem uD {b:Nat} {l:List IV}:∀(H:aa),lk (g_ b l H) b=none
 |[]=>rfl
 |(j,o)::r=>by
  simp only[g_]
  cases hq:Nat.beq j b with
  |true=>simpa using uD r
  |false=>simpa[lk,hq]using uD r
theorem uC {b:Nat} {l:List IV}:∀(H:aa) (b':Nat),b'≠b->lk (g_ b l H) b'=(lk H b').map (nU b l)
 |[],_,_=>rfl
 |(j,o)::r,b',aG=>by
  simp only[g_]
  cases hq:Nat.beq j b with
  |true=>
   have pN:=Nat.eq_of_beq_eq_true hq
   subst pN
   simp only[cond_true,lk,fR (Ne.symm aG),cond_false]
   exact uC r b' aG
  |false=>
   simp only[cond_false,lk]
   cases gK:Nat.beq j b' with
   |true=>rfl
   |false=>simpa using uC r b' aG
theorem zV {b:Nat} {l:List IV}:∀(E:Env) (i:Nat),lk (mC b l E) i=(lk E i).map (eY b l)
 |[],_=>rfl
 |(j,x)::r,i=>by
  simp only[mC,lk]
  cases Nat.beq j i with
  |true=>rfl
  |false=>simpa using zV r i
section
variable {w:World} {φ φ':ak} {I I':Nat->Prop} {b:Nat} {l:List IV}
mutual
theorem s_ (aq:∀b',b'≠b->φ' b'=φ b') (hI:∀g,I g->I' g) (hb:∃g us,φ b=some (some g)/\I' g/\IV.ab w I l us/\cr w g 0 us):∀(x:AV) (u:Value),AV.den w φ I x u->AV.den w φ' I' (eY b l x) u
 | .ob b' o,u,hx=>by
  simp only[eY]
  cases hq:Nat.beq b' b with
  |true=>
   have e:=Nat.eq_of_beq_eq_true hq
   subst e
   obtain⟨g,us,U,h2,h3,h4⟩:=hb
   simp only[AV.den]at hx
   obtain⟨g',cg,rfl⟩:=hx
   rw[U]at cg;cases cg
   simp only[cond_true,AV.den,IV.den]
   refine⟨g,o,us.drop o,rfl,h2,IV.gh (fun _ _=>rfl) hI _ _ (rF o _ _ h3),fun j v hv=>?_⟩
   rw[List.getElem?_drop]at hv
   have:=h4 (o+j) v hv
   rwa [Nat.zero_add]at this
  |false=>
   simp only[cond_false,AV.den]at hx⊢
   rw[aq b' (fun e=>by subst e;simp at hq)];exact hx
 | .oe b' _ _ _,u,hx=>by
  simp only[eY]
  cases hq:Nat.beq b' b with
  |true=>simp only[cond_true,AV.den]
  |false=>simp only[cond_false,AV.den]at hx⊢;rw[aq b' (fun e=>by subst e;simp at hq)];exact hx
 | .os b' _ _ _,u,hx=>by
  simp only[eY]
  cases hq:Nat.beq b' b with
  |true=>simp only[cond_true,AV.den]
  |false=>simp only[cond_false,AV.den]at hx⊢;rw[aq b' (fun e=>by subst e;simp at hq)];exact hx
 | .fn f fs aD,u,hx=>by simp only[eY];simp only[AV.den]at hx⊢;obtain⟨us,vs,U,h2,h3⟩:=hx;exact⟨us,vs,qW aq hI hb fs us U,qW aq hI hb aD vs h2,h3⟩
 | .agg cs,u,hx=>by simp only[eY];simp only[AV.den]at hx⊢;obtain⟨us,U,h2⟩:=hx;exact⟨us,qW aq hI hb cs us U,h2⟩
 | .aK cs,u,hx=>by simp only[eY];simp only[AV.den]at hx⊢;obtain⟨us,U,h2⟩:=hx;exact⟨us,qW aq hI hb cs us U,h2⟩
 | .opt g x,u,hx=>by simp only[eY];simp only[AV.den]at hx⊢;exact⟨fun hg=>s_ aq hI hb x u (hx.1 hg),hx.2⟩
 | .im x,u,hx=>by simp only[eY];simp only[AV.den]at hx⊢;exact IV.jc (fun _ _=>rfl) hI x u hx
 | .ar xs,u,hx=>by simp only[eY];simp only[AV.den]at hx⊢;obtain⟨us,U,h2⟩:=hx;exact⟨us,IV.gh (fun _ _=>rfl) hI xs us U,h2⟩
 | .top,_,_=>by simp only[eY,AV.den]
 | .mp b',u,hx=>by
  simp only[eY]
  cases hq:Nat.beq b' b with
  |true=>simp only[cond_true,AV.den]
  |false=>simp only[cond_false,AV.den]at hx⊢;rw[aq b' (fun e=>by subst e;simp at hq)];exact hx
 | .wr k x,u,hx=>by simp only[eY];simp only[AV.den]at hx⊢;obtain⟨v,U,h2⟩:=hx;exact⟨v,U,s_ aq hI hb x v h2⟩
theorem qW (aq:∀b',b'≠b->φ' b'=φ b') (hI:∀g,I g->I' g) (hb:∃g us,φ b=some (some g)/\I' g/\IV.ab w I l us/\cr w g 0 us):∀(xs:List AV) (us:List Value),AV.ab w φ I xs us->AV.ab w φ' I' (gi b l xs) us
 |[],us,h=>by simpa only[gi,AV.ab]using h
 |x::xs,us,h=>by
  simp only[AV.ab]at h
  simp only[gi,AV.ab]
  obtain⟨u,aj,e,U,h2⟩:=h
  exact⟨u,aj,e,s_ aq hI hb x u U,qW aq hI hb xs aj h2⟩
end
theorem St.fix {B:Bs} {H:aa} {el:TypeId} {cs:List AV} (h:St B φ I H w) (hl:lk H b=some (.var (.cell el) cs)) (mI:jV cs=some l):
  ∃φ' I',St B φ' I' (g_ b l H) w/\(∀g,I g->I' g)/\∀(x:AV) (u:Value),AV.den w φ I x u->AV.den w φ' I' (eY b l x) u:=by
 obtain⟨p,hp⟩:∃p,φ b=some p:=by
  have:=h.real.bf b
  rw[hl]at this
  cases hq:φ b with
  |none=>rw[hq]at this;cases this
  |some p=>exact⟨p,rfl⟩
 have aH:=h.real.own b _ p hl hp
 simp only[Ob.at,Sh.has,Sh.one]at aH
 obtain⟨g0,Dg,rfl,b5,lK,Vc⟩:=aH
 have hb:∃g us,φ b=some (some g)/\(I g\/φ b=some (some g))/\IV.ab w I l us/\cr w g 0 us:=by
  refine⟨g0,Dg,hp,.inr hp,uu cs l Dg mI lK,fun j u hu=>?_⟩
  simp only[World.cell?,b5,Option.isSome_none,Bool.false_eq_true,if_false,List.getElem?_toArray,Nat.zero_add]
  exact hu
 have aq:∀b',b'≠b->(fun i=>if i=b then none else φ i) b'=φ b':=fun b' hb=>by simp[hb]
 refine⟨fun i=>if i=b then none else φ i,fun g=>I g\/φ b=some (some g),⟨⟨fun b'=>?_,fun b' o p' aA b6=>?_,fun b' g b6=>?_,fun b1 b2 g U h2=>?_,fun g hg=>?_⟩,h.ext,fun b' g b6=>?_,fun g hg=>?_,fun g hg=> .inl (h.cd g hg),fun b' g oo ag h0 aA=>?_⟩,fun g hg=> .inl hg,fun x u hx=>s_ aq (fun g hg=> .inl hg) hb x u hx⟩
 ·by_cases ai:b'=b
  ·subst ai;rw[uD];simp
  ·simp only[if_neg ai];rw[uC H b' ai,Option.isSome_map];exact h.real.bf b'
 ·by_cases ai:b'=b
  ·subst ai;rw[uD]at aA;cases aA
  ·simp only[if_neg ai]at b6
   rw[uC H b' ai]at aA
   cases hq:lk H b' with
   |none=>rw[hq]at aA;cases aA
   |some o1=>
    rw[hq]at aA
    simp only[Option.map_some,Option.some.injEq]at aA
    subst aA
    have bg:=h.real.own b' o1 p' hq b6
    cases o1 with
    |var e cs'=>
     simp only[Ob.at,nU]at bg⊢
     obtain⟨g,us,U,h2,h3,h4⟩:=bg
     exact⟨g,us,U,h2,qW aq (fun g hg=> .inl hg) hb cs' us h3,h4⟩
    |vec e cX rs=>
     simp only[Ob.at,nU]at bg⊢
     rcases bg with h'|⟨g,ae,rest,U,h2,h3,h4⟩
     ·exact .inl h'
     ·exact .inr ⟨g,ae,rest,U,h2,IV.fT (fun _ _=>rfl) (fun g hg=> .inl hg) rs ae h3,h4⟩
    |lp l0 n st fn q ps E=>
     simp only[Ob.at,nU]at bg⊢
     obtain⟨h0,T,D,b8,U,h2,h3⟩:=bg
     refine⟨h0,T,D,b8,U,h2,fun i x hx=>?_⟩
     rw[zV]at hx
     cases hy:lk E i with
     |none=>rw[hy]at hx;cases hx
     |some y=>
      rw[hy]at hx
      simp only[Option.map_some,Option.some.injEq]at hx
      subst hx
      obtain⟨u,hu,hd⟩:=h3 i y hy
      exact⟨u,hu,s_ aq (fun g hg=> .inl hg) hb y u hd⟩
 ·by_cases ai:b'=b
  ·subst ai;simp at b6
  ·simp only[if_neg ai]at b6
   have:=h.real.off b' g b6
   exact⟨fun hg=>hg.elim this.1 (fun e=>ai (h.real.inj b' b g b6 e)),this.2⟩
 ·by_cases e1:b1=b
  ·subst e1;simp at U
  ·by_cases e2:b2=b
   ·subst e2;simp at h2
   ·simp only[if_neg e1]at U
    simp only[if_neg e2]at h2
    exact h.real.inj b1 b2 g U h2
 ·rcases hg with hg|hg
  ·exact h.real.bI g hg
  ·exact(h.real.off b g hg).2
 ·by_cases ai:b'=b
  ·subst ai;simp at b6
  ·simp only[if_neg ai]at b6;exact h.bU b' g b6
 ·rcases hg with hg|hg
  ·exact h.cN g hg
  ·exact .inr (h.bU b g hg)
 ·by_cases ai:b'=b
  ·subst ai;rw[uD]at aA;cases aA
  ·rw[uC H b' ai]at aA
   simp only[if_neg ai]
   cases hq:lk H b' with
   |none=>rw[hq]at aA;cases aA
   |some o1=>exact h.cu b' g o1 ag h0 hq
theorem a_.fix {C:Cx} {E:Env} {H:aa} {a:Act} {el:TypeId} {cs:List AV} (h:a_ C φ I E H a w) (hl:lk H b=some (.var (.cell el) cs)) (mI:jV cs=some l):
  ∃φ' I',a_ C φ' I' (mC b l E) (g_ b l H) a w:=by
 obtain⟨φ',I',hS,Ab,hd⟩:=h.st.fix hl mI
 refine⟨φ',I',h.bo.mono (fun _ _=>rfl) Ab,h.bp,fun i x hx=>?_,hS⟩
 rw[zV]at hx
 cases hq:lk E i with
 |none=>rw[hq]at hx;cases hx
 |some y=>
  rw[hq]at hx;cases hx
  obtain⟨u,hu,cP⟩:=h.env i y hq
  exact⟨u,hu,hd y u cP⟩
end
section
variable {C:Cx} {K:List PK} {E:Env} {H:aa}
theorem AE.fix {e:Exit} (b:Nat) {el:TypeId} {cs:List AV} {l:List IV} (hl:lk H b=some (.var (.cell el) cs)) (mI:jV cs=some l) (h:AE C e K (mC b l E) (g_ b l H)):AE C e K E H:=by
 unfold AE at h⊢
 intro φ I a w hs
 obtain⟨φ',I',dQ⟩:=hs.fix hl mI
 exact h φ' I' a w dQ
theorem AP.fix {p:List Nat} (b:Nat) {el:TypeId} {cs:List AV} {l:List IV} (hl:lk H b=some (.var (.cell el) cs)) (mI:jV cs=some l) (h:AP C p K (mC b l E) (g_ b l H)):AP C p K E H:=by
 unfold AP at h⊢
 intro φ I a w hs
 obtain⟨φ',I',dQ⟩:=hs.fix hl mI
 exact h φ' I' a w dQ
theorem AQ.fix {ds:List (Nat×Nat)} {i:Nat} {rest:List Oper} (b:Nat) {el:TypeId} {cs:List AV} {l:List IV} (hl:lk H b=some (.var (.cell el) cs)) (mI:jV cs=some l) (h:AQ C ds i rest K (mC b l E) (g_ b l H)):AQ C ds i rest K E H:=by
 unfold AQ at h⊢
 intro ops U h2 φ I a w hs
 obtain⟨φ',I',dQ⟩:=hs.fix hl mI
 exact h ops U h2 φ' I' a w dQ
end
attribute [go_sem] eY gi mC nU g_
theorem St.RF {B:Bs} {φ:ak} {I:Nat->Prop} {H:aa} {w:World} (h:St B φ I H w) {b:Nat} {e:Sh} {cs cs':List AV} (hl:lk H b=some (.var e cs)) (hd:∀us,AV.ab w φ I cs us->AV.ab w φ I cs' us):
  St B φ I (bt H b (.var e cs')) w:=by
 refine⟨⟨fun b'=>?_,fun b' o p aA hp=>?_,h.real.off,h.real.inj,h.real.bI⟩,h.ext,h.bU,h.cN,h.cd,fun b' p o ag h0 aA=>?_⟩
 ·by_cases ai:b'=b
  ·subst ai;rw[gQ H b' _ hl,h.real.bf b',hl];rfl
  ·rw[eH H b b' _ ai];exact h.real.bf b'
 ·by_cases ai:b'=b
  ·subst ai
   rw[gQ H b' _ hl]at aA
   cases aA
   have:=h.real.own b' _ p hl hp
   simp only[Ob.at]at this⊢
   obtain⟨g,us,U,h2,h3,h4⟩:=this
   exact⟨g,us,U,h2,hd us h3,h4⟩
  ·rw[eH H b b' _ ai]at aA;exact h.real.own b' o p aA hp
 ·by_cases ai:b'=b
  ·subst ai;exact h.cu b' p _ ag h0 hl
  ·rw[eH H b b' _ ai]at aA;exact h.cu b' p o ag h0 aA
theorem BR {w:World} {φ:ak} {I:Nat->Prop} {b:Nat}:∀(cs:List AV) (us:List Value),AV.ab w φ I cs us->AV.ab w φ I (kB b cs) us
 |[],_,h=>h
 |x::cs,us,h=>by
  simp only[AV.ab]at h
  obtain⟨u,aj,rfl,U,h2⟩:=h
  simp only[kB]
  cases hm:x.men b with
  |true=>simp only[cond_true,AV.ab,AV.den];exact⟨u,aj,rfl,trivial,BR cs aj h2⟩
  |false=>simp only[cond_false,AV.ab];exact⟨u,aj,rfl,U,BR cs aj h2⟩
def uz (b:Nat):Ob->Ob
 | .var e cs=> .var e (kB b cs)
 | .vec e es rows=> .vec e es rows
 | .lp l n st fn q ps E=> .lp l n st fn q ps (killE b E)
def oA (b:Nat):aa->aa
 |[]=>[]
 |(j,o)::r=>(j,uz b o)::oA b r
theorem x2 {b:Nat}:∀(H:aa) (b':Nat),lk (oA b H) b'=(lk H b').map (uz b)
 |[],_=>rfl
 |(j,o)::r,b'=>by
  simp only[oA,lk]
  cases Nat.beq j b' with
  |true=>rfl
  |false=>simpa using x2 r b'
theorem St.kill {B:Bs} {φ:ak} {I:Nat->Prop} {H:aa} {w:World} (h:St B φ I H w) (b:Nat):St B φ I (oA b H) w:=by
 refine⟨⟨fun b'=>?_,fun b' o p aA hp=>?_,h.real.off,h.real.inj,h.real.bI⟩,h.ext,h.bU,h.cN,h.cd,fun b' p o ag h0 aA=>?_⟩
 ·rw[x2,Option.isSome_map];exact h.real.bf b'
 ·rw[x2]at aA
  cases hq:lk H b' with
  |none=>rw[hq]at aA;cases aA
  |some o1=>
   rw[hq]at aA;cases aA
   have:=h.real.own b' o1 p hq hp
   cases o1 with
   |var e cs=>
    simp only[Ob.at,uz]at this⊢
    obtain⟨g,us,U,h2,h3,h4⟩:=this
    exact⟨g,us,U,h2,BR cs us h3,h4⟩
   |lp l n st fn q ps E=>
    simp only[Ob.at,uz]at this⊢
    obtain⟨h0,T,D,b8,U,h2,h3⟩:=this
    refine⟨h0,T,D,b8,U,h2,fun i x hx=>?_⟩
    obtain⟨y,hy,fW⟩:=qe (w:=w) (φ:=φ) (φ':=φ) (I:=I) (b:=b) (fun _ _=>rfl) E i x hx
    obtain⟨u,hu,hd⟩:=h3 i y hy
    exact⟨u,hu,fW u hd⟩
   |vec e es rows=>exact this
 ·rw[x2]at aA
  cases hq:lk H b' with
  |none=>rw[hq]at aA;cases aA
  |some o1=>exact h.cu b' p o1 ag h0 hq
theorem EJ {w:World} {φ:ak} {I:Nat->Prop} {y:AV}:∀(cs:List AV) (i:Nat) (x:AV) (us:List Value),cs[i]?=some x->(∀u,AV.den w φ I x u->AV.den w φ I y u)->AV.ab w φ I cs us->AV.ab w φ I (cs.set i y) us
 |[],_,_,_,h,_,_=>by simp at h
 |c::cs,0,x,us,h,hi,hd=>by
  simp only[List.getElem?_cons_zero,Option.some.injEq]at h
  subst h
  simp only[AV.ab]at hd
  obtain⟨u,aj,rfl,U,h2⟩:=hd
  simp only[List.set_cons_zero,AV.ab]
  exact⟨u,aj,rfl,hi u U,h2⟩
 |c::cs,i+1,x,us,h,hi,hd=>by
  simp only[List.getElem?_cons_succ]at h
  simp only[AV.ab]at hd
  obtain⟨u,aj,rfl,U,h2⟩:=hd
  simp only[List.set_cons_succ,AV.ab]
  exact⟨u,aj,rfl,U,EJ cs i x aj h hi h2⟩
theorem a_.iu {C:Cx} {φ:ak} {I:Nat->Prop} {E:Env} {H:aa} {a:Act} {w:World} (h:a_ C φ I E H a w) {b off:Nat} {e:Sh} {cs:List AV} (hl:lk H b=some (.var e cs)) (hc:cs[off]?=some (.im (.v (.slice none 0 0)))) (el:TypeId) (es:Nat):
  ∃φ',a_ C φ' I E ((aE C.B.nb H,.vec el es [])::bt H b (.var e (cs.set off (.os (aE C.B.nb H) es 0 0)))) a w:=by
 obtain⟨hS,hk⟩:=h.st.uR (jZ C.B.nb H) (fZ C.B.nb H).1 el es
 have aG:b≠aE C.B.nb H:=fun e=>by rw[e,jZ]at hl;cases hl
 have tG:lk ((aE C.B.nb H,Ob.vec el es [])::H) b=some (.var e cs):=by simp only[lk,fR (Ne.symm aG),cond_false];exact hl
 have q4:=hS.RF (cs':=cs.set off (.os (aE C.B.nb H) es 0 0)) tG (fun us hd=>EJ cs off _ us hc (fun u hu=>by
  simp only[AV.den,IV.den]at hu⊢
  exact .inl ⟨by simp[aT],trivial,trivial,hu.1⟩) hd)
 refine⟨aT φ (aE C.B.nb H) none,h.bo,h.bp,fun i x hx=>?_,?_⟩
 ·obtain⟨u,hu,hd⟩:=h.env i x hx
  exact⟨u,hu,hk.den hd⟩
 ·have e2:bt ((aE C.B.nb H,Ob.vec el es [])::H) b (.var e (cs.set off (.os (aE C.B.nb H) es 0 0)))=(aE C.B.nb H,.vec el es [])::bt H b (.var e (cs.set off (.os (aE C.B.nb H) es 0 0))):=by
   simp only[bt,fR (Ne.symm aG),cond_false]
  rw[e2]at q4
  exact q4
section
variable {C:Cx} {K:List PK} {E:Env} {H:aa}
theorem AE.kill {e:Exit} (b:Nat) (h:AE C e K E (oA b H)):AE C e K E H:=by
 unfold AE at h⊢
 exact fun φ I a w hs=>h _ _ _ _ ⟨hs.bo,hs.bp,hs.env,hs.st.kill b⟩
theorem AP.kill {p:List Nat} (b:Nat) (h:AP C p K E (oA b H)):AP C p K E H:=by
 unfold AP at h⊢
 exact fun φ I a w hs=>h _ _ _ _ ⟨hs.bo,hs.bp,hs.env,hs.st.kill b⟩
theorem AQ.kill {ds:List (Nat×Nat)} {i:Nat} {rest:List Oper} (b:Nat) (h:AQ C ds i rest K E (oA b H)):AQ C ds i rest K E H:=by
 unfold AQ at h⊢
 exact fun ops U h2 φ I a w hs=>h ops U h2 _ _ _ _ ⟨hs.bo,hs.bp,hs.env,hs.st.kill b⟩
theorem AE.iu {x:Exit} (b off:Nat) (el:TypeId) (es:Nat) {e:Sh} {cs:List AV} (hl:lk H b=some (.var e cs)) (hc:cs[off]?=some (.im (.v (.slice none 0 0))))
  (h:AE C x K E ((aE C.B.nb H,.vec el es [])::bt H b (.var e (cs.set off (.os (aE C.B.nb H) es 0 0))))):AE C x K E H:=by
 unfold AE at h⊢
 exact fun φ I a w hs=>by
  obtain⟨φ',dQ⟩:=hs.iu hl hc el es
  exact h _ _ _ _ dQ
theorem AP.iu {p:List Nat} (b off:Nat) (el:TypeId) (es:Nat) {e:Sh} {cs:List AV} (hl:lk H b=some (.var e cs)) (hc:cs[off]?=some (.im (.v (.slice none 0 0))))
  (h:AP C p K E ((aE C.B.nb H,.vec el es [])::bt H b (.var e (cs.set off (.os (aE C.B.nb H) es 0 0))))):AP C p K E H:=by
 unfold AP at h⊢
 exact fun φ I a w hs=>by
  obtain⟨φ',dQ⟩:=hs.iu hl hc el es
  exact h _ _ _ _ dQ
theorem AQ.split {ds:List (Nat×Nat)} {i:Nat} {o:Oper} {os:List Oper} {G:Bool} (ah:∀x,o.dst=some x->x<C.n) (hG:gd ds E o.guard=some G)
  (ht:G=true->AQ C ds i ({o with guard:=none}::os) K E H) (hf:G=false->AQ C (aQ o.dst i ds) (i+1) os K (aS o.dst (.opt false .top) E) H):AQ C ds i (o::os) K E H:=by
 cases G with
 |true=>exact AQ.nW hG (ht rfl)
 |false=>exact AQ.qZ ah hG (hf rfl)
end
attribute [go_sem] uz oA kB List.set_cons_zero List.set_cons_succ
end Go.AL
end
section
namespace Go.AL
open Go Go.Lib
def bV (l:List UInt8):List (List Value):=l.map fun b=>[Value.int .u8 b.toNat]
theorem v7 (l:List UInt8):(bV l).flatten=strCells (BA l):=by
 rw[bV,Ea]
 simp[strCells,BA]
theorem LQ (l:List UInt8):(bV l).flatten.length=l.length:=by rw[v7,strCells_length];rfl
theorem LC {P:Program} {B:Bs} {φ:ak} {I:Nat->Prop} {H:aa} {w:World} (hS:St B φ I H w) {b n:Nat} {e t u ty:TypeId} {rows:List (List IV)} {s:Value} {l:List UInt8}
  (hs:AV.den w φ I (.os b 1 0 n) s) (hH:lk H b=some (.vec e 1 rows)) (hn:n=rows.length)
  (ht:tk P t= .slice e) (hu:tk P u= .str) (cm:sz P e=some 1) (hz:az P e=some [.int .u8 0]) (iD:aI P e=some 1)
  (eL:rows.length+l.length<=140737488355328/2):
  ∃v w' p',(Builtin.append_ #[t,u] ty #[s,.string (BA l)]).run P w= .ok v w'/\Ext (fun g=>φ b=some (some g)) w w'/\(Ob.vec e 1 (rows++cU l)).at w' (aT φ b p') I p'/\
   (∀g,p'=some g->φ b=some (some g)\/w.heap.size<=g)/\(∀g,p'=some g->g<w'.heap.size)/\AV.den w' (aT φ b p') I (.os b 1 0 (rows.length+l.length)) v:=by
 subst hn
 simp only[AV.den]at hs
 obtain⟨_,ie,gD,k4⟩:=kJ cm
 have tA:ie.bytes=1:=by
  unfold aI at iD
  rw[gD]at iD
  simpa using iD
 obtain⟨z,iK,uq⟩:∃z,ie.zero=some z/\z.cells.toList=[.int .u8 0]:=by
  unfold az at hz
  rw[gD]at hz
  simp only[Option.bind_some]at hz
  cases ur:ie.zero with
  |none=>rw[ur]at hz;cases hz
  |some z=>rw[ur]at hz;exact⟨z,rfl,by simpa using hz⟩
 have GN:z.cells.size=1:=by rw[<-Array.length_toList,uq];rfl
 have nY:∀{w':World},Ext (fun g=>φ b=some (some g)) w w'->∀g,I g->w'.heap[g]?=w.heap[g]?:=fun hx g hg=>hx.dj g (hS.real.bI g hg) (fun e=>(hS.real.off b g e).1 hg)
 have lW:∀p,aT φ b p b=some p:=fun p=>by simp[aT]
 have aH:=fun p hp=>hS.real.own b _ p hH hp
 simp only[Ob.at]at aH
 have aO:(BA l).size=l.length:=rfl
 have Vj:maxLen=9223372036854775807\/140737488355328<=maxLen:=by right;unfold maxLen;omega
 have Vk:140737488355328<=maxLen:=by unfold maxLen;omega
 have Br:∀vs∈bV l,vs.length=1:=fun vs db=>by obtain⟨b,_,rfl⟩:=List.mem_map.1 db;rfl
 rcases hs with⟨U,_,h2,rfl⟩|⟨g,c,U,rfl,h2,h3,h4⟩
 ·have mO:rows=[]:=List.eq_nil_of_length_eq_zero h2
  subst mO
  by_cases hm:l=[]
  ·subst hm
   refine⟨.slice none 0 0,w,none,?_,Ext.refl _ w,?_,fun g hg=>(by cases hg),fun g hg=>(by cases hg),?_⟩
   ·have hf:=run_firstCells_string (P:=P) w 1 (BA [])
    have h0:(BA []).size=0:=rfl
    rw[h0]at hf
    simp[Builtin.append_,run_underlying (ei ht),run_underlying (j4 hu),sizeOf,typeInfo,gD,k4,Builtin.lenOf,h0,hf]
   ·simp only[Ob.at];exact .inl ⟨by simp,rfl⟩
   ·simp only[AV.den];exact .inl ⟨lW _,by simp⟩
  ·have iF:0<l.length:=List.length_pos_iff.2 hm
   have ax:=run_append_nil_string (P:=P) w t u ty e ie z (ei ht) (j4 hu) gD iK (BA l) (by omega) (by rw[aO];simp at eL;omega) (by rw[tA,aO];simp at eL;omega)
   have e1:((BA l).data.map fun b=>Value.int .u8 b.toNat)=(strCells (BA l)).toArray:=by
    apply Array.ext'
    simp[strCells]
   rw[e1]at ax
   have e7:=grownCap_ge w (BA l).size 0 e
   have hle:=grownCap_le_maxLen w (BA l).size 0 e (by rw[aO];simp at eL;omega)
   have eV:=s7 (own:=fun g=>φ b=some (some g)) (w:=w) (.cells ((strCells (BA l)).toArray++Builtin.zeroCells z.cells (grownCap w (BA l).size 0 e-(BA l).size)) e)
   refine⟨_,_,some w.heap.size,ax,eV,?_,fun g hg=> .inr (by cases hg;exact Nat.le_refl _),fun g hg=>(by cases hg;simp),?_⟩
   ·simp only[Ob.at,List.nil_append]
    refine .inr ⟨_,bV l,(Builtin.zeroCells z.cells (grownCap w (BA l).size 0 e-(BA l).size)).toList,rfl,?_,sR l,Br⟩
    rw[show(w.heap.size:Nat)=w.drew.heap.size from rfl,fQ w.drew,v7]
    congr 2
    apply Array.ext'
    simp
   ·simp only[AV.den]
    refine .inr ⟨_,_,lW _,by simp[aO],by simp only[List.length_nil,Nat.zero_add];rw[aO]at e7;exact e7,hle,_,e,fQ w.drew _,?_⟩
    simp only[Array.size_append,List.size_toArray,size_zeroCells,GN,strCells_length,Nat.zero_add,Nat.mul_one]
    omega
 ·rcases aH (some g) U with⟨bG,_⟩|⟨g',ae,rest,hg,b5,hr,hl⟩
  ·cases bG
  cases hg
  have fo:=je rows ae hr
  have c_:=mA ae 1 hl
  obtain⟨cc,ee,gC,Ar⟩:=h4
  rw[b5]at gC
  cases gC
  have q_:c<=(ae.flatten++rest).length:=by simpa using Ar
  have wX:ae.flatten.length=rows.length:=by rw[c_,fo,Nat.mul_one]
  simp only[Nat.zero_mul]
  by_cases p7:rows.length+(BA l).size<=c
  ·have ax:=run_append_room_string (P:=P) w t u ty e ie (ei ht) (j4 hu) gD k4 g rows.length c (ae.flatten++rest).toArray b5 (BA l) p7 (by simp only[List.size_toArray];omega)
   have e1:(ae.flatten++rest).toArray.toList.take rows.length=ae.flatten:=by
    simp only[]
    rw[<-wX];simp
   obtain⟨ln,e2⟩:∃ln,(ae.flatten++rest).toArray.toList.drop (rows.length+(BA l).size)=ln:=⟨_,rfl⟩
   rw[e1,e2,<-v7]at ax
   have tZ:(ae.flatten++(bV l).flatten++ln).toArray.size=(ae.flatten++rest).toArray.size:=by
    rw[<-e2]
    simp only[List.size_toArray,List.length_append,List.length_drop,LQ]at q_⊢
    rw[wX]at q_⊢
    rw[aO]at p7⊢
    omega
   have eV:Ext (fun g=>φ b=some (some g)) w (w.setRow g (ae.flatten++(bV l).flatten++ln).toArray):=(Ff b5 tZ).Du (fun g' cg=>by rw[cg];exact U)
   refine⟨_,_,some g,ax,eV,?_,fun g' hg=> .inl (by cases hg;exact U),fun g' hg=>(by cases hg;simpa using(hS.real.off b g U).2),?_⟩
   ·simp only[Ob.at]
    refine .inr ⟨g,ae++bV l,ln,rfl,?_,po _ _ _ _ (IV.fT (nY eV) (fun _ h=>h) rows ae hr) (sR l),fun vs hv=>?_⟩
    ·rw[setRow_heap w g _ _ e (0,0) b5];simp
    ·rcases List.mem_append.1 hv with hv|hv
     ·exact hl vs hv
     ·exact Br vs hv
   ·simp only[AV.den]
    exact .inr ⟨g,c,lW _,by simp[aO],p7,h3,_,e,setRow_heap w g _ _ e (0,0) b5,by rw[tZ,List.size_toArray,Nat.zero_add,Nat.mul_one];exact q_⟩
  ·have holds:∀j u,ae.flatten[j]?=some u->w.cell? ((⟨g,0,none⟩:Addr).add j)=some u:=fun j u hu=>by
    rw[addr_add,Nat.zero_add]
    have ag:j<ae.flatten.length:=by
     rcases Nat.lt_or_ge j ae.flatten.length with h|h
     ·exact h
     ·rw[List.getElem?_eq_none h]at hu;cases hu
    simp only[World.cell?,b5,Option.isSome_none,Bool.false_eq_true,if_false,List.getElem?_toArray]
    rw[List.getElem?_append_left ag];exact hu
   have ax:=run_append_grow_string (P:=P) w t u ty e ie z (ei ht) (j4 hu) gD iK ⟨g,0,none⟩ rows.length c ae.flatten (by rw[wX,k4,Nat.mul_one]) holds (BA l) (by omega) (by rw[aO];omega) (growslice_fits (by omega) (by rw[tA,aO];omega))
   have e7:=grownCap_ge w (rows.length+(BA l).size) c e
   have hle:=grownCap_le_maxLen w (rows.length+(BA l).size) c e (by rw[aO];omega)
   have eV:=s7 (own:=fun g=>φ b=some (some g)) (w:=w) (.cells (ae.flatten.toArray++(strCells (BA l)).toArray++Builtin.zeroCells z.cells (grownCap w (rows.length+(BA l).size) c e-(rows.length+(BA l).size))) e)
   refine⟨_,_,some w.heap.size,ax,eV,?_,fun g hg=> .inr (by cases hg;exact Nat.le_refl _),fun g hg=>(by cases hg;simp),?_⟩
   ·simp only[Ob.at]
    refine .inr ⟨_,ae++bV l,(Builtin.zeroCells z.cells (grownCap w (rows.length+(BA l).size) c e-(rows.length+(BA l).size))).toList,rfl,?_,po _ _ _ _ (IV.fT (nY eV) (fun _ h=>h) rows ae hr) (sR l),fun vs hv=>?_⟩
    ·rw[show(w.heap.size:Nat)=w.drew.heap.size from rfl,fQ w.drew,List.flatten_append,v7]
     congr 2
     apply Array.ext'
     simp
    ·rcases List.mem_append.1 hv with hv|hv
     ·exact hl vs hv
     ·exact Br vs hv
   ·simp only[AV.den]
    refine .inr ⟨_,_,lW _,by simp[aO],e7,hle,_,e,fQ w.drew _,?_⟩
    simp only[Array.size_append,List.size_toArray,size_zeroCells,GN,strCells_length,wX,Nat.zero_add,Nat.mul_one]
    omega
section
variable {C:Cx} {K:List PK} {E:Env} {H:aa}
theorem AQ.LA {ds:List (Nat×Nat)} {i:Nat} {d:Nat} {ty:TypeId} {pos:String} {af:Array Edge} {os:List Oper} {x y:Operand} {t u e:TypeId} {b n:Nat} {rows:List (List IV)} {l:List UInt8} (hnb:Nat.ble C.B.nb b=true)
  (ah:a6 C.n ({dst:=some d,op:= .call {callee:= .builtin .append,args:=#[x,y],argTypes:=#[t,u]},type:=ty,pos:=pos,after:=af,guard:=none}::os)=true)
  (hx:ev E x=some (.os b 1 0 n)) (hy:ev E y=some (Sv l)) (hH:lk H b=some (.vec e 1 rows)) (bG:noMen b H=true)
  (ht:tk C.P t= .slice e) (hu:tk C.P u= .str) (cm:sz C.P e=some 1) (hz:az C.P e=some [.int .u8 0]) (iD:aI C.P e=some 1)
  (hn:n=rows.length) (eL:rows.length+l.length<=70368744177664)
  (h:vq C K os ((i,d)::ds) (i+1) ((d,.os b 1 0 (rows.length+l.length))::killE b E) (bt H b (.vec e 1 (rows++cU l)))):
  AQ C ds i ({dst:=some d,op:= .call {callee:= .builtin .append,args:=#[x,y],argTypes:=#[t,u]},type:=ty,pos:=pos,after:=af,guard:=none}::os) K E H:=by
 obtain⟨ez,b9⟩:=dE ah
 have bm:=AQ.go b9 h
 have Av:d<C.n:=ez d rfl
 unfold AQ at bm⊢
 refine AO.step (o:={dst:=some d,op:= .call {callee:= .builtin .append,args:=#[x,y],argTypes:=#[t,u]},type:=ty,pos:=pos,after:=af,guard:=none}) fun ops φ I a w aM _ hs Kn bB=>?_
 have hw:Region.wanted {dst:=some d,op:= .call {callee:= .builtin .append,args:=#[x,y],argTypes:=#[t,u]},type:=ty,pos:=pos,after:=af,guard:=none} (yielded ops a.tmps)=true:=by simp[Region.wanted]
 rw[if_pos hw]
 have GL:=aL hs.env hy
 rw[jd]at GL
 obtain⟨v,w',p',ax,fU,A5,eG,dP,aW⟩:=LC (P:=C.P) (ty:=ty) hs.st (aL hs.env hx) hH hn ht hu cm hz iD (l:=l) (by omega)
 have hS:=hs.st.move (Nat.le_of_ble_eq_true hnb) hH bG (fun g hg aG=>fU.dj g hg aG) fU A5 eG dP
 have hI:∀g,I g->w'.heap[g]?=w.heap[g]?:=fun g hg=>fU.dj g (hs.st.real.bI g hg) (fun e=>(hs.st.real.off b g e).1 hg)
 have hex:(execOp a.eval {dst:=some d,op:= .call {callee:= .builtin .append,args:=#[x,y],argTypes:=#[t,u]},type:=ty,pos:=pos,after:=af,guard:=none}).run C.P w= .ok (.value v) w':=by
  simp only[execOp,resolve,invoke,builtin,Sem.run_bind,Sem.run_pure,Result.andThen_ok,List.map_toArray,List.map_cons,List.map_nil,GL,ax]
 unfold Oper.wp
 rw[hex,Oper.upon_value]
 refine bB _ _ (aT φ b p') I _ _ bm ⟨hs.bo.mono hI (fun _ h=>h),by simpa[Act.put]using hs.bp,fun j y hj=>?_,hS⟩
 simp only[lk]at hj
 cases hb:Nat.beq d j with
 |true=>
  rw[hb]at hj
  have:=Nat.eq_of_beq_eq_true hb
  subst this
  simp only[cond_true,Option.some.injEq]at hj
  subst hj
  exact⟨v,by simp only[Act.put];rw[Array.getElem?_setIfInBounds_self_of_lt (by rw[hs.bp];exact Av)],aW⟩
 |false=>
  rw[hb]at hj
  simp only[cond_false]at hj
  obtain⟨y',Bz,fW⟩:=qe (w:=w) (φ:=φ) (φ':=fun c=>if c=b then none else φ c) (I:=I) (b:=b) (fun b' bF=>by simp[bF]) E j y hj
  obtain⟨v',hv,bN⟩:=hs.env j y' Bz
  refine⟨v',?_,AV.jc hI (fun _ h=>h) (fun c p hc=>?_) (fun c g1 n hc dQ=>?_) _ _ (fW v' bN)⟩
  rotate_left
  ·by_cases e1:c=b
   ·simp[e1]at hc
   ·simpa[aT,e1]using hc
  ·by_cases e1:c=b
   ·simp[e1]at hc
   ·exact fU.shaped (fun ho=>e1 (hs.st.real.inj c b g1 (by simpa[e1]using hc) ho)) dQ
  simp only[Act.put]
  rw[Array.getElem?_setIfInBounds_ne (by intro e;subst e;simp at hb)]
  exact hv
end
section
variable {C:Cx} {K:List PK} {E:Env} {H:aa}
theorem AQ.val {ds:List (Nat×Nat)} {i:Nat} {o:Oper} {os:List Oper} (x:AV) (ah:a6 C.n (o::os)=true) (hg:o.guard=none)
  (hex:∀φ I a w,a_ C φ I E H a w->∃u,(execOp a.eval o).run C.P w= .ok (.value u) w/\AV.den w φ I x u)
  (h:vq C K os (aQ o.dst i ds) (i+1) (aS o.dst x E) H):AQ C ds i (o::os) K E H:=by
 obtain⟨hd,b9⟩:=dE ah
 have bm:=AQ.go b9 h
 unfold AQ at bm⊢
 refine AO.step (o:=o) fun ops φ I a w aM _ hs Kn bB=>?_
 have hw:Region.wanted o (yielded ops a.tmps)=true:=by simp[Region.wanted,hg]
 rw[if_pos hw]
 obtain⟨u,ax,aW⟩:=hex φ I a w hs
 unfold Oper.wp
 rw[ax,Oper.upon_value]
 exact bB _ _ φ I _ _ bm (hs.put hs.st (bh.refl w φ I) hd aW)
end
theorem al.drop {P:Program} {f:FuncId} {args:List AV} {H:aa} {r:AV} {R:AV->aa->Prop} (he:enters P f=true) (hr:r.free=true) (NH:R r [])
  (
   h:∀(w:World) (φ:ak) (I:Nat->Prop) (vs:List Value),AV.ab w φ I args vs->Real w φ I H->VK P w I->
   Calls P f vs.toArray w fun e w'=>∃v,e= .returned v/\AV.den w' φ I r v/\Ext (cB φ) w w'):al P f args H R:=by
 refine⟨he,fun w φ I vs hd hR hV=>(h w φ I vs hd hR hV).mono fun e w' ⟨v,he,hv,hx⟩=>?_⟩
 refine⟨r,[],fun _=>none,I,v,NH,he,AV.nS _ _ hr hv,?_⟩
 exact⟨⟨fun b=>rfl,fun b o p hl=>(by simp[lk]at hl),fun b g hp=>(by cases hp),fun b b' g hp=>(by cases hp),fun g hg=>Nat.lt_of_lt_of_le (hR.bI g hg) hx.size⟩,hx,fun b g hg=>(by cases hg),fun g hg=> .inl hg,fun g hg=>hg,fun _ _ _ _ _ hl=>by simp[lk]at hl⟩
theorem MT {own:Nat->Prop} (w:World) (p:Addr) (n:Nat) (ho:own p.block):Ext own w (w.freeze p n):=by
 unfold World.freeze
 split
 ·exact Ext.refl own w
 ·refine⟨by simp,fun k hk hn=>?_,fun k c e fz hc=>?_,rfl,rfl,rfl⟩
  ·simp only[Array.getElem?_modify]
   rw[if_neg (by intro e;subst e;exact hn ho)]
  ·simp only[Array.getElem?_modify]
   by_cases hk:p.block=k
   ·subst hk
    rw[if_pos rfl,hc]
    simp only[Option.map_some]
    exact⟨c,_,rfl,rfl⟩
   ·rw[if_neg hk,hc]
    exact⟨c,fz,rfl,rfl⟩
theorem zM {own:Nat->Prop} (w:World):Ext own w w.drew:=⟨Nat.le_refl _,fun _ _ _=>rfl,fun _ c _ fz h=>⟨c,fz,h,rfl⟩,rfl,rfl,rfl⟩
end Go.AL
end
section
namespace Go.AL
open Go Go.ChangeShapes Go.WideShapes
structure TH {H:Type} (bu:DataW H->Nat) (qF:List (DataW H)->Nat):Prop where
 one:∀d,1<=bu d
 str:∀l,bu (.lit (.string l))=l.length+1
 ptr:∀d,bu d+1<=bu (.ptr d)
 Vz:∀e r,qF e+1<=bu (.slice e r)
 agg:∀l,qF l+1<=bu (.agg l)
 nil:qF []=0
 cons:∀d r,qF (d::r)=bu d+qF r
section
variable {H:Type} {bu:DataW H->Nat} {qF:List (DataW H)->Nat}
variable {enc:TypeId×Value->H} {P:Program} {w:World}
end
end Go.AL
end
section
namespace Go.AL
open Go
section
variable {C:Cx} {K:List PK} {E:Env} {H:aa}
def yZ (C:Cx) (K:List PK) (sk:List (Nat×AV)):List Oper->List (Nat×Nat)->Nat->Env->aa->Prop
 |[],ds,i,E,H=>AQ C ds i [] K E H
 |o::os,ds,i,E,H=>match lk sk i with
  |some x=>gd ds E o.guard=some false/\yZ C K sk os (aQ o.dst i ds) (i+1) (aS o.dst (.opt false x) E) H
  |none=>match gd ds E o.guard with
  |none=>AQ C ds i (o::os) K E H
  |some G=>match gf C.P E H o.op with
   |some (sc,v)=>(G=true->sc)/\yZ C K sk os (aQ o.dst i ds) (i+1) (aS o.dst (wrap o.guard G v) E) H
   |none=>match o.guard with
    |some _=>AQ C ds i (o::os) K E H
    |none=>match ml C.P C.B.nb C.ob E H o with
     |some (sc,v,H')=>sc/\yZ C K sk os (aQ o.dst i ds) (i+1) (aS o.dst v E) H'
     |none=>AQ C ds i (o::os) K E H
end
attribute [go_sem] yZ
inductive Tree where
 |node (R P es:List Nat) (ts:List Tree)
def kS (ops:List Oper) (i j:Nat):Bool:=match ops[i]? with
 |some o=>o.after.any fun e=>Region.binds .any e&&e.on==j
 |none=>false
def wx (ops:List Oper) (i:Nat) (S:List Nat):Bool:=match ops[i]? with
 |some o=>o.after.all fun e=>!Region.binds .any e||bC S e.on
 |none=>false
def l4 (o:Oper):Bool:=match o.op with
 | .select _ _=>false
 |_=>true
def mm:List Nat->Bool
 |[]=>true
 |i::r=>r.all (fun j=>decide (i<j))&&mm r
mutual
def si (ops:List Oper) (n:Nat) (prev cD:List Nat):Tree->Bool
 | .node R P es ts=>
  mm R&&mm P&&R.all (bC prev)&&P.all (fun i=>decide (i<n)&&!bC prev i&&!bC cD i)&&
  (prev.all fun i=>bC R i||(List.range n).any fun x=>decide (i<x)&&(bC cD x||(bC prev x&&!bC R x))&&kS ops x i)&&
  P.all (fun i=>wx ops i (prev++P++cD))&&
  ((List.range n).all fun i=>bC (prev++P) i||bC cD i||bC es i||(List.range n).any fun j=>kS ops i j&&!bC (prev++P) j&&!bC cD j)&&
  (!es.isEmpty||(List.range n).all fun i=>bC (prev++P) i||bC cD i)&&sj ops n (prev++P) cD es ts
def sj (ops:List Oper) (n:Nat) (prev cD:List Nat):List Nat->List Tree->Bool
 |[],[]=>true
 |x::es,t::ts=>decide (x<n)&&!bC prev x&&!bC cD x&&wx ops x (prev++cD)&&si ops n prev (x::cD) t&&sj ops n prev cD es ts
 |_,_=>false
end
mutual
def zH:Tree->List Nat
 | .node _ _ es ts=>es++E2 ts
def E2:List Tree->List Nat
 |[]=>[]
 |t::ts=>zH t++E2 ts
end
mutual
def uS (F:List Nat):Tree->Bool
 | .node _ P _ ts=>P.all (fun i=>!bC F i)&&yq F ts
def yq (F:List Nat):List Tree->Bool
 |[]=>true
 |t::ts=>uS F t&&yq F ts
end
theorem IW {F:List Nat}:∀{ts:List Tree} {t:Tree},yq F ts=true->t∈ts->uS F t=true
 |[],_,_,hm=>by cases hm
 |x::ts,t,h,hm=>by
  simp only[yq,Bool.and_eq_true]at h
  rcases List.mem_cons.1 hm with rfl|hm
  ·exact h.1
  ·exact IW h.2 hm
def wy (ops:List Oper) (n:Nat) (t:Tree):Bool:=wU ops n (zH t)&&(ops.take n).all l4&&si ops n [] [] t&&uS (zH t) t
theorem jW:∀(l:List Nat) (i:Nat),bC l i=true↔i∈l
 |[],i=>by simp[bC]
 |j::l,i=>by
  simp only[bC,List.mem_cons]
  cases hb:Nat.beq j i with
  |true=>have:=Nat.eq_of_beq_eq_true hb;simp[this]
  |false=>
   have aG:i≠j:=fun e=>by subst e;simp at hb
   have:=jW l i
   simp[aG,this]
def yE (d:Option Nat) (x:AV) (E:Env):Prop:=match d with
 |none=>True
 |some d=>match lk E d with
  |none=>True
  |some .top=>True
  |some y=>y=x
def o_ (P:Program) (E:Env) (H:aa) (op:Op) (G:Bool):Option (Prop×AV):=match gf P E H op with
 |some r=>some r
 |none=>match G with
  |false=>some (True,.top)
  |true=>none
def vR (C:Cx) (ops:List Oper) (H:aa):List Nat->List (Nat×Nat)->Env->Prop
 |[],_,_=>True
 |i::r,ds,E=>(match ops[i]? with
  |none=>False
  |some o=>match gd ds E o.guard with
   |none=>False
   |some G=>match o_ C.P E H o.op G with
    |none=>False
    |some (sc,v)=>(G=true->sc)/\yE o.dst (wrap o.guard G v) E)/\vR C ops H r ds E
def vP (C:Cx) (ops:List Oper) (H:aa) (k:List (Nat×Nat)->Env->Prop):List Nat->List (Nat×Nat)->Env->Prop
 |[],ds,E=>k ds E
 |i::r,ds,E=>match ops[i]? with
  |none=>False
  |some o=>match gd ds E o.guard with
   |none=>False
   |some G=>match o_ C.P E H o.op G with
    |none=>False
    |some (sc,v)=>(G=true->sc)/\vP C ops H k r (aQ o.dst i ds) (aS o.dst (wrap o.guard G v) E)
def Cx.nr (C:Cx):Cx:={C with R:=fun _ _=>False,X:=fun _ _=>False}
def nh (C:Cx) (K:List PK) (ops:List Oper):Exit->Act->World->Prop
 | .panic c,a,w=>∀a':Act,a'.defers=a.defers->a'.tmps.size=a.tmps.size->(∀t,(∀o∈ops,o.dst≠some t)->a'.tmps[t]?=a.tmps[t]?)->c8 C (K.map (PK.ki C.fn)) (.panic c) a' w
 |_,_,_=>False
def sx (C:Cx) (V:Env->aa->Prop) (a:Act) (w:World):Prop:=∃E1 H1 φ I,a_ C φ I E1 H1 a w/\V E1 H1
mutual
def vd (C:Cx) (K:List PK) (ops:List Oper) (n:Nat):Tree->List (Nat×Nat)->Env->aa->Prop
 | .node R P es ts,ds,E,H=>vR C ops H R ds E/\vP C ops H (fun ds E=>match es with
  |[]=>vq C K (ops.drop n) [] n E H
  |_::_=>kN C K ops n es ts ds E H) P ds E
def kN (C:Cx) (K:List PK) (ops:List Oper) (n:Nat):List Nat->List Tree->List (Nat×Nat)->Env->aa->Prop
 |x::es,t::ts,ds,E,H=>(match ops[x]? with
   |none=>False
   |some o=>AQ C.nr ds x [o] [.lp (sx C (vd C K ops n t (aQ o.dst x ds))),.bot (nh C K ops)] E H)/\kN C K ops n es ts ds E H
 |_,_,_,_,_=>True
end
theorem AQ.next {C:Cx} {K:List PK} {ops:List Oper} {n:Nat} {t:Tree} {ds gw:List (Nat×Nat)} {i:Nat} {E:Env} {H:aa} (h:vd C K ops n t gw E H):
  AQ C.nr ds i [] [.lp (sx C (vd C K ops n t gw)),.bot (nh C K ops)] E H:=by
 unfold AQ AO
 intro _ _ _ φ I a w hs
 exact⟨E,H,φ,I,⟨hs.bo,hs.bp,hs.env,hs.st⟩,h⟩
def fe (L:Array Bool) (i:Nat):Prop:=L.getD i true=false
def jY (L:Array Bool) (i:Nat):Prop:=L.getD i false=true
structure mg (ops:List Oper) (S:List Nat) (L:Array Bool) (a g:Act):Prop where
 bo:a.defers=g.defers
 bp:a.tmps.size=g.tmps.size
 at':∀t,(∀i∈S,fe L i->(ops[i]?).bind (·.dst)≠some t)->a.tmps[t]?=g.tmps[t]?
def o5 (P:Program) (ops:List Oper) (g:Act) (w:World) (o:Oper) (u:Value):Prop:=
 if Region.wanted o (yielded ops.toArray g.tmps)=true then(execOp g.eval o).run P w= .ok (.value u) w else u=undef
def jF (P:Program) (ops:List Oper) (g:Act) (w:World) (i:Nat):Prop:=
 ∀o,ops[i]?=some o->∃u,o5 P ops g w o u/\∀d,o.dst=some d->g.tmps[d]?=some u
theorem rN {ops:List Oper} {o:Oper} (hs:l4 o=true) {a g:Act} (h:∀t∈looks ops o,a.tmps[t]?=g.tmps[t]?):
  execOp a.eval o=execOp g.eval o/\Region.wanted o (yielded ops.toArray a.tmps)=Region.wanted o (yielded ops.toArray g.tmps):=by
 constructor
 ·refine execOp_congr o (fun cs b hc=>by simp[l4,hc]at hs) fun x hx=>?_
  cases x with
  |tmp t=>
   have:=h t (by simp only[looks];exact List.mem_append.2 (.inl (Ca _ (by simpa using hx))))
   simp only[Act.eval,Array.getD_eq_getD_getElem?,this]
  |_=>rfl
 ·unfold Region.wanted
  cases hg:o.guard with
  |none=>rfl
  |some p=>
   obtain⟨j,want⟩:=p
   simp only
   have:yielded ops.toArray a.tmps j=yielded ops.toArray g.tmps j:=by
    unfold yielded
    cases hd:(ops.toArray[j]?).bind (·.dst)with
    |none=>rfl
    |some d=>
     have dF:(ops[j]?).bind (·.dst)=some d:=by simpa using hd
     have:=h d (by simp only[looks,hg,dF];simp)
     simp only[Option.bind_some,this]
   rw[this]
theorem IY {C:Cx} {φ:ak} {I:Nat->Prop} {E:Env} {H:aa} {g:Act} {w:World} (hs:a_ C φ I E H g w) {ops:List Oper} {ds:List (Nat×Nat)} (aM:∀j d,lk ds j=some d->(ops[j]?).bind (·.dst)=some d)
  {o:Oper} {G:Bool} {sc:Prop} {v:AV} (hG:gd ds E o.guard=some G) (hv:o_ C.P E H o.op G=some (sc,v)) (au:G=true->sc):∃u,o5 C.P ops g w o u/\AV.den w φ I (wrap o.guard G v) u:=by
 have hw:=ta (ops:=ops.toArray) hs.env (fun j d hj=>by simpa using aM j d hj) hG
 unfold o5
 rw[hw]
 cases G with
 |true=>
  have mR:gf C.P E H o.op=some (sc,v):=by
   unfold o_ at hv
   cases hq:gf C.P E H o.op with
   |some r=>rw[hq]at hv;exact hv
   |none=>rw[hq]at hv;cases hv
  obtain⟨u,hu,aW⟩:=vY hs.env hs.st.real mR (au rfl)
  exact⟨u,by rw[if_pos rfl];exact hu,Dw aW⟩
 |false=>
  refine⟨undef,by simp,?_⟩
  cases hg:o.guard with
  |none=>rw[hg]at hG;simp[gd]at hG
  |some p=>exact Dx
theorem Act.l9 {a:Act} {d:Option Tmp} {u:Value} {t:Nat} (h:d≠some t):(a.put d u).tmps[t]?=a.tmps[t]?:=by
 cases d with
 |none=>rfl
 |some d=>simp only[Act.put];rw[Array.getElem?_setIfInBounds_ne (fun e=>h (by rw[e]))]
theorem Act.oM {a:Act} {d:Option Tmp} {u:Value}:(a.put d u).tmps.size=a.tmps.size:=by cases d<;>simp[Act.put]
theorem Act.uT {a:Act} {d:Option Tmp} {u:Value}:(a.put d u).defers=a.defers:=by cases d<;>rfl
theorem jF.put {P:Program} {ops:List Oper} {n:Nat} {F:List Nat} (ah:mh ops n F) (gM:∀i o,i<n->ops[i]?=some o->l4 o=true) {g:Act} {w:World} {i j:Nat} {o:Oper} {u:Value} (hi:i<n) (hj:j<n) (aG:i≠j)
  (ho:ops[j]?=some o) (O5:∀oi d,ops[i]?=some oi->o.dst=some d->d∉looks ops oi) (h:jF P ops g w i):jF P ops (g.put o.dst u) w i:=fun oi gJ=>by
 obtain⟨v,hv,hd⟩:=h oi gJ
 have hl:∀t∈looks ops oi,(g.put o.dst u).tmps[t]?=g.tmps[t]?:=fun t ht=>Act.l9 fun e=>O5 oi t gJ e ht
 obtain⟨U,h2⟩:=rN (ops:=ops) (gM i oi hi gJ) hl
 refine⟨v,by unfold o5 at hv⊢;rw[U,h2];exact hv,fun d ez=>?_⟩
 rw[Act.l9 fun e=>?_]
 ·exact hd d ez
 ·exact aG (ah.EX j i d hj hi (by rw[ho];exact e) (by rw[gJ];exact ez))
theorem df.same {w:World} {φ:ak} {I:Nat->Prop} {E:Env} {g:Act} {d:Option Nat} {x:AV} {u:Value} (hp:df w φ I (aS d x E) (g.put d u)) (hE:df w φ I E g) (hs:yE d x E) (ag:∀t,d=some t->t<g.tmps.size):df w φ I E (g.put d u):=fun t y hy=>by
 by_cases hd:d=some t
 ·subst hd
  simp only[yE,hy]at hs
  obtain⟨v,hv,aW⟩:=hp t x (by simp[aS,lk])
  refine⟨v,hv,?_⟩
  split at hs
  ·rename_i h;cases h
  ·rename_i h;cases h;simp only[AV.den]
  ·rename_i z _ h;cases h;rw[hs];exact aW
 ·obtain⟨v,hv,aW⟩:=hE t y hy
  exact⟨v,by rw[Act.l9 hd];exact hv,aW⟩
theorem Jk {C:Cx} {ops:List Oper} {n:Nat} {F:List Nat} (ah:mh ops n F) (fG:a6 C.n ops=true) (gM:∀i o,i<n->ops[i]?=some o->l4 o=true) {H:aa} {w:World} {φ:ak} {I:Nat->Prop} {ds:List (Nat×Nat)} {E:Env} {S:List Nat} {L:Array Bool} {a:Act}
  (
   aM:∀j d,lk ds j=some d->(ops[j]?).bind (·.dst)=some d) (Af:∀i∈S,bC F i=false):∀(R D:List Nat) (g:Act),(∀i∈R,i<n/\i∈S)->(∀i∈D,i<n)->(∀i∈D,∀j∈R,i<j)->mm R=true->vR C ops H R ds E->a_ C φ I E H g w->mg ops S L a g->
   (∀i∈D,fe L i->jF C.P ops g w i)->∃g',a_ C φ I E H g' w/\mg ops S L a g'/\∀i,(i∈D\/i∈R)->fe L i->jF C.P ops g' w i
 |[],D,g,_,_,_,_,_,hs,ha,hp=>⟨g,hs,ha,fun i hi=>hp i (hi.resolve_right (by simp))⟩
 |j::R,D,g,hR,hD,z_,n6,hv,hs,ha,hp=>by
  obtain⟨eC,AH⟩:=hR j (by simp)
  simp only[mm,Bool.and_eq_true,List.all_eq_true,decide_eq_true_eq]at n6
  simp only[vR]at hv
  obtain⟨fI,iI⟩:=hv
  have fin:∀g',a_ C φ I E H g' w->mg ops S L a g'->(∀i∈D++[j],fe L i->jF C.P ops g' w i)->∃g',a_ C φ I E H g' w/\mg ops S L a g'/\∀i,(i∈D\/i∈j::R)->fe L i->jF C.P ops g' w i:=fun g' dQ Ai b6=>by
   obtain⟨g2,U,h2,h3⟩:=Jk ah fG gM aM Af R (D++[j]) g' (fun i hi=>hR i (by simp[hi])) (fun i hi=>by
    rcases List.mem_append.1 hi with hi|hi
    ·exact hD i hi
    ·simp at hi;subst hi;exact eC) (fun i hi k hk=>by
    rcases List.mem_append.1 hi with hi|hi
    ·exact z_ i hi k (by simp[hk])
    ·simp at hi;subst hi;exact n6.1 k hk) n6.2 iI dQ Ai b6
   refine⟨g2,U,h2,fun i hi=>h3 i ?_⟩
   rcases hi with hi|hi
   ·exact .inl (by simp[hi])
   ·rcases List.mem_cons.1 hi with rfl|hi
    ·exact .inl (by simp)
    ·exact .inr hi
  split at fI
  ·exact fI.elim
  ·rename_i o ho
   split at fI
   ·exact fI.elim
   ·rename_i G hG
    split at fI
    ·exact fI.elim
    ·rename_i sc v q5
     obtain⟨au,Bj⟩:=fI
     by_cases hu:fe L j
     ·obtain⟨u,tP,aW⟩:=IY hs aM hG q5 au
      have kz:=hs.put (d:=o.dst) (v:=wrap o.guard G v) (u:=u) hs.st (bh.refl w φ I) (fun x hx=>pv fG (List.mem_of_getElem? ho) x hx) aW
      have Bl:∀t∈looks ops o,(g.put o.dst u).tmps[t]?=g.tmps[t]?:=fun t ht=>Act.l9 fun e=>by
       have:=(ah.oH j o eC ho t ht j t eC (by rw[ho];exact e) rfl (Af j AH)).1
       omega
      refine fin (g.put o.dst u) ⟨kz.bo,kz.bp,df.same kz.env hs.env Bj (fun t ht=>by rw[hs.bp];exact pv fG (List.mem_of_getElem? ho) t ht),hs.st⟩
       ⟨by rw[Act.uT];exact ha.bo,by rw[Act.oM];exact ha.bp,fun t ht=>?_⟩ (fun i hi rB=>?_)
      ·rw[Act.l9 fun e=>ht j AH hu (by rw[ho];exact e)]
       exact ha.at' t ht
      ·rcases List.mem_append.1 hi with hi|hi
       ·refine jF.put ah gM (hD i hi) eC (by have:=z_ i hi j (by simp);omega) ho (fun oi d gJ hd pP=>?_) (hp i hi rB)
        have:=(ah.oH i oi (hD i hi) gJ d pP j d eC (by rw[ho];exact hd) rfl (Af j AH)).1
        have:=z_ i hi j (by simp)
        omega
       ·simp at hi
        subst hi
        intro o' lP
        rw[ho]at lP
        cases lP
        obtain⟨U,h2⟩:=rN (ops:=ops) (gM i o eC ho) Bl
        refine⟨u,by unfold o5 at tP⊢;rw[U,h2];exact tP,fun d hd=>?_⟩
        have ag:d<g.tmps.size:=by rw[hs.bp];exact pv fG (List.mem_of_getElem? ho) d hd
        rw[hd];simp[Act.put,ag]
     ·refine fin g hs ha (fun i hi rB=>?_)
      rcases List.mem_append.1 hi with hi|hi
      ·exact hp i hi rB
      ·simp at hi;subst hi;exact absurd rB hu
def Sep (ops:List Oper) (i j:Nat):Prop:=∀oi oj d,ops[i]?=some oi->ops[j]?=some oj->oj.dst=some d->d∉looks ops oi
theorem E0 {ops:List Oper} {ds:List (Nat×Nat)} {i:Nat} {o:Oper} (ho:ops[i]?=some o) (aM:∀j d,lk ds j=some d->(ops[j]?).bind (·.dst)=some d):∀j d,lk (aQ o.dst i ds) j=some d->(ops[j]?).bind (·.dst)=some d:=fun j d hj=>by
 unfold aQ at hj
 split at hj
 ·rename_i d' dF
  simp only[lk]at hj
  cases hb:Nat.beq i j with
  |true=>
   rw[hb]at hj
   have:=Nat.eq_of_beq_eq_true hb
   subst this
   simp only[cond_true,Option.some.injEq]at hj
   subst hj
   rw[ho];exact dF
  |false=>rw[hb]at hj;exact aM j d hj
 ·exact aM j d hj
theorem Jj {C:Cx} {ops:List Oper} {n:Nat} {F:List Nat} (ah:mh ops n F) (fG:a6 C.n ops=true) (gM:∀i o,i<n->ops[i]?=some o->l4 o=true) {H:aa} {w:World} {φ:ak} {I:Nat->Prop} {L:Array Bool} {a:Act} {k:List (Nat×Nat)->Env->Prop}:
  ∀(P D S:List Nat) (g:Act) (ds:List (Nat×Nat)) (E:Env),(∀j d,lk ds j=some d->(ops[j]?).bind (·.dst)=some d)->(∀i∈P,i<n/\fe L i/\bC F i=false)->(∀i∈D,i<n)->(∀i∈D,∀j∈P,i≠j/\Sep ops i j)->mm P=true->
   vP C ops H k P ds E->a_ C φ I E H g w->mg ops S L a g->(∀i∈D,fe L i->jF C.P ops g w i)->
   ∃gw E' g',k gw E'/\(∀j d,lk gw j=some d->(ops[j]?).bind (·.dst)=some d)/\a_ C φ I E' H g' w/\mg ops (S++P) L a g'/\∀i,(i∈D\/i∈P)->fe L i->jF C.P ops g' w i
 |[],D,S,g,ds,E,aM,_,_,_,_,hv,hs,ha,hp=>⟨ds,E,g,hv,aM,hs,by simpa using ha,fun i hi=>hp i (hi.resolve_right (by simp))⟩
 |j::P,D,S,g,ds,E,aM,hP,hD,z8,n6,hv,hs,ha,hp=>by
  obtain⟨eC,mJ,Ou⟩:=hP j (by simp)
  simp only[mm,Bool.and_eq_true,List.all_eq_true,decide_eq_true_eq]at n6
  simp only[vP]at hv
  split at hv
  ·exact hv.elim
  ·rename_i o ho
   split at hv
   ·exact hv.elim
   ·rename_i G hG
    split at hv
    ·exact hv.elim
    ·rename_i sc v q5
     obtain⟨au,pW⟩:=hv
     obtain⟨u,tP,aW⟩:=IY hs aM hG q5 au
     have kz:=hs.put (d:=o.dst) (v:=wrap o.guard G v) (u:=u) hs.st (bh.refl w φ I) (fun x hx=>pv fG (List.mem_of_getElem? ho) x hx) aW
     have Bl:∀t∈looks ops o,(g.put o.dst u).tmps[t]?=g.tmps[t]?:=fun t ht=>Act.l9 fun e=>by
      have:=(ah.oH j o eC ho t ht j t eC (by rw[ho];exact e) rfl Ou).1
      omega
     have O4:∀i∈D++[j],i<n:=fun i hi=>by
      rcases List.mem_append.1 hi with hi|hi
      ·exact hD i hi
      ·simp at hi;subst hi;exact eC
     obtain⟨gw,E',g',U,h2,h3,h4,h5⟩:=Jj (a:=a) ah fG gM P (D++[j]) (S++[j]) (g.put o.dst u) _ _ (E0 ho aM) (fun i hi=>hP i (by simp[hi])) O4 (fun i hi x hx=>by
       rcases List.mem_append.1 hi with hi|hi
       ·exact z8 i hi x (by simp[hx])
       ·simp at hi;subst hi
        refine⟨by have:=n6.1 x hx;omega,fun oi ox d gJ OS hd pP=>?_⟩
        have U:=(ah.oH i oi eC gJ d pP x d (hP x (by simp[hx])).1 (by rw[OS];exact hd) rfl (hP x (by simp[hx])).2.2).1
        have:=n6.1 x hx
        omega) n6.2 pW kz
      ⟨by rw[Act.uT];exact ha.bo,by rw[Act.oM];exact ha.bp,fun t ht=>by
       rw[Act.l9 fun e=>ht j (by simp) mJ (by rw[ho];exact e)]
       exact ha.at' t fun i hi=>ht i (by simp[hi])⟩
      (
       fun i hi rB=>by
       rcases List.mem_append.1 hi with hi|hi
       ·exact jF.put ah gM (hD i hi) eC (z8 i hi j (by simp)).1 ho (fun oi d gJ hd pP=>(z8 i hi j (by simp)).2 oi o d gJ ho hd pP) (hp i hi rB)
       ·simp at hi
        subst hi
        intro o' lP
        rw[ho]at lP
        cases lP
        obtain⟨U,h2⟩:=rN (ops:=ops) (gM i o eC ho) Bl
        refine⟨u,by unfold o5 at tP⊢;rw[U,h2];exact tP,fun d hd=>?_⟩
        have ag:d<g.tmps.size:=by rw[hs.bp];exact pv fG (List.mem_of_getElem? ho) d hd
        rw[hd];simp[Act.put,ag])
     refine⟨gw,E',g',U,h2,h3,by simpa using h4,fun i hi=>h5 i ?_⟩
     rcases hi with hi|hi
     ·exact .inl (by simp[hi])
     ·rcases List.mem_cons.1 hi with rfl|hi
      ·exact .inl (by simp)
      ·exact .inr hi
theorem Rf {C:Cx} {ops:List Oper} {o:Oper} (hs:l4 o=true) {a g:Act} {w:World} (hl:∀t∈looks ops o,a.tmps[t]?=g.tmps[t]?) (lL:a.defers=g.defers) {J J':Act->World->Prop} {Q Q':Exit->Act->World->Prop}
  (hq:∀c w,Q (.panic c) g w->Q' (.panic c) a w) (ho:¬LetsOut Q) (hn:∀dd v w',J (({g with defers:=dd}:Act).put o.dst v) w'->J' (({a with defers:=dd}:Act).put o.dst v) w') (h:o.wp C.P g w J Q):o.wp C.P a w J' Q':=by
 have tK:∀v w',J (g.put o.dst v) w'->J' (a.put o.dst v) w':=fun v w' hj=>by
  have:=hn g.defers v w' hj
  rw[<-lL]at this
  exact this
 unfold Oper.wp at h⊢
 rw[(rN hs hl).1]
 generalize(execOp g.eval o).run C.P w=q at*
 cases q with
 |ok x w'=>
  cases x<;>simp only[Oper.upon]at h⊢<;>first
   |exact tK _ _ h
   |(rw[lL];exact hn _ _ _ h)
   |exact h.elim
   |exact h.mono fun v nC he=>tK _ _ he
   |(
     refine h.mono fun e nC he=>?_
     cases e with
     |returned v=>exact tK _ _ he
     |panicked c=>exact hq _ _ he
     |outgrown=>exact(ho he).elim)
 |halt x w'=>cases x<;>simp only[Oper.upon]at h⊢<;>first|exact hq _ _ h|exact h.elim
theorem Rg {C:Cx} {ops:List Oper} {o:Oper} (hs:l4 o=true) {a g:Act} {w:World} (hl:∀t∈looks ops o,a.tmps[t]?=g.tmps[t]?) (lL:a.defers=g.defers) {J J':Act->World->Prop} {Q Q':Exit->Act->World->Prop}
  (hq:∀c w,Q (.panic c) g w->Q' (.panic c) a w) (ho:¬LetsOut Q) (hn:∀dd v w',J (({g with defers:=dd}:Act).put o.dst v) w'->J' (({a with defers:=dd}:Act).put o.dst v) w') (h:l5 C.P o g w J Q):l5 C.P o a w J' Q':=by
 have tK:∀v w',J (g.put o.dst v) w'->J' (a.put o.dst v) w':=fun v w' hj=>by
  have:=hn g.defers v w' hj
  rw[<-lL]at this
  exact this
 rcases h with h|⟨l,f,tmps,as,bd,hr,h⟩
 ·exact .inl (Rf hs hl lL hq ho hn h)
 ·refine .inr ⟨l,f,tmps,as,bd,by rw[(rN hs hl).1];exact hr,h.mono fun e nC he=>?_⟩
  cases e with
  |returned v=>exact tK _ _ he
  |panicked c=>exact hq _ _ he
  |outgrown=>exact(ho he).elim
theorem rO {L:Array Bool} {i:Nat} (h:jY L i) (h':fe L i):False:=by
 unfold jY at h
 unfold fe at h'
 rcases Nat.lt_or_ge i L.size with hl|hl
 ·simp[hl]at h h';rw[h]at h';cases h'
 ·simp[Array.getElem?_eq_none hl]at h
theorem S5 {L:Array Bool} {i j:Nat} (h:fe (L.setIfInBounds i true) j):fe L j:=by
 unfold fe at h⊢
 by_cases ia:i=j
 ·subst ia
  rcases Nat.lt_or_ge i L.size with hl|hl
  ·simp[hl]at h
  ·simp[Array.getElem?_eq_none hl]at h
 ·rwa [getD_set_ne true ia]at h
theorem yV {L:Array Bool} {i j:Nat} (ia:i≠j) (h:fe L j):fe (L.setIfInBounds i true) j:=by
 unfold fe at h⊢
 rwa [getD_set_ne true ia]
theorem HL {L:Array Bool} {i j:Nat} (h:jY L j):jY (L.setIfInBounds i true) j:=getD_set_true h
theorem sO {ops:List Oper} {i j:Nat}:kS ops i j=true↔∃o,ops[i]?=some o/\∃e∈o.after,Region.binds .any e=true/\e.on=j:=by
 unfold kS
 cases ho:ops[i]? with
 |none=>simp
 |some o=>
  constructor
  ·intro h
   obtain⟨e,he,hb⟩:=Array.any_eq_true'.1 h
   simp only[Bool.and_eq_true,beq_iff_eq]at hb
   exact⟨o,rfl,e,he,hb⟩
  ·rintro⟨o',lP,e,he,hb⟩
   cases lP
   exact Array.any_eq_true'.2 ⟨e,he,by simpa using hb⟩
theorem ES {ops:List Oper} {i:Nat} {S:List Nat} (h:wx ops i S=true) {j:Nat} (hb:kS ops i j=true):j∈S:=by
 obtain⟨o,ho,e,he,eL,rfl⟩:=sO.1 hb
 unfold wx at h
 rw[ho]at h
 have:=Array.all_eq_true'.1 h e he
 rw[eL]at this
 simpa[jW]using this
theorem SO {ops:List Oper} {n:Nat} {prev cD R P es:List Nat} {ts:List Tree} (h:si ops n prev cD (.node R P es ts)=true):
  mm R=true/\mm P=true/\(∀i∈R,i∈prev)/\(∀i∈P,i<n/\i∉prev/\i∉cD)/\
  (∀i∈prev,i∉R->∃x,i<x/\x<n/\(x∈cD\/(x∈prev/\x∉R))/\kS ops x i=true)/\
  (∀i∈P,∀j,kS ops i j=true->j∈prev++P++cD)/\
  (∀i,i<n->i∈prev++P\/i∈cD\/i∈es\/∃j,j<n/\kS ops i j=true/\j∉prev++P/\j∉cD)/\
  (es=[]->∀i,i<n->i∈prev++P\/i∈cD)/\sj ops n (prev++P) cD es ts=true:=by
 have bG:∀(l:List Nat) (i:Nat),(!bC l i)=true->i∉l:=fun l i h hm=>by rw[(jW _ _).2 hm]at h;cases h
 simp only[si,Bool.and_eq_true]at h
 obtain⟨⟨⟨⟨⟨⟨⟨⟨U,h2⟩,h3⟩,h4⟩,h5⟩,h6⟩,h7⟩,h8⟩,h9⟩:=h
 refine⟨U,h2,fun i hi=>(jW _ _).1 (List.all_eq_true.1 h3 i hi),fun i hi=>?_,fun i hi hR=>?_,fun i hi j hj=>ES (List.all_eq_true.1 h6 i hi) hj,fun i hi=>?_,fun he i hi=>?_,h9⟩
 ·have:=List.all_eq_true.1 h4 i hi
  simp only[Bool.and_eq_true,decide_eq_true_eq]at this
  exact⟨this.1.1,bG _ _ this.1.2,bG _ _ this.2⟩
 ·have:=List.all_eq_true.1 h5 i hi
  simp only[Bool.or_eq_true,List.any_eq_true,List.mem_range,Bool.and_eq_true,decide_eq_true_eq]at this
  rcases this with h|⟨x,hx,⟨Gb,OR⟩,hb⟩
  ·exact absurd ((jW _ _).1 h) hR
  ·refine⟨x,Gb,hx,?_,hb⟩
   rcases OR with h|h
   ·exact .inl ((jW _ _).1 h)
   ·exact .inr ⟨(jW _ _).1 h.1,bG _ _ h.2⟩
 ·have:=List.all_eq_true.1 h7 i (List.mem_range.2 hi)
  simp only[Bool.or_eq_true,List.any_eq_true,List.mem_range,Bool.and_eq_true]at this
  rcases this with((h|h)|h)|⟨j,hj,⟨hb,U⟩,h2⟩
  ·exact .inl ((jW _ _).1 h)
  ·exact .inr (.inl ((jW _ _).1 h))
  ·exact .inr (.inr (.inl ((jW _ _).1 h)))
  ·exact .inr (.inr (.inr ⟨j,hj,hb,bG _ _ U,bG _ _ h2⟩))
 ·subst he
  simp only[List.isEmpty_nil,Bool.not_true,Bool.false_or,List.all_eq_true,List.mem_range,Bool.or_eq_true]at h8
  exact(h8 i hi).imp (jW _ _).1 (jW _ _).1
theorem Dc {ops:List Oper} {n:Nat} {prev cD:List Nat} {C:Cx} {K:List PK} {ds:List (Nat×Nat)} {E:Env} {H:aa}:∀(es:List Nat) (ts:List Tree),sj ops n prev cD es ts=true->kN C K ops n es ts ds E H->∀x∈es,∃t∈ts,
  x<n/\x∉prev/\x∉cD/\(∀j,kS ops x j=true->j∈prev++cD)/\si ops n prev (x::cD) t=true/\
   match ops[x]? with
   |none=>False
   |some o=>AQ C.nr ds x [o] [.lp (sx C (vd C K ops n t (aQ o.dst x ds))),.bot (nh C K ops)] E H
 |[],_,_,_,x,hx=>by simp at hx
 |y::es,[],h,_,x,hx=>by simp[sj]at h
 |y::es,t::ts,h,hv,x,hx=>by
  have bG:∀(l:List Nat) (i:Nat),(!bC l i)=true->i∉l:=fun l i h hm=>by rw[(jW _ _).2 hm]at h;cases h
  simp only[sj,Bool.and_eq_true,decide_eq_true_eq]at h
  obtain⟨⟨⟨⟨⟨U,h2⟩,h3⟩,h4⟩,h5⟩,h6⟩:=h
  simp only[kN]at hv
  rcases List.mem_cons.1 hx with rfl|hx
  ·exact⟨t,by simp,U,bG _ _ h2,bG _ _ h3,fun j hj=>ES h4 hj,h5,hv.1⟩
  ·obtain⟨t',oc,r⟩:=Dc es ts h6 hv.2 x hx
   exact⟨t',by simp[oc],r⟩
theorem Nq {L:Array Bool} {i:Nat} (h:L.getD i true=false):jY (L.setIfInBounds i true) i:=by
 unfold jY
 rcases Nat.lt_or_ge i L.size with hl|hl
 ·simp[hl]
 ·simp[Array.getElem?_eq_none hl]at h
theorem IP {C:Cx} {K:List PK} {ops:List Oper} {n:Nat} {F:List Nat} (ah:mh ops n F) (fG:a6 C.n ops=true) (gM:∀i o,i<n->ops[i]?=some o->l4 o=true):
  ∀(t:Tree) (prev cD:List Nat) (ds:List (Nat×Nat)) (E:Env) (H:aa),si ops n prev cD t=true->uS F t=true->(∀i∈prev,bC F i=false)->(∀j d,lk ds j=some d->(ops[j]?).bind (·.dst)=some d)->vd C K ops n t ds E H->
  (∀i∈prev,i<n)->(∀i∈cD,i<n)->(∀i,(i∈prev\/i∈cD)->∀j,kS ops i j=true->j∈prev\/j∈cD)->
  ∀(L:Array Bool) (a:Act) (w:World),HeadInv .any ops.toArray n L->(∀i∈cD,jY L i)->(∀i,i<n->i∉prev->i∉cD->fe L i)->(∃g φ I,a_ C φ I E H g w/\mg ops prev L a g)->
   mc C.P .any ops.toArray (c8 C (K.map (PK.ki C.fn))) (eJ L n+(ops.length-n)) L a w
 | .node R P es ts,prev,cD,ds,E,H,hB,Gv,Gt,aM,hv,xf,Od,ca,L,a,w,inv,hle,n9,⟨g,φ,I,hs,eK⟩=>by
  obtain⟨hR,hP,FP,pF,Oi,NG,Of,rb,FK⟩:=SO hB
  simp only[vd]at hv
  obtain⟨Pf,Pe⟩:=hv
  simp only[uS,Bool.and_eq_true,List.all_eq_true,Bool.not_eq_true']at Gv
  obtain⟨A8,OT⟩:=Gv
  have Gu:∀i∈prev++P,bC F i=false:=fun i hi=>(List.mem_append.1 hi).elim (Gt i) (A8 i)
  have OB:∀(d i:Nat),n-i=d->i∈prev->i∉R->jY L i:=by
   intro d
   induction d using Nat.strongRecOn with
   |_ d ih=>
    intro i hd hi w4
    obtain⟨x,Gb,uj,hx,hb⟩:=Oi i hi w4
    have rk:jY L x:=by
     rcases hx with hx|⟨Pr,Ps⟩
     ·exact hle x hx
     ·exact ih (n-x) (by omega) x rfl Pr Ps
    obtain⟨o,ho,ed,pJ,gA,rfl⟩:=sO.1 hb
    exact inv.closed x o (by simpa using ho) rk ed pJ gA
  obtain⟨g1,gL,NP,eG⟩:=Jk ah fG gM aM (S:=prev) (L:=L) (a:=a) Gt R [] g (fun i hi=>⟨xf i (FP i hi),FP i hi⟩) (fun i hi=>by simp at hi) (fun i hi=>by simp at hi) hR Pf hs eK (fun i hi=>by simp at hi)
  have lR:∀i∈prev,fe L i->jF C.P ops g1 w i:=fun i hi hu=>by
   by_cases w4:i∈R
   ·exact eG i (.inr w4) hu
   ·exact(rO (OB _ i rfl hi w4) hu).elim
  have wK:∀i∈P,i<n/\fe L i:=fun i hi=>⟨(pF i hi).1,n9 i (pF i hi).1 (pF i hi).2.1 (pF i hi).2.2⟩
  obtain⟨gw,E',g',hk,ra,ig,NQ,dP⟩:=Jj (a:=a) ah fG gM P prev prev g1 ds E aM (fun i hi=>⟨(wK i hi).1,(wK i hi).2,A8 i hi⟩) xf (fun i hi j hj=>⟨fun e=>(pF j hj).2.1 (e▸hi),fun oi oj d gJ ON hd pP=>by
    obtain⟨_,ed,pJ,gA,tL⟩:=ah.oH i oi (xf i hi) gJ d pP j d (wK j hj).1 (by rw[ON];exact hd) rfl (A8 j hj)
    rcases ca i (.inl hi) j (sO.2 ⟨oi,gJ,ed,pJ,gA,tL⟩)with h|h
    ·exact(pF j hj).2.1 h
    ·exact(pF j hj).2.2 h⟩) hP Pe gL NP lR
  have Ag:∀i∈prev++P,i<n:=fun i hi=>by
   rcases List.mem_append.1 hi with hi|hi
   ·exact xf i hi
   ·exact(wK i hi).1
  have inner:∀(c:Nat) (L:Array Bool) (a:Act),eJ L n=c->HeadInv .any ops.toArray n L->(∀i∈cD,jY L i)->(∀i,i<n->i∉prev++P->i∉cD->fe L i)->mg ops (prev++P) L a g'->
    (∀i∈prev++P,fe L i->jF C.P ops g' w i)->mc C.P .any ops.toArray (c8 C (K.map (PK.ki C.fn))) (c+(ops.length-n)) L a w:=by
   intro c
   induction c with
   |zero=>
    intro L a hc inv hle n9 eK hp
    have gz:=wg L n hc
    have aO:L.size=ops.length:=by simpa using inv.size
    have Gj:∀i,i<n->jY L i:=fun i hi=>by
     have U:=gz i hi
     have ag:i<L.size:=by rw[aO];have:=ah.le;omega
     unfold jY
     simp[ag]at U⊢;exact U
    cases es with
    |cons x cX=>
     simp only at hk
     obtain⟨t',_,uj,By,p9,_⟩:=Dc _ _ FK hk x (by simp)
     exact(rO (Gj x uj) (n9 x uj By p9)).elim
    |nil=>
     simp only at hk
     have Ao:L=canon n ops.length:=by
      apply Array.ext
      ·simp[canon,aO]
      ·intro i U h2
       simp only[canon,List.getElem_toArray,List.getElem_map,List.getElem_range]
       by_cases hi:i<n
       ·have:=gz i hi
        simp[U]at this
        simp[hi,this]
       ·have:=inv.tail i (by omega) (by simpa using(by omega:i<ops.length))
        simp[U]at this
        simp[hi,this]
     have NO:a=g':=by
      have ht:a.tmps=g'.tmps:=by
       apply Array.ext_getElem?
       intro t
       exact eK.at' t fun i hi hu=>(rO (Gj i (Ag i hi)) hu).elim
      have hd:=eK.bo
      cases a;cases g'
      simp only at ht hd
      subst ht;subst hd;rfl
     subst NO
     rw[Nat.zero_add]
     have tW:=ah.seq
     rw[<-Ao]at tW
     have Ax:a6 C.n (ops.drop n)=true:=by
      rw[a6,List.all_eq_true]
      exact fun o ho=>List.all_eq_true.1 fG o (List.mem_of_mem_drop ho)
     have eZ:=so (C:=C) (K:=K.map (PK.ki C.fn)) (ops.drop n) [] n E' H Ax (sq C K _ _ _ _ _ hk)
     have U:=Dv (P:=C.P) (md:= .any) (ops:=ops.toArray) (Q:=c8 C (K.map (PK.ki C.fn))) (ops.drop n) n L a w (fun j=>by simp[List.getElem?_drop]) (by simpa using tW)
      (eZ ops.toArray (fun j d hj=>by simp[lk]at hj) (fun j o hj=>by rw[List.getElem?_drop]at hj;simp[hj]) φ I a w ig)
     simpa using U
   |succ c ih=>
    intro L a hc inv hle n9 eK hp
    obtain⟨i0,tz,ub,AW⟩:=zx L n (by omega)
    have aO:L.size=ops.length:=by simpa using inv.size
    have Vl:=ah.le
    have tR:i0∈Region.ready .any ops.toArray L:=by
     rw[mem_ready]
     have ag:i0<ops.length:=by omega
     refine⟨ub,ops[i0],by simp[ag],fun e he hb=>?_⟩
     have jk:=ah.back i0 ops[i0] tz (List.getElem?_eq_getElem ag) e he hb
     have U:=AW e.on jk
     have AM:e.on<L.size:=by omega
     simp[AM]at U⊢;exact U
    rw[show c+1+(ops.length-n)=(c+(ops.length-n))+1 by omega]
    refine⟨fun h=>(by rw[h]at tR;cases tR),fun i hi=>?_⟩
    have bH:=I2 ah inv tz ub i hi
    obtain⟨og,o,ho,gz⟩:=mem_ready.1 hi
    have eU:ops[i]?=some o:=by simpa using ho
    have xL:=inv.set hi bH
    have mG:eJ (L.setIfInBounds i true) n=c:=by have:=zy L i og n bH;omega
    have F1:∀j,kS ops i j=true->jY L j:=fun j hb=>by
     obtain⟨o',lP,ed,pJ,gA,rfl⟩:=sO.1 hb
     rw[eU]at lP
     cases lP
     exact gz ed pJ gA
    have tI:∀t∈looks ops o,a.tmps[t]?=g'.tmps[t]?:=fun t ht=>eK.at' t fun j hj mJ k6=>by
     obtain⟨_,ed,pJ,gA,tL⟩:=ah.oH i o bH eU t ht j t (Ag j hj) k6 rfl (Gu j hj)
     exact rO (F1 j (sO.2 ⟨o,eU,ed,pJ,gA,tL⟩)) mJ
    obtain⟨hex,GI⟩:=rN (ops:=ops) (gM i o bH eU) tI
    have NR:∀u,(∀d,o.dst=some d->d<a.tmps.size->g'.tmps[d]?=some u)->mg ops (prev++P) (L.setIfInBounds i true) (a.put o.dst u) g':=fun u hu=>by
     refine⟨by rw[Act.uT];exact eK.bo,by rw[Act.oM];exact eK.bp,fun t ht=>?_⟩
     by_cases hd:o.dst=some t
     ·by_cases ag:t<a.tmps.size
      ·rw[hu t hd ag,hd];simp[Act.put,ag]
      ·rw[Array.getElem?_eq_none (by rw[Act.oM];exact Nat.not_lt.1 ag),Array.getElem?_eq_none (by rw[<-eK.bp];exact Nat.not_lt.1 ag)]
     ·rw[Act.l9 hd]
      refine eK.at' t fun j hj mJ k6=>?_
      by_cases ia:i=j
      ·subst ia;rw[eU]at k6;exact hd k6
      ·exact ht j hj (yV ia mJ) k6
    have pure:i∈prev++P->lj C.P ops.toArray (c8 C (K.map (PK.ki C.fn))) i (mc C.P .any ops.toArray (c8 C (K.map (PK.ki C.fn))) (c+(ops.length-n)) (L.setIfInBounds i true)) a w:=fun F9=>by
     obtain⟨u,lT,OV⟩:=hp i F9 og o eU
     have bm:=ih (L.setIfInBounds i true) (a.put o.dst u) mG xL (fun j hj=>HL (hle j hj)) (fun j eC ri lM=>yV (fun e=>ri (e▸F9)) (n9 j eC ri lM)) (NR u fun d hd _=>OV d hd) (fun j hj mJ=>hp j hj (S5 mJ))
     unfold lj
     rw[ho]
     simp only
     rw[GI]
     unfold o5 at lT
     split
     ·rename_i hw
      rw[if_pos hw]at lT
      refine Or.inl ?_
      unfold Oper.wp
      rw[hex,lT,Oper.upon_value]
      exact bm
     ·rename_i hw
      rw[if_neg hw]at lT
      rw[<-lT];exact bm
    rcases Of i bH with h|h|h|⟨j,eC,hb,ri,lM⟩
    ·exact pure h
    ·exact(rO (hle i h) og).elim
    ·
     cases es with
     |nil=>simp at h
     |cons x0 cX=>
       simp only at hk
       obtain⟨t',oc,uj,By,p9,xu,NB,hk⟩:=Dc _ _ FK hk i h
       rw[eU]at hk
       simp only at hk
       have ax:=hk
       unfold AQ AO at ax
       have ax:=ax ops.toArray (fun j d hj=>by simpa using ra j d hj) (fun j o' hj=>by
        cases j with
        |zero=>simp at hj;subst hj;rw[Nat.add_zero,ho];rfl
        |succ j=>simp at hj) φ I g' w ⟨ig.bo,ig.bp,ig.env,ig.st⟩
       simp only[fw]at ax
       have wW:∀dd v w',(∃E1 H1 φ I,a_ C φ I E1 H1 (({g' with defers:=dd}:Act).put o.dst v) w'/\vd C K ops n t' (aQ o.dst i gw) E1 H1)->
         mc C.P .any ops.toArray (c8 C (K.map (PK.ki C.fn))) (c+(ops.length-n)) (L.setIfInBounds i true) (({a with defers:=dd}:Act).put o.dst v) w':=fun dd v w' ⟨E1,H1,aU,I1,ry,uc⟩=>by
        rw[<-mG]
        refine IP ah fG gM t' (prev++P) (i::cD) _ E1 H1 NB (IW OT oc) Gu (E0 eU ra) uc Ag (fun j hj=>by
          rcases List.mem_cons.1 hj with rfl|hj
          ·exact uj
          ·exact Od j hj) (fun j hj k hb=>by
          have:k∈prev++P++cD:=by
           rcases hj with hj|hj
           ·rcases List.mem_append.1 hj with hj|hj
            ·rcases ca j (.inl hj) k hb with h|h<;>simp[h]
            ·exact NG j hj k hb
           ·rcases List.mem_cons.1 hj with rfl|hj
            ·exact xu k hb
            ·rcases ca j (.inr hj) k hb with h|h<;>simp[h]
          rcases List.mem_append.1 this with h|h
          ·exact .inl h
          ·exact .inr (List.mem_cons_of_mem _ h)) _ _ w' xL (fun j hj=>by
          rcases List.mem_cons.1 hj with rfl|hj
          ·exact Nq og
          ·exact HL (hle j hj)) (fun j eC ri lM=>yV (fun e=>lM (by simp[e])) (n9 j eC ri fun hm=>lM (List.mem_cons_of_mem _ hm))) ⟨_,aU,I1,ry,?_⟩
        refine⟨by rw[Act.uT,Act.uT],by rw[Act.oM,Act.oM];exact eK.bp,fun t ht=>?_⟩
        by_cases hd:o.dst=some t
        ·by_cases ag:t<a.tmps.size
         ·rw[hd];simp[Act.put,ag,<-eK.bp]
         ·rw[Array.getElem?_eq_none (by rw[Act.oM];exact Nat.not_lt.1 ag),Array.getElem?_eq_none (by rw[Act.oM,<-eK.bp];exact Nat.not_lt.1 ag)]
        ·rw[Act.l9 hd,Act.l9 hd]
         exact eK.at' t fun j hj mJ=>ht j hj (yV (fun e=>by subst e;exact By hj) mJ)
       unfold lj
       rw[ho]
       simp only
       rw[GI]
       split
       ·rename_i hw
        rw[if_pos hw]at ax
        exact Rg (ops:=ops) (gM i o bH eU) tI eK.bo (fun c w hq=>hq _ eK.bo eK.bp fun t ht=>eK.at' t fun i _ _ he=>by
         cases ho:ops[i]? with
         |none=>rw[ho]at he;cases he
         |some o=>rw[ho]at he;exact ht o (List.mem_of_getElem? ho) he) (fun⟨a,w,hq⟩=>hq) wW ax
       ·rename_i hw
        rw[if_neg hw]at ax
        have:=wW g'.defers undef w ax
        rw[<-eK.bo]at this
        exact this
    ·
     exact(rO (F1 j hb) (n9 j eC ri lM)).elim
  refine inner _ L a rfl inv hle (fun i bH U h2=>n9 i bH (fun hm=>U (List.mem_append_left _ hm)) h2) NQ (fun i hi hu=>dP i (by
   rcases List.mem_append.1 hi with hi|hi
   ·exact .inl hi
   ·exact .inr hi) hu)
termination_by t=>SizeOf.sizeOf t
decreasing_by
 have:=List.sizeOf_lt_of_mem oc
 simp only[Tree.node.sizeOf_spec]
 omega
section
variable {C:Cx} {K:List PK} {E:Env} {H:aa} {p:List Nat}
theorem AP.dh {id:Nat} {ops:List Oper} (n:Nat) (t:Tree) (hm:C.P.follows .mixedOrders=true) (hc:bS C.fn p= .region id ops.toArray true) (ah:a6 C.n ops=true) (hB:wy ops n t=true)
  (h:vd C K ops n t [] E H):AP C p K E H:=by
 simp only[wy,Bool.and_eq_true]at hB
 obtain⟨⟨⟨Nx,Ny⟩,Nz⟩,NA⟩:=hB
 have b9:=F3 Nx
 have hle:=b9.le
 have gM:∀i o,i<n->ops[i]?=some o->l4 o=true:=fun i o hi ho=>List.all_eq_true.1 Ny o (by
  rw[List.mem_take_iff_getElem]
  obtain⟨hl,he⟩:=List.getElem?_eq_some_iff.1 ho
  exact⟨i,by omega,he⟩)
 unfold AP
 rw[hc]
 intro φ I a w hs
 refine KQ hm (zG ah) ?_
 have mG:∀k,eJ (Array.replicate ops.length false) k=min k ops.length:=by
  intro k
  induction k with
  |zero=>simp[eJ]
  |succ k ih=>
   simp only[eJ,ih]
   by_cases hk:k<ops.length
   ·simp[hk];omega
   ·simp[hk];omega
 have BI:HeadInv .any ops.toArray n (Array.replicate ops.length false):=
  ⟨by simp,fun j oj _ hl=>(by rw[getD_replicate_false]at hl;cases hl),fun t _ ht=>getD_in (by simpa using ht) (getD_replicate_false _ _)⟩
 have:=IP (K:=K) b9 ah gM t [] [] [] E H Nz NA (fun i hi=>by simp at hi) (fun j d hj=>by simp[lk]at hj) h (fun i hi=>by simp at hi) (fun i hi=>by simp at hi) (fun i hi=>by simp at hi) (Array.replicate ops.length false) a {w with drawn:=w.drawn+1} BI
  (fun i hi=>by simp at hi) (fun i hi _ _=>getD_in (by simp;omega) (getD_replicate_false _ _)) ⟨a,φ,I,⟨hs.bo,hs.bp,fun t x hx=>?_,hs.st.s3⟩,⟨rfl,rfl,fun t _=>rfl⟩⟩
 ·rw[mG,show min n ops.length+(ops.length-n)=ops.length by omega]at this
  simpa using this
 ·obtain⟨u,hu,hd⟩:=hs.env t x hx
  exact⟨u,hu,(bh.s3 w φ I).den hd⟩
end
theorem de {C:Cx} {K:List PK} {ops:List Oper} {n:Nat} {R P es:List Nat} {ts:List Tree} {ds:List (Nat×Nat)} {E:Env} {H:aa}
  (h:vR C ops H R ds E/\vP C ops H (fun ds E=>match es with
  |[]=>vq C K (ops.drop n) [] n E H
  |_::_=>kN C K ops n es ts ds E H) P ds E):vd C K ops n (.node R P es ts) ds E H:=by
 simp only[vd];exact h
theorem S9 {C:Cx} {K:List PK} {ops:List Oper} {n x:Nat} {es:List Nat} {t:Tree} {ts:List Tree} {ds:List (Nat×Nat)} {E:Env} {H:aa}:
  kN C K ops n (x::es) (t::ts) ds E H=((match ops[x]? with
   |none=>False
   |some o=>AQ C.nr ds x [o] [.lp (sx C (vd C K ops n t (aQ o.dst x ds))),.bot (nh C K ops)] E H)/\kN C K ops n es ts ds E H):=by first|(simp only[kN];done)|(simp only[kN];rfl)
theorem S_ {C:Cx} {K:List PK} {ops:List Oper} {n:Nat} {ts:List Tree} {ds:List (Nat×Nat)} {E:Env} {H:aa}:kN C K ops n [] ts ds E H=True:=by cases ts<;>simp only[kN]
theorem Q0 (C:Cx):C.nr.P=C.P:=rfl
theorem Q1 (C:Cx):C.nr.fn=C.fn:=rfl
theorem Q3 (C:Cx):C.nr.n=C.n:=rfl
theorem QZ (C:Cx):C.nr.B=C.B:=rfl
theorem Q2 (C:Cx):C.nr.kp=C.kp:=rfl
theorem Q4 (C:Cx):C.nr.ob=C.ob:=rfl
attribute [go_sem] S9 S_ vR vP o_ yE Q0 Q1 Q3 QZ Q2 Q4
section
variable {C:Cx} {K:List PK} {E:Env} {H:aa}
theorem AQ.Ec {ds:List (Nat×Nat)} {i:Nat} {d:Option Nat} {ty:TypeId} {pos:String} {af:Array Edge} {os:List Oper} {aZ:Operand} {f:FuncId} {fs aD:List AV} {xs:List Operand} {aP:Array TypeId} {l:List AV} {r:AV} {gu:Option (Nat×Bool)} {G:Bool}
  (ah:a6 C.n ({dst:=d,op:= .call {callee:= .value aZ,args:=xs.toArray,argTypes:=aP},type:=ty,pos:=pos,after:=af,guard:=gu}::os)=true)
  (hG:gd ds E gu=some G) (ew:ev E aZ=some (.fn f fs aD)) (hl:di E xs=some l) (cZ:G=true->gs l=true)
  (hc:G=true->al C.P f (fs++l.map AV.st++aD) H (fun r' H'=>H'=H/\r'=r))
  (h:vq C K os (aQ d i ds) (i+1) (aS d (.opt G r) E) H):
  AQ C ds i ({dst:=d,op:= .call {callee:= .value aZ,args:=xs.toArray,argTypes:=aP},type:=ty,pos:=pos,after:=af,guard:=gu}::os) K E H:=by
 obtain⟨hd,b9⟩:=dE ah
 have bm:=AQ.go b9 h
 cases G with
 |true=>
  refine AQ.nW hG ?_
  have hn:vq C [] [] (aQ d i ds) (i+1) (aS d r E) H=AQ C (aQ d i ds) (i+1) [] [] (aS d r E) H:=rfl
  have key:∀ym:List Oper,AQ C (aQ d i ds) (i+1) ym K (aS d r E) H->a6 C.n ({dst:=d,op:= .call {callee:= .value aZ,args:=xs.toArray,argTypes:=aP},type:=ty,pos:=pos,after:=af,guard:=none}::ym)=true->
    AQ C ds i ({dst:=d,op:= .call {callee:= .value aZ,args:=xs.toArray,argTypes:=aP},type:=ty,pos:=pos,after:=af,guard:=none}::ym) K E H:=fun ym h' OO=>AQ.Mb OO ew hl (cZ rfl) (hc rfl) h'
  refine key os (AQ.imp (fun w φ I a=>yr fun u hu=>?_) bm) ?_
  ·simp only[AV.den];exact⟨fun _=>hu,fun h=>by cases h⟩
  ·simp only[a6,List.all_cons,Bool.and_eq_true]at ah⊢
   exact ah
 |false=>
  refine AQ.qZ hd hG ?_
  exact AQ.imp (fun w φ I a=>yr fun u hu=>by simp only[AV.den]at hu⊢;exact⟨fun h=>(by cases h),hu.2⟩) bm
end
structure gX (P:Program) (nb:Nat) (f:FuncId) (args:List AV) (H:aa) (R:AV->aa->Prop):Prop where
 fC:enters P f=true
 run:∀(w:World) (φ:ak) (I:Nat->Prop) (vs:List Value),AV.ab w φ I args vs->Real w φ I H->VK P w I->Calls P f vs.toArray w (j5 ⟨w,cB φ,I,φ,nb⟩ R)
structure fx (P:Program) (nb l:Nat) (args:List AV) (H:aa) (R:AV->aa->Prop):Prop where
 run:∀(w:World) (φ:ak) (I:Nat->Prop) (vs:List Value),AV.ab w φ I args vs->Real w φ I H->VK P w I->
  ∃(b8:FuncId) (T:Array Value) (as bd:Code),(Instr.yield l vs.toArray).run P w= .ok (.round l b8 T as bd) w/\RoundIn Fence.wide 3 P l b8 T as bd w (j5 ⟨w,cB φ,I,φ,nb⟩ R)
theorem gX.mono {P:Program} {nb:Nat} {f:FuncId} {args:List AV} {H:aa} {R R':AV->aa->Prop} (h:gX P nb f args H R) (hr:∀r H',R r H'->R' r H'):gX P nb f args H R':=
 ⟨h.fC,fun w φ I vs hd hR hV=>(h.run w φ I vs hd hR hV).mono fun _ _ ⟨r,H',φ',I',v,U,h2⟩=>⟨r,H',φ',I',v,hr _ _ U,h2⟩⟩
theorem fx.mono {P:Program} {nb l:Nat} {args:List AV} {H:aa} {R R':AV->aa->Prop} (h:fx P nb l args H R) (hr:∀r H',R r H'->R' r H'):fx P nb l args H R':=
 ⟨fun w φ I vs hd hR hV=>let⟨b8,T,as,bd,U,h2⟩:=h.run w φ I vs hd hR hV;⟨b8,T,as,bd,U,h2.mono fun _ _ ⟨r,H',φ',I',v,U,h2⟩=>⟨r,H',φ',I',v,hr _ _ U,h2⟩⟩⟩
mutual
def AV.ge (nb:Nat):AV->Bool
 | .ob b _=>Nat.ble nb b
 | .oe b _ _ _=>Nat.ble nb b
 | .os b _ _ _=>Nat.ble nb b
 | .fn _ fs aD=>AV.hU nb fs||AV.hU nb aD
 | .agg cs=>AV.hU nb cs
 | .aK cs=>AV.hU nb cs
 | .opt _ x=>AV.ge nb x
 | .im _=>false
 | .ar _=>false
 | .top=>false
 | .mp b=>Nat.ble nb b
 | .wr _ x=>AV.ge nb x
def AV.hU (nb:Nat):List AV->Bool
 |[]=>false
 |x::xs=>AV.ge nb x||AV.hU nb xs
end
theorem nJ {a b:Nat} (h:Nat.ble a b=false):b<a:=by
 rcases Nat.lt_or_ge b a with h'|h'
 ·exact h'
 ·rw[Nat.ble_eq_true_of_le h']at h;cases h
mutual
theorem AV.wG {w:World} {φ φ':ak} {I:Nat->Prop} {nb:Nat} (aq:∀b',b'<nb->φ' b'=φ b'):∀(x:AV) (u:Value),x.ge nb=false->AV.den w φ I x u->AV.den w φ' I x u
 | .ob b' _,u,h,hd=>by simp only[AV.ge]at h;simp only[AV.den]at hd⊢;rw[aq b' (nJ h)];exact hd
 | .oe b' _ _ _,u,h,hd=>by simp only[AV.ge]at h;simp only[AV.den]at hd⊢;rw[aq b' (nJ h)];exact hd
 | .os b' _ _ _,u,h,hd=>by simp only[AV.ge]at h;simp only[AV.den]at hd⊢;rw[aq b' (nJ h)];exact hd
 | .fn f fs aD,u,h,hd=>by simp only[AV.ge,Bool.or_eq_false_iff]at h;simp only[AV.den]at hd⊢;obtain⟨us,vs,U,h2,h3⟩:=hd;exact⟨us,vs,AV.tc aq fs us h.1 U,AV.tc aq aD vs h.2 h2,h3⟩
 | .agg cs,u,h,hd=>by simp only[AV.ge]at h;simp only[AV.den]at hd⊢;obtain⟨us,U,h2⟩:=hd;exact⟨us,AV.tc aq cs us h U,h2⟩
 | .aK cs,u,h,hd=>by simp only[AV.ge]at h;simp only[AV.den]at hd⊢;obtain⟨us,U,h2⟩:=hd;exact⟨us,AV.tc aq cs us h U,h2⟩
 | .opt g x,u,h,hd=>by simp only[AV.ge]at h;simp only[AV.den]at hd⊢;exact⟨fun hg=>AV.wG aq x u h (hd.1 hg),hd.2⟩
 | .im x,u,_,hd=>by simpa only[AV.den]using hd
 | .ar x,u,_,hd=>by simpa only[AV.den]using hd
 | .top,_,_,_=>by simp only[AV.den]
 | .mp b',u,h,hd=>by simp only[AV.ge]at h;simp only[AV.den]at hd⊢;rw[aq b' (nJ h)];exact hd
 | .wr k x,u,h,hd=>by simp only[AV.ge]at h;simp only[AV.den]at hd⊢;obtain⟨v,U,h2⟩:=hd;exact⟨v,U,AV.wG aq x v h h2⟩
theorem AV.tc {w:World} {φ φ':ak} {I:Nat->Prop} {nb:Nat} (aq:∀b',b'<nb->φ' b'=φ b'):∀(xs:List AV) (us:List Value),AV.hU nb xs=false->AV.ab w φ I xs us->AV.ab w φ' I xs us
 |[],us,_,h=>by simpa only[AV.ab]using h
 |x::xs,us,h,hd=>by
  simp only[AV.hU,Bool.or_eq_false_iff]at h
  simp only[AV.ab]at hd⊢
  obtain⟨u,aj,e,U,h2⟩:=hd
  exact⟨u,aj,e,AV.wG aq x u h.1 U,AV.tc aq xs aj h.2 h2⟩
end
def iP (nb:Nat):Env->Env
 |[]=>[]
 |(i,x)::r=>bif x.ge nb then(i,.top)::iP nb r else(i,x)::iP nb r
theorem BS {w w':World} {φ φ':ak} {I I':Nat->Prop} {nb:Nat} (aq:∀b',b'<nb->φ' b'=φ b') (hw:∀g,I g->w'.heap[g]?=w.heap[g]?) (hI:∀g,I g->I' g)
  (hs:∀b g n,b<nb->φ b=some (some g)->shaped w g n->shaped w' g n):∀(E:Env) (i:Nat) (x:AV),lk (iP nb E) i=some x->∃y,lk E i=some y/\∀u,AV.den w φ I y u->AV.den w' φ' I' x u
 |[],i,x,h=>by simp[iP,lk]at h
 |(j,y)::r,i,x,h=>by
  simp only[iP]at h
  cases hm:y.ge nb with
  |true=>
   rw[hm]at h
   simp only[cond_true,lk]at h⊢
   cases hb:Nat.beq j i with
   |true=>
    rw[hb]at h
    simp only[cond_true,Option.some.injEq]at h⊢
    subst h
    exact⟨y,rfl,fun u _=>by simp only[AV.den]⟩
   |false=>rw[hb]at h;exact BS aq hw hI hs r i x h
  |false=>
   rw[hm]at h
   simp only[cond_false,lk]at h⊢
   cases hb:Nat.beq j i with
   |true=>
    rw[hb]at h
    simp only[cond_true,Option.some.injEq]at h⊢
    subst h
    refine⟨y,rfl,fun u hu=>?_⟩
    have U:=AV.wG (φ':=fun b=>if b<nb then φ b else none) (fun b' bF=>by simp[bF]) y u hm hu
    refine AV.jc hw hI (fun b p hb=>?_) (fun b g n hb da=>?_) y u U
    ·by_cases ag:b<nb
     ·rw[aq b ag];simpa[ag]using hb
     ·simp[ag]at hb
    ·by_cases ag:b<nb
     ·exact hs b g n ag (by simpa[ag]using hb) da
     ·simp[ag]at hb
   |false=>rw[hb]at h;exact BS aq hw hI hs r i x h
def dT (nb:Nat) (H H':aa):Prop:=∀b,b<nb->(lk H' b).isSome=(lk H b).isSome
theorem dT.refl (nb:Nat) (H:aa):dT nb H H:=fun _ _=>rfl
theorem St.sJ {B:Bs} {φ aU:ak} {I I1:Nat->Prop} {H H1:aa} {w w1:World} {nb:Nat} (h:St B φ I H w) (hnb:B.nb<=nb) (U:St ⟨w,cB φ,I,φ,nb⟩ aU I1 H1 w1) (jP:dT nb H H1):
  St B aU I1 H1 w1/\(∀b,b<nb->aU b=φ b)/\(∀g,I g->w1.heap[g]?=w.heap[g]?)/\(∀g,I g->I1 g)/\∀b g n,b<nb->φ b=some (some g)->shaped w g n->shaped w1 g n:=by
 have aq:∀b,b<nb->aU b=φ b:=fun b hb=>by
  have d1:=U.real.bf b
  have d0:=h.real.bf b
  have hl:=jP b hb
  cases eM:lk H1 b with
  |none=>
   rw[eM]at hl d1
   cases hp:aU b with
   |some _=>rw[hp]at d1;cases d1
   |none=>
    rw[<-hl]at d0
    cases h0:φ b with
    |some _=>rw[h0]at d0;cases d0
    |none=>rfl
  |some o=>
   rw[eM]at hl
   rw[<-hl]at d0
   cases h0:φ b with
   |none=>rw[h0]at d0;cases d0
   |some p=>exact U.cu b p o hb h0 eM
 have ji:∀g,I g->w1.heap[g]?=w.heap[g]?:=fun g hg=>U.ext.dj g (h.real.bI g hg) (fun⟨b,hb⟩=>(h.real.off b g hb).1 hg)
 refine⟨⟨U.real,h.ext.trans U.ext (fun g ⟨b,hb⟩=>h.bU b g hb),fun b g hb=>?_,fun g hg=>?_,fun g hg=>U.cd g (h.cd g hg),fun b p o hb h0 hl=>?_⟩,aq,ji,U.cd,fun b g n hb hp da=>?_⟩
 ·rcases U.bU b g hb with⟨b',bF⟩|h2
  ·exact h.bU b' g bF
  ·exact .inr (Nat.le_trans h.ext.size h2)
 ·rcases U.cN g hg with h2|⟨b',bF⟩|h2
  ·exact h.cN g h2
  ·exact .inr (h.bU _ g bF)
  ·exact .inr (.inr (Nat.le_trans h.ext.size h2))
 ·have bF:b<nb:=by omega
  rw[aq b bF]
  have tG:=jP b bF
  rw[hl]at tG
  cases Gg:lk H b with
  |none=>rw[Gg]at tG;cases tG
  |some o'=>exact h.cu b p o' hb h0 Gg
 ·obtain⟨cc,ee,gC,hn⟩:=da
  obtain⟨c',hQ,h2,h3⟩:=U.ext.form g cc ee _ gC
  have eG:aU b=some (some g):=(aq b hb).trans hp
  have jK:=U.real.bf b
  rw[eG]at jK
  cases hl:lk H1 b with
  |none=>rw[hl]at jK;cases jK
  |some o=>
   have aH:=U.real.own b o _ hl eG
   have n7:hQ=(0,0):=by
    cases o with
    |var e cs=>
     simp only[Ob.at]at aH
     obtain⟨g',us,cg,h4,_⟩:=aH
     cases cg
     exact h4.fz h2
    |vec e es rows=>
     simp only[Ob.at]at aH
     rcases aH with⟨h5,_⟩|⟨g',ae,rest,cg,h4,_⟩
     ·cases h5
     ·cases cg;rw[h2]at h4;cases h4;rfl
    |lp l n st fn q ps E=>
     simp only[Ob.at]at aH
     obtain⟨h0,T,D,b8,_,h4,_⟩:=aH
     cases h0;rw[h2]at h4;cases h4
   subst n7
   exact⟨c',ee,h2,by rw[h3];exact hn⟩
theorem a_.sJ {C:Cx} {φ aU:ak} {I I1:Nat->Prop} {E:Env} {H H1:aa} {a:Act} {w w1:World} {nb:Nat} (h:a_ C φ I E H a w) (hnb:C.B.nb<=nb) (U:St ⟨w,cB φ,I,φ,nb⟩ aU I1 H1 w1) (jP:dT nb H H1):
  a_ C aU I1 (iP nb E) H1 a w1:=by
 obtain⟨hS,aq,ji,hI,da⟩:=h.st.sJ hnb U jP
 refine⟨h.bo.mono ji hI,h.bp,fun i x hx=>?_,hS⟩
 obtain⟨y,hy,fW⟩:=BS aq ji hI da E i x hx
 obtain⟨u,hu,hd⟩:=h.env i y hy
 exact⟨u,hu,fW u hd⟩
section
variable {C:Cx} {K:List PK} {E:Env} {H:aa}
theorem AQ.Ed (nb:Nat) {ds:List (Nat×Nat)} {i:Nat} {d:Option Nat} {ty:TypeId} {pos:String} {af:Array Edge} {os:List Oper} {aZ:Operand} {f:FuncId} {fs aD:List AV} {xs:List Operand} {aP:Array TypeId} {l:List AV} {R:AV->aa->Prop}
  (hnb:Nat.ble C.B.nb nb=true)
  (ah:a6 C.n ({dst:=d,op:= .call {callee:= .value aZ,args:=xs.toArray,argTypes:=aP},type:=ty,pos:=pos,after:=af,guard:=none}::os)=true)
  (ew:ev E aZ=some (.fn f fs aD)) (hl:di E xs=some l) (cZ:gs l=true) (hc:gX C.P nb f (fs++l.map AV.st++aD) H R) (jP:∀r H',R r H'->dT nb H H')
  (bm:∀r H',R r H'->AQ C (aQ d i ds) (i+1) os K (aS d r (iP nb E)) H'):
  AQ C ds i ({dst:=d,op:= .call {callee:= .value aZ,args:=xs.toArray,argTypes:=aP},type:=ty,pos:=pos,after:=af,guard:=none}::os) K E H:=by
 obtain⟨hd,b9⟩:=dE ah
 unfold AQ at bm⊢
 refine AO.step (o:={dst:=d,op:= .call {callee:= .value aZ,args:=xs.toArray,argTypes:=aP},type:=ty,pos:=pos,after:=af,guard:=none}) fun ops φ I a w aM _ hs Kn bB=>?_
 have hw:Region.wanted {dst:=d,op:= .call {callee:= .value aZ,args:=xs.toArray,argTypes:=aP},type:=ty,pos:=pos,after:=af,guard:=none} (yielded ops a.tmps)=true:=by simp[Region.wanted]
 rw[if_pos hw]
 have fE:=aL hs.env ew
 simp only[AV.den]at fE
 obtain⟨dw,us,kk,fH,k0⟩:=fE
 have aW:AV.ab w φ I (fs++l.map AV.st++aD) (dw++xs.map a.eval++us):=AQ.kU.j7 _ _ _ _ (AQ.kU.j7 _ _ _ _ kk (kc hs.env _ _ hl cZ)) fH
 have ax:(execOp a.eval {dst:=d,op:= .call {callee:= .value aZ,args:=xs.toArray,argTypes:=aP},type:=ty,pos:=pos,after:=af,guard:=none}).run C.P w= .ok (.enter f (dw++xs.map a.eval++us).toArray) w:=by
  have:execOp a.eval {dst:=d,op:= .call {callee:= .value aZ,args:=xs.toArray,argTypes:=aP},type:=ty,pos:=pos,after:=af,guard:=none}=(do let d<-Deferred.ofValue (a.eval aZ) (xs.toArray.map a.eval);invoke d.target d.args):=rfl
  rw[this,k0,yk (t:=ty) hc.fC]
  simp
 unfold Oper.wp
 rw[ax,Oper.upon_enter]
 refine(hc.run w φ I _ aW hs.st.real hs.st.vk).mono fun e w' ⟨r,H1,aU,I1,v,hr,he,bN,hS⟩=>?_
 subst he
 have gL:=hs.sJ (Nat.le_of_ble_eq_true hnb) hS (jP r H1 hr)
 exact bB _ _ aU I1 _ _ (bm r H1 hr) (gL.put gL.st (bh.refl _ _ _) hd bN)
abbrev Yl (l:Nat):AV:= .im (.v (.func (.yield l) #[] #[]))
theorem AQ.vl (nb:Nat) {ds:List (Nat×Nat)} {i:Nat} {d:Option Nat} {ty:TypeId} {pos:String} {af:Array Edge} {os:List Oper} {aZ:Operand} {l0:Nat} {xs:List Operand} {aP:Array TypeId} {l:List AV} {R:AV->aa->Prop}
  (hnb:Nat.ble C.B.nb nb=true)
  (ah:a6 C.n ({dst:=d,op:= .call {callee:= .value aZ,args:=xs.toArray,argTypes:=aP},type:=ty,pos:=pos,after:=af,guard:=none}::os)=true)
  {cv:AV} (ew:ev E aZ=some cv) (fE:cv.g=true/\cv.st=Yl l0) (hl:di E xs=some l) (cZ:gs l=true) (hc:fx C.P nb l0 (l.map AV.st) H R) (jP:∀r H',R r H'->dT nb H H')
  (bm:∀r H',R r H'->AQ C (aQ d i ds) (i+1) os K (aS d r (iP nb E)) H'):
  AQ C ds i ({dst:=d,op:= .call {callee:= .value aZ,args:=xs.toArray,argTypes:=aP},type:=ty,pos:=pos,after:=af,guard:=none}::os) K E H:=by
 obtain⟨hd,b9⟩:=dE ah
 unfold AQ at bm⊢
 refine AO.Su (o:={dst:=d,op:= .call {callee:= .value aZ,args:=xs.toArray,argTypes:=aP},type:=ty,pos:=pos,after:=af,guard:=none}) fun ops φ I a w aM _ hs Kn bB=>?_
 have hw:Region.wanted {dst:=d,op:= .call {callee:= .value aZ,args:=xs.toArray,argTypes:=aP},type:=ty,pos:=pos,after:=af,guard:=none} (yielded ops a.tmps)=true:=by simp[Region.wanted]
 rw[if_pos hw]
 have As:=bY (aL hs.env ew) fE.1
 rw[fE.2]at As
 simp only[AV.den,IV.den]at As
 obtain⟨k0,_⟩:=As
 have aW:=kc hs.env _ _ hl cZ
 obtain⟨b8,T,as,bd,hy,tS⟩:=hc.run w φ I _ aW hs.st.real hs.st.vk
 refine .inr ⟨l0,b8,T,as,bd,?_,tS.mono fun e w' ⟨r,H1,aU,I1,v,hr,he,bN,hS⟩=>?_⟩
 ·have:execOp a.eval {dst:=d,op:= .call {callee:= .value aZ,args:=xs.toArray,argTypes:=aP},type:=ty,pos:=pos,after:=af,guard:=none}=(do let d<-Deferred.ofValue (a.eval aZ) (xs.toArray.map a.eval);invoke d.target d.args):=rfl
  rw[this,k0]
  simp only[Deferred.ofValue,Sem.run_bind,Sem.run_pure,Result.andThen_ok,invoke]
  rw[<-hy]
  simp
 ·subst he
  have gL:=hs.sJ (Nat.le_of_ble_eq_true hnb) hS (jP r H1 hr)
  exact bB _ _ aU I1 _ _ (bm r H1 hr) (gL.put gL.st (bh.refl _ _ _) hd bN)
end
theorem gX.walk {P:Program} {f:FuncId} {fn:Func} {c:Code} {n nb:Nat} {args:List AV} {H:aa} {R:AV->aa->Prop} (kp ob:List Nat) (hf:P.funcs[f]?=some fn) (hb:fn.body=some c) (hn:fn.ntmps=n)
  (iG:enters P f=true) (cE:Nat.ble args.length n=true)
  (h:∀(w:World) (own I0:Nat->Prop) (aw:ak) (lay:Lay P ⟨w,own,I0,aw,nb⟩),AP ⟨P,fn,n,⟨w,own,I0,aw,nb⟩,kp,ob,R,none,fun _ _=>False,[],lay⟩ [] [] (enum 0 args) H):gX P nb f args H R:=by
 refine⟨iG,fun w φ I vs hd hR hV=>?_⟩
 have hl:=gv args vs hd
 have n5:=Nat.le_of_ble_eq_true cE
 have h0:=h w (cB φ) I φ (hR.lay hV _)
 unfold AP at h0
 simp only[bS,hb,Option.getD_some]at h0
 refine Calls.mono ?_ fun e w' he=>iA.only (C:=⟨P,fn,n,⟨w,cB φ,I,φ,nb⟩,kp,ob,R,none,fun _ _=>False,[],hR.lay hV _⟩) (fun _ _ h=>h) he
 refine zm (C:=⟨P,fn,n,⟨w,cB φ,I,φ,nb⟩,kp,ob,R,none,fun _ _=>False,[],hR.lay hV _⟩) hf hb rfl (h0 φ I _ w ⟨Marks.nil,?_,fun i x hx=>?_,oN hR _⟩)
 ·simp only[Array.size_append,List.size_toArray,Array.size_replicate,hn];omega
 ·obtain⟨j,rfl,hj⟩:=pw args 0 i x hx
  obtain⟨u,hu,cP⟩:=gr args vs j x hd hj
  refine⟨u,?_,cP⟩
  have ag:j<vs.length:=by
   rcases Nat.lt_or_ge j vs.length with h|h
   ·exact h
   ·rw[List.getElem?_eq_none h]at hu;cases hu
  rw[Nat.zero_add,Array.getElem?_append_left (by simpa using ag)]
  simpa using hu
attribute [go_sem] AV.ge AV.hU iP
section
variable {w:World} {φ:ak} {I:Nat->Prop} {l:Nat} {r:Loop} {o':Obj}
theorem R_ (hl:w.heap[l]?=some (.loop r)) (g n:Nat) (h:shaped w g n):shaped (w.putObj l o') g n:=by
 obtain⟨c,e,hc,hn⟩:=h
 have hg:g≠l:=fun h=>by subst h;rw[hl]at hc;cases hc
 exact⟨c,e,(World.putObj_heap_other hg).trans hc,hn⟩
theorem xU (hl:w.heap[l]?=some (.loop r)) (hI:¬I l):bh w φ I (w.putObj l o') φ I:=
 ⟨fun g hg=>World.putObj_heap_other (fun e=>hI (e▸hg)),fun _ h=>h,fun _ _ h=>h,fun _ g n _=>R_ hl g n⟩
theorem Fe {own:Nat->Prop} (hl:w.heap[l]?=some (.loop r)) (ho:own l):Ext own w (w.putObj l o'):=
 ⟨by simp,fun g _ hn=>World.putObj_heap_other (fun e=>hn (e▸ho)),fun g c e fz hc=>⟨c,fz,(World.putObj_heap_other (fun e=>by subst e;rw[hl]at hc;cases hc)).trans hc,rfl⟩,rfl,rfl,rfl⟩
theorem St.IX {B:Bs} {H H':aa} (h:St B φ I H w) {b:Nat} (hb:φ b=some (some l)) (hl:w.heap[l]?=some (.loop r)) {ob:Ob} (e8:lk H' b=some ob) (aH:ob.at (w.putObj l o') φ I (some l))
  (jO:∀b',b'≠b->lk H' b'=lk H b'):St B φ I H' (w.putObj l o')/\bh w φ I (w.putObj l o') φ I:=by
 have hI:¬I l:=(h.real.off b l hb).1
 have k:bh w φ I (w.putObj l o') φ I:=xU hl hI
 have F0:∃o,lk H b=some o:=by
  have:=h.real.bf b
  rw[hb]at this
  cases hq:lk H b with
  |none=>rw[hq]at this;cases this
  |some o=>exact⟨o,rfl⟩
 refine⟨⟨⟨fun b'=>?_,fun b' o p aA hp=>?_,fun b' g hp=>?_,h.real.inj,fun g hg=>?_⟩,h.ext.trans (Fe (own:=fun g=>g=l) hl rfl) (fun g hg=>by subst hg;exact h.bU b _ hb),h.bU,h.cN,h.cd,fun b' p o ag h0 aA=>?_⟩,k⟩
 ·by_cases ai:b'=b
  ·subst ai;rw[e8,hb];rfl
  ·rw[jO b' ai];exact h.real.bf b'
 ·by_cases ai:b'=b
  ·subst ai
   rw[e8]at aA;cases aA
   rw[hb]at hp;cases hp
   exact aH
  ·rw[jO b' ai]at aA
   exact Ob.ja k.im k.I k.phi k.sh (fun g hg=>World.putObj_heap_other (fun e=>by subst e;subst hg;exact ai (h.real.inj b' b g hp hb))) (h.real.own b' o p aA hp)
 ·have:=h.real.off b' g hp
  exact⟨this.1,by simpa using this.2⟩
 ·have:=h.real.bI g hg
  simpa using this
 ·by_cases ai:b'=b
  ·subst ai
   obtain⟨o1,lQ⟩:=F0
   exact h.cu b' p o1 ag h0 lQ
  ·rw[jO b' ai]at aA;exact h.cu b' p o ag h0 aA
end
def mf:List Tmp->List AV->Env->Env
 |t::ts,x::xs,E=>mf ts xs ((t,x)::E)
 |_,_,E=>E
theorem KW {w:World} {φ:ak} {I:Nat->Prop}:∀(ps:List Tmp) (args:List AV) (vs:List Value) (E:Env) (T:Array Value),AV.ab w φ I args vs->ps.length=args.length->(∀t∈ps,t<T.size)->
  (∀i x,lk E i=some x->∃u,T[i]?=some u/\AV.den w φ I x u)->
  ((ps.zip vs).foldl (fun tmps (p:Tmp×Value)=>tmps.setIfInBounds p.1 p.2) T).size=T.size/\
  ∀i x,lk (mf ps args E) i=some x->∃u,((ps.zip vs).foldl (fun tmps (p:Tmp×Value)=>tmps.setIfInBounds p.1 p.2) T)[i]?=some u/\AV.den w φ I x u
 |[],[],vs,E,T,h,_,_,hE=>by simp only[AV.ab]at h;subst h;exact⟨rfl,hE⟩
 |[],_::_,_,_,_,_,h,_,_=>by simp at h
 |_::_,[],_,_,_,_,h,_,_=>by simp at h
 |t::ts,x::xs,vs,E,T,h,hlen,ag,hE=>by
  simp only[AV.ab]at h
  obtain⟨u,us,rfl,U,h2⟩:=h
  simp only[List.zip_cons_cons,List.foldl_cons,mf]
  have:=KW ts xs us ((t,x)::E) (T.setIfInBounds t u) h2 (by simpa using hlen) (fun t' oc=>by simpa using ag t' (by simp[oc])) (fun i y hy=>by
   simp only[lk]at hy
   cases hb:Nat.beq t i with
   |true=>
    rw[hb]at hy
    have:=Nat.eq_of_beq_eq_true hb
    subst this
    simp only[cond_true,Option.some.injEq]at hy
    subst hy
    exact⟨u,by rw[Array.getElem?_setIfInBounds_self_of_lt (ag t (by simp))],U⟩
   |false=>
    rw[hb]at hy
    have aG:t≠i:=fun e=>by subst e;simp at hb
    obtain⟨v,hv,hd⟩:=hE i y hy
    exact⟨v,by rw[Array.getElem?_setIfInBounds_ne aG];exact hv,hd⟩)
  refine⟨?_,this.2⟩
  rw[this.1];simp
theorem M5 (ps:List Tmp) (vs:List Value) (T:Array Value):
  (ps.toArray.zip vs.toArray).foldl (fun tmps (t,a)=>tmps.setIfInBounds t a) T=(ps.zip vs).foldl (fun tmps (p:Tmp×Value)=>tmps.setIfInBounds p.1 p.2) T:=by
 simp
def zf (C:Cx) (l:Nat) (p:List Nat):Exit->Act->World->Prop:=
 Exit.then (fun jb jD=>∃y6,(Instr.beginRound l).run C.P jD= .ok () y6/\kO (some l) C.P (bS C.fn (1::p)) (roundPost C.P l (j5 C.B C.R)) jb y6) (fun _ _ _=>False)
def s4 (C:Cx) (l:Nat):Exit->Act->World->Prop:=roundPost C.P l (j5 C.B C.R)
section
variable {C:Cx} {K:List PK} {E:Env} {H:aa}
theorem AE.begin {l b n:Nat} {fn:Func} {p:List Nat} {ps:List Tmp} {EL:Env} (e_:C.rd=some l) (hl:lk H b=some (.lp l n .ready fn p ps EL)) (q:List Nat)
  (h:AP C (1::q) [.bot (s4 C l)] E (bt H b (.lp l n .busy fn p ps EL))):AE C .normal [.bot (zf C l q)] E H:=by
 unfold AE
 unfold AP at h
 intro φ I a w hs
 simp only[List.map_cons,List.map_nil,PK.ki,c8,zf,Exit.then]
 have hd:=hs.st.real.bf b
 rw[hl]at hd
 cases hp:φ b with
 |none=>rw[hp]at hd;cases hd
 |some p0=>
  have aH:=hs.st.real.own b _ p0 hl hp
  simp only[Ob.at]at aH
  obtain⟨rfl,T,D,b8,U,h2,h3⟩:=aH
  refine⟨_,run_beginRound h2 rfl,?_⟩
  obtain⟨hS,k⟩:=hs.st.IX (o':= .loop {state:=fP.busy.state,pending:=fP.busy.qk,fn:=b8,tmps:=T,params:=ps.toArray,assign:=child 0 (bS fn p),body:=child 1 (bS fn p),defers:=D}) (H':=bt H b (.lp l n .busy fn p ps EL)) hp h2 (gQ H b _ hl) (by
   simp only[Ob.at]
   refine⟨trivial,T,D,b8,U,World.putObj_heap_same (Array.getElem?_eq_some_iff.1 h2).1,fun i x hx=>?_⟩
   obtain⟨u,hu,hd⟩:=h3 i x hx
   exact⟨u,hu,(xU (φ:=φ) h2 (hs.st.real.off b l hp).1).den hd⟩) (fun b' bF=>eH H b b' _ bF)
  have h4:=h φ I a _ ⟨hs.bo.mono k.im k.I,hs.bp,fun i x hx=>let⟨u,hu,hd⟩:=hs.env i x hx;⟨u,hu,k.den hd⟩,hS⟩
  rw[e_]at h4
  exact h4
theorem Jb {l b n:Nat} {fn:Func} {p:List Nat} {ps:List Tmp} {EL:Env} {φ:ak} {I:Nat->Prop} {a:Act} {w:World} (hs:a_ C φ I E H a w) (jump:Option Code) (st:fP)
  (bz:st.state=(if jump.isNone then .ready else .done)) (Gr:st.qk=jump) (hl:lk H b=some (.lp l n .busy fn p ps EL)) (hR:C.R (.im (.v (.bool jump.isNone))) (bt H b (.lp l n st fn p ps EL))):
  ∃v w',(Instr.endRound l jump).run C.P w= .ok v w'/\j5 C.B C.R (.returned v) w':=by
 have hd:=hs.st.real.bf b
 rw[hl]at hd
 cases hp:φ b with
 |none=>rw[hp]at hd;cases hd
 |some p0=>
  have aH:=hs.st.real.own b _ p0 hl hp
  simp only[Ob.at]at aH
  obtain⟨rfl,T,D,b8,U,h2,h3⟩:=aH
  refine⟨_,_,run_endRound jump h2,?_⟩
  obtain⟨hS,k⟩:=hs.st.IX (o':= .loop {state:=st.state,pending:=st.qk,fn:=b8,tmps:=T,params:=ps.toArray,assign:=child 0 (bS fn p),body:=child 1 (bS fn p),defers:=D}) (H':=bt H b (.lp l n st fn p ps EL)) hp h2 (gQ H b _ hl) (by
   simp only[Ob.at]
   refine⟨trivial,T,D,b8,U,World.putObj_heap_same (Array.getElem?_eq_some_iff.1 h2).1,fun i x hx=>?_⟩
   obtain⟨u,hu,hd⟩:=h3 i x hx
   exact⟨u,hu,(xU (φ:=φ) h2 (hs.st.real.off b l hp).1).den hd⟩) (fun b' bF=>eH H b b' _ bF)
  rw[<-bz,<-Gr]
  rw[Gr]at hS⊢
  refine⟨_,_,φ,I,_,hR,rfl,by simp only[AV.den,IV.den];exact⟨trivial,rfl⟩,?_⟩
  exact hS
theorem AE.r7 {l b n:Nat} {fn:Func} {p:List Nat} {ps:List Tmp} {EL:Env} (hl:lk H b=some (.lp l n .busy fn p ps EL)) (hR:C.R (.im (.v (.bool true))) (bt H b (.lp l n .ready fn p ps EL))):
  AE C .normal [.bot (s4 C l)] E H:=by
 unfold AE
 intro φ I a w hs
 simp only[List.map_cons,List.map_nil,PK.ki,c8,s4,roundPost]
 exact Jb hs none .ready rfl rfl hl hR
theorem AE.Ja {l b n:Nat} {fn:Func} {p:List Nat} {ps:List Tmp} {EL:Env} (hl:lk H b=some (.lp l n .busy fn p ps EL)) (hR:C.R (.im (.v (.bool false))) (bt H b (.lp l n (.done .ret) fn p ps EL))):
  AE C .ret [.bot (s4 C l)] E H:=by
 unfold AE
 intro φ I a w hs
 simp only[List.map_cons,List.map_nil,PK.ki,c8,s4,roundPost]
 exact Jb hs (some .ret) (.done .ret) rfl rfl hl hR
end
theorem fx.walk {P:Program} {fn:Func} {n nb l b:Nat} {p:List Nat} {ps:List Tmp} {EL:Env} {args:List AV} {H:aa} {R:AV->aa->Prop} (kp ob:List Nat)
  (hl:lk H b=some (.lp l n .ready fn p ps EL)) (OW:Nat.beq ps.length args.length=true) (ag:(ps.all fun t=>Nat.blt t n)=true)
  (h:∀(w:World) (own I0:Nat->Prop) (aw:ak) (lay:Lay P ⟨w,own,I0,aw,nb⟩),AP ⟨P,fn,n,⟨w,own,I0,aw,nb⟩,kp,ob,R,some l,fun _ _=>False,[],lay⟩ (0::p) [.bot (zf ⟨P,fn,n,⟨w,own,I0,aw,nb⟩,kp,ob,R,some l,fun _ _=>False,[],lay⟩ l p)] (mf ps args EL) H):fx P nb l args H R:=by
 refine⟨fun w φ I vs hd hR hV=>?_⟩
 have Aw:=hR.bf b
 rw[hl]at Aw
 cases hp:φ b with
 |none=>rw[hp]at Aw;cases Aw
 |some p0=>
  have aH:=hR.own b _ p0 hl hp
  simp only[Ob.at]at aH
  obtain⟨rfl,T,D,b8,U,h2,h3⟩:=aH
  have fo:=gv args vs hd
  have lS:=Nat.eq_of_beq_eq_true OW
  refine⟨b8,_,_,_,run_yield h2 (by simp[fo,lS]),?_⟩
  have h0:=h w (cB φ) I φ (hR.lay hV _)
  unfold AP at h0
  have hz:=KW ps args vs EL T hd lS (fun t ht=>by
   have:=List.all_eq_true.1 ag t ht
   rw[Nat.blt_eq]at this
   rw[U];exact this) h3
  have h4:=h0 φ I {tmps:=(ps.zip vs).foldl (fun tmps (p:Tmp×Value)=>tmps.setIfInBounds p.1 p.2) T,defers:=[]} w ⟨Marks.nil,by rw[hz.1];exact U,hz.2,oN hR _⟩
  have hF:∀(c:Code) (Q:Exit->Act->World->Prop) (a:Act) (w:World),kO (some l) P c Q a w->c.wpIn (Fence.wide.inRound l) 3 P Q a w:=fun _ _ _ _ h=>h
  refine roundIn_of_wpIn (F:=Fence.wide) (n:=3) trivial (hF _ _ _ _ ?_)
  rw[M5]
  exact h4
end Go.AL
end
