import Derived.Test.YtpfohmboflcneaaGreatDoorAl1
import Derived.StillTail
import Derived.OpenShut
import Derived.WideKeyArgs
import Derived.ChangeSame
import Derived.ProofKit
import Derived.JoinedCond
import Derived.Below
import Derived.Lib.ConvBytes
import Derived.Lib.AppendStr
import Derived.Lib.UnsafeStr
import Derived.Lib.Builder
import Derived.RangeFuncRecord
set_option linter.unusedSimpArgs false
set_option linter.unusedVariables false
set_option linter.unnecessarySimpa false
section
namespace Go.AL
open Go
inductive PK where
 |seq (p:List Nat)
 |dP (id:Nat)
 |lp (J:Act->World->Prop)
 |sc
 |bot (Q:Exit->Act->World->Prop)
def PK.ki (fn:Func):PK->KI
 | .seq p=> .seq (bS fn p)
 | .dP id=> .dP id
 | .lp J=> .lp J
 | .sc=> .sc
 | .bot Q=> .bot Q
def AP (C:Cx) (p:List Nat) (K:List PK) (E:Env) (H:aa):Prop:=AR C (bS C.fn p) (K.map (PK.ki C.fn)) E H
def AE (C:Cx) (e:Exit) (K:List PK) (E:Env) (H:aa):Prop:=AX C e (K.map (PK.ki C.fn)) E H
def AQ (C:Cx) (ds:List (Nat×Nat)) (i:Nat) (rest:List Oper) (K:List PK) (E:Env) (H:aa):Prop:=AO C ds i rest (K.map (PK.ki C.fn)) E H
def vq (C:Cx) (K:List PK):List Oper->List (Nat×Nat)->Nat->Env->aa->Prop
 |[],ds,i,E,H=>AQ C ds i [] K E H
 |o::os,ds,i,E,H=>match gd ds E o.guard with
  |none=>AQ C ds i (o::os) K E H
  |some G=>match gQ C.P E H o.op with
   |some (sc,v)=>(G=true->sc)/\vq C K os (aZ o.dst i ds) (i+1) (a6 o.dst (wrap o.guard G v) E) H
   |none=>match o.guard with
    |some _=>AQ C ds i (o::os) K E H
    |none=>match nD C.P C.B.nb C.ob E H o with
     |some (sc,v,H')=>sc/\vq C K os (aZ o.dst i ds) (i+1) (a6 o.dst v E) H'
     |none=>AQ C ds i (o::os) K E H
theorem tu (C:Cx) (K:List PK):∀(rest:List Oper) (ds:List (Nat×Nat)) (i:Nat) (E:Env) (H:aa),vq C K rest ds i E H->vc C.P C.B.nb C.ob (fun rest ds i E H=>AO C ds i rest (K.map (PK.ki C.fn)) E H) rest ds i E H
 |[],ds,i,E,H,h=>h
 |o::os,ds,i,E,H,h=>by
  simp only[vq]at h
  simp only[vc]
  cases hG:gd ds E o.guard with
  |none=>simp only[hG]at h⊢;exact h
  |some G=>
   simp only[hG]at h⊢
   cases hv:gQ C.P E H o.op with
   |some q=>
    obtain⟨sc,v⟩:=q
    simp only[hv]at h⊢
    exact⟨h.1,tu C K os _ _ _ _ h.2⟩
   |none=>
    simp only[hv]at h⊢
    cases hg:o.guard with
    |some q=>simp only[hg]at h⊢;exact h
    |none=>
     simp only[hg]at h⊢
     cases he:nD C.P C.B.nb C.ob E H o with
     |some q=>
      obtain⟨sc,v,H'⟩:=q
      simp only[he]at h⊢
      exact⟨h.1,tu C K os _ _ _ _ h.2⟩
     |none=>simp only[he]at h⊢;exact h
section
variable {C:Cx} {K:List PK} {E:Env} {H:aa} {p:List Nat}
theorem AP.seq {a b:Code} (hc:bS C.fn p= .seq a b) (h:AP C (0::p) (.seq (1::p)::K) E H):AP C p K E H:=by
 unfold AP at h⊢
 simp only[bS,hc,child,List.map_cons,PK.ki]at h⊢
 exact AR.seq h
theorem AP.block {id:Nat} {a:Code} (hc:bS C.fn p= .block id a) (h:AP C (0::p) (.dP id::K) E H):AP C p K E H:=by
 unfold AP at h⊢
 simp only[bS,hc,child,List.map_cons,PK.ki]at h⊢
 exact AR.block h
theorem AP.scope {a:Code} (hc:bS C.fn p= .scope a) (h:AP C (0::p) (.sc::K) E H):AP C p K E H:=by
 unfold AP at h⊢
 simp only[bS,hc,child,List.map_cons,PK.ki]at h⊢
 exact AR.scope h
theorem AP.skip (hc:bS C.fn p= .skip) (h:AE C .normal K E H):AP C p K E H:=by
 unfold AP;rw[hc];exact AR.skip h
theorem AP.ret (hc:bS C.fn p= .ret) (h:AE C .ret K E H):AP C p K E H:=by
 unfold AP;rw[hc];exact AR.ret h
theorem AP.exit {id:Nat} (hc:bS C.fn p= .exit id) (h:AE C (.exit id) K E H):AP C p K E H:=by
 unfold AP;rw[hc];exact AR.exit h
theorem AP.label {id:Nat} (hc:bS C.fn p= .label id) (h:AE C .normal K E H):AP C p K E H:=by
 unfold AP;rw[hc];exact AR.label h
theorem AP.region {id:Nat} {ops:List Oper} (hc:bS C.fn p= .region id ops.toArray false) (ai:bl C.n ops=true) (h:vq C K ops [] 0 E H):AP C p K E H:=by
 unfold AP;rw[hc]
 exact AR.region ai (by simpa using tu C K ops [] 0 E H h)
theorem AP.cond {t:Tmp} {x y:Code} {b:Bool} (hc:bS C.fn p= .cond (.tmp t) x y) (hb:lk E t=some (.im (.v (.bool b)))) (ht:b=true->AP C (0::p) K E H) (hf:b=false->AP C (1::p) K E H):AP C p K E H:=by
 unfold AP at ht hf⊢
 simp only[bS,hc,child]at ht hf⊢
 exact AR.cond rfl hb ht hf
theorem AP.cond_true {t:Tmp} {x y:Code} (hc:bS C.fn p= .cond (.tmp t) x y) (hb:lk E t=some (.im (.v (.bool true)))) (ht:AP C (0::p) K E H):AP C p K E H:=
 AP.cond hc hb (fun _=>ht) (fun h=>by cases h)
theorem AP.cond_false {t:Tmp} {x y:Code} (hc:bS C.fn p= .cond (.tmp t) x y) (hb:lk E t=some (.im (.v (.bool false)))) (hf:AP C (1::p) K E H):AP C p K E H:=
 AP.cond hc hb (fun h=>by cases h) (fun _=>hf)
theorem AP.loop {α:Type} {c:Code} (hc:bS C.fn p= .loop c) (LE:α->Env) (LH:α->aa) (ok:α->Prop) (μ:α->Nat) (p0:α) (h0:ok p0) (hE:Sub E (LE p0)) (hH:H=LH p0)
  (round:∀q,ok q->AP C (0::p) (.lp (rE C LE LH ok μ (μ q))::K) (LE q) (LH q)):AP C p K E H:=by
 unfold AP at round⊢
 simp only[bS,hc,child,List.map_cons,PK.ki]at round⊢
 exact AR.loop LE LH ok μ p0 h0 hE hH round
theorem AE.seq {q:List Nat} (h:AP C q K E H):AE C .normal (.seq q::K) E H:=h
theorem AE.KL {q:List Nat} {id:Nat} (h:AE C (.exit id) K E H):AE C (.exit id) (.seq q::K) E H:=h
theorem AE.KM {q:List Nat} (h:AE C .ret K E H):AE C .ret (.seq q::K) E H:=h
theorem AE.dP {id:Nat} (h:AE C .normal K E H):AE C .normal (.dP id::K) E H:=h
theorem AE.Aq {id:Nat} (h:AE C .normal K E H):AE C (.exit id) (.dP id::K) E H:=AX.Aq h
theorem AE.Ar {id kG:Nat} (aR:(kG==id)=false) (h:AE C (.exit kG) K E H):AE C (.exit kG) (.dP id::K) E H:=AX.Ar aR h
theorem AE.E9 {id:Nat} (h:AE C .ret K E H):AE C .ret (.dP id::K) E H:=h
theorem AE.sc (h:AE C .normal K E H):AE C .normal (.sc::K) E H:=h
theorem AE.KH {id:Nat} (h:AE C (.exit id) K E H):AE C (.exit id) (.sc::K) E H:=h
theorem AE.KJ (h:AE C .ret K E H):AE C .ret (.sc::K) E H:=h
theorem AE.Jf {J:Act->World->Prop} {id:Nat} (h:AE C (.exit id) K E H):AE C (.exit id) (.lp J::K) E H:=h
theorem AE.Jg {J:Act->World->Prop} (h:AE C .ret K E H):AE C .ret (.lp J::K) E H:=h
theorem AE.round {α:Type} {LE:α->Env} {LH:α->aa} {ok:α->Prop} {μ:α->Nat} {m:Nat} (q:α) (ai:ok q) (CK:μ q<m) (hE:Sub E (LE q)) (hH:H=LH q):
  AE C .normal (.lp (rE C LE LH ok μ m)::K) E H:=AX.round q ai CK hE hH
theorem AE.ret {sc:Prop} {xs:List AV} (h:iD C.P E H C.fn.results.toList=some (sc,xs)) (ay:sc) (hR:C.R (dZ xs) H):AE C .ret [] E H:=AX.ret h ay hR
theorem AE.iL {sc:Prop} {xs:List AV} (h:iD C.P E H C.fn.results.toList=some (sc,xs)) (ay:sc) (hR:C.R (dZ xs) H):AE C .normal [] E H:=AX.iL h ay hR
theorem AQ.done {ds:List (Nat×Nat)} {i:Nat} (h:AE C .normal K (kL C.kp E) H):AQ C ds i [] K E H:=AO.done h
theorem AQ.go {ds:List (Nat×Nat)} {i:Nat} {rest:List Oper} (ai:bl C.n rest=true) (h:vq C K rest ds i E H):AQ C ds i rest K E H:=tt rest ds i E H ai (tu C K rest ds i E H h)
theorem AQ.pa {ds:List (Nat×Nat)} {i:Nat} {o:Oper} {os:List Oper} (hG:gd ds E o.guard=some true) (h:AQ C ds i ({o with guard:=none}::os) K E H):AQ C ds i (o::os) K E H:=AO.pa hG h
theorem AQ.r4 {ds:List (Nat×Nat)} {i:Nat} {o:Oper} {os:List Oper} (ai:∀x,o.dst=some x->x<C.n) (hG:gd ds E o.guard=some false) (h:AQ C (aZ o.dst i ds) (i+1) os K (a6 o.dst (.opt false .top) E) H):AQ C ds i (o::os) K E H:=AO.r4 ai hG h
theorem AQ.call {ds:List (Nat×Nat)} {i:Nat} {d:Option Nat} {ty:TypeId} {pos:String} {af:Array Edge} {os:List Oper} {f:FuncId} {xs:List Operand} {aV:Array TypeId} {l:List AV} {R:AV->aa->Prop}
  (ai:bl C.n ({dst:=d,op:= .call {callee:= .value (.func f),args:=xs.toArray,argTypes:=aV},type:=ty,pos:=pos,after:=af,guard:=none}::os)=true)
  (hl:dI E xs=some l) (du:gs l=true) (e6:AV.frees (l.map AV.st)=true) (hc:aj C.P f (l.map AV.st) [] R)
  (hR:∀r H',R r H'->H'=[]/\r.free=true) (h:∀r,R r []->vq C K os (aZ d i ds) (i+1) (a6 d r E) H):
  AQ C ds i ({dst:=d,op:= .call {callee:= .value (.func f),args:=xs.toArray,argTypes:=aV},type:=ty,pos:=pos,after:=af,guard:=none}::os) K E H:=by
 obtain⟨hd,ca⟩:=ef ai
 exact AO.call rfl rfl hd (by simpa using hl) du e6 hc hR fun r hr=>AQ.go ca (h r hr)
theorem AQ.append {ds:List (Nat×Nat)} {i:Nat} {d:Nat} {ty:TypeId} {pos:String} {af:Array Edge} {os:List Oper} {x y:Operand} {t e:TypeId} {b n es bytes:Nat} {rows xs:List (List IV)} (hnb:Nat.ble C.B.nb b=true)
  (ai:bl C.n ({dst:=some d,op:= .call {callee:= .builtin .append,args:=#[x,y],argTypes:=#[t,t]},type:=ty,pos:=pos,after:=af,guard:=none}::os)=true)
  (hx:ev E x=some (.os b (es+1) 0 n)) (hy:ev E y=some (.im (.sl (es+1) xs))) (hH:lk H b=some (.vec e (es+1) rows)) (bL:noMen b H=true)
  (ht:tk C.P t= .slice e) (cw:sz C.P e=some (es+1)) (hz:(az C.P e).map List.length=some (es+1)) (ji:aN C.P e=some bytes)
  (hn:n=rows.length) (eX:(rows.length+xs.length)*bytes<=140737488355328) (jV:rows.length+xs.length<=70368744177664)
  (h:vq C K os ((i,d)::ds) (i+1) ((d,.os b (es+1) 0 (rows.length+xs.length))::killE b E) (bG H b (.vec e (es+1) (rows++xs)))):
  AQ C ds i ({dst:=some d,op:= .call {callee:= .builtin .append,args:=#[x,y],argTypes:=#[t,t]},type:=ty,pos:=pos,after:=af,guard:=none}::os) K E H:=by
 obtain⟨hd,ca⟩:=ef ai
 exact AO.append hnb rfl rfl rfl (by rw[Nat.blt_eq];exact hd d rfl) hx (fun φ I a w hs=>Src.im (by have:=aS hs.env hy;simpa only[AV.den]using this)) hH bL ht cw hz ji hn eX jV (AQ.go ca h)
theorem AQ.fn {ds:List (Nat×Nat)} {i:Nat} {d:Option Nat} {ty:TypeId} {pos:String} {af:Array Edge} {os:List Oper} {f:FuncId} {xs:List Operand} {aV:Array TypeId} {l:List AV} {r:AV}
  (ai:bl C.n ({dst:=d,op:= .call {callee:= .value (.func f),args:=xs.toArray,argTypes:=aV},type:=ty,pos:=pos,after:=af,guard:=none}::os)=true)
  (hl:dI E xs=some l) (du:gs l=true) (e6:AV.frees (l.map AV.st)=true) (hc:aj C.P f (l.map AV.st) [] (fun r' H'=>H'=[]/\r'=r)) (hr:r.free=true)
  (h:vq C K os (aZ d i ds) (i+1) (a6 d r E) H):
  AQ C ds i ({dst:=d,op:= .call {callee:= .value (.func f),args:=xs.toArray,argTypes:=aV},type:=ty,pos:=pos,after:=af,guard:=none}::os) K E H:=
 AQ.call ai hl du e6 hc (fun r' H' ⟨U,h2⟩=>⟨U,by rw[h2];exact hr⟩) fun r' ⟨_,h2⟩=>by rw[h2];exact h
theorem AP.weaken {E':Env} (h:AP C p K E' H) (hE:Sub E E'):AP C p K E H:=AR.weaken h hE
theorem AE.weaken {e:Exit} {E':Env} (h:AE C e K E' H) (hE:Sub E E'):AE C e K E H:=AX.weaken h hE
end
theorem aj.walk {P:Program} {f:FuncId} {fn:Func} {c:Code} {n nb:Nat} {args:List AV} {H:aa} {R:AV->aa->Prop} (kp ob:List Nat) (hf:P.funcs[f]?=some fn) (hb:fn.body=some c) (hn:fn.ntmps=n)
  (jm:enters P f=true) (cS:Nat.ble args.length n=true) (hnb:cU H=nb)
  (h:∀(w:World) (own I0:Nat->Prop) (aq:al) (lay:Lay P ⟨w,own,I0,aq,nb⟩),AP ⟨P,fn,n,⟨w,own,I0,aq,nb⟩,kp,ob,R,none,fun _ _=>False,[],lay⟩ [] [] (enum 0 args) H):aj P f args H R:=
 aj.intro kp ob hf hb hn jm cS hnb fun w own I0 aq lay=>by
  have:=h w own I0 aq lay
  unfold AP at this
  simp only[bS,hb,Option.getD_some]at this
  exact this
def aP (P:Program) (f:FuncId) (args:List AV) (r:AV):Prop:=aj P f args [] (fun r' H'=>H'=[]/\r'=r)
theorem wr {x:Int} (h:-9223372036854775808<=x/\x<=9223372036854775807):IntKind.i64.wrap x=x:=by
 simp only[IntKind.wrap,IntKind.bits,IntKind.signed]
 simp only[Bool.true_and,decide_eq_true_eq,ge_iff_le]
 split<;>omega
theorem Sub.nil (E:Env):Sub E []:=fun i x h=>by simp[lk]at h
theorem Sub.cons {E E':Env} {i:Nat} {x:AV} (h:lk E i=some x) (h':Sub E E'):Sub E ((i,x)::E'):=fun j y hj=>by
 simp only[lk]at hj
 cases hb:Nat.beq i j with
 |true=>
  rw[hb]at hj
  have:=Nat.eq_of_beq_eq_true hb
  subst this
  simp only[cond_true,Option.some.injEq]at hj
  subst hj
  exact h
 |false=>rw[hb]at hj;exact h' j y hj
theorem Sub.refl (E:Env):Sub E E:=fun _ _ h=>h
attribute [go_sem] vq gd bw a6 aZ wrap gQ eN iK lK fL qf xe j_ iC pQ j9 tF w8 w5 tG Nat.beq_refl ev bN un bi AV.g AV.st xg xm vI tD sK ug mF qu Du TK.CQ tI tC w6 xn xl w7 xh xd xf rW xc xk ow q6 tE w_ w9 rG xj xi lk enum TK.agg kL cond_true cond_false vH bJ aL cU nD qk qY jx kH setAt bG iD dZ dI gs
 killE menE AV.men AV.mens noMen AV.free AV.frees rowsOf fillParts placesOf aBuild setRowI
attribute [go_sem] Int.toNat_natCast SE SD OI OJ cond Bool.false_or Bool.or_false Bool.true_or Bool.or_true decide_true decide_false eq_self Bool.false_and Bool.and_false true_and and_true imp_self forall_const implies_true Bool.and_true Bool.true_and Bool.not_true Bool.not_false Bool.and_self Bool.or_self
attribute [irreducible] AP AE AQ
def BA (l:List UInt8):ByteArray:=⟨l.toArray⟩
theorem Mb (l:List UInt8):ByteArray.mk (List.toArray l)=BA l:=rfl
theorem Mc (s:ByteArray):s=BA s.data.toList:=by cases s;simp[BA]
theorem Ah (l:List UInt8):(BA l).size=l.length:=rfl
theorem rD (l:List UInt8):(BA l).data.toList=l:=by simp[BA]
theorem tw (l:List UInt8):(BA l).toList=l:=by rw[ByteArray.toList_eq,rD]
theorem Ma (l:List UInt8) (a b:Nat):(BA l).extract a b=BA ((l.drop a).take (b-a)):=ByteArray.extract_mk l a b
theorem L_ (l m:List UInt8):BA l++BA m=BA (l++m):=ByteArray.mk_append_mk l m
abbrev Sv (l:List UInt8):AV:= .im (.v (.string (BA l)))
abbrev Iv (n:Int):AV:= .im (.v (.int .i64 n))
abbrev Bv (b:Bool):AV:= .im (.v (.bool b))
abbrev Si (l:List UInt8):IV:= .v (.string (BA l))
abbrev Ii (n:Int):IV:= .v (.int .i64 n)
attribute [go_sem] Mb Ah rD tw Ma L_
mutual
def fN (b eu:Nat) (rows:List (List IV)):AV->AV
 | .os b' es i n=>bif Nat.beq b' b then bif Nat.beq es eu then .im (.sl es ((rows.drop i).take n))else .top else .os b' es i n
 | .oe b' es i j=>bif Nat.beq b' b then .top else .oe b' es i j
 | .ob b' o=>bif Nat.beq b' b then(bif Nat.beq o 0 then .im (.pt rows.flatten)else .top)else .ob b' o
 | .fn f fs aJ=> .fn f (ib b eu rows fs) (ib b eu rows aJ)
 | .agg cs=> .agg (ib b eu rows cs)
 | .aM cs=> .aM (ib b eu rows cs)
 | .opt g x=> .opt g (fN b eu rows x)
 | .im x=> .im x
 | .ar x=> .ar x
 | .top=> .top
 | .mp b'=>bif Nat.beq b' b then .top else .mp b'
 | .wr k x=> .wr k (fN b eu rows x)
def ib (b eu:Nat) (rows:List (List IV)):List AV->List AV
 |[]=>[]
 |x::xs=>fN b eu rows x::ib b eu rows xs
end
mutual
def gV (b:Nat) (rows:List (List IV)):AV->Prop
 | .os b' _ i n=>bif Nat.beq b' b then i+n<=rows.length else True
 | .fn _ fs aJ=>gW b rows fs/\gW b rows aJ
 | .agg cs=>gW b rows cs
 | .aM cs=>gW b rows cs
 | .opt _ x=>gV b rows x
 | .wr _ x=>gV b rows x
 |_=>True
def gW (b:Nat) (rows:List (List IV)):List AV->Prop
 |[]=>True
 |x::xs=>gV b rows x/\gW b rows xs
end
def lU (b eu:Nat) (rows:List (List IV)):Env->Env
 |[]=>[]
 |(i,x)::r=>(i,fN b eu rows x)::lU b eu rows r
def mH (b:Nat) (rows:List (List IV)):Env->Prop
 |[]=>True
 |(_,x)::r=>gV b rows x/\mH b rows r
def gi (b eu:Nat) (rows:List (List IV)):aa->aa
 |[]=>[]
 |(j,.var e cs)::r=>bif Nat.beq j b then gi b eu rows r else(j,.var e (ib b eu rows cs))::gi b eu rows r
 |(j,.vec e es rs)::r=>bif Nat.beq j b then gi b eu rows r else(j,.vec e es rs)::gi b eu rows r
 |(j,.lp l n st fn q ps E)::r=>bif Nat.beq j b then gi b eu rows r else(j,.lp l n st fn q ps (lU b eu rows E))::gi b eu rows r
def jR (b:Nat) (rows:List (List IV)):aa->Prop
 |[]=>True
 |(_,.var _ cs)::r=>gW b rows cs/\jR b rows r
 |(_,.vec _ _ _)::r=>jR b rows r
 |(_,.lp _ _ _ _ _ _ E)::r=>mH b rows E/\jR b rows r
section
variable {w:World} {φ φ':al} {I I':Nat->Prop} {b:Nat} {es:Nat} {rows:List (List IV)}
mutual
theorem r2 (au:∀b',b'≠b->φ' b'=φ b') (hI:∀g,I g->I' g) (hb:(φ b=some none/\rows=[])\/∃g ae,φ b=some (some g)/\I' g/\IV.aH w I rows ae/\(∀vs∈ae,vs.length=es)/\cB w g 0 ae.flatten):∀(x:AV) (u:Value),gV b rows x->AV.den w φ I x u->AV.den w φ' I' (fN b es rows x) u
 | .os b' dn i n,u,h,hx=>by
  simp only[fN,gV]at h⊢
  cases hq:Nat.beq b' b with
  |true=>
   rw[hq]at h
   have:=Nat.eq_of_beq_eq_true hq
   subst this
   cases u_:Nat.beq dn es with
   |false=>simp only[cond_true,cond_false,AV.den]
   |true=>
    have Pt:=Nat.eq_of_beq_eq_true u_
    subst Pt
    simp only[cond_true]at h⊢
    simp only[AV.den]at hx
    have bA:((rows.drop i).take n).length=n:=by rw[List.length_take,List.length_drop];omega
    rcases hx with⟨U,rfl,rfl,rfl⟩|⟨g',c,U,rfl,h2,h3,h4⟩
    ·simp only[AV.den,IV.den,List.take_zero]
     exact⟨none,0,[],rfl,by simp,by simp only[IV.aH],by simp,fun e=>absurd rfl e⟩
    ·rcases hb with⟨hb,_⟩|⟨g,ae,hb,hg,hd,hl,hc⟩
     ·rw[hb]at U;cases U
     rw[hb]at U
     cases U
     have fo:=jQ rows ae hd
     simp only[AV.den,IV.den]
     refine⟨_,c,(ae.drop i).take n,by rw[bA],by rw[bA];exact h2,?_,fun vs hv=>hl vs (List.mem_of_mem_drop (List.mem_of_mem_take hv)),fun _=>⟨g',i*dn,rfl,hg,?_⟩⟩
     ·exact IV.gD (fun _ _=>rfl) hI _ _ (xZ n _ _ (xV i _ _ hd))
     ·rw[uj n _ dn (fun vs hv=>hl vs (List.mem_of_mem_drop hv)) (by rw[List.length_drop];omega),rX i ae dn hl (by omega)]
      have:=(hc.drop (i*dn)).take (n*dn)
      rw[Nat.zero_add]at this
      exact this
  |false=>
   simp only[cond_false]
   simp only[AV.den]at hx⊢
   rw[au b' (by intro e;subst e;simp at hq)]
   exact hx
 | .oe b' dn i j,u,_,hx=>by
  simp only[fN]
  cases hq:Nat.beq b' b with
  |true=>simp only[cond_true,AV.den]
  |false=>
   simp only[cond_false]
   simp only[AV.den]at hx⊢
   rw[au b' (by intro e;subst e;simp at hq)]
   exact hx
 | .ob b' o,u,_,hx=>by
  simp only[fN]
  cases hq:Nat.beq b' b with
  |true=>
   simp only[cond_true]
   cases ho:Nat.beq o 0 with
   |false=>simp only[cond_false,AV.den]
   |true=>
    have:=Nat.eq_of_beq_eq_true hq
    subst this
    have:=Nat.eq_of_beq_eq_true ho
    subst this
    simp only[cond_true]
    simp only[AV.den,IV.den]at hx⊢
    obtain⟨g',U,rfl⟩:=hx
    rcases hb with⟨hb,_⟩|⟨g,ae,hb,hg,hd,hl,hc⟩
    ·rw[hb]at U;cases U
    rw[hb]at U
    cases U
    exact⟨g',0,ae.flatten,rfl,hg,IV.gT (fun _ _=>rfl) hI _ _ (qq rows ae hd),hc⟩
  |false=>
   simp only[cond_false]
   simp only[AV.den]at hx⊢
   rw[au b' (by intro e;subst e;simp at hq)]
   exact hx
 | .fn f fs aJ,u,h,hx=>by simp only[fN,gV]at h⊢;simp only[AV.den]at hx⊢;obtain⟨us,vs,U,h2,h3⟩:=hx;exact⟨us,vs,r3 au hI hb fs us h.1 U,r3 au hI hb aJ vs h.2 h2,h3⟩
 | .agg cs,u,h,hx=>by simp only[fN,gV]at h⊢;simp only[AV.den]at hx⊢;obtain⟨us,U,h2⟩:=hx;exact⟨us,r3 au hI hb cs us h U,h2⟩
 | .aM cs,u,h,hx=>by simp only[fN,gV]at h⊢;simp only[AV.den]at hx⊢;obtain⟨us,U,h2⟩:=hx;exact⟨us,r3 au hI hb cs us h U,h2⟩
 | .opt q x,u,h,hx=>by simp only[fN,gV]at h⊢;simp only[AV.den]at hx⊢;exact⟨fun hq=>r2 au hI hb x u h (hx.1 hq),hx.2⟩
 | .im x,u,_,hx=>by simp only[fN];simp only[AV.den]at hx⊢;exact IV.jP (fun _ _=>rfl) hI x u hx
 | .ar x,u,_,hx=>by simp only[fN];simp only[AV.den]at hx⊢;obtain⟨us,U,h2⟩:=hx;exact⟨us,IV.gT (fun _ _=>rfl) hI x us U,h2⟩
 | .top,_,_,_=>by simp only[fN,AV.den]
 | .mp b',u,_,hx=>by
  simp only[fN]
  cases hq:Nat.beq b' b with
  |true=>simp only[cond_true,AV.den]
  |false=>
   simp only[cond_false]
   simp only[AV.den]at hx⊢
   rw[au b' (by intro e;subst e;simp at hq)]
   exact hx
 | .wr k x,u,h,hx=>by simp only[fN,gV]at h⊢;simp only[AV.den]at hx⊢;obtain⟨v,U,h2⟩:=hx;exact⟨v,U,r2 au hI hb x v h h2⟩
theorem r3 (au:∀b',b'≠b->φ' b'=φ b') (hI:∀g,I g->I' g) (hb:(φ b=some none/\rows=[])\/∃g ae,φ b=some (some g)/\I' g/\IV.aH w I rows ae/\(∀vs∈ae,vs.length=es)/\cB w g 0 ae.flatten):∀(xs:List AV) (us:List Value),gW b rows xs->AV.ab w φ I xs us->AV.ab w φ' I' (ib b es rows xs) us
 |[],us,_,h=>by simpa only[ib,AV.ab]using h
 |x::xs,us,h,hx=>by
  simp only[ib,gW]at h⊢
  simp only[AV.ab]at hx⊢
  obtain⟨u,ao,e,U,h2⟩:=hx
  exact⟨u,ao,e,r2 au hI hb x u h.1 U,r3 au hI hb xs ao h.2 h2⟩
end
theorem ou:∀(H:aa),lk (gi b es rows H) b=none
 |[]=>rfl
 |(j,.var e cs)::r=>by
  simp only[gi]
  cases hq:Nat.beq j b with
  |true=>simpa using ou r
  |false=>simpa[lk,hq]using ou r
 |(j,.vec e dn rs)::r=>by
  simp only[gi]
  cases hq:Nat.beq j b with
  |true=>simpa using ou r
  |false=>simpa[lk,hq]using ou r
 |(j,.lp l n st fn q ps E)::r=>by
  simp only[gi]
  cases hq:Nat.beq j b with
  |true=>simpa using ou r
  |false=>simpa[lk,hq]using ou r
def qx (b eu:Nat) (rows:List (List IV)):Ob->Ob
 | .var e cs=> .var e (ib b eu rows cs)
 | .vec e es rs=> .vec e es rs
 | .lp l n st fn q ps E=> .lp l n st fn q ps (lU b eu rows E)
theorem ot:∀(H:aa) (b':Nat),b'≠b->lk (gi b es rows H) b'=(lk H b').map (qx b es rows)
 |[],_,_=>rfl
 |(j,.var e cs)::r,b',aR=>by
  simp only[gi]
  cases hq:Nat.beq j b with
  |true=>
   have qH:=Nat.eq_of_beq_eq_true hq
   have gJ:Nat.beq j b'=false:=by
    cases gJ:Nat.beq j b' with
    |false=>rfl
    |true=>exact absurd ((Nat.eq_of_beq_eq_true gJ).symm.trans qH) aR
   simp only[cond_true,lk,gJ,cond_false]
   exact ot r b' aR
  |false=>
   simp only[cond_false,lk]
   cases gJ:Nat.beq j b' with
   |true=>simp[qx]
   |false=>simpa using ot r b' aR
 |(j,.vec e dn rs)::r,b',aR=>by
  simp only[gi]
  cases hq:Nat.beq j b with
  |true=>
   have qH:=Nat.eq_of_beq_eq_true hq
   have gJ:Nat.beq j b'=false:=by
    cases gJ:Nat.beq j b' with
    |false=>rfl
    |true=>exact absurd ((Nat.eq_of_beq_eq_true gJ).symm.trans qH) aR
   simp only[cond_true,lk,gJ,cond_false]
   exact ot r b' aR
  |false=>
   simp only[cond_false,lk]
   cases gJ:Nat.beq j b' with
   |true=>simp[qx]
   |false=>simpa using ot r b' aR
 |(j,.lp l n st fn q ps E)::r,b',aR=>by
  simp only[gi]
  cases hq:Nat.beq j b with
  |true=>
   have qH:=Nat.eq_of_beq_eq_true hq
   have gJ:Nat.beq j b'=false:=by
    cases gJ:Nat.beq j b' with
    |false=>rfl
    |true=>exact absurd ((Nat.eq_of_beq_eq_true gJ).symm.trans qH) aR
   simp only[cond_true,lk,gJ,cond_false]
   exact ot r b' aR
  |false=>
   simp only[cond_false,lk]
   cases gJ:Nat.beq j b' with
   |true=>simp[qx]
   |false=>simpa using ot r b' aR
theorem x9:∀(H:aa),jR b rows H->∀b' e cs,lk H b'=some (.var e cs)->gW b rows cs
 |[],_,_,_,_,h=>by simp[lk]at h
 |(j,.var e0 V7)::r,hc,b',e,cs,h=>by
  simp only[jR]at hc
  simp only[lk]at h
  cases hq:Nat.beq j b' with
  |true=>rw[hq]at h;simp at h;obtain⟨_,rfl⟩:=h;exact hc.1
  |false=>rw[hq]at h;exact x9 r hc.2 b' e cs h
 |(j,.vec _ _ _)::r,hc,b',e,cs,h=>by
  simp only[jR]at hc
  simp only[lk]at h
  cases hq:Nat.beq j b' with
  |true=>rw[hq]at h;simp at h
  |false=>rw[hq]at h;exact x9 r hc b' e cs h
 |(j,.lp _ _ _ _ _ _ _)::r,hc,b',e,cs,h=>by
  simp only[jR]at hc
  simp only[lk]at h
  cases hq:Nat.beq j b' with
  |true=>rw[hq]at h;simp at h
  |false=>rw[hq]at h;exact x9 r hc.2 b' e cs h
theorem GL:∀(H:aa),jR b rows H->∀b' l n st fn q ps E,lk H b'=some (.lp l n st fn q ps E)->mH b rows E
 |[],_,_,_,_,_,_,_,_,_,h=>by simp[lk]at h
 |(j,o)::r,hc,b',l,n,st,fn,q,ps,E,h=>by
  simp only[lk]at h
  cases hq:Nat.beq j b' with
  |true=>
   rw[hq]at h
   simp only[cond_true,Option.some.injEq]at h
   subst h
   exact hc.1
  |false=>
   rw[hq]at h
   refine GL r ?_ b' l n st fn q ps E h
   cases o with
   |var _ _=>exact hc.2
   |vec _ _ _=>exact hc
   |lp _ _ _ _ _ _ _=>exact hc.2
theorem Bg:∀(E:Env),mH b rows E->∀i x,lk (lU b es rows E) i=some x->∃y,lk E i=some y/\gV b rows y/\x=fN b es rows y
 |[],_,i,x,h=>by simp[lU,lk]at h
 |(j,y)::r,hc,i,x,h=>by
  simp only[mH]at hc
  simp only[lU,lk]at h⊢
  cases hq:Nat.beq j i with
  |true=>rw[hq]at h;simp at h⊢;exact⟨hc.1,h.symm⟩
  |false=>rw[hq]at h;simpa using Bg r hc.2 i x h
theorem St.freeze {B:Bs} {H:aa} {el:TypeId} (h:St B φ I H w) (hl:lk H b=some (.vec el es rows)) (hC:jR b rows H):
  ∃φ' I',St B φ' I' (gi b es rows H) w/\(∀g,I g->I' g)/\∀(x:AV) (u:Value),gV b rows x->AV.den w φ I x u->AV.den w φ' I' (fN b es rows x) u:=by
 obtain⟨p,hp⟩:∃p,φ b=some p:=by
  have:=h.real.bq b
  rw[hl]at this
  cases hq:φ b with
  |none=>rw[hq]at this;cases this
  |some p=>exact⟨p,rfl⟩
 have aQ:=h.real.own b _ p hl hp
 simp only[Ob.at]at aQ
 let φ':al:=fun i=>if i=b then none else φ i
 let I':Nat->Prop:=fun g=>I g\/φ b=some (some g)
 have au:∀b',b'≠b->φ' b'=φ b':=fun b' hb=>by simp[φ',hb]
 have hI:∀g,I g->I' g:=fun g hg=> .inl hg
 have hb:(φ b=some none/\rows=[])\/∃g ae,φ b=some (some g)/\I' g/\IV.aH w I rows ae/\(∀vs∈ae,vs.length=es)/\cB w g 0 ae.flatten:=by
  rcases aQ with⟨rfl,hr⟩|⟨g,ae,rest,rfl,b6,hd,uY⟩
  ·exact .inl ⟨hp,hr⟩
  ·refine .inr ⟨g,ae,hp,.inr hp,hd,uY,fun j u hu=>?_⟩
   have ag:j<ae.flatten.length:=by
    rcases Nat.lt_or_ge j ae.flatten.length with h|h
    ·exact h
    ·rw[List.getElem?_eq_none h]at hu;cases hu
   simp only[World.cell?,b6,Option.isSome_none,Bool.false_eq_true,if_false,List.getElem?_toArray,Nat.zero_add]
   rw[List.getElem?_append_left ag];exact hu
 refine⟨φ',I',⟨⟨fun b'=>?_,fun b' o p' aD b7=>?_,fun b' g b7=>?_,fun b1 b2 g U h2=>?_,fun g hg=>?_⟩,h.ext,fun b' g b7=>?_,fun g hg=>?_,fun g hg=> .inl (h.cj g hg),fun b' g oo ag h0 aD=>?_⟩,hI,fun x u hc hx=>r2 au hI hb x u hc hx⟩
 ·by_cases ak:b'=b
  ·subst ak;rw[ou];simp[φ']
  ·rw[au b' ak,ot H b' ak,Option.isSome_map];exact h.real.bq b'
 ·by_cases ak:b'=b
  ·subst ak;rw[ou]at aD;cases aD
  ·rw[au b' ak]at b7
   rw[ot H b' ak]at aD
   cases hq:lk H b' with
   |none=>rw[hq]at aD;cases aD
   |some o1=>
    rw[hq]at aD
    simp only[Option.map_some,Option.some.injEq]at aD
    subst aD
    have br:=h.real.own b' o1 p' hq b7
    cases o1 with
    |var e cs=>
     simp only[Ob.at,qx]at br⊢
     obtain⟨g,us,U,h2,h3,h4⟩:=br
     exact⟨g,us,U,h2,r3 au hI hb cs us (x9 H hC b' e cs hq) h3,h4⟩
    |vec e dn rs=>
     simp only[Ob.at,qx]at br⊢
     rcases br with h'|⟨g,ae,rest,U,h2,h3,h4⟩
     ·exact .inl h'
     ·exact .inr ⟨g,ae,rest,U,h2,IV.gD (fun _ _=>rfl) hI rs ae h3,h4⟩
    |lp l n st fn q ps E=>
     simp only[Ob.at,qx]at br⊢
     obtain⟨h0,T,D,b_,U,h2,h3⟩:=br
     refine⟨h0,T,D,b_,U,h2,fun i x hx=>?_⟩
     obtain⟨y,hy,CH,rfl⟩:=Bg E (GL H hC b' l n st fn q ps E hq) i x hx
     obtain⟨u,hu,hd⟩:=h3 i y hy
     exact⟨u,hu,r2 au hI hb y u CH hd⟩
 ·by_cases ak:b'=b
  ·subst ak;simp[φ']at b7
  ·rw[au b' ak]at b7
   have:=h.real.off b' g b7
   refine⟨fun hg=>hg.elim this.1 (fun e=>ak (h.real.inj b' b g b7 e)),this.2⟩
 ·by_cases e1:b1=b
  ·subst e1;simp[φ']at U
  ·by_cases e2:b2=b
   ·subst e2;simp[φ']at h2
   ·rw[au b1 e1]at U
    rw[au b2 e2]at h2
    exact h.real.inj b1 b2 g U h2
 ·rcases hg with hg|hg
  ·exact h.real.bO g hg
  ·exact(h.real.off b g hg).2
 ·by_cases ak:b'=b
  ·subst ak;simp[φ']at b7
  ·rw[au b' ak]at b7;exact h.bU b' g b7
 ·rcases hg with hg|hg
  ·exact h.c8 g hg
  ·exact .inr (h.bU b g hg)
 ·by_cases ak:b'=b
  ·subst ak;rw[ou]at aD;cases aD
  ·rw[ot H b' ak]at aD
   rw[au b' ak]
   cases hq:lk H b' with
   |none=>rw[hq]at aD;cases aD
   |some o1=>
    rw[hq]at aD
    exact h.cD b' g o1 ag h0 hq
theorem bn.freeze {C:Cx} {E:Env} {H:aa} {a:Act} {el:TypeId} (h:bn C φ I E H a w) (hl:lk H b=some (.vec el es rows)) (qz:mH b rows E) (hC:jR b rows H):
  ∃φ' I',bn C φ' I' (lU b es rows E) (gi b es rows H) a w:=by
 obtain⟨φ',I',hS,Bu,hd⟩:=h.st.freeze hl hC
 refine⟨φ',I',h.bD.mono (fun _ _=>rfl) Bu,h.bE,fun i x hx=>?_,hS⟩
 obtain⟨y,hy,CH,rfl⟩:=Bg E qz i x hx
 obtain⟨u,hu,dc⟩:=h.env i y hy
 exact⟨u,hu,hd y u CH dc⟩
end
section
variable {C:Cx} {K:List PK} {E:Env} {H:aa}
theorem AE.freeze {e:Exit} (b:Nat) {el:TypeId} {es:Nat} {rows:List (List IV)} (hl:lk H b=some (.vec el es rows)) (hC:jR b rows H) (qz:mH b rows E) (h:AE C e K (lU b es rows E) (gi b es rows H)):AE C e K E H:=by
 unfold AE at h⊢
 intro φ I a w hs
 obtain⟨φ',I',eG⟩:=hs.freeze hl qz hC
 exact h φ' I' a w eG
theorem AQ.freeze {ds:List (Nat×Nat)} {i:Nat} {rest:List Oper} (b:Nat) {el:TypeId} {es:Nat} {rows:List (List IV)} (hl:lk H b=some (.vec el es rows)) (hC:jR b rows H) (qz:mH b rows E) (h:AQ C ds i rest K (lU b es rows E) (gi b es rows H)):AQ C ds i rest K E H:=by
 unfold AQ at h⊢
 intro ops U h2 φ I a w hs
 obtain⟨φ',I',eG⟩:=hs.freeze hl qz hC
 exact h ops U h2 φ' I' a w eG
end
attribute [go_sem] fN ib gV gW lU mH gi jR
theorem A8 {place:Nat->Option (Nat×Nat)} {E E':Env}:∀(parts:List (Nat×Operand)) (cs:List AV),(∀p∈parts,ev E p.2=ev E' p.2)->fillParts place E cs parts=fillParts place E' cs parts
 |[],_,_=>rfl
 |(i,x)::r,cs,h=>by
  have hx:ev E x=ev E' x:=h (i,x) (by simp)
  have ih:∀cs,fillParts place E cs r=fillParts place E' cs r:=fun cs=>A8 r cs (fun p hp=>h p (by simp[hp]))
  simp only[fillParts,hx,ih]
theorem Mh {P:Program} {t:TypeId} {E E':Env} (parts:List (Nat×Operand)) (h:∀p∈parts,ev E p.2=ev E' p.2):aBuild P t parts E=aBuild P t parts E':=by
 unfold aBuild
 split
 ·split
  ·rw[A8 parts _ h]
  ·rfl
 ·split
  ·rw[A8 parts _ h]
  ·rfl
 ·rfl
theorem MR {P:Program} {E E':Env} {H:aa} (op:Op) (h:∀x∈op.operands,ev E x=ev E' x):eN P E H op=eN P E' H op:=by
 cases op with
 |build t parts=>
  simp only[eN]
  exact Mh _ fun p hp=>h p.2 (by simp only[Op.operands];simp;exact⟨p.1,by simpa using hp⟩)
 |call c=>
  obtain⟨callee,args,ts⟩:=c
  cases callee with
  |builtin b=>
   cases b<;>simp only[eN]<;>split<;>first
    |rfl
    |(
      rename_i x hx _
      rw[h x (
          by
            simp only[Op.operands,Call.operands];obtain rfl:args=#[x]:=by cases args;simpa using hx
            simp)];done)
    |(
      rename_i x t hx ht
      obtain rfl:args=#[x]:=by cases args;simpa using hx
      rw[h x (by simp[Op.operands,Call.operands])])
    |(
      rename_i x y hx
      obtain rfl:args=#[x,y]:=by cases args;simpa using hx
      rw[h x (by simp[Op.operands,Call.operands]),h y (by simp[Op.operands,Call.operands])])
  |value f=>simp only[eN]
  |invoke r m=>simp only[eN]
 |slice t x lo hi mx=>
  cases mx with
  |some _=>simp only[eN]
  |none=>
   cases lo<;>cases hi<;>simp only[eN]<;>first
    |rfl
    |(rename_i l r;rw[h l (by simp[Op.operands]),h r (by simp[Op.operands]),h x (by simp[Op.operands])])
    |(rename_i l;rw[h l (by simp[Op.operands]),h x (by simp[Op.operands])])
 |pick c a b=>simp only[eN];rw[h c (by simp[Op.operands]),h a (by simp[Op.operands]),h b (by simp[Op.operands])]
 |binOp o t x y u=>simp only[eN];rw[h x (by simp[Op.operands]),h y (by simp[Op.operands])]
 |index t x i=>simp only[eN];rw[h x (by simp[Op.operands]),h i (by simp[Op.operands])]
 |indexAddr t x i=>simp only[eN];rw[h x (by simp[Op.operands]),h i (by simp[Op.operands])]
 |move x=>simp only[eN];rw[h x (by simp[Op.operands])]
 |assign x=>simp only[eN];rw[h x (by simp[Op.operands])]
 |unOp o t x=>simp only[eN];rw[h x (by simp[Op.operands])]
 |convert s d x=>simp only[eN];rw[h x (by simp[Op.operands])]
 |nilCheck x=>simp only[eN];rw[h x (by simp[Op.operands])]
 |fieldAddr t x f=>simp only[eN];rw[h x (by simp[Op.operands])]
 |field t x f=>simp only[eN];rw[h x (by simp[Op.operands])]
 |load t x=>simp only[eN];rw[h x (by simp[Op.operands])]
 |extract x i=>simp only[eN];rw[h x (by simp[Op.operands])]
 |_=>simp only[eN]
theorem x6 {E E':Env}:∀(xs:List Operand),(∀x∈xs,ev E x=ev E' x)->dI E xs=dI E' xs
 |[],_=>rfl
 |x::r,h=>by
  simp only[dI]
  rw[h x (by simp),x6 r (fun y hy=>h y (by simp[hy]))]
theorem MT {P:Program} {E E':Env} (op:Op) (h:∀x∈op.operands,ev E x=ev E' x):iK P E op=iK P E' op:=by
 cases op with
 |makeFunc f first cap=>
  cases f with
  |func f=>
   simp only[iK]
   rw[x6 first.toList (fun x hx=>h x (by simp only[Op.operands];simp;exact .inl (by simpa using hx))),x6 cap.toList (fun x hx=>h x (by simp only[Op.operands];simp;exact .inr (by simpa using hx)))]
  |_=>simp only[iK]
 |sliceToArrayPointer t x=>simp only[iK];rw[h x (by simp[Op.operands])]
 |convert s d x=>simp only[iK];rw[h x (by simp[Op.operands])]
 |binOp o t x y u=>simp only[iK];rw[h x (by simp[Op.operands]),h y (by simp[Op.operands])]
 |slice t x lo hi mx=>
  cases lo with
  |some _=>simp only[iK]
  |none=>
   cases hi with
   |none=>simp only[iK]
   |some hh=>
    cases mx with
    |none=>simp only[iK];rw[h x (by simp[Op.operands]),h hh (by simp[Op.operands])]
    |some m=>simp only[iK];rw[h x (by simp[Op.operands]),h hh (by simp[Op.operands]),h m (by simp[Op.operands])]
 |_=>simp only[iK]
theorem Gj {E E':Env} {d:Nat} (o:Option Operand) (h:∀x∈o,ev E x=ev E' x):fL E d o=fL E' d o:=by
 cases o with
 |none=>rfl
 |some x=>simp only[fL];rw[h x rfl]
theorem Mx {P:Program} {E E':Env} {H:aa} {t:TypeId} (lo hi:Option Operand) (U:∀x∈lo,ev E x=ev E' x) (h2:∀x∈hi,ev E x=ev E' x):qf P H t E lo hi=qf P H t E' lo hi:=by
 funext v
 unfold qf
 simp only[Gj lo U,Gj hi h2]
theorem MV {P:Program} {E E':Env} {H:aa} (op:Op) (h:∀x∈op.operands,ev E x=ev E' x):lK P E H op=lK P E' H op:=by
 cases op with
 |slice t x lo hi mx=>
  cases mx with
  |none=>
   simp only[lK]
   rw[h x (by simp[Op.operands]),Mx lo hi (fun y hy=>h y (by cases hy;simp[Op.operands])) (fun y hy=>h y (by cases hy;simp[Op.operands]))]
  |some m=>simp only[lK]
 |indexAddr t x i=>simp only[lK];rw[h x (by simp[Op.operands]),h i (by simp[Op.operands])]
 |binOp op t x y yt=>simp only[lK];rw[h x (by simp[Op.operands])]
 |_=>simp only[lK]
theorem MX {P:Program} {E E':Env} {H:aa} (op:Op) (h:∀x∈op.operands,ev E x=ev E' x):gQ P E H op=gQ P E' H op:=by
 unfold gQ
 rw[MR op h,MT op h,MV op h]
def tmpsOf:List Operand->List Nat
 |[]=>[]
 | .tmp t::r=>t::tmpsOf r
 |_::r=>tmpsOf r
theorem Dh {t:Tmp}:∀(l:List Operand),Operand.tmp t∈l->t∈tmpsOf l
 |[],h=>by cases h
 |x::r,h=>by
  rcases List.mem_cons.1 h with rfl|h
  ·simp[tmpsOf]
  ·have:=Dh r h
   cases x<;>simp[tmpsOf,this]
def looks (ops:List Oper) (o:Oper):List Nat:=
 tmpsOf o.op.operands.toList++match o.guard with
  |some (j,_)=>match(ops[j]?).bind (·.dst)with
   |some d=>[d]
   |none=>[]
  |none=>[]
def canon (n m:Nat):Array Bool:=((List.range m).map fun i=>decide (i<n)).toArray
def yq (ops:List Oper) (n:Nat) (F:List Nat):Bool:=
 decide (n<=ops.length)&&
 (
  (
  List.range n).all fun i=>match ops[i]? with
  |none=>false
  |some o=>(o.after.all fun e=>!Region.binds .any e||decide (e.on<i))&&
   (
    (
    looks ops o).all fun t=>(List.range n).all fun j=>match(ops[j]?).bind (·.dst)with
    |some d=>d !=t||bJ F j||(decide (j<i)&&o.after.any fun e=>Region.binds .any e&&e.on==j)
    |none=>true)&&
   (
    (
    List.range n).all fun j=>match(ops[j]?).bind (·.dst),o.dst with
    |some d,some d'=>d !=d'||j==i
    |_,_=>true))&&
 (n==ops.length||(Region.sinkB .any ops.toArray n&&Region.chainB .any ops.toArray n))&&
 Region.seqB .any ops.toArray (ops.length-n) n (canon n ops.length)
def Hn (ops:List Oper) (n:Nat):Bool:=yq ops n []
def vh (C:Cx) (H:aa) (cv:List (Nat×AV)) (k:Env->Prop):List Oper->List (Nat×Nat)->Nat->Env->Prop
 |[],_,_,E=>k E
 |o::os,ds,i,E=>match gd ds E o.guard with
  |none=>False
  |some G=>match gQ C.P E H o.op with
   |some (sc,v)=>(G=true->sc)/\vh C H cv k os (aZ o.dst i ds) (i+1) (a6 o.dst (wrap o.guard G v) E)
   |none=>match o.op,o.guard with
    | .call {callee:= .value (.func f),args:=xs,.. },none=>match dI E xs.toList,lk cv i with
     |some l,some r=>(gs l=true/\AV.frees (l.map AV.st)=true/\r.free=true/\aP C.P f (l.map AV.st) r)/\vh C H cv k os (aZ o.dst i ds) (i+1) (a6 o.dst r E)
     |_,_=>False
    |_,_=>False
theorem pH (p:Nat->Bool):∀(E:Env) (t:Nat),lk (E.filter fun q=>p q.1) t=if p t then lk E t else none
 |[],t=>by simp[lk]
 |(j,x)::r,t=>by
  rw[List.filter_cons]
  cases hb:Nat.beq j t with
  |true=>
   have:=Nat.eq_of_beq_eq_true hb
   subst this
   cases hp:p j with
   |true=>simp[lk]
   |false=>
    have:=pH p r j
    rw[hp]at this
    simpa[hp]using this
  |false=>
   cases hp:p j with
   |true=>simp only[hp,if_true,lk,hb,cond_false];exact pH p r t
   |false=>simp only[hp,lk,hb,cond_false];exact pH p r t
def fb (listed:Array Bool):Nat->Nat
 |0=>0
 |k+1=>fb listed k+bif listed.getD k true then 0 else 1
theorem FD (listed:Array Bool) (i:Nat):∀k,k<=i->fb (listed.setIfInBounds i true) k=fb listed k
 |0,_=>rfl
 |k+1,h=>by
  simp only[fb]
  rw[FD listed i k (by omega),getD_set_ne true (by omega:i≠k)]
theorem AJ (listed:Array Bool) (i:Nat) (hi:listed.getD i true=false):∀k,i<k->fb (listed.setIfInBounds i true) k+1=fb listed k
 |0,h=>by omega
 |k+1,h=>by
  simp only[fb]
  by_cases uO:i=k
  ·subst uO
   have ag:i<listed.size:=by
    rcases Nat.lt_or_ge i listed.size with h'|h'
    ·exact h'
    ·simp[Array.getElem?_eq_none h']at hi
   rw[FD listed i i (Nat.le_refl _)]
   have e1:(listed.setIfInBounds i true).getD i true=true:=by simp[ag]
   rw[e1,hi]
   rfl
  ·rw[getD_set_ne true (by omega:i≠k)]
   have:=AJ listed i hi k (by omega)
   omega
theorem xP (listed:Array Bool):∀k,fb listed k=0->∀i,i<k->listed.getD i true=true
 |0,_,i,h=>by omega
 |k+1,h,i,hi=>by
  simp only[fb]at h
  by_cases uO:i=k
  ·subst uO
   cases hq:listed.getD i true with
   |true=>rfl
   |false=>rw[hq]at h;simp at h
  ·exact xP listed k (by omega) i (by omega)
theorem AI (listed:Array Bool):∀k,0<fb listed k->∃i,i<k/\listed.getD i true=false/\∀j,j<i->listed.getD j true=true
 |0,h=>by simp[fb]at h
 |k+1,h=>by
  rcases Nat.eq_zero_or_pos (fb listed k)with h0|h0
  ·simp only[fb,h0]at h
   refine⟨k,by omega,?_,xP listed k h0⟩
   cases hq:listed.getD k true with
   |true=>rw[hq]at h;simp at h
   |false=>rfl
  ·obtain⟨i,U,h2,h3⟩:=AI listed k h0
   exact⟨i,by omega,h2,h3⟩
structure nA (ops:List Oper) (n:Nat) (F:List Nat):Prop where
 le:n<=ops.length
 back:∀i o,i<n->ops[i]?=some o->∀e∈o.after,Region.binds .any e=true->e.on<i
 pO:∀i o,i<n->ops[i]?=some o->∀t∈looks ops o,∀j d,j<n->(ops[j]?).bind (·.dst)=some d->d=t->bJ F j=false->j<i/\∃e∈o.after,Region.binds .any e=true/\e.on=j
 F7:∀i j d,i<n->j<n->(ops[i]?).bind (·.dst)=some d->(ops[j]?).bind (·.dst)=some d->j=i
 tail:n=ops.length\/(Region.sinkB .any ops.toArray n=true/\Region.chainB .any ops.toArray n=true)
 seq:Region.seqB .any ops.toArray (ops.length-n) n (canon n ops.length)=true
theorem Ho {ops:List Oper} {n:Nat} {F:List Nat} (h:yq ops n F=true):nA ops n F:=by
 simp only[yq,Bool.and_eq_true,decide_eq_true_eq,Bool.or_eq_true,beq_iff_eq]at h
 obtain⟨⟨⟨hle,gG⟩,ht⟩,hs⟩:=h
 have key:∀i o,i<n->ops[i]?=some o->((o.after.all fun e=>!Region.binds .any e||decide (e.on<i))=true/\
   (
    (
    looks ops o).all fun t=>(List.range n).all fun j=>match(ops[j]?).bind (·.dst)with
    |some d=>d !=t||bJ F j||(decide (j<i)&&o.after.any fun e=>Region.binds .any e&&e.on==j)
    |none=>true)=true)/\((List.range n).all fun j=>match(ops[j]?).bind (·.dst),o.dst with
    |some d,some d'=>d !=d'||j==i
    |_,_=>true)=true:=fun i o hi ho=>by
  have:=List.all_eq_true.1 gG i (List.mem_range.2 hi)
  rw[ho]at this
  simpa only[Bool.and_eq_true]using this
 refine⟨hle,fun i o hi ho e he hb=>?_,fun i o hi ho t ht j d hj hd kr hF=>?_,fun i j d hi hj U h2=>?_,ht.imp id id,hs⟩
 ·have:=Array.all_eq_true'.1 (key i o hi ho).1.1 e he
  simpa[hb]using this
 ·have U:=List.all_eq_true.1 (key i o hi ho).1.2 t ht
  have h2:=List.all_eq_true.1 U j (List.mem_range.2 hj)
  rw[hd]at h2
  subst kr
  simp only[bne_self_eq_false,hF,Bool.false_or,Bool.and_eq_true,decide_eq_true_eq]at h2
  obtain⟨h3,h4⟩:=h2
  obtain⟨e,he,hb⟩:=Array.any_eq_true'.1 h4
  simp only[Bool.and_eq_true,beq_iff_eq]at hb
  exact⟨h3,e,he,hb.1,hb.2⟩
 ·cases ho:ops[i]? with
  |none=>rw[ho]at U;cases U
  |some o=>
   rw[ho]at U
   simp only[Option.bind_some]at U
   have h3:=List.all_eq_true.1 (key i o hi ho).2 j (List.mem_range.2 hj)
   rw[h2,U]at h3
   simpa using h3
theorem Po {ops:List Oper} {n:Nat} (h:Hn ops n=true):nA ops n []:=Ho h
def nu (ops:List Oper) (n:Nat) (listed:Array Bool) (t:Nat):Bool:=
 (
  List.range n).all fun j=>match(ops[j]?).bind (·.dst)with
  |some d=>d !=t||listed.getD j false
  |none=>true
theorem wS {ops:List Oper} {n:Nat} {listed:Array Bool} {t:Nat}:nu ops n listed t=true↔∀j d,j<n->(ops[j]?).bind (·.dst)=some d->d=t->listed.getD j false=true:=by
 unfold nu
 rw[List.all_eq_true]
 constructor
 ·intro h j d hj hd kr
  have:=h j (List.mem_range.2 hj)
  rw[hd]at this
  subst kr
  simpa using this
 ·intro h j hj
  cases hd:(ops[j]?).bind (·.dst)with
  |none=>simp
  |some d=>
   simp only[Bool.or_eq_true,bne_iff_ne,ne_eq]
   by_cases kr:d=t
   ·exact .inr (h j d (List.mem_range.1 hj) hd kr)
   ·exact .inl kr
theorem St.ud {B:Bs} {φ:al} {I:Nat->Prop} {H:aa} {w:World} (h:St B φ I H w):St B φ I H {w with drawn:=w.drawn+1}:=by
 have k:Ext (fun _=>False) w {w with drawn:=w.drawn+1}:=⟨Nat.le_refl _,fun _ _ _=>rfl,fun _ c _ _ h=>⟨c,_,h,rfl⟩,rfl,rfl,rfl⟩
 exact⟨⟨h.real.bq,fun b o p hl hp=>Ob.jM (w:=w) (w':={w with drawn:=w.drawn+1}) (fun _ _=>rfl) (fun _ h=>h) (fun _ _ h=>h) (fun _ _ _ _ hs=>k.shaped (fun h=>h) hs) (fun _ _=>rfl) (h.real.own b o p hl hp),h.real.off,h.real.inj,h.real.bO⟩,h.ext.trans k (fun g hf=>hf.elim),h.bU,h.c8,h.cj,h.cD⟩
theorem bt.ud (w:World) (φ:al) (I:Nat->Prop):bt w φ I {w with drawn:=w.drawn+1} φ I:=by
 have k:Ext (fun _=>False) w {w with drawn:=w.drawn+1}:=⟨Nat.le_refl _,fun _ _ _=>rfl,fun _ c _ _ h=>⟨c,_,h,rfl⟩,rfl,rfl,rfl⟩
 exact⟨fun _ _=>rfl,fun _ h=>h,fun _ _ h=>h,fun _ _ _ _ hs=>k.shaped (fun h=>h) hs⟩
def Aj (C:Cx) (H:aa) (ops:List Oper) (n:Nat) (En:Env) (i:Nat) (o:Oper):Prop:=
 ∃E' ds G val,(∀j d,lk ds j=some d->(ops[j]?).bind (·.dst)=some d)/\gd ds E' o.guard=some G/\(∀t,(∀j,i<=j->j<n->(ops[j]?).bind (·.dst)≠some t)->lk E' t=lk En t)/\
  (∀d,o.dst=some d->lk En d=some val)/\(∀j,ds.find? (fun q=>q.1==j)=ds.find? (fun q=>q.1==j))/\
  (
   (
   ∃sc v,gQ C.P E' H o.op=some (sc,v)/\(G=true->sc)/\val=wrap o.guard G v)\/
   (o.guard=none/\∃f xs aV l,o.op= .call {callee:= .value (.func f),args:=xs,argTypes:=aV}/\dI E' xs.toList=some l/\gs l=true/\AV.frees (l.map AV.st)=true/\val.free=true/\aP C.P f (l.map AV.st) val))
theorem LK {C:Cx} {H:aa} {cv:List (Nat×AV)} {k:Env->Prop} {ops:List Oper} {n:Nat} (ai:nA ops n []):∀(rest:List Oper) (ds:List (Nat×Nat)) (i:Nat) (E:Env),(∀m,rest[m]?=(ops.take n)[i+m]?)->
  (∀j d,lk ds j=some d->(ops[j]?).bind (·.dst)=some d)->vh C H cv k rest ds i E->
  ∃En,k En/\(∀t,(∀j,i<=j->j<n->(ops[j]?).bind (·.dst)≠some t)->lk E t=lk En t)/\(∀m o,rest[m]?=some o->Aj C H ops n En (i+m) o)
 |[],ds,i,E,_,_,h=>⟨E,h,fun _ _=>rfl,fun m o hm=>by simp at hm⟩
 |o::os,ds,i,E,hr,aT,h=>by
  have h0:=hr 0
  simp only[List.getElem?_cons_zero,Nat.add_zero]at h0
  have cL:i<n:=by
   rcases Nat.lt_or_ge i n with h'|h'
   ·exact h'
   ·rw[List.getElem?_eq_none (by rw[List.length_take];omega)]at h0;cases h0
  have iq:ops[i]?=some o:=by rw[List.getElem?_take,if_pos cL]at h0;exact h0.symm
  have l8:∀m,os[m]?=(ops.take n)[i+1+m]?:=fun m=>by
   have:=hr (m+1)
   rw[List.getElem?_cons_succ]at this
   rw[this];congr 1;omega
  have sa:∀j d,lk (aZ o.dst i ds) j=some d->(ops[j]?).bind (·.dst)=some d:=fun j d hj=>by
   unfold aZ at hj
   split at hj
   ·rename_i d' eg
    simp only[lk]at hj
    cases hb:Nat.beq i j with
    |true=>
     rw[hb]at hj
     have:=Nat.eq_of_beq_eq_true hb
     subst this
     simp only[cond_true,Option.some.injEq]at hj
     subst hj
     rw[iq];exact eg
    |false=>rw[hb]at hj;exact aT j d hj
   ·exact aT j d hj
  have fin:∀(G:Bool) (val:AV),gd ds E o.guard=some G->vh C H cv k os (aZ o.dst i ds) (i+1) (a6 o.dst val E)->
    (
     (
     ∃sc v,gQ C.P E H o.op=some (sc,v)/\(G=true->sc)/\val=wrap o.guard G v)\/
     (o.guard=none/\∃f xs aV l,o.op= .call {callee:= .value (.func f),args:=xs,argTypes:=aV}/\dI E xs.toList=some l/\gs l=true/\AV.frees (l.map AV.st)=true/\val.free=true/\aP C.P f (l.map AV.st) val))->
    ∃En,k En/\(∀t,(∀j,i<=j->j<n->(ops[j]?).bind (·.dst)≠some t)->lk E t=lk En t)/\(∀m o',(o::os)[m]?=some o'->Aj C H ops n En (i+m) o'):=by
   intro G val hG hv BI
   obtain⟨En,U,h2,h3⟩:=LK ai os _ (i+1) _ l8 sa hv
   have ld:∀t,(∀j,i<=j->j<n->(ops[j]?).bind (·.dst)≠some t)->lk E t=lk En t:=fun t ht=>by
    rw[<-h2 t (fun j hj e7=>ht j (by omega) e7)]
    cases hd:o.dst with
    |none=>rfl
    |some d=>
     have aR:d≠t:=fun e=>ht i (Nat.le_refl _) cL (by rw[iq,<-e];exact hd)
     have:Nat.beq d t=false:=by
      cases hq:Nat.beq d t with
      |false=>rfl
      |true=>exact absurd (Nat.eq_of_beq_eq_true hq) aR
     simp[a6,lk,this]
   refine⟨En,U,ld,fun m o' hm=>?_⟩
   cases m with
   |succ m=>
    rw[List.getElem?_cons_succ]at hm
    have:=h3 m o' hm
    rw[show i+(m+1)=i+1+m by omega];exact this
   |zero=>
    simp only[List.getElem?_cons_zero,Option.some.injEq]at hm
    subst hm
    refine⟨E,ds,G,val,aT,hG,ld,fun d hd=>?_,fun _=>rfl,BI⟩
    rw[<-h2 d (fun j hj e7 PJ=>?_)]
    ·rw[hd];simp[a6,lk]
    ·have:=ai.F7 i j d cL e7 (by rw[iq];exact hd) PJ
     omega
  simp only[vh]at h
  split at h
  ·exact h.elim
  ·rename_i G hG
   split at h
   ·rename_i sc v hv
    exact fin G _ hG h.2 (.inl ⟨sc,v,hv,h.1,rfl⟩)
   ·split at h
    ·rename_i f xs aV lq BZ
     split at h
     ·rename_i l r hl WB
      obtain⟨⟨U,h2,h3,h4⟩,h5⟩:=h
      exact fin G r hG h5 (.inr ⟨BZ,f,xs,_,l,lq,hl,U,h2,h3,h4⟩)
     ·exact h.elim
    ·exact h.elim
theorem Ki {ops:List Oper} {n:Nat} {F:List Nat} (ai:nA ops n F) {listed:Array Bool} (inv:HeadInv .any ops.toArray n listed) {i:Nat} (hi:i<n) (pw:listed.getD i true=false):∀j∈Region.ready .any ops.toArray listed,j<n:=by
 intro j hj
 rcases Nat.lt_or_ge j n with h|h
 ·exact h
 ·exfalso
  rcases ai.tail with he|⟨hs,hc⟩
  ·obtain⟨_,o,ho,_⟩:=mem_ready.1 hj
   have:=(Array.getElem?_eq_some_iff.1 ho).1
   simp at this;omega
  ·have uR:j<ops.toArray.size:=by
    obtain⟨_,o,ho,_⟩:=mem_ready.1 hj
    exact(Array.getElem?_eq_some_iff.1 ho).1
   exact tail_waits hs hc (by omega) inv _ i rfl hi pw j h hj
theorem Hp {C:Cx} {H:aa} {ops:List Oper} {n:Nat} {En:Env} {Q:Exit->Act->World->Prop} (ai:nA ops n []) (gk:bl C.n ops=true) (hf:∀i o,i<n->ops[i]?=some o->Aj C H ops n En i o)
  (HZ:∀φ I a w,bn C φ I En H a w->fY C.P ops.toArray Q (ops.drop n) a w):
  ∀(c:Nat) (listed:Array Bool) (a:Act) (w:World),fb listed n=c->HeadInv .any ops.toArray n listed->
   (∃φ I,bn C φ I (En.filter fun q=>nu ops n listed q.1) H a w)->nt C.P .any ops.toArray Q (c+(ops.length-n)) listed a w
 |0,listed,a,w,hc,inv,⟨φ,I,hs⟩=>by
  have gG:=xP listed n hc
  have aO:listed.size=ops.length:=by simpa using inv.size
  have BH:listed=canon n ops.length:=by
   apply Array.ext
   ·simp[canon,aO]
   ·intro i U h2
    simp only[canon,List.getElem_toArray,List.getElem_map,List.getElem_range]
    by_cases hi:i<n
    ·have:=gG i hi
     simp[U]at this
     simp[hi,this]
    ·have:=inv.tail i (by omega) (by simpa using(by omega:i<ops.length))
     simp[U]at this
     simp[hi,this]
  rw[Nat.zero_add]
  have vl:=ai.seq
  rw[<-BH]at vl
  have U:=Et (P:=C.P) (md:= .any) (ops:=ops.toArray) (Q:=Q) (ops.drop n) n listed a w (fun j=>by simp[List.getElem?_drop]) (by simpa using vl) (HZ φ I a w (by
   refine⟨hs.bD,hs.bE,fun t x hx=>hs.env t x ?_,hs.st⟩
   rw[pH]
   rw[if_pos (wS.2 fun j d hj _ _=>by
    have U:=gG j hj
    have ag:j<listed.size:=by rw[aO];have:=ai.le;omega
    simp[ag]at U⊢;exact U)]
   exact hx))
  simpa using U
 |c+1,listed,a,w,hc,inv,⟨φ,I,hs⟩=>by
  obtain⟨i0,uM,vr,B7⟩:=AI listed n (by omega)
  have aO:listed.size=ops.length:=by simpa using inv.size
  have hle:=ai.le
  have vb:i0∈Region.ready .any ops.toArray listed:=by
   rw[mem_ready]
   have ag:i0<ops.length:=by omega
   refine⟨vr,ops[i0],by simp[ag],fun e he hb=>?_⟩
   have j2:=ai.back i0 ops[i0] uM (List.getElem?_eq_getElem ag) e he hb
   have U:=B7 e.on j2
   have B4:e.on<listed.size:=by omega
   simp[B4]at U⊢;exact U
  rw[show c+1+(ops.length-n)=(c+(ops.length-n))+1 by omega]
  refine⟨fun h=>(by rw[h]at vb;cases vb),fun i hi=>?_⟩
  have cL:=Ki ai inv uM vr i hi
  obtain⟨pw,o,ho,gG⟩:=mem_ready.1 hi
  have fl:ops[i]?=some o:=by simpa using ho
  have Qs:listed.getD i true=false:=pw
  have y5:=inv.set hi cL
  have nX:fb (listed.setIfInBounds i true) n=c:=by have:=AJ listed i Qs n cL;omega
  obtain⟨E',ds,G,val,aT,hG,O8,jv,_,BI⟩:=hf i o cL fl
  have uX:∀t∈looks ops o,nu ops n listed t=true/\lk E' t=lk En t:=fun t ht=>by
   refine⟨wS.2 fun j d hj hd kr=>?_,O8 t fun j iS e7 l5=>?_⟩
   ·obtain⟨_,e,he,hb,u6⟩:=ai.pO i o cL fl t ht j d hj hd kr rfl
    rw[<-u6];exact gG e he hb
   ·have:=(ai.pO i o cL fl t ht j t e7 l5 rfl rfl).1
    omega
  have fS:∀t∈looks ops o,lk (En.filter fun q=>nu ops n listed q.1) t=lk E' t:=fun t ht=>by
   rw[pH,if_pos (uX t ht).1,(uX t ht).2]
  have k9:∀x∈o.op.operands,ev (En.filter fun q=>nu ops n listed q.1) x=ev E' x:=fun x hx=>by
   cases x with
   |tmp t=>simp only[ev];exact fS t (by simp only[looks];exact List.mem_append.2 (.inl (Dh _ (by simpa using hx))))
   |_=>rfl
  have la:gd ds (En.filter fun q=>nu ops n listed q.1) o.guard=some G:=by
   rw[<-hG]
   unfold gd
   cases hg:o.guard with
   |none=>rfl
   |some p=>
    obtain⟨j,want⟩:=p
    simp only
    cases hj:lk ds j with
    |none=>rfl
    |some d=>
     simp only
     rw[fS d (by simp only[looks,hg];rw[aT j d hj];simp)]
  have QC:=um (ops:=ops.toArray) hs.env (fun j d hj=>by simpa using aT j d hj) la
  have Pk:∀x,o.dst=some x->x<C.n:=fun x hx=>by
   exact qs gk (List.mem_of_getElem? fl) x hx
  have next:∀(φ':al) (I':Nat->Prop) (w':World) (u:Value),St C.B φ' I' H w'->bt w φ I w' φ' I'->AV.den w' φ' I' val u->nt C.P .any ops.toArray Q (c+(ops.length-n)) (listed.setIfInBounds i true) (a.put o.dst u) w':=by
   intro φ' I' w' u hS hk a_
   refine Hp ai gk hf HZ c _ _ _ nX y5 ⟨φ',I',?_⟩
   have lr:=hs.put (d:=o.dst) (v:=val) (u:=u) hS hk Pk a_
   refine⟨lr.bD,lr.bE,fun t x hx=>?_,hS⟩
   rw[pH]at hx
   split at hx
   ·rename_i sD
    by_cases kr:o.dst=some t
    ·rw[jv t kr]at hx
     cases hx
     exact lr.env t val (by rw[kr];simp[a6,lk])
    ·refine lr.env t x ?_
     have aR:lk (a6 o.dst val (En.filter fun q=>nu ops n listed q.1)) t=lk (En.filter fun q=>nu ops n listed q.1) t:=by
      cases hd:o.dst with
      |none=>rfl
      |some d=>
       have:Nat.beq d t=false:=by
        cases hq:Nat.beq d t with
        |false=>rfl
        |true=>exact absurd (by rw[hd,Nat.eq_of_beq_eq_true hq]) kr
       simp[a6,lk,this]
     rw[aR,pH,if_pos (wS.2 fun j d hj hd eZ=>?_)]
     ·exact hx
     ·have U:=wS.1 sD j d hj hd eZ
      by_cases iS:i=j
      ·subst iS
       rw[fl]at hd
       exact absurd (by rw[<-eZ];exact hd) kr
      ·rwa [getD_set_ne false iS]at U
   ·cases hx
  unfold ml
  rw[ho]
  simp only
  rw[QC]
  rcases BI with⟨sc,v,r7,ay,rfl⟩|⟨BZ,f,xs,aV,l,lq,hl,du,e6,BW,dT⟩
  ·rw[<-MX o.op k9]at r7
   cases G with
   |true=>
    obtain⟨u,hu,a_⟩:=xw hs.env hs.st.real r7 (ay rfl)
    rw[if_pos rfl]
    refine Or.inl ?_
    unfold Oper.wp
    rw[hu,Oper.upon_value]
    exact next φ I w u hs.st (bt.refl _ _ _) (Eu a_)
   |false=>
    rw[if_neg (by simp)]
    refine next φ I w undef hs.st (bt.refl _ _ _) ?_
    cases hg:o.guard with
    |none=>rw[hg]at la;simp[gd]at la
    |some p=>exact Ev
  ·have OS:G=true:=by rw[BZ]at la;simp[gd]at la;exact la
   subst OS
   rw[if_pos rfl]
   have aD:dI (En.filter fun q=>nu ops n listed q.1) xs.toList=some l:=by
    rw[<-hl]
    exact x6 _ fun x hx=>k9 x (by rw[lq];simp only[Op.operands,Call.operands];simp;exact .inr (by simpa using hx))
   have a_:=AV.o8 (φ':=fun _=>none) _ _ e6 (k5 hs.env _ _ aD du)
   have aE:(execOp a.eval o).run C.P w= .ok (.enter f (xs.toList.map a.eval).toArray) w:=by
    have:execOp a.eval o=callFunc f (#[]++xs.map a.eval++#[]):=by simp only[execOp,lq];rfl
    rw[this,te dT.gh]
    cases xs
    simp
   refine Or.inl ?_
   unfold Oper.wp
   rw[aE,Oper.upon_enter]
   refine(dT.run w (fun _=>none) I _ a_ (zJ hs.st.real) hs.st.vk).mono fun e w' ⟨r,H',φ',I',v,hr,he,bR,hS⟩=>?_
   subst he
   obtain⟨rfl,rfl⟩:=hr
   obtain⟨jU,hk⟩:=hs.st.EP hS
   exact next φ I' w' v jU hk (AV.o7 r v BW bR)
section
variable {C:Cx} {K:List PK} {E:Env} {H:aa} {p:List Nat}
theorem AP.draw {id:Nat} {ops:List Oper} (n:Nat) (cv:List (Nat×AV)) (hm:C.P.follows .mixedOrders=true) (hc:bS C.fn p= .region id ops.toArray true) (ai:bl C.n ops=true) (hB:Hn ops n=true)
  (h:vh C H cv (fun En=>vq C K (ops.drop n) [] n En H) (ops.take n) [] 0 E):AP C p K E H:=by
 unfold AP
 rw[hc]
 intro φ I a w hs
 have ca:=Po hB
 obtain⟨En,hk,ez,hf⟩:=LK ca (ops.take n) [] 0 E (fun m=>by rw[Nat.zero_add]) (fun j d hj=>by simp[lk]at hj) h
 refine L0 hm (AW ai) ?_
 have nX:∀k,fb (Array.replicate ops.length false) k=min k ops.length:=by
  intro k
  induction k with
  |zero=>simp[fb]
  |succ k ih=>
   simp only[fb,ih]
   by_cases hk:k<ops.length
   ·simp[hk];omega
   ·simp[hk];omega
 have CO:HeadInv .any ops.toArray n (Array.replicate ops.length false):=
  ⟨by simp,fun j oj _ hl=>(by rw[getD_replicate_false]at hl;cases hl),fun t _ ht=>getD_in (by simpa using ht) (getD_replicate_false _ _)⟩
 have hle:=ca.le
 have:=Hp (C:=C) (H:=H) (En:=En) (Q:=dz C (K.map (PK.ki C.fn))) ca ai (fun i o hi ho=>by
   have:=hf i o (by rw[List.getElem?_take,if_pos hi];exact ho)
   rwa [Nat.zero_add]at this) (fun φ I a w hs=>by
   have BS:bl C.n (ops.drop n)=true:=by
    rw[bl,List.all_eq_true]
    exact fun o ho=>List.all_eq_true.1 ai o (List.mem_of_mem_drop ho)
   have fy:=tt (C:=C) (K:=K.map (PK.ki C.fn)) (ops.drop n) [] n En H BS (tu C K _ _ _ _ _ hk)
   exact fy ops.toArray (fun j d hj=>by simp[lk]at hj) (fun j o hj=>by rw[List.getElem?_drop]at hj;simp[hj]) φ I a w hs)
  n (Array.replicate ops.length false) a {w with drawn:=w.drawn+1} (by rw[nX];omega) CO ⟨φ,I,?_⟩
 ·simp only[List.size_toArray]
  rwa [show n+(ops.length-n)=ops.length by omega]at this
 ·refine⟨hs.bD,hs.bE,fun t x hx=>?_,hs.st.ud⟩
  rw[pH]at hx
  split at hx
  ·rename_i sD
   rw[<-ez t (fun j _ hj hd=>by
    have:=wS.1 sD j t hj hd rfl
    rw[getD_replicate_false]at this;cases this)]at hx
   obtain⟨u,hu,hd⟩:=hs.env t x hx
   exact⟨u,hu,(bt.ud w φ I).den hd⟩
  ·cases hx
end
attribute [go_sem] vh List.drop List.take
end Go.AL
end
section
namespace Go.AL
open Go Go.ChangeShapes Go.WideShapes
def Typed (P:Program):Nat->TypeId->List IV->Prop
 |0,_,_=>False
 |n+1,t,xs=>match P.underlying t with
  |some .bool=>∃b,xs=[.v (.bool b)]
  |some (.int k)=>∃i,xs=[.v (.int k i)]/\(Lit.int k i).wf=true
  |some (.float k)=>∃b,xs=[.v (.float k b)]/\(Lit.float k b).wf=true
  |some .string=>∃s:ByteArray,xs=[.v (.string s)]/\s.size<=maxLen
  |some (.pointer e)=>xs=[.v (.pointer none)]\/∃cs,xs=[.pt cs]/\Typed P n e cs
  |some (.slice e)=>∃rows,xs=[.sl (P.cellsOf e) rows]/\rows.length<=maxLen/\∀r∈rows,Typed P n e r
  |some (.struct fs)=>xs.length=P.cellsOf t/\∀(i:Nat) (f:Field),fs.toList[i]?=some f->Typed P n f.type ((xs.drop f.offset).take (P.cellsOf f.type))
  |some (.array m e)=>xs.length=P.cellsOf t/\∀i,i<m->Typed P n e ((xs.drop (i*P.cellsOf e)).take (P.cellsOf e))
  |_=>False
def sM (P:Program) (T:List TypeId) (t:TypeId):Bool:=
 match P.underlying t with
 |some .bool|some (.int _)|some (.float _)|some .string=>P.cellsOf t==1
 |some (.pointer e)=>P.cellsOf t==1&&T.contains e&&P.cellsOf e !=0
 |some (.slice e)=>P.cellsOf t==1&&T.contains e&&P.cellsOf e !=0
 |some (.struct fs)=>fs.toList.all (fun f=>T.contains f.type)&&P.cellsOf t==(fs.toList.map fun f=>P.cellsOf f.type).sum&&
   (List.range fs.toList.length).all fun j=>match fs.toList[j]? with|some f=>f.offset==((fs.toList.take j).map fun f=>P.cellsOf f.type).sum|none=>true
 |some (.array n e)=>T.contains e&&P.cellsOf t==n*P.cellsOf e
 |_=>false
theorem FP {w:World} {I:Nat->Prop}:∀(xs ys:List IV) (us vs:List Value),IV.ab w I xs us->IV.ab w I ys vs->IV.ab w I (xs++ys) (us++vs)
 |[],_,_,_,h,h'=>by simp only[IV.ab]at h;subst h;exact h'
 |x::xs,ys,us,vs,h,h'=>by
  simp only[IV.ab]at h
  obtain⟨u,ao,rfl,U,h2⟩:=h
  simp only[List.cons_append,IV.ab]
  exact⟨u,ao++vs,rfl,U,FP xs ys ao vs h2 h'⟩
theorem xU {w:World} {I:Nat->Prop}:∀(xs:List IV) (us:List Value),IV.ab w I xs us->xs.length=us.length
 |[],_,h=>by simp only[IV.ab]at h;subst h;rfl
 |x::xs,us,h=>by
  simp only[IV.ab]at h
  obtain⟨u,ao,rfl,_,h2⟩:=h
  simp[xU xs ao h2]
theorem pieces {α:Type} {w:World} {I:Nat->Prop} {len:α->Nat} {Q:α->List IV->Prop}:∀(l:List α) (cs:List Value),cs.length=(l.map len).sum->
  (∀j a,l[j]?=some a->∃ys,IV.ab w I ys ((cs.drop ((l.take j).map len).sum).take (len a))/\Q a ys)->
  ∃xs,IV.ab w I xs cs/\∀j a,l[j]?=some a->Q a ((xs.drop ((l.take j).map len).sum).take (len a))
 |[],cs,hl,_=>by
  have:cs=[]:=List.eq_nil_of_length_eq_zero (by simpa using hl)
  subst this
  exact⟨[],rfl,fun j a h=>by simp at h⟩
 |a::l,cs,hl,h=>by
  simp only[List.map_cons,List.sum_cons]at hl
  obtain⟨ys,U,h2⟩:=h 0 a rfl
  simp only[List.take_zero,List.map_nil,List.sum_nil,List.drop_zero]at U
  obtain⟨xs,h3,h4⟩:=pieces (w:=w) (I:=I) (len:=len) (Q:=Q) l (cs.drop (len a)) (by simp;omega) (fun j b hb=>by
   obtain⟨zs,hz,hq⟩:=h (j+1) b (by simpa using hb)
   refine⟨zs,?_,hq⟩
   simpa[List.drop_drop,Nat.add_comm]using hz)
  have HH:ys.length=len a:=by
   rw[xU _ _ U];simp;omega
  refine⟨ys++xs,?_,fun j b hb=>?_⟩
  ·have:=FP _ _ _ _ U h3
   rwa [List.take_append_drop]at this
  ·cases j with
   |zero=>
    simp only[List.getElem?_cons_zero,Option.some.injEq]at hb
    subst hb
    simp only[List.take_zero,List.map_nil,List.sum_nil,List.drop_zero]
    rw[<-HH,List.take_left];exact h2
   |succ j=>
    simp only[List.getElem?_cons_succ]at hb
    simp only[List.take_succ_cons,List.map_cons,List.sum_cons]
    rw[<-List.drop_drop,<-HH,List.drop_left]
    exact h4 j b hb
theorem IP {α:Type} {R:Nat->α->Prop}:∀(n:Nat),(∀i,i<n->∃a,R i a)->∃l:List α,l.length=n/\∀i a,l[i]?=some a->R i a
 |0,_=>⟨[],rfl,fun i a h=>by simp at h⟩
 |n+1,h=>by
  obtain⟨l,hl,hr⟩:=IP n (fun i hi=>h i (by omega))
  obtain⟨a,ha⟩:=h n (by omega)
  refine⟨l++[a],by simp[hl],fun i b hb=>?_⟩
  rcases Nat.lt_trichotomy i n with hi|hi|hi
  ·rw[List.getElem?_append_left (by omega)]at hb;exact hr i b hb
  ·subst hi
   rw[List.getElem?_append_right (by omega),hl]at hb
   simp at hb;subst hb;exact ha
  ·rw[List.getElem?_eq_none (by simp;omega)]at hb;cases hb
theorem Ku {w:World} {g es:Nat}:∀(ae:List (List Value)) (off:Nat),(∀i vs,ae[i]?=some vs->vs.length=es/\cB w g (off+i*es) vs)->cB w g off ae.flatten
 |[],_,_=>fun j u h=>by simp at h
 |vs::ae,off,h=>by
  obtain⟨hl,h0⟩:=h 0 vs rfl
  simp only[Nat.zero_mul,Nat.add_zero]at h0
  have hr:=Ku ae (off+es) (fun i us hu=>by
   obtain⟨U,h2⟩:=h (i+1) us (by simpa using hu)
   refine⟨U,?_⟩
   rw[Nat.add_assoc,Nat.add_comm es,<-Nat.succ_mul];exact h2)
  intro j u hu
  rw[List.flatten_cons]at hu
  rcases Nat.lt_or_ge j es with hj|hj
  ·rw[List.getElem?_append_left (by omega)]at hu
   exact h0 j u hu
  ·rw[List.getElem?_append_right (by omega),hl]at hu
   have:=hr (j-es) u hu
   rwa [Nat.add_assoc,Nat.add_sub_cancel' hj]at this
theorem Nq {w:World} {b n:Nat} {a:Addr} {cs:List Value} (h:w.cells? b a n=some cs):
  cs.length=n/\∀(i:Nat) u,cs[i]?=some u->w.cell? (a.add i)=some u:=by
 obtain⟨_,U,h2⟩:=World.cells?_some h
 refine⟨U,fun i u hu=>?_⟩
 rw[h2 i (by rw[<-U];exact(List.getElem?_eq_some_iff.1 hu).1)]
 exact hu
theorem Az {w:World} {b n:Nat} {a:Addr} {cs:List Value} (h:w.cells? b a n=some cs) (hn:0<n):
  a=⟨a.block,a.off,none⟩/\a.block<w.heap.size/\cB w a.block a.off cs:=by
 obtain⟨hl,hc⟩:=Nq h
 have h0:∃u,cs[0]?=some u:=⟨cs[0]'(by omega),List.getElem?_eq_getElem _⟩
 obtain⟨u,hu⟩:=h0
 have hs:=hc 0 u hu
 have qT:a.spot=none:=by
  simp only[Addr.add,if_true,World.cell?]at hs
  split at hs
  ·split at hs
   ·cases hs
   ·rename_i hn;simpa using hn
  ·cases hs
 have ea:a=⟨a.block,a.off,none⟩:=by
  obtain⟨x,y,z⟩:=a
  simp only at qT
  subst qT;rfl
 refine⟨ea,World.cells?_block h hn,fun j u hu=>?_⟩
 have:=hc j u hu
 unfold Addr.add at this
 split at this
 ·rename_i hj;subst hj;rw[Nat.add_zero,<-ea];exact this
 ·exact this
section
variable {H:Type} {enc:TypeId×Value->H} {P:Program} {w:World}
theorem opens {T:List TypeId} (hT:T.all (sM P T)=true):∀(fuel:Nat) (t:TypeId) (cs:List Value) (x:DataW H×List MemPlace),T.contains t=true->
  DataW.trod enc P w 0 (fun _=>true) true fuel t cs=some x->cs.length=P.cellsOf t/\∃xs,IV.ab w (fun g=>g<w.heap.size) xs cs/\Typed P fuel t xs:=by
 intro fuel
 induction fuel with
 |zero=>intro t cs x _ h;simp[DataW.trod]at h
 |succ n ih=>
  intro t cs x ht h
  have hk:sM P T t=true:=by
   rw[List.all_eq_true]at hT
   exact hT t (by simpa using ht)
  unfold sM at hk
  have one:∀(v:Value),v.oneCell'=true->IV.ab w (fun g=>g<w.heap.size) [.v v] [v]:=fun v hv=>by
   simp only[IV.ab,IV.den];exact⟨v,[],rfl,⟨rfl,hv⟩,rfl⟩
  split at hk
  ·rename_i hu
   obtain⟨b,rfl,rfl⟩:=DataW.trod_bool hu h
   refine⟨by simpa using(by simpa using hk:P.cellsOf t=1).symm,[.v (.bool b)],one _ rfl,?_⟩
   simp only[Typed,hu];exact⟨b,rfl⟩
  ·rename_i k hu
   obtain⟨b,rfl,rfl,hw⟩:=DataW.trod_int hu h
   refine⟨by simpa using(by simpa using hk:P.cellsOf t=1).symm,[.v (.int k b)],one _ rfl,?_⟩
   simp only[Typed,hu];exact⟨b,rfl,hw⟩
  ·rename_i k hu
   unfold DataW.trod at h
   rw[hu]at h
   have hx:∃b,cs=[.float k b]/\(Lit.float k b).wf=true:=by split at h<;>simp_all
   obtain⟨b,rfl,hw⟩:=hx
   refine⟨by simpa using(by simpa using hk:P.cellsOf t=1).symm,[.v (.float k b)],one _ rfl,?_⟩
   simp only[Typed,hu];exact⟨b,rfl,hw⟩
  ·rename_i hu
   obtain⟨s,rfl,rfl,hw⟩:=DataW.trod_string hu h
   refine⟨by simpa using(by simpa using hk:P.cellsOf t=1).symm,[.v (.string s)],one _ rfl,?_⟩
   simp only[Typed,hu];exact⟨s,rfl,hw⟩
  ·rename_i e hu
   simp only[Bool.and_eq_true,beq_iff_eq,bne_iff_ne,ne_eq]at hk
   obtain⟨⟨l6,lb⟩,uS⟩:=hk
   rcases DataW.trod_pointer hu h with⟨rfl,rfl⟩|⟨a,cs',y,m,hm,rfl,rfl,hc,hy⟩
   ·refine⟨by simp[l6],[.v (.pointer none)],one _ rfl,?_⟩
    simp only[Typed,hu];exact .inl trivial
   ·obtain rfl:m=n:=by omega
    obtain⟨hl,xs,hd,Cu⟩:=ih e cs' y lb hy
    obtain⟨ea,hb,k8⟩:=Az hc (by omega)
    refine⟨by simp[l6],[.pt xs],?_,?_⟩
    ·simp only[IV.ab,IV.den]
     exact⟨_,[],rfl,⟨a.block,a.off,cs',by rw[<-ea],hb,hd,k8⟩,rfl⟩
    ·simp only[Typed,hu];exact .inr ⟨xs,rfl,Cu⟩
  ·rename_i e hu
   simp only[Bool.and_eq_true,beq_iff_eq,bne_iff_ne,ne_eq]at hk
   obtain⟨⟨l6,lb⟩,uS⟩:=hk
   rcases DataW.trod_slice hu h with⟨rfl,rfl⟩|⟨a,len,cap,elems,rest,m,hm,rfl,rfl,_,B2,Wr,yr,hr,_,_⟩
   ·refine⟨by simp[l6],[.sl (P.cellsOf e) []],?_,?_⟩
    ·simp only[IV.ab,IV.den]
     exact⟨_,[],rfl,⟨none,0,[],rfl,Nat.le_refl _,rfl,by simp,by simp⟩,rfl⟩
    ·simp only[Typed,hu];exact⟨[],rfl,by simp,by simp⟩
   ·obtain rfl:m=n:=by omega
    obtain⟨l,mN,hl⟩:=IP (R:=fun i (p:List Value×List IV)=>w.cells? 0 (a.add (i*P.cellsOf e)) (P.cellsOf e)=some p.1/\p.1.length=P.cellsOf e/\IV.ab w (fun g=>g<w.heap.size) p.2 p.1/\Typed P m e p.2) len (fun i hi=>by
     have:=hr i hi
     rw[List.getElem?_eq_getElem (by omega),Option.bind_eq_some_iff]at this
     obtain⟨cs',hc,hy⟩:=this
     obtain⟨U,xs,h2,h3⟩:=ih e cs' _ lb hy
     exact⟨(cs',xs),hc,U,h2,h3⟩)
    refine⟨by simp[l6],[.sl (P.cellsOf e) (l.map Prod.snd)],?_,?_⟩
    ·simp only[IV.ab,IV.den]
     refine⟨_,[],rfl,⟨some a,cap,l.map Prod.fst,by simp[mN],by simp[mN,B2],?_,?_,fun aR=>?_⟩,rfl⟩
     ·have:∀(l:List (List Value×List IV)),(∀p∈l,IV.ab w (fun g=>g<w.heap.size) p.2 p.1)->IV.aH w (fun g=>g<w.heap.size) (l.map Prod.snd) (l.map Prod.fst):=by
       intro l
       induction l with
       |nil=>intro _;rfl
       |cons p l QT=>
        intro hp
        simp only[List.map_cons,IV.aH]
        exact⟨_,_,rfl,hp p (by simp),QT (fun q hq=>hp q (by simp[hq]))⟩
      refine this l (fun p hp=>?_)
      obtain⟨i,hi⟩:=List.getElem?_of_mem hp
      exact(hl i p hi).2.2.1
     ·intro vs dC
      obtain⟨p,hp,rfl⟩:=List.mem_map.1 dC
      obtain⟨i,hi⟩:=List.getElem?_of_mem hp
      exact(hl i p hi).2.1
     ·have Ci:0<l.length:=by
       rcases l with _|⟨p,l⟩
       ·simp at aR
       ·simp
      have h0:=hl 0 (l[0]'Ci) (List.getElem?_eq_getElem _)
      have Bn:=h0.1
      rw[Nat.zero_mul]at Bn
      have NX:a.add 0=a:=by simp[Addr.add]
      rw[NX]at Bn
      obtain⟨ea,hb,_⟩:=Az Bn (by omega)
      refine⟨a.block,a.off,by rw[<-ea],hb,Ku (es:=P.cellsOf e) _ _ (fun i vs hv=>?_)⟩
      rw[List.getElem?_map,Option.map_eq_some_iff]at hv
      obtain⟨p,hp,rfl⟩:=hv
      obtain⟨g1,g2,g3,g4⟩:=hl i p hp
      refine⟨g2,?_⟩
      obtain⟨_,_,k8⟩:=Az g1 (by omega)
      have e1:(a.add (i*P.cellsOf e)).block=a.block:=by unfold Addr.add;split<;>rfl
      have e2:(a.add (i*P.cellsOf e)).off=a.off+i*P.cellsOf e:=by
       unfold Addr.add;split
       ·rename_i hz;rw[hz];rfl
       ·rfl
      rw[e1,e2]at k8
      exact k8
    ·simp only[Typed,hu]
     refine⟨_,rfl,by simp[mN];omega,fun r l8=>?_⟩
     obtain⟨p,hp,rfl⟩:=List.mem_map.1 l8
     obtain⟨i,hi⟩:=List.getElem?_of_mem hp
     exact(hl i p hi).2.2.2
  ·rename_i fs hu
   simp only[Bool.and_eq_true,beq_iff_eq,List.all_eq_true]at hk
   obtain⟨⟨l6,lb⟩,uS⟩:=hk
   obtain⟨xs,m,hm,rfl,hlen,lu,hf⟩:=DataW.trod_struct hu h
   obtain rfl:m=n:=by omega
   have off:∀(i:Nat) (f:Field),fs.toList[i]?=some f->f.offset=((fs.toList.take i).map fun f=>P.cellsOf f.type).sum:=fun i f hi=>by
    have:=uS i (by simpa using(List.getElem?_eq_some_iff.1 hi).1)
    rw[hi]at this
    simpa using this
   obtain⟨ys,hy,hq⟩:=pieces (w:=w) (I:=fun g=>g<w.heap.size) (len:=fun f:Field=>P.cellsOf f.type) (Q:=fun f ys=>Typed P m f.type ys) fs.toList cs (by rw[hlen,lb]) (fun i f hi=>by
    rw[<-off i f hi]
    have se:fs[i]?=some f:=by simpa using hi
    have hx:=hf i f se
    have ag:i<fs.size:=by
     rcases Nat.lt_or_ge i fs.size with h'|h'
     ·exact h'
     ·rw[Array.getElem?_eq_none h']at se;cases se
    rw[List.getElem?_eq_getElem (by omega)]at hx
    obtain⟨_,zs,h2,h3⟩:=ih f.type _ _ (l6 f (List.mem_of_getElem? hi)) hx
    exact⟨zs,h2,h3⟩)
   refine⟨hlen,ys,hy,?_⟩
   simp only[Typed,hu]
   exact⟨by rw[xU _ _ hy,hlen],fun i f hi=>by rw[off i f hi];exact hq i f hi⟩
  ·rename_i m' e hu
   simp only[Bool.and_eq_true,beq_iff_eq]at hk
   obtain⟨l6,lb⟩:=hk
   obtain⟨xs,m,hm,rfl,hlen,lu,hf⟩:=DataW.trod_array hu h
   obtain rfl:m=n:=by omega
   have sm:∀k,((List.replicate k ()).map fun _=>P.cellsOf e).sum=k*P.cellsOf e:=fun k=>by simp
   obtain⟨ys,hy,hq⟩:=pieces (w:=w) (I:=fun g=>g<w.heap.size) (len:=fun _:Unit=>P.cellsOf e) (Q:=fun _ ys=>Typed P m e ys) (List.replicate m' ()) cs (by rw[hlen,lb,sm]) (fun i f hi=>by
    have ag:i<m':=by simpa using(List.getElem?_eq_some_iff.1 hi).1
    rw[List.take_replicate,sm,Nat.min_eq_left (Nat.le_of_lt ag)]
    have hx:=hf i ag
    rw[List.getElem?_eq_getElem (by omega)]at hx
    obtain⟨_,zs,h2,h3⟩:=ih e _ _ l6 hx
    exact⟨zs,h2,h3⟩)
   refine⟨hlen,ys,hy,?_⟩
   simp only[Typed,hu]
   exact⟨by rw[xU _ _ hy,hlen],fun i hi=>by
    have:=hq i () (by simp[hi])
    rwa [List.take_replicate,sm,Nat.min_eq_left (Nat.le_of_lt hi)]at this⟩
  ·cases hk
end
section
variable {H:Type} {enc:TypeId×Value->H} {P:Program}
def qg (P:Program) (t:TypeId) (xs:List IV):AV:=match P.underlying t,xs with
 |some (.struct _),xs=> .ar xs
 |some (.array _ _),xs=> .ar xs
 |_,[x]=> .im x
 |_,_=> .top
def qh (P:Program):List TypeId->List (List IV)->List AV
 |t::ts,xs::iI=>qg P t xs::qh P ts iI
 |_,_=>[]
def w4 (P:Program):List TypeId->List (List IV)->Prop
 |t::ts,xs::iI=>(∃n,Typed P n t xs)/\w4 P ts iI
 |[],[]=>True
 |_,_=>False
theorem NS {w:World} {φ:al} {I:Nat->Prop} {xs:List IV} {v:Value} (h:IV.ab w I xs v.cells.toList) (hv:v.oneCell'=true):∃x,xs=[x]/\AV.den w φ I (.im x) v:=by
 have e:v.cells.toList=[v]:=by cases v<;>simp_all [Value.cells,Value.oneCell']
 rw[e]at h
 match xs,h with
 |[],h=>simp[IV.ab]at h
 |[x],h=>
  simp only[IV.ab]at h
  obtain⟨u,us,he,U,h2⟩:=h
  simp only[List.cons.injEq]at he
  refine⟨x,rfl,?_⟩
  simp only[AV.den]
  rw[he.1];exact U
 |x::y::l,h=>
  simp only[IV.ab]at h
  obtain⟨u,us,he,U,u',ao,Pn,_⟩:=h
  simp[Pn]at he
theorem Sm {T:List TypeId} (hT:T.all (sM P T)=true) {w:World} {r:Reach} {b:Nat} {t:TypeId} {v:Value} {d:DataW H} {p:List MemPlace} (ht:T.contains t=true)
  (jv:Value.okWide P w r b t v) (h:DataW.Trod enc P w 0 (fun _=>true) true t v d p) (φ:al):
  ∃xs,(∃n,Typed P n t xs)/\AV.den w φ (fun g=>g<w.heap.size) (qg P t xs) v:=by
 obtain⟨n,h⟩:=h
 obtain⟨_,xs,hd,Cu⟩:=opens hT n t _ _ ht h
 refine⟨xs,⟨n,Cu⟩,?_⟩
 have nW:∀cs:Array Value,v= .agg cs->AV.den w φ (fun g=>g<w.heap.size) (.ar xs) v:=by
  rintro cs rfl
  simp only[AV.den]
  exact⟨cs.toList,hd,by simp⟩
 unfold Value.okWide at jv
 split at jv
 ·rename_i hu
  obtain⟨cs,rfl,_⟩:=jv
  simp only[qg,hu]
  exact nW cs rfl
 ·rename_i hu
  obtain⟨cs,rfl,_⟩:=jv
  simp only[qg,hu]
  exact nW cs rfl
 ·rename_i hs ha
  have hv:v.oneCell'=true:=by
   cases v<;>simp only[Value.oneCell']<;>(unfold Cell.okWide at jv;split at jv<;>simp_all [Cell.ok])
  obtain⟨x,rfl,hx⟩:=NS (φ:=φ) hd hv
  have e:qg P t [x]= .im x:=by
   unfold qg
   split
   ·rename_i fs hu;exact absurd hu (hs _)
   ·rename_i m e hu;exact absurd hu (ha _ _)
   ·rename_i he _ _;injection he with he;rw[he]
   ·rename_i hn;exact(hn x rfl).elim
  rw[e];exact hx
theorem JV {T:List TypeId} (hT:T.all (sM P T)=true) {w:World} {r:Reach} {b:Nat} (φ:al):∀(ts:List TypeId) (vs:List Value) (ds:List (DataW H)) (p:List MemPlace),ts.all T.contains=true->
  (∀(j:Nat) t v,ts[j]?=some t->vs[j]?=some v->Value.okWide P w r b t v)->DataW.TrodAll enc P w 0 (fun _=>true) true ts vs ds p->
  ∃iI,w4 P ts iI/\AV.ab w φ (fun g=>g<w.heap.size) (qh P ts iI) vs/\ds.length=ts.length
 |[],vs,ds,p,_,_,h=>by
  obtain⟨rfl,rfl,rfl⟩:=trodAll_nil h
  exact⟨[],trivial,rfl,rfl⟩
 |t::ts,vs,ds,p,hc,jv,h=>by
  obtain⟨v,Ab,d,ia,p',q,rfl,rfl,rfl,U,h2⟩:=trodAll_cons h
  simp only[List.all_cons,Bool.and_eq_true]at hc
  obtain⟨xs,pz,hd⟩:=Sm hT hc.1 (jv 0 t v rfl rfl) U φ
  obtain⟨iI,h3,h4,h5⟩:=JV hT φ ts Ab ia q hc.2 (fun j t v=>jv (j+1) t v) h2
  refine⟨xs::iI,⟨pz,h3⟩,?_,by simp[h5]⟩
  simp only[qh,AV.ab]
  exact⟨v,Ab,rfl,hd,h4⟩
theorem K_ (hl:laidOutB P=true) {W W':World} {sp:Nat->Bool}:∀(ts:List TypeId) (vs:List Value) (ds:List (DataW H)) (p:List MemPlace),
  ts.all (fun t=>P.readableRec t&&decide (t<P.types.size))=true->DataW.TrodAll enc P W 0 (fun _=>true) true ts vs ds p->(∀q∈p,W.sameAt W' q)->(∀q∈p,sp q.block=true)->
  DataW.TrodAll enc P W' 0 sp true ts vs ds p
 |[],vs,ds,p,_,h,_,_=>by
  obtain⟨rfl,rfl,rfl⟩:=trodAll_nil h
  exact trodAll_mk0
 |t::ts,vs,ds,p,hr,h,hs,hp=>by
  obtain⟨v,Ab,d,ia,p',q,rfl,rfl,rfl,U,h2⟩:=trodAll_cons h
  simp only[List.all_cons,Bool.and_eq_true,decide_eq_true_eq]at hr
  exact trodAll_cons_mk (WideElems.Trod_stays hl hr.1.1 hr.1.2 U (fun x hx=>hs x (List.mem_append_left _ hx)) (fun x hx=>hp x (List.mem_append_left _ hx)))
   (K_ hl ts Ab ia q hr.2 h2 (fun x hx=>hs x (List.mem_append_right _ hx)) (fun x hx=>hp x (List.mem_append_right _ hx)))
def Me (P:Program) (f:FuncId) (args:Array Value) (W:World):Prop:=
 Calls P f args W fun e W'=>e= .returned (.bool true)/\W.heap.size<=W'.heap.size/\(∀g,g<W.heap.size->W'.heap[g]?=W.heap[g]?)/\W'.os=W.os/\W'.output=W.output
theorem Ra {f:FuncId} {E3:List AV} (h:aP P f E3 (.im (.v (.bool true)))) {W:World} {vs:List Value} (hd:AV.ab W (fun _=>none) (fun g=>g<W.heap.size) E3 vs) (hV:VK P W (fun g=>g<W.heap.size)):
  Me P f vs.toArray W:=by
 have hR:Real W (fun _=>none) (fun g=>g<W.heap.size) []:=by
  refine⟨fun b=>rfl,fun b o p hb=>?_,fun b g hg=>?_,fun b b' g hg=>?_,fun g hg=>hg⟩
  ·simp[lk]at hb
  ·cases hg
  ·cases hg
 refine(h.run W _ _ vs hd hR hV).mono fun e W' hq=>?_
 obtain⟨r,H',φ',I',v,⟨rfl,rfl⟩,rfl,hv,bx⟩:=hq
 simp only[AV.den,IV.den]at hv
 obtain⟨rfl,_⟩:=hv
 exact⟨rfl,bx.ext.size,fun g hg=>bx.ext.dL g hg (fun⟨b,hb⟩=>by cases hb),bx.ext.os,bx.ext.output⟩
theorem Q_ {fn:Func} {s:ChangeSpec} {again:Bool} {W W':World} {args:Array Value} {ds gs:List (DataW H)} {before:List MemPlace} {tb:TypeId}
  (hW:DataW.Whole enc P fn.params.toList s.vars false W args.toList ds gs before) (yV:s.vars=[])
  (uK:s.fn H ds={results:=[.lit (.bool true)],args:=ds}) (hl:laidOutB P=true) (hr:fn.params.toList.all (fun t=>P.readableRec t&&decide (t<P.types.size))=true)
  (yM:fn.resultTypes=#[tb]) (yR:P.underlying tb=some .bool)
  (aO:W.heap.size<=W'.heap.size) (hk:∀g,g<W.heap.size->W'.heap[g]?=W.heap[g]?) (qM:W'.os=W.os) (qO:W'.output=W.output):
  s.post enc P fn false true false again W args (.bool true) W':=by
 have ux:=hW
 obtain⟨p,q,hA,hV,rfl,hz,hn⟩:=hW
 rw[yV]at hV
 obtain⟨rfl,rfl⟩:=trodVars_none hV
 have ag:=ux.lt
 simp only[List.append_nil]at hz hn ag ux
 have Cq:∀x∈p,W.sameAt W' x:=fun x hx=>by
  have:=hk x.block (ag x hx)
  cases x with
  |cell b off=>exact Ay this off
  |map b=>exact this
 have cS:∀sp:Nat->Bool,(∀x∈p,sp x.block=true)->DataW.TrodAll enc P W' 0 sp true fn.params.toList args.toList ds p:=fun sp qT=>K_ hl _ _ _ _ hr hA Cq qT
 have HW:∀(b:Nat) (sp:Nat->Bool) (hd:Bool),DataW.TrodAll enc P W' b sp hd fn.resultTypes.toList ((Value.bool true).resultList fn.resultTypes.size) [.lit (.bool true)] []:=fun b sp hd=>by
  rw[yM]
  exact trodAll_cons_mk (Go.RowKit.shut_bool yR true) trodAll_mk0
 have hv:∀sp:Nat->Bool,DataW.TrodVars enc P W' sp s.vars [] []:=fun sp=>by rw[yV];rfl
 have BV:s.fn H (ds++[])={results:=[.lit (.bool true)],args:=ds}:=by rw[List.append_nil];exact uK
 refine⟨ds,[],p,[],p,[],ux,by rw[BV];exact HW _ _ _,by rw[BV];exact cS _ (fun x hx=>by simpa using ag x hx),by rw[BV];exact hv _,?_,fun _=>?_⟩
 ·refine⟨qM,qO,fun i hi=>?_⟩
  rw[hk i hi]
  cases hh:W.heap[i]? with
  |none=>rfl
  |some o=>
   cases o with
   |cells c t fr=>exact⟨rfl,rfl,rfl,fun _ _=>rfl⟩
   |map es clock=>exact .inr ⟨rfl,rfl⟩
   |_=>rfl
 ·refine⟨Go.RowKit.ok_one yM rfl (Go.RowKit.okWide_bool_mk yR true),_,_,([]++p)++[],⟨[]++p,[],trodAll_append (cS _ (fun _ _=>rfl)) (HW _ _ _),hv _,rfl,?_,fun h=>by cases h⟩,?_⟩
  ·intro b off hp
   have b7:MemPlace.cell b off∈p:=by simpa using hp
   have:=hk b (ag _ b7)
   have Ia:=hz b off b7
   simp only[World.frozen?,this]at Ia⊢
   exact Ia
  ·intro x hx _
   simpa using hx
theorem law {f:FuncId} {fn:Func} {s:ChangeSpec} {W:World} {base:Nat} {args:Array Value} {ds gs:List (DataW H)} {before:List MemPlace} (tb:TypeId) (T:List TypeId)
  (yV:s.vars=[]) (uK:∀ds:List (DataW H),ds.length=fn.params.size->s.fn H ds={results:=[.lit (.bool true)],args:=ds}) (hl:laidOutB P=true)
  (hr:fn.params.toList.all (fun t=>P.readableRec t&&decide (t<P.types.size))=true) (yM:fn.resultTypes=#[tb]) (yR:P.underlying tb=some .bool)
  (hT:T.all (sM P T)=true) (O1:fn.params.toList.all T.contains=true)
  (sC:∀iI,w4 P fn.params.toList iI->aP P f (qh P fn.params.toList iI) (.im (.v (.bool true))))
  (jv:∀(j:Nat) t v,fn.params[j]?=some t->args[j]?=some v->Value.okWide P W .any base t v)
  (hW:DataW.Whole enc P fn.params.toList s.vars false W args.toList ds gs before)
  (O2:VK P W (fun g=>g<W.heap.size):=by exact VK.none (by kernel_rfl)):
  Calls P f args W fun e W'=>∃v,e= .returned v/\s.post enc P fn false true false false W args v W':=by
 have ux:=hW
 obtain⟨p,q,hA,hV,rfl,hz,hn⟩:=hW
 obtain⟨iI,U,h2,h3⟩:=JV hT (r:= .any) (b:=base) (fun _=>none) _ _ _ _ O1 (fun j t v ht hv=>jv j t v (by simpa using ht) (by simpa using hv)) hA
 have:=Ra (sC iI U) h2 O2
 simp only[Array.toArray_toList]at this
 refine this.mono fun e W' ⟨he,aO,hk,qM,qO⟩=>?_
 subst he
 exact⟨_,rfl,Q_ ux yV (uK ds (by simpa using h3)) hl hr yM yR aO hk qM qO⟩
end
end Go.AL
end
section
namespace Go.AL
open Go
section
variable {C:Cx} {K:List PK} {E:Env} {H:aa}
theorem St.drop {B:Bs} {φ:al} {I:Nat->Prop} {w:World} (h:St B φ I H w):St B (fun _=>none) I [] w:=
 ⟨zJ h.real,h.ext,fun b g hg=>(by cases hg),h.c8,h.cj,fun _ _ _ _ _ hl=>by simp[lk]at hl⟩
theorem AE.aG {sc:Prop} {xs:List AV} (h:iD C.P E H C.fn.results.toList=some (sc,xs)) (ay:sc) (hf:(dZ xs).free=true) (hR:C.R (dZ xs) []):AE C .ret [] E H:=by
 unfold AE
 intro φ I a w hs
 refine hs.leave fun w' hS hE=>?_
 obtain⟨v,hv,hd⟩:=rh hE hS.real h ay
 exact⟨v,hv,dZ xs,[],fun _=>none,I,v,hR,rfl,AV.o7 _ _ hf hd,hS.drop⟩
theorem St.wj {B:Bs} {φ:al} {I:Nat->Prop} {w:World} (h:St B φ I H w) {b:Nat} (hb:lk H b=none) (Ca:B.nb<=b) (el:TypeId) (es:Nat):
  St B (a7 φ b none) I ((b,.vec el es [])::H) w/\bt w φ I w (a7 φ b none) I:=by
 have hnb:φ b=none:=by
  have:=h.real.bq b
  rw[hb]at this
  cases au:φ b with
  |none=>rfl
  |some x=>rw[au]at this;cases this
 have k:bt w φ I w (a7 φ b none) I:=by
  refine⟨fun g hg=>rfl,fun _ h=>h,fun b' p hp=>?_,fun _ g n _ hs=>hs⟩
  unfold a7
  rw[if_neg (by intro e;subst e;rw[hnb]at hp;cases hp)]
  exact hp
 have nq:∀b',b'≠b->Nat.beq b b'=false:=fun b' ak=>by
  cases hq:Nat.beq b b' with
  |false=>rfl
  |true=>exact absurd (Nat.eq_of_beq_eq_true hq).symm ak
 refine⟨⟨⟨fun b'=>?_,fun b' o' p hl hp=>?_,fun b' g hp=>?_,fun b1 b2 g U h2=>?_,h.real.bO⟩,h.ext,fun b' g hp=>?_,h.c8,h.cj,fun b' g oo ag h0 hl=>?_⟩,k⟩
 ·simp only[a7,lk]
  by_cases ak:b'=b
  ·subst ak;simp
  ·rw[if_neg ak,nq b' ak]
   exact h.real.bq b'
 ·by_cases ak:b'=b
  ·subst ak
   simp only[a7,if_true,Option.some.injEq]at hp
   subst hp
   simp[lk]at hl
   subst hl
   exact .inl ⟨rfl,rfl⟩
  ·simp only[lk,nq b' ak,cond_false]at hl
   simp only[a7,if_neg ak]at hp
   exact Ob.jM k.im k.I k.phi k.sh (fun g hg=>rfl) (h.real.own b' o' p hl hp)
 ·by_cases ak:b'=b
  ·subst ak;simp[a7]at hp
  ·simp only[a7,if_neg ak]at hp
   exact h.real.off b' g hp
 ·by_cases e1:b1=b
  ·subst e1;simp[a7]at U
  ·by_cases e2:b2=b
   ·subst e2;simp[a7]at h2
   ·simp only[a7,if_neg e1]at U
    simp only[a7,if_neg e2]at h2
    exact h.real.inj b1 b2 g U h2
 ·by_cases ak:b'=b
  ·subst ak;simp[a7]at hp
  ·simp only[a7,if_neg ak]at hp
   exact h.bU b' g hp
 ·have ak:b'≠b:=by omega
  simp only[lk,nq b' ak,cond_false]at hl
  simp only[a7,if_neg ak]
  exact h.cD b' g oo ag h0 hl
theorem bn.wj {φ:al} {I:Nat->Prop} {a:Act} {w:World} (h:bn C φ I E H a w) {t:Nat} (ht:lk E t=some (.im (.v (.slice none 0 0)))) (el:TypeId) (es:Nat):
  bn C (a7 φ (aL C.B.nb H) none) I ((t,.os (aL C.B.nb H) es 0 0)::E) ((aL C.B.nb H,.vec el es [])::H) a w:=by
 obtain⟨hS,hk⟩:=h.st.wj (kO C.B.nb H) (gL C.B.nb H).1 el es
 refine⟨h.bD,h.bE,fun i x hx=>?_,hS⟩
 simp only[lk]at hx
 cases hb:Nat.beq t i with
 |true=>
  rw[hb]at hx
  have:=Nat.eq_of_beq_eq_true hb
  subst this
  simp only[cond_true,Option.some.injEq]at hx
  subst hx
  obtain⟨u,hu,hd⟩:=h.env t _ ht
  refine⟨u,hu,?_⟩
  simp only[AV.den,IV.den]at hd⊢
  exact .inl ⟨by simp[a7],trivial,trivial,hd.1⟩
 |false=>
  rw[hb]at hx
  obtain⟨u,hu,hd⟩:=h.env i x hx
  exact⟨u,hu,hk.den hd⟩
theorem AE.own {e:Exit} (t:Nat) (el:TypeId) (es:Nat) (ht:lk E t=some (.im (.v (.slice none 0 0)))) (h:AE C e K ((t,.os (aL C.B.nb H) es 0 0)::E) ((aL C.B.nb H,.vec el es [])::H)):AE C e K E H:=by
 unfold AE at h⊢
 exact fun φ I a w hs=>h _ I a w (hs.wj ht el es)
theorem AP.own {p:List Nat} (t:Nat) (el:TypeId) (es:Nat) (ht:lk E t=some (.im (.v (.slice none 0 0)))) (h:AP C p K ((t,.os (aL C.B.nb H) es 0 0)::E) ((aL C.B.nb H,.vec el es [])::H)):AP C p K E H:=by
 unfold AP at h⊢
 exact fun φ I a w hs=>h _ I a w (hs.wj ht el es)
theorem AP.freeze {p:List Nat} (b:Nat) {el:TypeId} {es:Nat} {rows:List (List IV)} (hl:lk H b=some (.vec el es rows)) (hC:jR b rows H) (qz:mH b rows E) (h:AP C p K (lU b es rows E) (gi b es rows H)):AP C p K E H:=by
 unfold AP at h⊢
 intro φ I a w hs
 obtain⟨φ',I',eG⟩:=hs.freeze hl qz hC
 exact h φ' I' a w eG
end
theorem aP.DF {P:Program} {f:FuncId} {args:List AV} {r:AV} (he:enters P f=true) (hr:r.free=true)
  (
   h:∀(w:World) (φ:al) (I:Nat->Prop) (vs:List Value),AV.ab w φ I args vs->(∀g,I g->g<w.heap.size)->VK P w I->
   Calls P f vs.toArray w fun e w'=>∃v,e= .returned v/\AV.den w' φ I r v/\Go.RowKit.Below w.heap.size w w'):aP P f args r:=by
 refine⟨he,fun w φ I vs hd hR hV=>(h w φ I vs hd hR.bO hV).mono fun e w' ⟨v,he,hv,hb⟩=>?_⟩
 refine⟨r,[],fun _=>none,I,v,⟨rfl,rfl⟩,he,AV.o7 _ _ hr hv,?_⟩
 have hx:Ext (cP φ) w w':=by
  refine⟨hb.size,fun g hg _=>hb.block g hg,fun g c e fz hc=>?_,hb.os,hb.os,hb.output⟩
  have ag:g<w.heap.size:=by
   rcases Nat.lt_or_ge g w.heap.size with h|h
   ·exact h
   ·rw[Array.getElem?_eq_none h]at hc;cases hc
  exact⟨c,_,(hb.block g ag).trans hc,rfl⟩
 refine⟨⟨fun b=>rfl,fun b o p hl=>(by simp[lk]at hl),fun b g hp=>(by cases hp),fun b b' g hp=>(by cases hp),fun g hg=>Nat.lt_of_lt_of_le (hR.bO g hg) hb.size⟩,hx,fun b g hg=>(by cases hg),fun g hg=> .inl hg,fun g hg=>hg,fun _ _ _ _ _ hl=>by simp[lk]at hl⟩
theorem np {C:Cx} {K:List PK} {os:List Oper} {ds:List (Nat×Nat)} {i:Nat} {E:Env} {H:aa} (h:vq C K os ds i E H):vq C K os ds i E H:=h
def upto (n:Nat):List Nat:=List.range n
theorem Ef (n:Nat):(upto n).length=n:=List.length_range
def p3 (k:IntKind) (n:Nat) (f:Nat->Int):List (List IV):=(upto n).map fun j=>[.v (.int k (f j))]
def rM (k:IntKind) (n:Nat) (f:Nat->Int):List IV:=(upto n).map fun j=> .v (.int k (f j))
theorem SZ (k:IntKind) (n:Nat) (f:Nat->Int):(p3 k n f).length=n:=by simp[p3,Ef]
theorem NG (k:IntKind) (n:Nat) (f:Nat->Int):(rM k n f).length=n:=by simp[rM,Ef]
theorem SY (k:IntKind) (n:Nat) (f:Nat->Int):(p3 k n f).flatten=rM k n f:=by
 unfold p3 rM
 induction upto n with
 |nil=>rfl
 |cons n l ih=>simp[ih]
theorem NH (k:IntKind) (n:Nat) (f:Nat->Int):(rM k n f).map (fun c=>[c])=p3 k n f:=by
 simp[rM,p3,Function.comp_def]
theorem S0 (k:IntKind) (n:Nat):(List.replicate n (Value.int k 0)).map (fun c=>[IV.v c])=p3 k n (fun _=>0):=by
 unfold p3
 apply List.ext_getElem
 ·simp[Ef]
 ·intro j U h2;simp
theorem MC (k:IntKind) (n:Nat) (x:Int):(List.replicate n (Value.int k x)).all Value.oneCell'=true:=by
 rw[List.all_eq_true];intro v hv;rw[List.eq_of_mem_replicate hv];rfl
attribute [go_sem] MC S0 SZ SY NG NH List.nil_append List.cons_append List.length_cons List.length_nil Nat.zero_add
end Go.AL
namespace Go.AL
section
variable {C:Cx} {K:List PK} {E:Env} {H:aa}
end
attribute [go_sem] Int.toNat_natCast_add_one
end Go.AL
namespace Go.AL
theorem T8 {P:Program} {n:Nat} {t:TypeId} {xs:List IV} (ht:P.underlying t=some .string) (h:Typed P n t xs):∃s:ByteArray,xs=[.v (.string s)]/\s.size<=maxLen:=by
 cases n with
 |zero=>exact h.elim
 |succ n=>simpa only[Typed,ht]using h
theorem T6 {P:Program} {n:Nat} {t:TypeId} {xs:List IV} (ht:P.underlying t=some .bool) (h:Typed P n t xs):∃b,xs=[.v (.bool b)]:=by
 cases n with
 |zero=>exact h.elim
 |succ n=>simpa only[Typed,ht]using h
theorem T7 {P:Program} {n:Nat} {t:TypeId} {k:IntKind} {xs:List IV} (ht:P.underlying t=some (.int k)) (h:Typed P n t xs):∃i,xs=[.v (.int k i)]/\(Lit.int k i).wf=true:=by
 cases n with
 |zero=>exact h.elim
 |succ n=>simpa only[Typed,ht]using h
theorem zN {α:Type} {p:α->Prop} {f:α->List IV}:∀(rows:List (List IV)),(∀r∈rows,∃a,r=f a/\p a)->∃l:List α,rows=l.map f/\∀a∈l,p a
 |[],_=>⟨[],rfl,by simp⟩
 |r::rows,h=>by
  obtain⟨a,rfl,ha⟩:=h r (by simp)
  obtain⟨l,rfl,hl⟩:=zN rows (fun r hr=>h r (by simp[hr]))
  exact⟨a::l,rfl,by simpa using⟨ha,hl⟩⟩
section
variable {C:Cx} {K:List PK} {E:Env} {H:aa}
theorem AQ.imp {ds:List (Nat×Nat)} {i:Nat} {os:List Oper} {E':Env} (hE:∀w φ I a,dH w φ I E a->dH w φ I E' a) (h:AQ C ds i os K E' H):AQ C ds i os K E H:=by
 unfold AQ at h⊢
 intro ops U h2 φ I a w hs
 exact h ops U h2 φ I a w ⟨hs.bD,hs.bE,hE w φ I a hs.env,hs.st⟩
theorem zF {w:World} {φ:al} {I:Nat->Prop} {a:Act} {d:Option Nat} {x y:AV} (ff:∀u,AV.den w φ I x u->AV.den w φ I y u) (h:dH w φ I (a6 d x E) a):dH w φ I (a6 d y E) a:=by
 cases d with
 |none=>exact h
 |some d=>
  intro i z hz
  simp only[a6,lk]at hz
  cases hb:Nat.beq d i with
  |true=>
   rw[hb]at hz
   simp only[cond_true,Option.some.injEq]at hz
   subst hz
   obtain⟨u,hu,hd⟩:=h i x (by simp[a6,lk,hb])
   exact⟨u,hu,ff u hd⟩
  |false=>
   rw[hb]at hz
   exact h i z (by simpa[a6,lk,hb]using hz)
theorem AQ.mG {ds:List (Nat×Nat)} {i:Nat} {d:Option Nat} {ty:TypeId} {pos:String} {af:Array Edge} {os:List Oper} {f:FuncId} {xs:List Operand} {aV:Array TypeId} {l:List AV} {r:AV} {gu:Option (Nat×Bool)} {G:Bool}
  (ai:bl C.n ({dst:=d,op:= .call {callee:= .value (.func f),args:=xs.toArray,argTypes:=aV},type:=ty,pos:=pos,after:=af,guard:=gu}::os)=true)
  (hG:gd ds E gu=some G)
  (hl:dI E xs=some l) (du:G=true->gs l=true) (e6:AV.frees (l.map AV.st)=true) (hc:G=true->aj C.P f (l.map AV.st) [] (fun r' H'=>H'=[]/\r'=r)) (hr:r.free=true)
  (h:vq C K os (aZ d i ds) (i+1) (a6 d (.opt G r) E) H):
  AQ C ds i ({dst:=d,op:= .call {callee:= .value (.func f),args:=xs.toArray,argTypes:=aV},type:=ty,pos:=pos,after:=af,guard:=gu}::os) K E H:=by
 obtain⟨hd,ca⟩:=ef ai
 have bB:=AQ.go ca h
 cases G with
 |true=>
  refine AQ.pa hG ?_
  unfold AQ
  refine AO.call (o:={dst:=d,op:= .call {callee:= .value (.func f),args:=xs.toArray,argTypes:=aV},type:=ty,pos:=pos,after:=af,guard:=none}) rfl rfl hd (by simpa using hl) (du rfl) e6 (hc rfl) (fun r' H' ⟨U,h2⟩=>⟨U,by rw[h2];exact hr⟩) fun r' ⟨_,h2⟩=>?_
  subst h2
  have:=AQ.imp (fun w φ I a=>zF (x:=r') (y:= .opt true r') fun u hu=>by simp only[AV.den];exact⟨fun _=>hu,fun h=>by cases h⟩) bB
  unfold AQ at this
  exact this
 |false=>
  refine AQ.r4 hd hG ?_
  exact AQ.imp (fun w φ I a=>zF fun u hu=>by simp only[AV.den]at hu⊢;exact⟨fun h=>(by cases h),hu.2⟩) bB
def eh (b:Nat):aa->aa
 |[]=>[]
 |(j,o)::r=>bif Nat.beq j b then eh b r else(j,o)::eh b r
theorem ym (b:Nat):∀H:aa,lk (eh b H) b=none
 |[]=>rfl
 |(j,o)::r=>by
  simp only[eh]
  cases hb:Nat.beq j b with
  |true=>simpa using ym b r
  |false=>simp only[cond_false,lk,hb];exact ym b r
theorem uD (b:Nat):∀(H:aa) (b':Nat),b'≠b->lk (eh b H) b'=lk H b'
 |[],_,_=>rfl
 |(j,o)::r,b',aR=>by
  simp only[eh]
  cases hb:Nat.beq j b with
  |true=>
   have hj:=Nat.eq_of_beq_eq_true hb
   have:Nat.beq j b'=false:=by
    cases hq:Nat.beq j b' with
    |false=>rfl
    |true=>have:=Nat.eq_of_beq_eq_true hq;omega
   simp only[cond_true,lk,this,cond_false]
   exact uD b r b' aR
  |false=>
   simp only[cond_false,lk]
   cases hq:Nat.beq j b' with
   |true=>rfl
   |false=>simpa using uD b r b' aR
def fX (φ:al) (b:Nat):al:=fun b'=>if b'=b then none else φ b'
theorem St.forget {B:Bs} {φ:al} {I:Nat->Prop} {w:World} (h:St B φ I H w) (b:Nat) (hn:noMen b (eh b H)=true):St B (fX φ b) I (eh b H) w:=by
 have au:∀b',b'≠b->fX φ b b'=φ b':=fun b' hb=>by simp[fX,hb]
 have fe:fX φ b b=none:=by simp[fX]
 refine⟨⟨fun b'=>?_,fun b' o p hl hp=>?_,fun b' g hp=>?_,fun b1 b2 g U h2=>?_,h.real.bO⟩,h.ext,fun b' g hp=>?_,h.c8,h.cj,fun b' g oo ag h0 hl=>?_⟩
 ·by_cases ak:b'=b
  ·subst ak;rw[fe,ym];rfl
  ·rw[au b' ak,uD b H b' ak];exact h.real.bq b'
 ·by_cases ak:b'=b
  ·subst ak;rw[fe]at hp;cases hp
  ·have kA:=hl
   rw[uD b H b' ak]at hl
   rw[au b' ak]at hp
   have br:=h.real.own b' o p hl hp
   cases o with
   |var e cs=>
    simp only[Ob.at]at br⊢
    obtain⟨g,us,rfl,h2,h3,h4⟩:=br
    exact⟨g,us,rfl,h2,AV.pK au cs us (zr _ hn b' e cs kA) h3,h4⟩
   |vec e eu Ks=>exact br
   |lp l n st fn q ps E=>
    simp only[Ob.at]at br⊢
    obtain⟨h0,T,D,b_,U,h2,h3⟩:=br
    exact⟨h0,T,D,b_,U,h2,fun i x hx=>let⟨u,hu,hd⟩:=h3 i x hx;⟨u,hu,AV.ov au x u (zm E (zt _ hn b' l n st fn q ps E kA) i x hx) hd⟩⟩
 ·by_cases ak:b'=b
  ·subst ak;rw[fe]at hp;cases hp
  ·rw[au b' ak]at hp;exact h.real.off b' g hp
 ·by_cases e1:b1=b
  ·subst e1;rw[fe]at U;cases U
  ·by_cases e2:b2=b
   ·subst e2;rw[fe]at h2;cases h2
   ·rw[au b1 e1]at U;rw[au b2 e2]at h2;exact h.real.inj b1 b2 g U h2
 ·by_cases ak:b'=b
  ·subst ak;rw[fe]at hp;cases hp
  ·rw[au b' ak]at hp;exact h.bU b' g hp
 ·by_cases ak:b'=b
  ·subst ak;rw[ym]at hl;cases hl
  ·rw[uD b H b' ak]at hl
   rw[au b' ak];exact h.cD b' g oo ag h0 hl
theorem bn.forget {φ:al} {I:Nat->Prop} {a:Act} {w:World} (h:bn C φ I E H a w) (b:Nat) (hn:noMen b (eh b H)=true):bn C (fX φ b) I (killE b E) (eh b H) a w:=by
 refine⟨h.bD,h.bE,fun i x hx=>?_,h.st.forget b hn⟩
 obtain⟨y,hy,hd⟩:=qZ (w:=w) (φ:=φ) (φ':=fX φ b) (I:=I) (b:=b) (fun b' hb=>by simp[fX,hb]) E i x hx
 obtain⟨u,hu,dc⟩:=h.env i y hy
 exact⟨u,hu,hd u dc⟩
theorem AE.forget {e:Exit} (b:Nat) (hn:noMen b (eh b H)=true) (h:AE C e K (killE b E) (eh b H)):AE C e K E H:=by
 unfold AE at h⊢
 exact fun φ I a w hs=>h _ I a w (hs.forget b hn)
theorem AP.forget {p:List Nat} (b:Nat) (hn:noMen b (eh b H)=true) (h:AP C p K (killE b E) (eh b H)):AP C p K E H:=by
 unfold AP at h⊢
 exact fun φ I a w hs=>h _ I a w (hs.forget b hn)
end
attribute [go_sem] eh List.map_cons List.map_nil List.getElem?_cons_zero List.getElem?_cons_succ
mutual
def AV.sh (k:Nat):AV->AV
 | .ob b o=> .ob (k+b) o
 | .oe b es i j=> .oe (k+b) es i j
 | .os b es i n=> .os (k+b) es i n
 | .fn f fs aJ=> .fn f (AV.jJ k fs) (AV.jJ k aJ)
 | .agg cs=> .agg (AV.jJ k cs)
 | .aM cs=> .aM (AV.jJ k cs)
 | .opt g x=> .opt g (AV.sh k x)
 | .im x=> .im x
 | .ar x=> .ar x
 | .top=> .top
 | .mp b=> .mp (k+b)
 | .wr q x=> .wr q (AV.sh k x)
def AV.jJ (k:Nat):List AV->List AV
 |[]=>[]
 |x::xs=>AV.sh k x::AV.jJ k xs
end
def tf (k:Nat):Env->Env
 |[]=>[]
 |(i,x)::r=>(i,AV.sh k x)::tf k r
theorem KP (k:Nat):∀(E:Env) (i:Nat),lk (tf k E) i=(lk E i).map (AV.sh k)
 |[],_=>rfl
 |(j,x)::r,i=>by
  simp only[tf,lk]
  cases Nat.beq j i with
  |true=>rfl
  |false=>simpa using KP k r i
def iE (k:Nat):aa->aa
 |[]=>[]
 |(j,.var e cs)::r=>(k+j,.var e (AV.jJ k cs))::iE k r
 |(j,.vec e es rows)::r=>(k+j,.vec e es rows)::iE k r
 |(j,.lp l n st fn q ps E)::r=>(k+j,.lp l n st fn q ps (tf k E))::iE k r
def tg (k:Nat):Ob->Ob
 | .var e cs=> .var e (AV.jJ k cs)
 | .vec e es rows=> .vec e es rows
 | .lp l n st fn q ps E=> .lp l n st fn q ps (tf k E)
mutual
theorem AV.wA {w:World} {φ φ':al} {I:Nat->Prop} {k:Nat} (h:∀b p,φ b=some p->φ' (k+b)=some p):∀(x:AV) (u:Value),AV.den w φ I x u->AV.den w φ' I (AV.sh k x) u
 | .ob b o,u,hd=>by simp only[AV.sh,AV.den]at hd⊢;obtain⟨g,U,h2⟩:=hd;exact⟨g,h _ _ U,h2⟩
 | .oe b es i j,u,hd=>by simp only[AV.sh,AV.den]at hd⊢;obtain⟨g,U,h2⟩:=hd;exact⟨g,h _ _ U,h2⟩
 | .os b es i n,u,hd=>by
  simp only[AV.sh,AV.den]at hd⊢
  rcases hd with⟨U,h2⟩|⟨g,c,U,h2⟩
  ·exact .inl ⟨h _ _ U,h2⟩
  ·exact .inr ⟨g,c,h _ _ U,h2⟩
 | .fn f fs aJ,u,hd=>by simp only[AV.sh,AV.den]at hd⊢;obtain⟨us,vs,U,h2,h3⟩:=hd;exact⟨us,vs,AV.th h fs us U,AV.th h aJ vs h2,h3⟩
 | .agg cs,u,hd=>by simp only[AV.sh,AV.den]at hd⊢;obtain⟨us,U,h2⟩:=hd;exact⟨us,AV.th h cs us U,h2⟩
 | .aM cs,u,hd=>by simp only[AV.sh,AV.den]at hd⊢;obtain⟨us,U,h2⟩:=hd;exact⟨us,AV.th h cs us U,h2⟩
 | .opt g x,u,hd=>by simp only[AV.sh,AV.den]at hd⊢;exact⟨fun hg=>AV.wA h x u (hd.1 hg),hd.2⟩
 | .im x,u,hd=>by simpa only[AV.sh,AV.den]using hd
 | .ar x,u,hd=>by simpa only[AV.sh,AV.den]using hd
 | .top,_,_=>by simp only[AV.sh,AV.den]
 | .mp b,u,hd=>by simp only[AV.sh,AV.den]at hd⊢;obtain⟨g,U,h2⟩:=hd;exact⟨g,h _ _ U,h2⟩
 | .wr q x,u,hd=>by simp only[AV.sh,AV.den]at hd⊢;obtain⟨v,U,h2⟩:=hd;exact⟨v,U,AV.wA h x v h2⟩
theorem AV.th {w:World} {φ φ':al} {I:Nat->Prop} {k:Nat} (h:∀b p,φ b=some p->φ' (k+b)=some p):∀(xs:List AV) (us:List Value),AV.ab w φ I xs us->AV.ab w φ' I (AV.jJ k xs) us
 |[],us,hd=>by simpa only[AV.jJ,AV.ab]using hd
 |x::xs,us,hd=>by
  simp only[AV.jJ,AV.ab]at hd⊢
  obtain⟨u,ao,e,U,h2⟩:=hd
  exact⟨u,ao,e,AV.wA h x u U,AV.th h xs ao h2⟩
end
theorem zi (k:Nat):∀(H:aa) (b:Nat),b<k->lk (iE k H) b=none
 |[],_,_=>rfl
 |(j,.var e cs)::r,b,h=>by
  have:Nat.beq (k+j) b=false:=by
   cases hq:Nat.beq (k+j) b with
   |false=>rfl
   |true=>have:=Nat.eq_of_beq_eq_true hq;omega
  simp only[iE,lk,this,cond_false];exact zi k r b h
 |(j,.vec e es rows)::r,b,h=>by
  have:Nat.beq (k+j) b=false:=by
   cases hq:Nat.beq (k+j) b with
   |false=>rfl
   |true=>have:=Nat.eq_of_beq_eq_true hq;omega
  simp only[iE,lk,this,cond_false];exact zi k r b h
 |(j,.lp l n st fn q ps E)::r,b,h=>by
  have:Nat.beq (k+j) b=false:=by
   cases hq:Nat.beq (k+j) b with
   |false=>rfl
   |true=>have:=Nat.eq_of_beq_eq_true hq;omega
  simp only[iE,lk,this,cond_false];exact zi k r b h
theorem Ap (k j b:Nat):Nat.beq (k+j) (k+b)=Nat.beq j b:=by
 cases h:Nat.beq j b with
 |true=>have:=Nat.eq_of_beq_eq_true h;subst this;exact Nat.beq_refl _
 |false=>
  cases hq:Nat.beq (k+j) (k+b)with
  |false=>rfl
  |true=>
   have U:=Nat.eq_of_beq_eq_true hq
   have:j=b:=by omega
   subst this
   rw[Nat.beq_refl]at h;cases h
theorem zh (k:Nat):∀(H:aa) (b:Nat),lk (iE k H) (k+b)=(lk H b).map (tg k)
 |[],_=>rfl
 |(j,.var e cs)::r,b=>by
  simp only[iE,lk,Ap]
  cases Nat.beq j b with
  |true=>rfl
  |false=>simpa using zh k r b
 |(j,.vec e es rows)::r,b=>by
  simp only[iE,lk,Ap]
  cases Nat.beq j b with
  |true=>rfl
  |false=>simpa using zh k r b
 |(j,.lp l n st fn q ps E)::r,b=>by
  simp only[iE,lk,Ap]
  cases Nat.beq j b with
  |true=>rfl
  |false=>simpa using zh k r b
theorem vQ:∀(H H':aa) (b:Nat),lk (H++H') b=match lk H b with|some o=>some o|none=>lk H' b
 |[],_,_=>rfl
 |(j,o)::r,H',b=>by
  simp only[List.cons_append,lk]
  cases Nat.beq j b with
  |true=>rfl
  |false=>simpa using vQ r H' b
def pD (k:Nat) (φ a8:al):al:=fun b=>if b<k then φ b else a8 (b-k)
theorem Tg {w:World} {φ φ':al} {I:Nat->Prop} {k:Nat} (h:∀b p,φ b=some p->φ' (k+b)=some p) {o:Ob} {p:Option Nat} (ho:o.at w φ I p):(tg k o).at w φ' I p:=by
 cases o with
 |var e cs=>
  simp only[tg,Ob.at]at ho⊢
  obtain⟨g,us,U,h2,h3,h4⟩:=ho
  exact⟨g,us,U,h2,AV.th h cs us h3,h4⟩
 |vec e es rows=>exact ho
 |lp l n st fn q ps E=>
  simp only[tg,Ob.at]at ho⊢
  obtain⟨h0,T,D,b_,U,h2,h3⟩:=ho
  refine⟨h0,T,D,b_,U,h2,fun i x hx=>?_⟩
  rw[KP]at hx
  cases hy:lk E i with
  |none=>rw[hy]at hx;cases hx
  |some y=>
   rw[hy]at hx
   simp only[Option.map_some,Option.some.injEq]at hx
   subst hx
   obtain⟨u,hu,hd⟩:=h3 i y hy
   exact⟨u,hu,AV.wA h y u hd⟩
theorem St.MB {B:Bs} {φ a8:al} {I I1:Nat->Prop} {H H1:aa} {w w1:World} (h:St B φ I H w) (U:St ⟨w,cP (fun _=>none),I,fun _=>none,0⟩ a8 I1 H1 w1):
  St B (pD (aL B.nb H) φ a8) I1 (iE (aL B.nb H) H1++H) w1/\bt w φ I w1 (pD (aL B.nb H) φ a8) I1/\∀b p,a8 b=some p->pD (aL B.nb H) φ a8 (aL B.nb H+b)=some p:=by
 have hnb:=gL B.nb H
 have e6:∀b,aL B.nb H<=b->lk H b=none:=fun b hb=>by
  cases hl:lk H b with
  |none=>rfl
  |some o=>have:=oz H b o hl;omega
 generalize hk:aL B.nb H=k at*
 have QQ:∀b,k<=b->φ b=none:=fun b hb=>by
  have:=h.real.bq b
  rw[e6 b hb]at this
  cases hq:φ b with
  |none=>rfl
  |some x=>rw[hq]at this;cases this
 have jl:∀b,b<k->pD k φ a8 b=φ b:=fun b hb=>by simp[pD,hb]
 have jr:∀b,pD k φ a8 (k+b)=a8 b:=fun b=>by
  have:¬k+b<k:=by omega
  simp[pD,this]
 have ag:∀b p,φ b=some p->b<k:=fun b p hp=>by
  rcases Nat.lt_or_ge b k with h'|h'
  ·exact h'
  ·rw[QQ b h']at hp;cases hp
 have bL:∀g,¬cP (fun _=>none) g:=fun g ⟨b,hb⟩=>by cases hb
 have ld:∀g,g<w.heap.size->w1.heap[g]?=w.heap[g]?:=fun g hg=>U.ext.dL g hg (bL g)
 have kC:∀b g,a8 b=some (some g)->w.heap.size<=g:=fun b g hb=>(U.bU b g hb).resolve_left (bL g)
 have uP:∀g,I1 g->I g\/w.heap.size<=g:=fun g hg=>by
  rcases U.c8 g hg with h|h|h
  ·exact .inl h
  ·exact absurd h (bL g)
  ·exact .inr h
 have kp:bt w φ I w1 (pD k φ a8) I1:=⟨fun g hg=>ld g (h.real.bO g hg),U.cj,fun b p hp=>by rw[jl b (ag b p hp)];exact hp,fun _ g n _ hs=>U.ext.shaped (bL g) hs⟩
 have split:∀b,b<k\/∃c,b=k+c:=fun b=>by
  rcases Nat.lt_or_ge b k with h'|h'
  ·exact .inl h'
  ·exact .inr ⟨b-k,by omega⟩
 have Da:∀b,b<k->lk (iE k H1++H) b=lk H b:=fun b hb=>by rw[vQ,zi k H1 b hb]
 have I4:∀c,lk (iE k H1++H) (k+c)=(lk H1 c).map (tg k):=fun c=>by
  rw[vQ,zh k H1 c]
  cases hl:lk H1 c with
  |none=>simpa using e6 (k+c) (by omega)
  |some o=>rfl
 refine⟨⟨⟨fun b=>?_,fun b o p hl hp=>?_,fun b g hp=>?_,fun b1 b2 g eC eP=>?_,U.real.bO⟩,h.ext.trans U.ext (fun g hg=>absurd hg (bL g)),fun b g hp=>?_,fun g hg=>?_,fun g hg=>U.cj g (h.cj g hg),fun b g oo hb h0 hl=>?_⟩,kp,fun b p hb=>by rw[jr];exact hb⟩
 ·rcases split b with hb|⟨c,rfl⟩
  ·rw[jl b hb,Da b hb];exact h.real.bq b
  ·rw[jr,I4]
   have:=U.real.bq c
   rw[this];cases lk H1 c<;>rfl
 ·rcases split b with hb|⟨c,rfl⟩
  ·rw[jl b hb]at hp;rw[Da b hb]at hl
   refine Ob.jM kp.im kp.I kp.phi kp.sh (fun g hg=>?_) (h.real.own b o p hl hp)
   subst hg
   exact ld g (h.real.off b g hp).2
  ·rw[jr]at hp;rw[I4]at hl
   cases e8:lk H1 c with
   |none=>rw[e8]at hl;cases hl
   |some o1=>
    rw[e8]at hl
    cases hl
    exact Tg (fun b p hb=>by rw[jr];exact hb) (U.real.own c o1 p e8 hp)
 ·rcases split b with hb|⟨c,rfl⟩
  ·rw[jl b hb]at hp
   have:=h.real.off b g hp
   exact⟨fun hi=>(uP g hi).elim this.1 (by omega),Nat.lt_of_lt_of_le this.2 U.ext.size⟩
  ·rw[jr]at hp;exact U.real.off c g hp
 ·rcases split b1 with e1|⟨c1,rfl⟩<;>rcases split b2 with e2|⟨c2,rfl⟩
  ·rw[jl b1 e1]at eC;rw[jl b2 e2]at eP;exact h.real.inj b1 b2 g eC eP
  ·rw[jl b1 e1]at eC;rw[jr]at eP
   have:=(h.real.off b1 g eC).2;have:=kC c2 g eP;omega
  ·rw[jr]at eC;rw[jl b2 e2]at eP
   have:=(h.real.off b2 g eP).2;have:=kC c1 g eC;omega
  ·rw[jr]at eC eP;rw[U.real.inj c1 c2 g eC eP]
 ·rcases split b with hb|⟨c,rfl⟩
  ·rw[jl b hb]at hp;exact h.bU b g hp
  ·rw[jr]at hp;exact .inr (Nat.le_trans h.ext.size (kC c g hp))
 ·rcases uP g hg with hg|hg
  ·exact h.c8 g hg
  ·exact .inr (.inr (Nat.le_trans h.ext.size hg))
 ·have bK:b<k:=by omega
  rw[jl b bK];rw[Da b bK]at hl
  exact h.cD b g oo hb h0 hl
section
variable {C:Cx} {K:List PK} {E:Env} {H:aa}
theorem AQ.Ax {ds:List (Nat×Nat)} {i:Nat} {d:Option Nat} {ty:TypeId} {pos:String} {af:Array Edge} {os:List Oper} {f:FuncId} {xs:List Operand} {aV:Array TypeId} {l:List AV} {R:AV->aa->Prop}
  (ai:bl C.n ({dst:=d,op:= .call {callee:= .value (.func f),args:=xs.toArray,argTypes:=aV},type:=ty,pos:=pos,after:=af,guard:=none}::os)=true)
  (hl:dI E xs=some l) (du:gs l=true) (e6:AV.frees (l.map AV.st)=true) (hc:aj C.P f (l.map AV.st) [] R)
  (h:∀r H',R r H'->vq C K os (aZ d i ds) (i+1) (a6 d (AV.sh (aL C.B.nb H) r) E) (iE (aL C.B.nb H) H'++H)):
  AQ C ds i ({dst:=d,op:= .call {callee:= .value (.func f),args:=xs.toArray,argTypes:=aV},type:=ty,pos:=pos,after:=af,guard:=none}::os) K E H:=by
 obtain⟨hd,ca⟩:=ef ai
 have bB:∀r H',R r H'->AQ C (aZ d i ds) (i+1) os K (a6 d (AV.sh (aL C.B.nb H) r) E) (iE (aL C.B.nb H) H'++H):=fun r H' hr=>AQ.go ca (h r H' hr)
 unfold AQ at bB⊢
 refine AO.step (o:={dst:=d,op:= .call {callee:= .value (.func f),args:=xs.toArray,argTypes:=aV},type:=ty,pos:=pos,after:=af,guard:=none}) fun ops φ I a w aT _ hs Kn bI=>?_
 have hw:Region.wanted {dst:=d,op:= .call {callee:= .value (.func f),args:=xs.toArray,argTypes:=aV},type:=ty,pos:=pos,after:=af,guard:=none} (yielded ops a.tmps)=true:=by simp[Region.wanted]
 rw[if_pos hw]
 have a_:=AV.o8 (φ':=fun _=>none) _ _ e6 (k5 hs.env _ _ hl du)
 have aE:(execOp a.eval {dst:=d,op:= .call {callee:= .value (.func f),args:=xs.toArray,argTypes:=aV},type:=ty,pos:=pos,after:=af,guard:=none}).run C.P w= .ok (.enter f (xs.map a.eval).toArray) w:=by
  have:execOp a.eval {dst:=d,op:= .call {callee:= .value (.func f),args:=xs.toArray,argTypes:=aV},type:=ty,pos:=pos,after:=af,guard:=none}=callFunc f (#[]++xs.toArray.map a.eval++#[]):=by simp only[execOp];rfl
  rw[this,te hc.gh]
  simp
 unfold Oper.wp
 rw[aE,Oper.upon_enter]
 refine(hc.run w (fun _=>none) I _ a_ (zJ hs.st.real) hs.st.vk).mono fun e w' ⟨r,H',φ',I',v,hr,he,bR,hS⟩=>?_
 subst he
 obtain⟨jU,hk,hj⟩:=hs.st.MB hS
 exact bI _ _ _ I' _ _ (bB r H' hr) (hs.put jU hk hd (AV.wA hj r v bR))
end
attribute [go_sem] AV.sh AV.jJ iE tg tf
section
variable {C:Cx} {K:List PK} {E:Env} {H:aa}
def wB:AV->AV
 | .opt true x=>x
 |x=>x
def rk:Env->Env
 |[]=>[]
 |(i,x)::r=>(i,wB x)::rk r
theorem Tv {w:World} {φ:al} {I:Nat->Prop} {x:AV} {u:Value} (h:AV.den w φ I x u):AV.den w φ I (wB x) u:=by
 unfold wB
 split
 ·simp only[AV.den]at h;exact h.1 trivial
 ·exact h
theorem K5:∀(E:Env) (i:Nat) (x:AV),lk (rk E) i=some x->∃y,lk E i=some y/\x=wB y
 |[],i,x,h=>by simp[rk,lk]at h
 |(j,y)::r,i,x,h=>by
  simp only[rk,lk]at h⊢
  cases hb:Nat.beq j i with
  |true=>rw[hb]at h;simp at h⊢;exact h.symm
  |false=>rw[hb]at h;simpa using K5 r i x h
end
attribute [go_sem] wB rk
mutual
def AV.rn (ρ:Nat->Nat):AV->AV
 | .ob b o=> .ob (ρ b) o
 | .oe b es i j=> .oe (ρ b) es i j
 | .os b es i n=> .os (ρ b) es i n
 | .fn f fs aJ=> .fn f (AV.cd ρ fs) (AV.cd ρ aJ)
 | .agg cs=> .agg (AV.cd ρ cs)
 | .aM cs=> .aM (AV.cd ρ cs)
 | .opt g x=> .opt g (AV.rn ρ x)
 | .im x=> .im x
 | .ar x=> .ar x
 | .top=> .top
 | .mp b=> .mp (ρ b)
 | .wr q x=> .wr q (AV.rn ρ x)
def AV.cd (ρ:Nat->Nat):List AV->List AV
 |[]=>[]
 |x::xs=>AV.rn ρ x::AV.cd ρ xs
end
def oG (ρ:Nat->Nat):Env->Env
 |[]=>[]
 |(i,x)::r=>(i,AV.rn ρ x)::oG ρ r
theorem zK (ρ:Nat->Nat):∀(E:Env) (i:Nat),lk (oG ρ E) i=(lk E i).map (AV.rn ρ)
 |[],_=>rfl
 |(j,x)::r,i=>by
  simp only[oG,lk]
  cases Nat.beq j i with
  |true=>rfl
  |false=>simpa using zK ρ r i
def cH (ρ:Nat->Nat):Ob->Ob
 | .var e cs=> .var e (AV.cd ρ cs)
 | .vec e es rows=> .vec e es rows
 | .lp l n st fn q ps E=> .lp l n st fn q ps (oG ρ E)
mutual
theorem AV.ri {w:World} {φ φ':al} {I:Nat->Prop} {ρ:Nat->Nat} (h:∀b p,φ b=some p->φ' (ρ b)=some p):∀(x:AV) (u:Value),AV.den w φ I x u->AV.den w φ' I (AV.rn ρ x) u
 | .ob b o,u,hd=>by simp only[AV.rn,AV.den]at hd⊢;obtain⟨g,U,h2⟩:=hd;exact⟨g,h _ _ U,h2⟩
 | .oe b es i j,u,hd=>by simp only[AV.rn,AV.den]at hd⊢;obtain⟨g,U,h2⟩:=hd;exact⟨g,h _ _ U,h2⟩
 | .os b es i n,u,hd=>by
  simp only[AV.rn,AV.den]at hd⊢
  rcases hd with⟨U,h2⟩|⟨g,c,U,h2⟩
  ·exact .inl ⟨h _ _ U,h2⟩
  ·exact .inr ⟨g,c,h _ _ U,h2⟩
 | .fn f fs aJ,u,hd=>by simp only[AV.rn,AV.den]at hd⊢;obtain⟨us,vs,U,h2,h3⟩:=hd;exact⟨us,vs,AV.tc h fs us U,AV.tc h aJ vs h2,h3⟩
 | .agg cs,u,hd=>by simp only[AV.rn,AV.den]at hd⊢;obtain⟨us,U,h2⟩:=hd;exact⟨us,AV.tc h cs us U,h2⟩
 | .aM cs,u,hd=>by simp only[AV.rn,AV.den]at hd⊢;obtain⟨us,U,h2⟩:=hd;exact⟨us,AV.tc h cs us U,h2⟩
 | .opt g x,u,hd=>by simp only[AV.rn,AV.den]at hd⊢;exact⟨fun hg=>AV.ri h x u (hd.1 hg),hd.2⟩
 | .im x,u,hd=>by simpa only[AV.rn,AV.den]using hd
 | .ar x,u,hd=>by simpa only[AV.rn,AV.den]using hd
 | .top,_,_=>by simp only[AV.rn,AV.den]
 | .mp b,u,hd=>by simp only[AV.rn,AV.den]at hd⊢;obtain⟨g,U,h2⟩:=hd;exact⟨g,h _ _ U,h2⟩
 | .wr q x,u,hd=>by simp only[AV.rn,AV.den]at hd⊢;obtain⟨v,U,h2⟩:=hd;exact⟨v,U,AV.ri h x v h2⟩
theorem AV.tc {w:World} {φ φ':al} {I:Nat->Prop} {ρ:Nat->Nat} (h:∀b p,φ b=some p->φ' (ρ b)=some p):∀(xs:List AV) (us:List Value),AV.ab w φ I xs us->AV.ab w φ' I (AV.cd ρ xs) us
 |[],us,hd=>by simpa only[AV.cd,AV.ab]using hd
 |x::xs,us,hd=>by
  simp only[AV.cd,AV.ab]at hd⊢
  obtain⟨u,ao,e,U,h2⟩:=hd
  exact⟨u,ao,e,AV.ri h x u U,AV.tc h xs ao h2⟩
end
mutual
theorem AV.wo {w:World} {φ φ':al} {I:Nat->Prop} {ρ:Nat->Nat} (h:∀b,φ b=φ' (ρ b)):∀(x:AV) (u:Value),AV.den w φ' I (AV.rn ρ x) u->AV.den w φ I x u
 | .ob b o,u,hd=>by simp only[AV.rn,AV.den]at hd⊢;rw[h];exact hd
 | .oe b es i j,u,hd=>by simp only[AV.rn,AV.den]at hd⊢;rw[h];exact hd
 | .os b es i n,u,hd=>by simp only[AV.rn,AV.den]at hd⊢;rw[h];exact hd
 | .fn f fs aJ,u,hd=>by simp only[AV.rn,AV.den]at hd⊢;obtain⟨us,vs,U,h2,h3⟩:=hd;exact⟨us,vs,AV.oH h fs us U,AV.oH h aJ vs h2,h3⟩
 | .agg cs,u,hd=>by simp only[AV.rn,AV.den]at hd⊢;obtain⟨us,U,h2⟩:=hd;exact⟨us,AV.oH h cs us U,h2⟩
 | .aM cs,u,hd=>by simp only[AV.rn,AV.den]at hd⊢;obtain⟨us,U,h2⟩:=hd;exact⟨us,AV.oH h cs us U,h2⟩
 | .opt g x,u,hd=>by simp only[AV.rn,AV.den]at hd⊢;exact⟨fun hg=>AV.wo h x u (hd.1 hg),hd.2⟩
 | .im x,u,hd=>by simpa only[AV.rn,AV.den]using hd
 | .ar x,u,hd=>by simpa only[AV.rn,AV.den]using hd
 | .top,_,_=>by simp only[AV.den]
 | .mp b,u,hd=>by simp only[AV.rn,AV.den]at hd⊢;rw[h];exact hd
 | .wr q x,u,hd=>by simp only[AV.rn,AV.den]at hd⊢;obtain⟨v,U,h2⟩:=hd;exact⟨v,U,AV.wo h x v h2⟩
theorem AV.oH {w:World} {φ φ':al} {I:Nat->Prop} {ρ:Nat->Nat} (h:∀b,φ b=φ' (ρ b)):∀(xs:List AV) (us:List Value),AV.ab w φ' I (AV.cd ρ xs) us->AV.ab w φ I xs us
 |[],us,hd=>by simpa only[AV.cd,AV.ab]using hd
 |x::xs,us,hd=>by
  simp only[AV.cd,AV.ab]at hd⊢
  obtain⟨u,ao,e,U,h2⟩:=hd
  exact⟨u,ao,e,AV.wo h x u U,AV.oH h xs ao h2⟩
end
theorem zL {w:World} {φ φ':al} {I:Nat->Prop} {ρ:Nat->Nat} (h:∀b p,φ b=some p->φ' (ρ b)=some p) {o:Ob} {p:Option Nat} (ho:o.at w φ I p):(cH ρ o).at w φ' I p:=by
 cases o with
 |var e cs=>
  simp only[cH,Ob.at]at ho⊢
  obtain⟨g,us,U,h2,h3,h4⟩:=ho
  exact⟨g,us,U,h2,AV.tc h cs us h3,h4⟩
 |vec e es rows=>exact ho
 |lp l n st fn q ps E=>
  simp only[cH,Ob.at]at ho⊢
  obtain⟨h0,T,D,b_,U,h2,h3⟩:=ho
  refine⟨h0,T,D,b_,U,h2,fun i x hx=>?_⟩
  rw[zK]at hx
  cases hy:lk E i with
  |none=>rw[hy]at hx;cases hx
  |some y=>
   rw[hy]at hx
   simp only[Option.map_some,Option.some.injEq]at hx
   subst hx
   obtain⟨u,hu,hd⟩:=h3 i y hy
   exact⟨u,hu,AV.ri h y u hd⟩
theorem SS {w:World} {φ φ':al} {I:Nat->Prop} {ρ:Nat->Nat} (h:∀b,φ b=φ' (ρ b)) {o:Ob} {p:Option Nat} (ho:(cH ρ o).at w φ' I p):o.at w φ I p:=by
 cases o with
 |var e cs=>
  simp only[cH,Ob.at]at ho⊢
  obtain⟨g,us,U,h2,h3,h4⟩:=ho
  exact⟨g,us,U,h2,AV.oH h cs us h3,h4⟩
 |vec e es rows=>exact ho
 |lp l n st fn q ps E=>
  simp only[cH,Ob.at]at ho⊢
  obtain⟨h0,T,D,b_,U,h2,h3⟩:=ho
  refine⟨h0,T,D,b_,U,h2,fun i x hx=>?_⟩
  obtain⟨u,hu,hd⟩:=h3 i (AV.rn ρ x) (by rw[zK,hx];rfl)
  exact⟨u,hu,AV.wo h x u hd⟩
theorem St.Db {B:Bs} {φ:al} {I:Nat->Prop} {H:aa} {w:World} (h:St B φ I H w) {b:Nat} (hb:lk H b=none):φ b=none:=by
 have:=h.real.bq b
 rw[hb]at this
 cases hq:φ b with
 |none=>rfl
 |some x=>rw[hq]at this;cases this
def r1 (b b' c:Nat):Nat:=bif Nat.beq c b then b' else c
def kP (b b':Nat):aa->aa
 |[]=>[]
 |(c,o)::r=>(r1 b b' c,cH (r1 b b') o)::kP b b' r
theorem zG {b b' c:Nat} (h:c≠b):r1 b b' c=c:=by
 unfold r1
 cases hq:Nat.beq c b with
 |true=>exact absurd (Nat.eq_of_beq_eq_true hq) h
 |false=>rfl
theorem DN {b b':Nat}:r1 b b' b=b':=by simp[r1]
theorem C9 {b b':Nat} (aR:b≠b'):∀(H:aa),lk H b'=none->lk (kP b b' H) b'=(lk H b).map (cH (r1 b b'))
 |[],_=>rfl
 |(c,o)::r,h=>by
  simp only[lk]at h
  simp only[kP,lk]
  by_cases hc:c=b
  ·subst hc;simp[r1]
  ·rw[zG hc]
   cases hq:Nat.beq c b' with
   |true=>rw[hq]at h;simp at h
   |false=>
    rw[hq]at h
    have:Nat.beq c b=false:=by
     cases hz:Nat.beq c b with
     |false=>rfl
     |true=>exact absurd (Nat.eq_of_beq_eq_true hz) hc
    simp only[this,cond_false]at h⊢
    exact C9 aR r h
theorem C_ {b b':Nat} (aR:b≠b'):∀(H:aa),lk (kP b b' H) b=none
 |[]=>rfl
 |(c,o)::r=>by
  simp only[kP,lk]
  have:Nat.beq (r1 b b' c) b=false:=by
   cases hz:Nat.beq (r1 b b' c) b with
   |false=>rfl
   |true=>
    have:=Nat.eq_of_beq_eq_true hz
    by_cases hc:c=b
    ·subst hc;rw[DN]at this;exact absurd this.symm aR
    ·rw[zG hc]at this;exact absurd this hc
  rw[this];exact C_ aR r
theorem vV {b b' c:Nat} (U:c≠b) (h2:c≠b'):∀(H:aa),lk (kP b b' H) c=(lk H c).map (cH (r1 b b'))
 |[]=>rfl
 |(d,o)::r=>by
  simp only[kP,lk]
  by_cases hd:d=b
  ·subst hd
   have e1:Nat.beq b' c=false:=by
    cases hz:Nat.beq b' c with
    |false=>rfl
    |true=>exact absurd (Nat.eq_of_beq_eq_true hz).symm h2
   have e2:Nat.beq d c=false:=by
    cases hz:Nat.beq d c with
    |false=>rfl
    |true=>exact absurd (Nat.eq_of_beq_eq_true hz).symm U
   rw[DN,e1,e2];exact vV U h2 r
  ·rw[zG hd]
   cases Nat.beq d c with
   |true=>rfl
   |false=>simpa using vV U h2 r
def i_ (b b':Nat) (φ:al):al:=fun c=>if c=b then none else if c=b' then φ b else φ c
theorem St.rename {B:Bs} {φ:al} {I:Nat->Prop} {H:aa} {w:World} (h:St B φ I H w) (b b':Nat) (bK:lk H b'=none) (aR:b≠b') (hnb:B.nb<=b'):St B (i_ b b' φ) I (kP b b' H) w/\∀c p,φ c=some p->i_ b b' φ (r1 b b' c)=some p:=by
 have h0:=h.Db bK
 have BX:∀c p,φ c=some p->i_ b b' φ (r1 b b' c)=some p:=fun c p hc=>by
  by_cases e:c=b
  ·subst e;rw[DN];simp only[i_,if_neg (Ne.symm aR),if_true];exact hc
  ·rw[zG e]
   have:c≠b':=fun e2=>by subst e2;rw[h0]at hc;cases hc
   simp only[i_,if_neg e,if_neg this];exact hc
 refine⟨⟨⟨fun c=>?_,fun c o p hl hp=>?_,fun c g hp=>?_,fun c1 c2 g U h2=>?_,h.real.bO⟩,h.ext,fun c g hp=>?_,h.c8,h.cj,fun c p o ag sq hl=>?_⟩,BX⟩
 ·by_cases e1:c=b
  ·subst e1;rw[C_ aR];simp[i_]
  ·by_cases e2:c=b'
   ·subst e2;rw[C9 aR H bK];simp only[i_,if_neg e1,if_true];rw[h.real.bq b];cases lk H b<;>rfl
   ·rw[vV e1 e2];simp only[i_,if_neg e1,if_neg e2];rw[h.real.bq c];cases lk H c<;>rfl
 ·by_cases e1:c=b
  ·subst e1;simp[i_]at hp
  ·by_cases e2:c=b'
   ·subst e2
    rw[C9 aR H bK]at hl
    simp only[i_,if_neg e1,if_true]at hp
    cases hq:lk H b with
    |none=>rw[hq]at hl;cases hl
    |some o1=>rw[hq]at hl;cases hl;exact zL BX (h.real.own b o1 p hq hp)
   ·rw[vV e1 e2]at hl
    simp only[i_,if_neg e1,if_neg e2]at hp
    cases hq:lk H c with
    |none=>rw[hq]at hl;cases hl
    |some o1=>rw[hq]at hl;cases hl;exact zL BX (h.real.own c o1 p hq hp)
 ·unfold i_ at hp
  split at hp
  ·cases hp
  ·split at hp
   ·exact h.real.off b g hp
   ·exact h.real.off c g hp
 ·unfold i_ at U h2
  split at U
  ·cases U
  ·split at h2
   ·cases h2
   ·split at U<;>split at h2
    ·rename_i e1 e2;rw[e1,e2]
    ·rename_i n1 n2 e1 e2;exact absurd (h.real.inj _ _ g U h2).symm n2
    ·rename_i n1 n2 e1 e2;exact absurd (h.real.inj _ _ g U h2) n1
    ·exact h.real.inj _ _ g U h2
 ·unfold i_ at hp
  split at hp
  ·cases hp
  ·split at hp
   ·exact h.bU b g hp
   ·exact h.bU c g hp
 ·by_cases e1:c=b
  ·subst e1;rw[C_ aR]at hl;cases hl
  ·have e2:c≠b':=by omega
   rw[vV e1 e2]at hl
   simp only[i_,if_neg e1,if_neg e2]
   cases hq:lk H c with
   |none=>rw[hq]at hl;cases hl
   |some o1=>exact h.cD c p o1 ag sq hq
theorem bn.rename {C:Cx} {φ:al} {I:Nat->Prop} {E:Env} {H:aa} {a:Act} {w:World} (h:bn C φ I E H a w) (b b':Nat) (bK:lk H b'=none) (aR:b≠b') (hnb:C.B.nb<=b'):bn C (i_ b b' φ) I (oG (r1 b b') E) (kP b b' H) a w:=by
 obtain⟨hS,hf⟩:=h.st.rename b b' bK aR hnb
 refine⟨h.bD,h.bE,fun i x hx=>?_,hS⟩
 rw[zK]at hx
 cases hq:lk E i with
 |none=>rw[hq]at hx;cases hx
 |some y=>
  rw[hq]at hx;cases hx
  obtain⟨u,hu,hd⟩:=h.env i y hq
  exact⟨u,hu,AV.ri hf y u hd⟩
theorem St.perm {B:Bs} {φ:al} {I:Nat->Prop} {H H':aa} {w:World} (h:St B φ I H w) (hp:∀b,lk H b=lk H' b):St B φ I H' w:=
 ⟨⟨fun b=>by rw[<-hp];exact h.real.bq b,fun b o p hl=>h.real.own b o p (by rw[hp];exact hl),h.real.off,h.real.inj,h.real.bO⟩,h.ext,h.bU,h.c8,h.cj,fun b p o ag h0 hl=>h.cD b p o ag h0 (by rw[hp];exact hl)⟩
section
variable {C:Cx} {K:List PK} {E:Env} {H:aa}
theorem AE.rename {e:Exit} (b b':Nat) (bK:lk H b'=none) (aR:Nat.beq b b'=false) (hnb:Nat.ble C.B.nb b'=true) (h:AE C e K (oG (r1 b b') E) (kP b b' H)):AE C e K E H:=by
 unfold AE at h⊢
 exact fun φ I a w hs=>h _ _ _ _ (hs.rename b b' bK (fun e=>by subst e;simp at aR) (Nat.le_of_ble_eq_true hnb))
theorem AP.rename {p:List Nat} (b b':Nat) (bK:lk H b'=none) (aR:Nat.beq b b'=false) (hnb:Nat.ble C.B.nb b'=true) (h:AP C p K (oG (r1 b b') E) (kP b b' H)):AP C p K E H:=by
 unfold AP at h⊢
 exact fun φ I a w hs=>h _ _ _ _ (hs.rename b b' bK (fun e=>by subst e;simp at aR) (Nat.le_of_ble_eq_true hnb))
theorem AQ.rename {ds:List (Nat×Nat)} {i:Nat} {rest:List Oper} (b b':Nat) (bK:lk H b'=none) (aR:Nat.beq b b'=false) (hnb:Nat.ble C.B.nb b'=true) (h:AQ C ds i rest K (oG (r1 b b') E) (kP b b' H)):AQ C ds i rest K E H:=by
 unfold AQ at h⊢
 exact fun ops U h2 φ I a w hs=>h ops U h2 _ _ _ _ (hs.rename b b' bK (fun e=>by subst e;simp at aR) (Nat.le_of_ble_eq_true hnb))
theorem AE.perm {e:Exit} (H':aa) (hp:∀b,lk H b=lk H' b) (h:AE C e K E H'):AE C e K E H:=by
 unfold AE at h⊢
 exact fun φ I a w hs=>h _ _ _ _ ⟨hs.bD,hs.bE,hs.env,hs.st.perm hp⟩
theorem AP.perm {p:List Nat} (H':aa) (hp:∀b,lk H b=lk H' b) (h:AP C p K E H'):AP C p K E H:=by
 unfold AP at h⊢
 exact fun φ I a w hs=>h _ _ _ _ ⟨hs.bD,hs.bE,hs.env,hs.st.perm hp⟩
theorem AQ.perm {ds:List (Nat×Nat)} {i:Nat} {rest:List Oper} (H':aa) (hp:∀b,lk H b=lk H' b) (h:AQ C ds i rest K E H'):AQ C ds i rest K E H:=by
 unfold AQ at h⊢
 exact fun ops U h2 φ I a w hs=>h ops U h2 _ _ _ _ ⟨hs.bD,hs.bE,hs.env,hs.st.perm hp⟩
end
attribute [go_sem] AV.rn AV.cd cH oG r1 kP
def bm (m:List (Nat×Nat)) (k b:Nat):Nat:=match lk m b with
 |some c=>c
 |none=>k+b
def dv:List (Nat×Nat)->Nat->Option Nat
 |[],_=>none
 |(b,c')::r,c=>bif Nat.beq c' c then some b else dv r c
def eQ:List (Nat×Nat)->List Nat
 |[]=>[]
 |(b,_)::r=>b::eQ r
def jc:List (Nat×Nat)->List Nat
 |[]=>[]
 |(_,c)::r=>c::jc r
def ly:aa->List Nat
 |[]=>[]
 |(b,_)::r=>b::ly r
def fF:List Nat->Bool
 |[]=>true
 |x::r=>!(bJ r x)&&fF r
def jG (ρ:Nat->Nat) (H:aa):aa->Prop
 |[]=>True
 |(b,o)::r=>lk H (ρ b)=some (cH ρ o)/\jG ρ H r
def bZ (H1:aa):List (Nat×Nat)->List Nat
 |[]=>[]
 |(b,c)::r=>match lk H1 b with
  |some _=>bZ H1 r
  |none=>c::bZ H1 r
def c6 (m:List (Nat×Nat)):aa->aa
 |[]=>[]
 |(c,o)::r=>match dv m c with
  |some _=>c6 m r
  |none=>(c,o)::c6 m r
def pP (m:List (Nat×Nat)) (k:Nat):aa->aa
 |[]=>[]
 |(b,o)::r=>match lk m b with
  |some _=>pP m k r
  |none=>(k+b,cH (bm m k) o)::pP m k r
def q_ (m:List (Nat×Nat)) (k:Nat) (H1:aa):aa->aa
 |[]=>[]
 |(c,o)::r=>match dv m c with
  |none=>(c,o)::q_ m k H1 r
  |some b=>match lk H1 b with
   |some o1=>(c,cH (bm m k) o1)::q_ m k H1 r
   |none=>q_ m k H1 r
def eK (m:List (Nat×Nat)) (k:Nat) (H H1:aa):aa:=pP m k H1++q_ m k H1 H
def fh:List Nat->Env->Env
 |[],E=>E
 |d::r,E=>fh r (killE d E)
def jF:List Nat->aa->Bool
 |[],_=>true
 |d::r,H=>noMen d H&&jF r H
theorem gC {a b:Nat} (h:a≠b):Nat.beq a b=false:=by
 cases hq:Nat.beq a b with
 |false=>rfl
 |true=>exact absurd (Nat.eq_of_beq_eq_true hq) h
theorem CP:∀(m:List (Nat×Nat)) (b c:Nat),dv m c=some b->(b,c)∈m
 |[],_,_,h=>by cases h
 |(b',c')::r,b,c,h=>by
  simp only[dv]at h
  cases hq:Nat.beq c' c with
  |true=>
   rw[hq]at h
   have:=Nat.eq_of_beq_eq_true hq
   subst this
   simp at h;subst h;simp
  |false=>rw[hq]at h;exact List.mem_cons_of_mem _ (CP r b c h)
theorem I2:∀(m:List (Nat×Nat)) (b c:Nat),lk m b=some c->(b,c)∈m
 |[],_,_,h=>by cases h
 |(b',c')::r,b,c,h=>by
  simp only[lk]at h
  cases hq:Nat.beq b' b with
  |true=>
   rw[hq]at h
   have:=Nat.eq_of_beq_eq_true hq
   subst this
   simp at h;subst h;simp
  |false=>rw[hq]at h;exact List.mem_cons_of_mem _ (I2 r b c h)
theorem y2:∀(l:List Nat) (x:Nat),bJ l x=true↔x∈l
 |[],x=>by simp[bJ]
 |y::l,x=>by
  simp only[bJ]
  cases hq:Nat.beq y x with
  |true=>have:=Nat.eq_of_beq_eq_true hq;subst this;simp
  |false=>
   have:x≠y:=fun e=>by subst e;simp at hq
   simp[y2 l x,this]
theorem RM {m:List (Nat×Nat)} {b c:Nat} (h:(b,c)∈m):b∈eQ m:=by
 induction m with
 |nil=>cases h
 |cons x r ih=>
  obtain⟨b',c'⟩:=x
  rcases List.mem_cons.1 h with e|h
  ·cases e;simp[eQ]
  ·simp[eQ,ih h]
theorem RN {m:List (Nat×Nat)} {b c:Nat} (h:(b,c)∈m):c∈jc m:=by
 induction m with
 |nil=>cases h
 |cons x r ih=>
  obtain⟨b',c'⟩:=x
  rcases List.mem_cons.1 h with e|h
  ·cases e;simp[jc]
  ·simp[jc,ih h]
theorem IZ:∀(m:List (Nat×Nat)) (b c:Nat),fF (eQ m)=true->(b,c)∈m->lk m b=some c
 |[],_,_,_,h=>by cases h
 |(b',c')::r,b,c,hn,h=>by
  simp only[eQ,fF,Bool.and_eq_true,Bool.not_eq_true']at hn
  simp only[lk]
  rcases List.mem_cons.1 h with e|h
  ·cases e;simp
  ·have:b'≠b:=fun e=>by
    subst e
    have:=(y2 (eQ r) b').2 (RM h)
    rw[hn.1]at this;cases this
   rw[gC this];exact IZ r b c hn.2 h
theorem IA:∀(m:List (Nat×Nat)) (b c:Nat),fF (jc m)=true->(b,c)∈m->dv m c=some b
 |[],_,_,_,h=>by cases h
 |(b',c')::r,b,c,hn,h=>by
  simp only[jc,fF,Bool.and_eq_true,Bool.not_eq_true']at hn
  simp only[dv]
  rcases List.mem_cons.1 h with e|h
  ·cases e;simp
  ·have:c'≠c:=fun e=>by
    subst e
    have:=(y2 (jc r) c').2 (RN h)
    rw[hn.1]at this;cases this
   rw[gC this];exact IA r b c hn.2 h
theorem DK {ρ:Nat->Nat} {H:aa}:∀(Hc:aa),jG ρ H Hc->∀b o,lk Hc b=some o->lk H (ρ b)=some (cH ρ o)
 |[],_,_,_,h=>by cases h
 |(b',o')::r,hp,b,o,h=>by
  simp only[lk]at h
  cases hq:Nat.beq b' b with
  |true=>
   rw[hq]at h
   have:=Nat.eq_of_beq_eq_true hq
   subst this
   simp at h;subst h;exact hp.1
  |false=>rw[hq]at h;exact DK r hp.2 b o h
theorem IW:∀(H:aa) (b:Nat),(lk H b).isSome=bJ (ly H) b
 |[],_=>rfl
 |(b',o)::r,b=>by
  simp only[lk,ly,bJ]
  cases Nat.beq b' b with
  |true=>rfl
  |false=>simpa using IW r b
theorem IX:∀(m:List (Nat×Nat)) (b:Nat),(lk m b).isSome=bJ (eQ m) b
 |[],_=>rfl
 |(b',o)::r,b=>by
  simp only[lk,eQ,bJ]
  cases Nat.beq b' b with
  |true=>rfl
  |false=>simpa using IX r b
theorem C7 {m:List (Nat×Nat)} {k:Nat}:∀(H1:aa) (c:Nat),c<k->lk (pP m k H1) c=none
 |[],_,_=>rfl
 |(b,o)::r,c,h=>by
  simp only[pP]
  cases lk m b with
  |some _=>exact C7 r c h
  |none=>simp only[lk,gC (show k+b≠c by omega),cond_false];exact C7 r c h
theorem IY {m:List (Nat×Nat)} {k:Nat}:∀(H1:aa) (b:Nat),lk (pP m k H1) (k+b)=match lk m b with|some _=>none|none=>(lk H1 b).map (cH (bm m k))
 |[],b=>by cases lk m b<;>rfl
 |(b',o)::r,b=>by
  have ih:=IY (m:=m) (k:=k) r b
  simp only[pP]
  by_cases e:b'=b
  ·subst e
   cases hm:lk m b' with
   |some c=>rw[hm]at ih;simpa using ih
   |none=>simp[lk]
  ·cases B5:lk m b' with
   |some c=>
    simp only
    rw[ih]
    simp only[lk,gC e,cond_false]
   |none=>simp only[lk,gC e,gC (show k+b'≠k+b by omega),cond_false];exact ih
theorem C8 {m:List (Nat×Nat)} {k:Nat} {H1:aa}:∀(H:aa) (c:Nat),lk (q_ m k H1 H) c=match dv m c with|none=>lk H c|some b=>match lk H c with|none=>none|some _=>(lk H1 b).map (cH (bm m k))
 |[],c=>by cases dv m c<;>rfl
 |(c',o)::r,c=>by
  have ih:=C8 (m:=m) (k:=k) (H1:=H1) r c
  simp only[q_]
  by_cases e:c'=c
  ·subst e
   cases hi:dv m c' with
   |none=>simp[lk]
   |some b=>
    rw[hi]at ih
    simp only at ih⊢
    cases U:lk H1 b with
    |some o1=>simp[lk]
    |none=>
     rw[U]at ih
     simp only[Option.map_none]at ih⊢
     rw[ih]
     cases lk r c'<;>simp[lk]
  ·have hl:lk ((c',o)::r) c=lk r c:=by simp only[lk,gC e,cond_false]
   rw[hl]
   cases se:dv m c' with
   |none=>simp only[lk,gC e,cond_false];exact ih
   |some b'=>
    simp only
    cases U:lk H1 b' with
    |some o1=>simp only[lk,gC e,cond_false];exact ih
    |none=>exact ih
theorem Jn:∀(m:List (Nat×Nat)) (H1:aa) (c:Nat),c∈bZ H1 m↔∃b,(b,c)∈m/\lk H1 b=none
 |[],H1,c=>by simp[bZ]
 |(b',c')::r,H1,c=>by
  have ih:=Jn r H1 c
  simp only[bZ]
  cases h:lk H1 b' with
  |some o=>
   simp only
   rw[ih]
   constructor
   ·rintro⟨b,U,h2⟩;exact⟨b,List.mem_cons_of_mem _ U,h2⟩
   ·rintro⟨b,U,h2⟩
    rcases List.mem_cons.1 U with e|U
    ·cases e;rw[h]at h2;cases h2
    ·exact⟨b,U,h2⟩
  |none=>
   simp only[List.mem_cons]
   rw[ih]
   constructor
   ·rintro(rfl|⟨b,U,h2⟩)
    ·exact⟨b',.inl rfl,h⟩
    ·exact⟨b,.inr U,h2⟩
   ·rintro⟨b,U,h2⟩
    rcases U with e|U
    ·cases e;exact .inl rfl
    ·exact .inr ⟨b,U,h2⟩
def kc (l:List Nat) (φ:al):al:=fun c=>bif bJ l c then none else φ c
theorem EB (d:Nat) (l:List Nat) (φ:al):kc (d::l) φ=kc l (fX φ d):=by
 funext c
 simp only[kc,bJ,fX]
 by_cases e:c=d
 ·subst e;simp
 ·rw[gC (Ne.symm e),if_neg e];rfl
theorem za {w:World} {I:Nat->Prop}:∀(l:List Nat) (φ:al) (E:Env) (i:Nat) (x:AV),lk (fh l E) i=some x->∃y,lk E i=some y/\∀u,AV.den w φ I y u->AV.den w (kc l φ) I x u
 |[],φ,E,i,x,h=>⟨x,h,fun _ h=>h⟩
 |d::l,φ,E,i,x,h=>by
  obtain⟨y,hy,fg⟩:=za (w:=w) (I:=I) l (fX φ d) (killE d E) i x h
  obtain⟨z,hz,CI⟩:=qZ (w:=w) (φ:=φ) (φ':=fX φ d) (I:=I) (b:=d) (fun b' bK=>by simp[fX,bK]) E i y hy
  exact⟨z,hz,fun u hu=>by rw[EB];exact fg u (CI u hu)⟩
theorem JH {w:World} {I:Nat->Prop} {b:Nat} {el:Sh} {cs:List AV} {us:List Value} {H:aa}:∀(l:List Nat) (φ:al),jF l H=true->lk H b=some (.var el cs)->AV.ab w φ I cs us->AV.ab w (kc l φ) I cs us
 |[],_,_,_,h=>h
 |d::l,φ,hn,hl,h=>by
  simp only[jF,Bool.and_eq_true]at hn
  rw[EB]
  exact JH l _ hn.2 hl (AV.pK (fun b' bK=>by simp[fX,bK]) cs us (zr H hn.1 b el cs hl) h)
theorem JG {w:World} {I:Nat->Prop} {b:Nat} {l0 n:Nat} {st:gA} {fn:Func} {q:List Nat} {ps:List Tmp} {E:Env} {i:Nat} {x:AV} {u:Value} {H:aa}:∀(l:List Nat) (φ:al),jF l H=true->lk H b=some (.lp l0 n st fn q ps E)->lk E i=some x->AV.den w φ I x u->AV.den w (kc l φ) I x u
 |[],_,_,_,_,h=>h
 |d::l,φ,hn,hl,hx,h=>by
  simp only[jF,Bool.and_eq_true]at hn
  rw[EB]
  exact JG l _ hn.2 hl hx (AV.ov (fun b' bK=>by simp[fX,bK]) x u (zm E (zt H hn.1 b l0 n st fn q ps E hl) i x hx) h)
theorem zd {m:List (Nat×Nat)}:∀(H:aa) (c:Nat),dv m c=none->lk (c6 m H) c=lk H c
 |[],_,_=>rfl
 |(c',o)::r,c,h=>by
  simp only[c6]
  by_cases e:c'=c
  ·subst e;rw[h];simp[lk]
  ·have hl:lk ((c',o)::r) c=lk r c:=by simp only[lk,gC e,cond_false]
   rw[hl]
   cases dv m c' with
   |none=>simp only[lk,gC e,cond_false];exact zd r c h
   |some b=>exact zd r c h
structure Hand (m:List (Nat×Nat)) (k:Nat) (H Hc:aa):Prop where
 keys:eQ m=ly Hc
 nk:fF (eQ m)=true
 nv:fF (jc m)=true
 pass:jG (bm m k) H Hc
 fresh:∀b o,lk H b=some o->b<k
section
variable {B:Bs} {φ a8:al} {I I1:Nat->Prop} {H H1 Hc:aa} {w w1:World} {m:List (Nat×Nat)} {k:Nat}
theorem nh {b c:Nat} (h:lk m b=some c):bm m k b=c:=by simp[bm,h]
theorem ta {b:Nat} (h:lk m b=none):bm m k b=k+b:=by simp[bm,h]
theorem Hand.bq (h:Hand m k H Hc) (b:Nat):(lk m b).isSome=(lk Hc b).isSome:=by rw[IX,IW,h.keys]
theorem Hand.get (h:Hand m k H Hc) {b c:Nat} (hb:lk m b=some c):∃o,lk Hc b=some o/\lk H c=some (cH (bm m k) o):=by
 have:=h.bq b
 rw[hb]at this
 cases hq:lk Hc b with
 |none=>rw[hq]at this;cases this
 |some o=>
  have h2:=DK Hc h.pass b o hq
  rw[nh hb]at h2
  exact⟨o,rfl,h2⟩
theorem Hand.El (h:Hand m k H Hc) {b c:Nat} (hb:lk m b=some c):c<k:=by
 obtain⟨o,_,h2⟩:=h.get hb
 exact h.fresh _ _ h2
theorem Hand.y6 (h:Hand m k H Hc) {b c:Nat} (hb:lk m b=some c):dv m c=some b:=IA m b c h.nv (I2 m b c hb)
theorem Hand.sJ (h:Hand m k H Hc) {b c:Nat} (hb:dv m c=some b):lk m b=some c:=IZ m b c h.nk (CP m b c hb)
theorem Hand.Iz (h:Hand m k H Hc) (b:Nat):dv m (k+b)=none:=by
 cases hq:dv m (k+b)with
 |none=>rfl
 |some x=>have:=h.El (h.sJ hq);omega
theorem Hand.inj (h:Hand m k H Hc) {b b':Nat} (e:bm m k b=bm m k b'):b=b':=by
 cases U:lk m b with
 |some c=>
  rw[nh U]at e
  cases h2:lk m b' with
  |some c'=>
   rw[nh h2]at e
   subst e
   have:=h.y6 U
   rw[h.y6 h2]at this
   cases this;rfl
  |none=>rw[ta h2]at e;have:=h.El U;omega
 |none=>
  rw[ta U]at e
  cases h2:lk m b' with
  |some c'=>rw[nh h2]at e;have:=h.El h2;omega
  |none=>rw[ta h2]at e;omega
theorem Hand.out (h:Hand m k H Hc) (hS:St B φ I H w) {b:Nat} (hb:lk m b=none):φ (bm m k b)=none:=by
 rw[ta hb]
 refine hS.Db ?_
 cases hq:lk H (k+b)with
 |none=>rfl
 |some o=>have:=h.fresh _ _ hq;omega
theorem Hand.real (h:Hand m k H Hc) (hS:St B φ I H w):Real w (fun b=>φ (bm m k b)) I Hc:=by
 refine⟨fun b=>?_,fun b o p hl hp=>?_,fun b g hp=>hS.real.off _ g hp,fun b b' g U h2=>h.inj (hS.real.inj _ _ g U h2),hS.real.bO⟩
 ·rw[<-h.bq b]
  cases hm:lk m b with
  |none=>show(φ (bm m k b)).isSome=_;rw[h.out hS hm];rfl
  |some c=>
   obtain⟨o,_,h2⟩:=h.get hm
   show(φ (bm m k b)).isSome=_
   rw[nh hm,hS.real.bq c,h2];rfl
 ·have h2:=DK Hc h.pass b o hl
  exact SS (ρ:=bm m k) (φ':=φ) (fun _=>rfl) (hS.real.own _ _ p h2 hp)
def gz (m:List (Nat×Nat)) (k:Nat) (φ a8:al):al:=fun c=>match dv m c with
 |some b=>a8 b
 |none=>if c<k then φ c else match lk m (c-k)with
  |some _=>none
  |none=>a8 (c-k)
theorem rC {c b:Nat} (h:dv m c=some b):gz m k φ a8 c=a8 b:=by simp[gz,h]
theorem wY {c:Nat} (h:dv m c=none) (hc:c<k):gz m k φ a8 c=φ c:=by simp[gz,h,hc]
theorem Hand.Ag (h:Hand m k H Hc) (b:Nat):gz m k φ a8 (k+b)=match lk m b with|some _=>none|none=>a8 b:=by
 have:¬k+b<k:=by omega
 simp only[gz,h.Iz b,if_neg this,Nat.add_sub_cancel_left]
theorem Hand.cls (h:Hand m k H Hc) {c:Nat} {p:Option Nat} (hp:gz m k φ a8 c=some p):(dv m c=none/\c<k/\φ c=some p)\/∃b,c=bm m k b/\a8 b=some p:=by
 cases hi:dv m c with
 |some b=>
  rw[rC hi]at hp
  exact .inr ⟨b,(nh (h.sJ hi)).symm,hp⟩
 |none=>
  rcases Nat.lt_or_ge c k with hc|hc
  ·rw[wY hi hc]at hp;exact .inl ⟨rfl,hc,hp⟩
  ·obtain⟨b,rfl⟩:∃b,c=k+b:=⟨c-k,by omega⟩
   rw[h.Ag b]at hp
   cases hm:lk m b with
   |some _=>rw[hm]at hp;cases hp
   |none=>rw[hm]at hp;exact .inr ⟨b,(ta hm).symm,hp⟩
theorem Hand.fwd (h:Hand m k H Hc) {b:Nat} {p:Option Nat} (hp:a8 b=some p):gz m k φ a8 (bm m k b)=some p:=by
 cases hm:lk m b with
 |some c=>rw[nh hm,rC (h.y6 hm)];exact hp
 |none=>rw[ta hm,h.Ag b,hm];exact hp
theorem Hand.zf (h:Hand m k H Hc) {c:Nat} (hc:c<k):lk (eK m k H H1) c=match dv m c with|none=>lk H c|some b=>(lk H1 b).map (cH (bm m k)):=by
 unfold eK
 rw[vQ,C7 H1 c hc,C8]
 simp only
 cases hi:dv m c with
 |none=>rfl
 |some b=>
  obtain⟨o,_,h2⟩:=h.get (h.sJ hi)
  simp only[h2]
theorem Hand.C6 (h:Hand m k H Hc) (b:Nat):lk (eK m k H H1) (k+b)=match lk m b with|some _=>none|none=>(lk H1 b).map (cH (bm m k)):=by
 have hf:lk H (k+b)=none:=by
  cases hq:lk H (k+b)with
  |none=>rfl
  |some o=>have:=h.fresh _ _ hq;omega
 unfold eK
 rw[vQ,IY,C8,h.Iz b,hf]
 cases lk m b with
 |some _=>rfl
 |none=>simp only;cases lk H1 b<;>rfl
theorem Hand.after (h:Hand m k H Hc) (PL:B.nb<=k) (hS:St B φ I H w) (U:St ⟨w,cP (fun b=>φ (bm m k b)),I,fun b=>φ (bm m k b),cU Hc⟩ a8 I1 H1 w1) (hd:jF (bZ H1 m) (c6 m H)=true):
  St B (gz m k φ a8) I1 (eK m k H H1) w1/\(∀c p,kc (bZ H1 m) φ c=some p->gz m k φ a8 c=some p)/\(∀g,I g->w1.heap[g]?=w.heap[g]?)/\(∀g,I g->I1 g)/\(∀c g n,kc (bZ H1 m) φ c=some (some g)->shaped w g n->shaped w1 g n):=by
 have kE:∀g,I g->¬cP (fun b=>φ (bm m k b)) g:=fun g hg ⟨b,hb⟩=>(hS.real.off _ g hb).1 hg
 have yB:∀g,I g->w1.heap[g]?=w.heap[g]?:=fun g hg=>U.ext.dL g (hS.real.bO g hg) (kE g hg)
 have cL:∀{b:Nat} {p:Option Nat},φ (bm m k b)=some p->∃c,lk m b=some c:=fun{b p} hp=>by
  cases hm:lk m b with
  |some c=>exact⟨c,rfl⟩
  |none=>rw[h.out hS hm]at hp;cases hp
 have n8:∀{c g:Nat},dv m c=none->φ c=some (some g)->¬cP (fun b=>φ (bm m k b)) g:=fun{c g} hi hc ⟨b,hb⟩=>by
  obtain⟨c',hm⟩:=cL hb
  simp only[nh hm]at hb
  have:=hS.real.inj _ _ g hc hb
  subst this
  rw[h.y6 hm]at hi;cases hi
 have ag:∀{c:Nat} {p:Option Nat},φ c=some p->c<k:=fun{c p} hc=>by
  have:=hS.real.bq c
  rw[hc]at this
  cases hq:lk H c with
  |none=>rw[hq]at this;cases this
  |some o=>exact h.fresh c o hq
 have HK:∀{b c:Nat},lk m b=some c->b<cU Hc:=fun{b c} hb=>by
  obtain⟨o,ho,_⟩:=h.get hb
  exact oz Hc b o ho
 have x_:∀c p,kc (bZ H1 m) φ c=some p->gz m k φ a8 c=some p:=fun c p hc=>by
  have yl:bJ (bZ H1 m) c=false:=by
   cases hq:bJ (bZ H1 m) c with
   |false=>rfl
   |true=>simp[kc,hq]at hc
  have dT:φ c=some p:=by simpa[kc,yl]using hc
  cases hi:dv m c with
  |none=>rw[wY hi (ag dT)];exact dT
  |some b=>
   have hm:=h.sJ hi
   rw[rC hi]
   cases hl:lk H1 b with
   |none=>
    have:=(y2 (bZ H1 m) c).2 ((Jn m H1 c).2 ⟨b,CP m b c hi,hl⟩)
    rw[yl]at this;cases this
   |some o=>exact U.cD b p o (HK hm) (by show φ (bm m k b)=_;rw[nh hm];exact dT) hl
 have dB:∀c g n,kc (bZ H1 m) φ c=some (some g)->shaped w g n->shaped w1 g n:=fun c g n hc hs=>by
  have yl:bJ (bZ H1 m) c=false:=by
   cases hq:bJ (bZ H1 m) c with
   |false=>rfl
   |true=>simp[kc,hq]at hc
  have dT:φ c=some (some g):=by simpa[kc,yl]using hc
  cases hi:dv m c with
  |none=>exact U.ext.shaped (n8 hi dT) hs
  |some b=>
   have eC:=x_ c _ hc
   rw[rC hi]at eC
   obtain⟨cc,ee,ig,hn⟩:=hs
   obtain⟨c',iO,h2,h3⟩:=U.ext.form g cc ee _ ig
   have kq:=U.real.bq b
   rw[eC]at kq
   cases hl:lk H1 b with
   |none=>rw[hl]at kq;cases kq
   |some o=>
    have aQ:=U.real.own b o _ hl eC
    have pj:iO=(0,0):=by
     cases o with
     |var e cs=>
      simp only[Ob.at]at aQ
      obtain⟨g',us,cm,h4,_⟩:=aQ
      cases cm
      exact h4.fz h2
     |vec e es rows=>
      simp only[Ob.at]at aQ
      rcases aQ with⟨h5,_⟩|⟨g',ae,rest,cm,h4,_⟩
      ·cases h5
      ·cases cm;rw[h2]at h4;cases h4;rfl
     |lp l n st fn q ps E=>
      simp only[Ob.at]at aQ
      obtain⟨h0,T,D,b_,_,h4,_⟩:=aQ
      cases h0;rw[h2]at h4;cases h4
    subst pj
    exact⟨c',ee,h2,by rw[h3];exact hn⟩
 refine⟨⟨⟨fun c=>?_,fun c o p hl hp=>?_,fun c g hp=>?_,fun c1 c2 g eC eP=>?_,U.real.bO⟩,hS.ext.trans U.ext (fun g ⟨b,hb⟩=>hS.bU _ g hb),fun c g hp=>?_,fun g hg=>?_,fun g hg=>U.cj g (hS.cj g hg),fun c p o hc h0 hl=>?_⟩,x_,yB,U.cj,dB⟩
 ·rcases Nat.lt_or_ge c k with hc|hc
  ·rw[h.zf hc]
   cases hi:dv m c with
   |none=>rw[wY hi hc];exact hS.real.bq c
   |some b=>rw[rC hi,U.real.bq b];simp
  ·obtain⟨b,rfl⟩:∃b,c=k+b:=⟨c-k,by omega⟩
   rw[h.C6 b,h.Ag b]
   cases hm:lk m b with
   |some _=>rfl
   |none=>simp only;rw[U.real.bq b];simp
 ·rcases Nat.lt_or_ge c k with hc|hc
  ·rw[h.zf hc]at hl
   cases hi:dv m c with
   |none=>
    rw[hi]at hl
    rw[wY hi hc]at hp
    have br:=hS.real.own c o p hl hp
    have qQ:∀g,p=some g->w1.heap[g]?=w.heap[g]?:=fun g hg=>by
     subst hg
     exact U.ext.dL g (hS.real.off c g hp).2 (n8 hi hp)
    cases o with
    |var e cs=>
     simp only[Ob.at]at br⊢
     obtain⟨g,us,rfl,h2,h3,h4⟩:=br
     refine⟨g,us,rfl,h2.dL (qQ g rfl),?_,h4⟩
     have h5:=JH (H:=c6 m H) (b:=c) (el:=e) _ φ hd (by rw[zd H c hi];exact hl) h3
     exact AV.gT yB U.cj x_ dB cs us h5
    |vec e es rows=>
     simp only[Ob.at]at br⊢
     rcases br with h'|⟨g,ae,rest,rfl,h2,h3,h4⟩
     ·exact .inl h'
     ·exact .inr ⟨g,ae,rest,rfl,(qQ g rfl).trans h2,IV.gD yB U.cj rows ae h3,h4⟩
    |lp l n st fn q ps E=>
     simp only[Ob.at]at br⊢
     obtain⟨rfl,T,D,b_,h2,h3,h4⟩:=br
     refine⟨rfl,T,D,b_,h2,(qQ l rfl).trans h3,fun i x hx=>?_⟩
     obtain⟨u,hu,jW⟩:=h4 i x hx
     exact⟨u,hu,AV.jP yB U.cj x_ dB x u (JG (H:=c6 m H) (b:=c) _ φ hd (by rw[zd H c hi];exact hl) hx jW)⟩
   |some b=>
    rw[hi]at hl
    simp only at hl
    rw[rC hi]at hp
    cases hq:lk H1 b with
    |none=>rw[hq]at hl;cases hl
    |some o1=>rw[hq]at hl;cases hl;exact zL (fun b p hb=>h.fwd hb) (U.real.own b o1 p hq hp)
  ·obtain⟨b,rfl⟩:∃b,c=k+b:=⟨c-k,by omega⟩
   rw[h.C6 b]at hl
   rw[h.Ag b]at hp
   cases hm:lk m b with
   |some _=>rw[hm]at hl;cases hl
   |none=>
    rw[hm]at hl hp
    simp only at hl hp
    cases hq:lk H1 b with
    |none=>rw[hq]at hl;cases hl
    |some o1=>rw[hq]at hl;cases hl;exact zL (fun b p hb=>h.fwd hb) (U.real.own b o1 p hq hp)
 ·rcases h.cls hp with⟨hi,hc,b7⟩|⟨b,rfl,b7⟩
  ·have ho:=hS.real.off c g b7
   refine⟨fun hg=>?_,Nat.lt_of_lt_of_le ho.2 U.ext.size⟩
   rcases U.c8 g hg with h2|h2|h2
   ·exact ho.1 h2
   ·exact n8 hi b7 h2
   ·have:=ho.2;have:w.heap.size<=g:=h2;omega
  ·exact U.real.off b g b7
 ·have mix:∀{c1 b2:Nat},dv m c1=none->φ c1=some (some g)->a8 b2=some (some g)->False:=fun{c1 b2} hi mQ qP=>by
   rcases U.bU b2 g qP with h2|h2
   ·exact n8 hi mQ h2
   ·have:=(hS.real.off c1 g mQ).2;have:w.heap.size<=g:=h2;omega
  rcases h.cls eC with⟨PF,pg,mQ⟩|⟨b1,rfl,mQ⟩<;>rcases h.cls eP with⟨Hu,r8,qP⟩|⟨b2,rfl,qP⟩
  ·exact hS.real.inj _ _ g mQ qP
  ·exact(mix PF mQ qP).elim
  ·exact(mix Hu qP mQ).elim
  ·rw[U.real.inj _ _ g mQ qP]
 ·rcases h.cls hp with⟨hi,hc,b7⟩|⟨b,rfl,b7⟩
  ·exact hS.bU c g b7
  ·rcases U.bU b g b7 with⟨b',bK⟩|h2
   ·exact hS.bU _ g bK
   ·exact .inr (Nat.le_trans hS.ext.size h2)
 ·rcases U.c8 g hg with h2|⟨b',bK⟩|h2
  ·exact hS.c8 g h2
  ·exact .inr (hS.bU _ g bK)
  ·exact .inr (.inr (Nat.le_trans hS.ext.size h2))
 ·have dU:c<k:=Nat.lt_of_lt_of_le hc PL
  rw[h.zf dU]at hl
  cases hi:dv m c with
  |none=>rw[hi]at hl;rw[wY hi dU];exact hS.cD c p o hc h0 hl
  |some b=>
   rw[hi]at hl
   simp only at hl
   have hm:=h.sJ hi
   obtain⟨o',_,B2⟩:=h.get hm
   have Qa:=hS.cD c p _ hc h0 B2
   rw[rC hi]
   cases hq:lk H1 b with
   |none=>rw[hq]at hl;cases hl
   |some o1=>exact U.cD b p o1 (HK hm) (by show φ (bm m k b)=_;rw[nh hm];exact Qa) hq
end
section
variable {C:Cx} {K:List PK} {E:Env} {H:aa}
theorem zz {f:FuncId} {dS us xs:Array Value} {P:Program} {w:World} {t:TypeId} (uH:enters P f=true):
  (do let d<-Deferred.ofValue (.func (.func f) dS us) xs;invoke d.target d.args:Sem Next).run P w= .ok (.enter f (dS++xs++us).toList.toArray) w:=by
 simp only[Deferred.ofValue,Sem.run_bind,Sem.run_pure,Result.andThen_ok,invoke,Array.toArray_toList]
 rw[te uH]
theorem AQ.lP (m:List (Nat×Nat)) {ds:List (Nat×Nat)} {i:Nat} {d:Option Nat} {ty:TypeId} {pos:String} {af:Array Edge} {os:List Oper} {bk:Operand} {f:FuncId} {fs aJ:List AV} {xs:List Operand} {aV:Array TypeId} {l ga:List AV} {Hc:aa} {R:AV->aa->Prop}
  (ai:bl C.n ({dst:=d,op:= .call {callee:= .value bk,args:=xs.toArray,argTypes:=aV},type:=ty,pos:=pos,after:=af,guard:=none}::os)=true)
  (eY:ev E bk=some (.fn f fs aJ)) (hl:dI E xs=some l) (du:gs l=true)
  (j0:eQ m=ly Hc) (iU:fF (eQ m)=true) (j3:fF (jc m)=true) (j4:jG (bm m (aL C.B.nb H)) H Hc)
  (cS:AV.cd (bm m (aL C.B.nb H)) ga=fs++l.map AV.st++aJ) (hc:aj C.P f ga Hc R)
  (h:∀r H1,R r H1->jF (bZ H1 m) (c6 m H)=true/\AQ C (aZ d i ds) (i+1) os K (a6 d (AV.rn (bm m (aL C.B.nb H)) r) (fh (bZ H1 m) E)) (eK m (aL C.B.nb H) H H1)):
  AQ C ds i ({dst:=d,op:= .call {callee:= .value bk,args:=xs.toArray,argTypes:=aV},type:=ty,pos:=pos,after:=af,guard:=none}::os) K E H:=by
 obtain⟨hd,ca⟩:=ef ai
 generalize hk:aL C.B.nb H=k at*
 have hH:Hand m k H Hc:=⟨j0,iU,j3,j4,fun b o hb=>by have:=oz H b o hb;have:=(gL C.B.nb H).2;omega⟩
 have bB:=h
 unfold AQ at bB⊢
 refine AO.step (o:={dst:=d,op:= .call {callee:= .value bk,args:=xs.toArray,argTypes:=aV},type:=ty,pos:=pos,after:=af,guard:=none}) fun ops φ I a w aT _ hs Kn bI=>?_
 have hw:Region.wanted {dst:=d,op:= .call {callee:= .value bk,args:=xs.toArray,argTypes:=aV},type:=ty,pos:=pos,after:=af,guard:=none} (yielded ops a.tmps)=true:=by simp[Region.wanted]
 rw[if_pos hw]
 have gj:=aS hs.env eY
 simp only[AV.den]at gj
 obtain⟨dS,us,k_,gp,lX⟩:=gj
 have a_:AV.ab w φ I (fs++l.map AV.st++aJ) (dS++xs.map a.eval++us):=kW _ _ _ _ (kW _ _ _ _ k_ (k5 hs.env _ _ hl du)) gp
 rw[<-cS]at a_
 have uE:=AV.oH (ρ:=bm m k) (φ:=fun b=>φ (bm m k b)) (fun _=>rfl) _ _ a_
 have aE:(execOp a.eval {dst:=d,op:= .call {callee:= .value bk,args:=xs.toArray,argTypes:=aV},type:=ty,pos:=pos,after:=af,guard:=none}).run C.P w= .ok (.enter f (dS++xs.map a.eval++us).toArray) w:=by
  have:execOp a.eval {dst:=d,op:= .call {callee:= .value bk,args:=xs.toArray,argTypes:=aV},type:=ty,pos:=pos,after:=af,guard:=none}=(do let d<-Deferred.ofValue (a.eval bk) (xs.toArray.map a.eval);invoke d.target d.args):=rfl
  rw[this,lX,zz (t:=ty) hc.gh]
  simp
 unfold Oper.wp
 rw[aE,Oper.upon_enter]
 refine(hc.run w (fun b=>φ (bm m k b)) I _ uE (hH.real hs.st) hs.st.vk).mono fun e w' ⟨r,H1,a8,I1,v,hr,he,bR,hS⟩=>?_
 subst he
 obtain⟨ln,gX⟩:=bB r H1 hr
 obtain⟨jU,hf,jZ,hI,dB⟩:=hH.after (by have:=(gL C.B.nb H).1;omega) hs.st hS ln
 refine bI _ _ (gz m k φ a8) I1 _ _ gX ?_
 have iV:bn C (gz m k φ a8) I1 (fh (bZ H1 m) E) (eK m k H H1) a w':=by
  refine⟨hs.bD.mono jZ hI,hs.bE,fun j x hx=>?_,jU⟩
  obtain⟨y,hy,fg⟩:=za (w:=w) (I:=I) _ φ E j x hx
  obtain⟨u,hu,hd⟩:=hs.env j y hy
  exact⟨u,hu,AV.jP jZ hI hf dB x u (fg u hd)⟩
 exact iV.put jU (bt.refl w' (gz m k φ a8) I1) hd (AV.ri (φ':=gz m k φ a8) (fun b p hb=>hH.fwd (φ:=φ) hb) r v bR)
where
 kW {w:World} {φ:al} {I:Nat->Prop}:∀(xs ys:List AV) (us vs:List Value),AV.ab w φ I xs us->AV.ab w φ I ys vs->AV.ab w φ I (xs++ys) (us++vs)
  |[],ys,us,vs,U,h2=>by simp only[AV.ab]at U;subst U;simpa using h2
  |x::xs,ys,us,vs,U,h2=>by
   simp only[AV.ab]at U
   obtain⟨u,ao,rfl,h3,h4⟩:=U
   simp only[List.cons_append,AV.ab]
   exact⟨u,_,rfl,h3,kW xs ys ao vs h4 h2⟩
theorem AQ.bz (m:List (Nat×Nat)) {ds:List (Nat×Nat)} {i:Nat} {d:Option Nat} {ty:TypeId} {pos:String} {af:Array Edge} {os:List Oper} {bk:Operand} {f:FuncId} {fs aJ:List AV} {xs:List Operand} {aV:Array TypeId} {l ga:List AV} {Hc:aa} {R:AV->aa->Prop}
  (ai:bl C.n ({dst:=d,op:= .call {callee:= .value bk,args:=xs.toArray,argTypes:=aV},type:=ty,pos:=pos,after:=af,guard:=none}::os)=true)
  (eY:ev E bk=some (.fn f fs aJ)) (hl:dI E xs=some l) (du:gs l=true)
  (j0:eQ m=ly Hc) (iU:fF (eQ m)=true) (j3:fF (jc m)=true) (j4:jG (bm m (aL C.B.nb H)) H Hc)
  (cS:AV.cd (bm m (aL C.B.nb H)) ga=fs++l.map AV.st++aJ) (hc:aj C.P f ga Hc R)
  (h:∀r H1,R r H1->jF (bZ H1 m) (c6 m H)=true/\vq C K os (aZ d i ds) (i+1) (a6 d (AV.rn (bm m (aL C.B.nb H)) r) (fh (bZ H1 m) E)) (eK m (aL C.B.nb H) H H1)):
  AQ C ds i ({dst:=d,op:= .call {callee:= .value bk,args:=xs.toArray,argTypes:=aV},type:=ty,pos:=pos,after:=af,guard:=none}::os) K E H:=
 AQ.lP m ai eY hl du j0 iU j3 j4 cS hc fun r H1 hr=>⟨(h r H1 hr).1,AQ.go (ef ai).2 (h r H1 hr).2⟩
end
attribute [go_sem] bm dv eQ jc ly fF jG bZ c6 pP q_ eK fh jF
def di (l:List UInt8):List (List IV):=l.map fun b=>[.v (.int .u8 b.toNat)]
theorem mC (l:List UInt8):(di l).length=l.length:=by simp[di]
theorem tT {w:World} {I:Nat->Prop}:∀(l:List UInt8),IV.aH w I (di l) (l.map fun b=>[Value.int .u8 b.toNat])
 |[]=>by simp[di,IV.aH]
 |b::l=>by
  have ih:=tT (w:=w) (I:=I) l
  simp only[di,List.map_cons,IV.aH,IV.ab,IV.den]at ih⊢
  exact⟨_,_,rfl,⟨_,_,rfl,⟨rfl,rfl⟩,rfl⟩,ih⟩
theorem Fi (l:List UInt8):(l.map fun b=>[Value.int .u8 b.toNat]).flatten=l.map fun b=>Value.int .u8 b.toNat:=by
 induction l with
 |nil=>rfl
 |cons b l ih=>simp only[List.map_cons,List.flatten_cons,ih];rfl
theorem St.Jz {B:Bs} {φ:al} {I:Nat->Prop} {H:aa} {w w':World} (h:St B φ I H w) (aO:w'.heap.size=w.heap.size+1) (hold:∀g,g<w.heap.size->w'.heap[g]?=w.heap[g]?)
  (qM:w'.os=w.os) (ht:w'.os=w.os) (qO:w'.output=w.output):
  St B φ (fun g=>I g\/g=w.heap.size) H w'/\bt w φ I w' φ (fun g=>I g\/g=w.heap.size):=by
 have hx:Ext (fun _=>False) w w':=⟨by omega,fun g hg _=>hold g hg,fun g c e fz hc=>⟨c,fz,(hold g (by
   rcases Nat.lt_or_ge g w.heap.size with h'|h'
   ·exact h'
   ·rw[Array.getElem?_eq_none h']at hc;cases hc)).trans hc,rfl⟩,qM,ht,qO⟩
 have k:bt w φ I w' φ (fun g=>I g\/g=w.heap.size):=
  ⟨fun g hg=>hold g (h.real.bO g hg),fun _ h=> .inl h,fun _ _ h=>h,fun _ g n _ hs=>hx.shaped (fun h=>h) hs⟩
 refine⟨⟨⟨h.real.bq,fun b' o' p hl hp=>?_,fun b' g hp=>?_,h.real.inj,fun g hg=>?_⟩,h.ext.trans hx (fun g hf=>hf.elim),h.bU,fun g hg=>?_,fun g hg=> .inl (h.cj g hg),h.cD⟩,k⟩
 ·refine Ob.jM k.im k.I k.phi k.sh (fun g hg=>?_) (h.real.own b' o' p hl hp)
  subst hg
  exact hold g (h.real.off b' g hp).2
 ·have:=h.real.off b' g hp
  exact⟨fun hi=>hi.elim this.1 (by omega),by omega⟩
 ·rcases hg with hg|rfl
  ·have:=h.real.bO g hg;omega
  ·omega
 ·rcases hg with hg|rfl
  ·exact h.c8 g hg
  ·exact .inr (.inr h.ext.size)
theorem St.outside {B:Bs} {φ:al} {I:Nat->Prop} {H:aa} {w w':World} (h:St B φ I H w) {g0:Nat} (hI:¬I g0) (au:∀b,φ b≠some (some g0)) (ho:B.own g0\/B.w0.heap.size<=g0) (ag:g0<w.heap.size)
  (aO:w'.heap.size=w.heap.size) (hold:∀g,g≠g0->w'.heap[g]?=w.heap[g]?) (hf:∀c e fz,w.heap[g0]?=some (.cells c e fz)->∃iO,w'.heap[g0]?=some (.cells c e iO))
  (qM:w'.os=w.os) (ht:w'.os=w.os) (qO:w'.output=w.output):
  St B φ (fun g=>I g\/g=g0) H w'/\bt w φ I w' φ (fun g=>I g\/g=g0):=by
 have hx:Ext (fun g=>g=g0) w w':=⟨by omega,fun g hg hn=>hold g hn,fun g c e fz hc=>by
   by_cases e1:g=g0
   ·subst e1;obtain⟨iO,h2⟩:=hf c e fz hc;exact⟨c,iO,h2,rfl⟩
   ·exact⟨c,fz,(hold g e1).trans hc,rfl⟩,qM,ht,qO⟩
 have k:bt w φ I w' φ (fun g=>I g\/g=g0):=
  ⟨fun g hg=>hold g (fun e=>by subst e;exact hI hg),fun _ h=> .inl h,fun _ _ h=>h,fun b g n hb hs=>hx.shaped (fun e=>by subst e;exact au b hb) hs⟩
 refine⟨⟨⟨h.real.bq,fun b' o' p hl hp=>?_,fun b' g hp=>?_,h.real.inj,fun g hg=>?_⟩,h.ext.trans hx (fun g hg=>by subst hg;exact ho),h.bU,fun g hg=>?_,fun g hg=> .inl (h.cj g hg),h.cD⟩,k⟩
 ·refine Ob.jM k.im k.I k.phi k.sh (fun g hg=>?_) (h.real.own b' o' p hl hp)
  subst hg
  exact hold g (fun e=>by subst e;exact au b' hp)
 ·have:=h.real.off b' g hp
  refine⟨fun hi=>hi.elim this.1 (fun e=>by subst e;exact au b' hp),by omega⟩
 ·rcases hg with hg|rfl
  ·have:=h.real.bO g hg;omega
  ·omega
 ·rcases hg with hg|rfl
  ·exact h.c8 g hg
  ·exact .inr ho
theorem Oh (w:World) (a:Addr) (n:Nat):(w.freeze a n).heap.size=w.heap.size:=by unfold World.freeze;split<;>simp
theorem GI (w:World) (a:Addr) (n g:Nat) (h:g≠a.block):(w.freeze a n).heap[g]?=w.heap[g]?:=by
 unfold World.freeze
 split
 ·rfl
 ·simp only[Array.getElem?_modify,if_neg (Ne.symm h)]
theorem GJ (w:World) (a:Addr) (n:Nat) (c:Array Value) (e:TypeId) (fz:Nat×Nat) (h:w.heap[a.block]?=some (.cells c e fz)):∃iO,(w.freeze a n).heap[a.block]?=some (.cells c e iO):=by
 unfold World.freeze
 split
 ·exact⟨fz,h⟩
 ·simp only[Array.getElem?_modify,if_true,h,Option.map_some]
  exact⟨_,rfl⟩
section
variable {C:Cx} {K:List PK} {E:Env} {H:aa}
theorem AQ.S5 {ds:List (Nat×Nat)} {i:Nat} {d:Option Nat} {ty s dt e:TypeId} {x:Operand} {pos:String} {af:Array Edge} {os:List Oper} {l:List UInt8}
  (ai:bl C.n ({dst:=d,op:= .convert s dt x,type:=ty,pos:=pos,after:=af,guard:=none}::os)=true)
  (hx:ev E x=some (Sv l)) (hs:(C.P.underlying s).isSome=true) (hd:tk C.P dt= .slice e) (he:tk C.P e= .int .u8)
  (h:vq C K os (aZ d i ds) (i+1) (a6 d (.im (.sl 1 (di l))) E) H):
  AQ C ds i ({dst:=d,op:= .convert s dt x,type:=ty,pos:=pos,after:=af,guard:=none}::os) K E H:=by
 obtain⟨eZ,ca⟩:=ef ai
 have bB:=AQ.go ca h
 unfold AQ at bB⊢
 refine AO.step (o:={dst:=d,op:= .convert s dt x,type:=ty,pos:=pos,after:=af,guard:=none}) fun ops φ I a w aT _ jt Kn bI=>?_
 have hw:Region.wanted {dst:=d,op:= .convert s dt x,type:=ty,pos:=pos,after:=af,guard:=none} (yielded ops a.tmps)=true:=by simp[Region.wanted]
 rw[if_pos hw]
 have hv:=aS jt.env hx
 rw[kg]at hv
 obtain⟨su,oc⟩:=Option.isSome_iff_exists.1 hs
 have aE:=Lib.run_convert_string_bytes (P:=C.P) w s dt e (BA l) oc (eV hd) (ry he)
 have hex:(execOp a.eval {dst:=d,op:= .convert s dt x,type:=ty,pos:=pos,after:=af,guard:=none}).run C.P w= .ok (.value (.slice (some ⟨w.heap.size,0,none⟩) (BA l).size (grownCap w (BA l).size 0 e))) (Lib.bytesWorld w e (BA l)):=by
  simp only[execOp,hv,Sem.run_bind,aE,Result.andThen_ok,Sem.run_pure]
 unfold Oper.wp
 rw[hex,Oper.upon_value]
 have aO:=Lib.bytesWorld_size w e (BA l)
 have qN:∀{W:World} {a:Addr} {n:Nat},(W.freeze a n).os=W.os/\(W.freeze a n).tape=W.tape/\(W.freeze a n).output=W.output:=fun{W a n}=>by unfold World.freeze;split<;>exact⟨rfl,rfl,rfl⟩
 obtain⟨hS,hk⟩:=jt.st.Jz (w':=Lib.bytesWorld w e (BA l)) aO (fun g hg=>Lib.bytesWorld_at_old w e (BA l) g hg)
  (by unfold Lib.bytesWorld;rw[qN.1];rfl) (by unfold Lib.bytesWorld;rw[qN.1];rfl) (by unfold Lib.bytesWorld;rw[qN.2.2];rfl)
 refine bI _ _ φ _ _ _ bB (jt.put hS hk eZ ?_)
 simp only[AV.den,IV.den]
 refine⟨_,_,l.map fun b=>[Value.int .u8 b.toNat],by rw[mC];rfl,by rw[mC];have:=grownCap_ge w (BA l).size 0 e;rw[Ah]at this⊢;exact this,tT l,fun vs dC=>by obtain⟨b,_,rfl⟩:=List.mem_map.1 dC;rfl,fun _=>⟨_,_,rfl,.inr rfl,fun j u hu=>?_⟩⟩
 have dA:=Fi l
 rw[dA,List.getElem?_map]at hu
 cases hj:l[j]? with
 |none=>rw[hj]at hu;cases hu
 |some b=>
  rw[hj]at hu
  simp only[Option.map_some,Option.some.injEq]at hu
  have jX:j<l.length:=by
   rcases Nat.lt_or_ge j l.length with h'|h'
   ·exact h'
   ·rw[List.getElem?_eq_none h']at hj;cases hj
  rw[Nat.zero_add,Lib.bytesWorld_cell w e (BA l) j (by rw[Ah];exact jX),rD,<-hu]
  rw[List.getD_eq_getElem?_getD,hj];rfl
theorem AQ.mark {ds:List (Nat×Nat)} {i:Nat} {d:Option Nat} {ty t e:TypeId} {x:Operand} {pos:String} {af:Array Edge} {os:List Oper} {b es n:Nat} {el:TypeId} {rows:List (List IV)}
  (ai:bl C.n ({dst:=d,op:= .convert t t x,type:=ty,pos:=pos,after:=af,guard:=none}::os)=true)
  (hx:ev E x=some (.os b es 0 n)) (hl:lk H b=some (.vec el es rows)) (hn:n=rows.length) (aR:Nat.beq n 0=false) (bL:noMen b (eh b H)=true) (hd:tk C.P t= .slice e) (he:tk C.P e= .int .u8)
  (h:vq C K os (aZ d i ds) (i+1) (a6 d (.im (.sl es rows)) (killE b E)) (eh b H)):
  AQ C ds i ({dst:=d,op:= .convert t t x,type:=ty,pos:=pos,after:=af,guard:=none}::os) K E H:=by
 obtain⟨eZ,ca⟩:=ef ai
 have bB:=AQ.go ca h
 unfold AQ at bB⊢
 refine AO.step (o:={dst:=d,op:= .convert t t x,type:=ty,pos:=pos,after:=af,guard:=none}) fun ops φ I a w aT _ jt Kn bI=>?_
 have hw:Region.wanted {dst:=d,op:= .convert t t x,type:=ty,pos:=pos,after:=af,guard:=none} (yielded ops a.tmps)=true:=by simp[Region.wanted]
 rw[if_pos hw]
 have hv:=aS jt.env hx
 simp only[AV.den]at hv
 have n6:n≠0:=fun e=>by rw[e]at aR;cases aR
 rcases hv with⟨_,_,h0,_⟩|⟨g,c,au,hv,qJ,Hi,dB⟩
 ·exact absurd h0 n6
 have br:=jt.st.real.own b _ _ hl au
 simp only[Ob.at]at br
 rcases br with⟨U,_⟩|⟨g',ae,rest,cm,b6,hr,hlen⟩
 ·cases U
 cases cm
 rw[Nat.zero_mul]at hv
 have Ql:w.shape? g=some (el,(ae.flatten++rest).toArray.size):=by unfold World.shape?;rw[b6]
 have aE:(convert t t (.slice (some ⟨g,0,none⟩) n c)).run C.P w= .ok (.slice (some ⟨g,0,none⟩) n c) (w.freeze ⟨g,(ae.flatten++rest).toArray.size,none⟩ 1):=by
  simp[convert,run_underlying (eV hd),run_underlying (ry he),markStringish,Ql]
 have hex:(execOp a.eval {dst:=d,op:= .convert t t x,type:=ty,pos:=pos,after:=af,guard:=none}).run C.P w= .ok (.value (.slice (some ⟨g,0,none⟩) n c)) (w.freeze ⟨g,(ae.flatten++rest).toArray.size,none⟩ 1):=by
  simp only[execOp,hv,Sem.run_bind,aE,Result.andThen_ok,Sem.run_pure]
 unfold Oper.wp
 rw[hex,Oper.upon_value]
 have qN:∀{W:World} {a:Addr} {n:Nat},(W.freeze a n).os=W.os/\(W.freeze a n).tape=W.tape/\(W.freeze a n).output=W.output:=fun{W a n}=>by unfold World.freeze;split<;>exact⟨rfl,rfl,rfl⟩
 have kE:=jt.st.real.off b g au
 have uI:=jt.forget b bL
 obtain⟨hS,hk⟩:=uI.st.outside (g0:=g) (w':=w.freeze ⟨g,(ae.flatten++rest).toArray.size,none⟩ 1) kE.1 (fun b' bK=>by
   simp only[fX]at bK
   split at bK
   ·cases bK
   ·rename_i PX;exact PX (jt.st.real.inj b' b g bK au)) (jt.st.bU b g au) kE.2 (Oh _ _ _) (fun g' cm=>GI _ _ _ _ cm)
  (fun c e fz hc=>GJ _ ⟨g,_,none⟩ _ c e fz hc) qN.1 qN.1 qN.2.2
 refine bI _ _ _ _ _ _ bB (uI.put hS hk eZ ?_)
 obtain⟨iO,pj⟩:=GJ w ⟨g,(ae.flatten++rest).toArray.size,none⟩ 1 _ _ _ b6
 simp only[AV.den,IV.den]
 refine⟨_,c,ae,by rw[hn],by omega,IV.gD (I:=I) (fun g1 lZ=>GI _ _ _ _ (fun e=>by subst e;exact kE.1 lZ)) (fun _ h=> .inl h) rows ae hr,hlen,fun _=>⟨g,0,rfl,.inr rfl,fun j u hu=>?_⟩⟩
 have jX:j<ae.flatten.length:=by
  rcases Nat.lt_or_ge j ae.flatten.length with h'|h'
  ·exact h'
  ·rw[List.getElem?_eq_none h']at hu;cases hu
 simp only at pj
 simp only[World.cell?,pj,Nat.zero_add,Option.isSome_none,Bool.false_eq_true,if_false,List.getElem?_toArray]
 rw[List.getElem?_append_left jX];exact hu
end
section
variable {C:Cx} {K:List PK} {E:Env} {H:aa}
theorem AQ.Fj {ds:List (Nat×Nat)} {i:Nat} {d:Option Nat} {ty:TypeId} {pos:String} {af:Array Edge} {os:List Oper} {bk:Operand} {f:FuncId} {fs aJ:List AV} {xs:List Operand} {aV:Array TypeId} {l:List AV} {R:AV->Prop}
  (ai:bl C.n ({dst:=d,op:= .call {callee:= .value bk,args:=xs.toArray,argTypes:=aV},type:=ty,pos:=pos,after:=af,guard:=none}::os)=true)
  (eY:ev E bk=some (.fn f fs aJ)) (hl:dI E xs=some l) (du:gs l=true) (hc:aj C.P f (fs++l.map AV.st++aJ) H (fun r' H'=>H'=H/\R r'))
  (bB:∀r,R r->AQ C (aZ d i ds) (i+1) os K (a6 d r E) H):
  AQ C ds i ({dst:=d,op:= .call {callee:= .value bk,args:=xs.toArray,argTypes:=aV},type:=ty,pos:=pos,after:=af,guard:=none}::os) K E H:=by
 obtain⟨hd,ca⟩:=ef ai
 unfold AQ at bB⊢
 refine AO.step (o:={dst:=d,op:= .call {callee:= .value bk,args:=xs.toArray,argTypes:=aV},type:=ty,pos:=pos,after:=af,guard:=none}) fun ops φ I a w aT _ hs Kn bI=>?_
 have hw:Region.wanted {dst:=d,op:= .call {callee:= .value bk,args:=xs.toArray,argTypes:=aV},type:=ty,pos:=pos,after:=af,guard:=none} (yielded ops a.tmps)=true:=by simp[Region.wanted]
 rw[if_pos hw]
 have gj:=aS hs.env eY
 simp only[AV.den]at gj
 obtain⟨dS,us,k_,gp,lX⟩:=gj
 have a_:AV.ab w φ I (fs++l.map AV.st++aJ) (dS++xs.map a.eval++us):=AQ.lP.kW _ _ _ _ (AQ.lP.kW _ _ _ _ k_ (k5 hs.env _ _ hl du)) gp
 have aE:(execOp a.eval {dst:=d,op:= .call {callee:= .value bk,args:=xs.toArray,argTypes:=aV},type:=ty,pos:=pos,after:=af,guard:=none}).run C.P w= .ok (.enter f (dS++xs.map a.eval++us).toArray) w:=by
  have:execOp a.eval {dst:=d,op:= .call {callee:= .value bk,args:=xs.toArray,argTypes:=aV},type:=ty,pos:=pos,after:=af,guard:=none}=(do let d<-Deferred.ofValue (a.eval bk) (xs.toArray.map a.eval);invoke d.target d.args):=rfl
  rw[this,lX,zz (t:=ty) hc.gh]
  simp
 unfold Oper.wp
 rw[aE,Oper.upon_enter]
 refine(hc.run w φ I _ a_ hs.st.real hs.st.vk).mono fun e w' ⟨r,H1,a8,I1,v,⟨hH,hr⟩,he,bR,hS⟩=>?_
 subst he;subst hH
 have au:a8=φ:=by
  funext b
  have d1:=hS.real.bq b
  have d0:=hs.st.real.bq b
  cases e8:lk H1 b with
  |none=>
   rw[e8]at d1 d0
   cases U:a8 b with
   |some _=>rw[U]at d1;cases d1
   |none=>
    cases h0:φ b with
    |some _=>rw[h0]at d0;cases d0
    |none=>rfl
  |some o=>
   rw[e8]at d0
   cases h0:φ b with
   |none=>rw[h0]at d0;cases d0
   |some p=>exact hS.cD b p o (oz H1 b o e8) h0 e8
 subst au
 have jZ:∀g,I g->w'.heap[g]?=w.heap[g]?:=fun g hg=>hS.ext.dL g (hs.st.real.bO g hg) (fun⟨b,hb⟩=>(hs.st.real.off b g hb).1 hg)
 have jU:St C.B a8 I1 H1 w':=by
  refine⟨hS.real,hs.st.ext.trans hS.ext (fun g ⟨b,hb⟩=>hs.st.bU b g hb),fun b g hb=>hs.st.bU b g hb,fun g hg=>?_,fun g hg=>hS.cj g (hs.st.cj g hg),hs.st.cD⟩
  rcases hS.c8 g hg with h2|⟨b',bK⟩|h2
  ·exact hs.st.c8 g h2
  ·exact .inr (hs.st.bU _ g bK)
  ·exact .inr (.inr (Nat.le_trans hs.st.ext.size h2))
 have hk:bt w a8 I w' a8 I1:=by
  refine⟨jZ,hS.cj,fun _ _ h=>h,fun b g n hb dB=>?_⟩
  obtain⟨cc,ee,ig,hn⟩:=dB
  obtain⟨c',iO,h2,h3⟩:=hS.ext.form g cc ee _ ig
  have kq:=hS.real.bq b
  rw[hb]at kq
  cases hl:lk H1 b with
  |none=>rw[hl]at kq;cases kq
  |some o=>
   have aQ:=hS.real.own b o _ hl hb
   have pj:iO=(0,0):=by
    cases o with
    |var e cs=>
     simp only[Ob.at]at aQ
     obtain⟨g',us,cm,h4,_⟩:=aQ
     cases cm
     exact h4.fz h2
    |vec e es rows=>
     simp only[Ob.at]at aQ
     rcases aQ with⟨h5,_⟩|⟨g',ae,rest,cm,h4,_⟩
     ·cases h5
     ·cases cm;rw[h2]at h4;cases h4;rfl
    |lp l n st fn q ps E=>
     simp only[Ob.at]at aQ
     obtain⟨h0,T,D,b_,_,h4,_⟩:=aQ
     cases h0;rw[h2]at h4;cases h4
   subst pj
   exact⟨c',ee,h2,by rw[h3];exact hn⟩
 exact bI _ _ a8 I1 _ _ (bB r hr) (hs.put jU hk hd bR)
theorem AQ.No {ds:List (Nat×Nat)} {i:Nat} {d:Option Nat} {ty:TypeId} {pos:String} {af:Array Edge} {os:List Oper} {bk:Operand} {f:FuncId} {fs aJ:List AV} {xs:List Operand} {aV:Array TypeId} {l:List AV} {R:AV->Prop}
  (ai:bl C.n ({dst:=d,op:= .call {callee:= .value bk,args:=xs.toArray,argTypes:=aV},type:=ty,pos:=pos,after:=af,guard:=none}::os)=true)
  (eY:ev E bk=some (.fn f fs aJ)) (hl:dI E xs=some l) (du:gs l=true) (hc:aj C.P f (fs++l.map AV.st++aJ) H (fun r' H'=>H'=H/\R r'))
  (h:∀r,R r->vq C K os (aZ d i ds) (i+1) (a6 d r E) H):
  AQ C ds i ({dst:=d,op:= .call {callee:= .value bk,args:=xs.toArray,argTypes:=aV},type:=ty,pos:=pos,after:=af,guard:=none}::os) K E H:=
 AQ.Fj ai eY hl du hc fun r hr=>AQ.go (ef ai).2 (h r hr)
theorem AQ.Nn {ds:List (Nat×Nat)} {i:Nat} {d:Option Nat} {ty:TypeId} {pos:String} {af:Array Edge} {os:List Oper} {bk:Operand} {f:FuncId} {fs aJ:List AV} {xs:List Operand} {aV:Array TypeId} {l:List AV} {r:AV}
  (ai:bl C.n ({dst:=d,op:= .call {callee:= .value bk,args:=xs.toArray,argTypes:=aV},type:=ty,pos:=pos,after:=af,guard:=none}::os)=true)
  (eY:ev E bk=some (.fn f fs aJ)) (hl:dI E xs=some l) (du:gs l=true) (hc:aj C.P f (fs++l.map AV.st++aJ) H (fun r' H'=>H'=H/\r'=r))
  (h:AQ C (aZ d i ds) (i+1) os K (a6 d r E) H):
  AQ C ds i ({dst:=d,op:= .call {callee:= .value bk,args:=xs.toArray,argTypes:=aV},type:=ty,pos:=pos,after:=af,guard:=none}::os) K E H:=
 AQ.Fj ai eY hl du hc fun r' hr=>by subst hr;exact h
theorem AQ.tU {ds:List (Nat×Nat)} {i:Nat} {d:Option Nat} {ty:TypeId} {pos:String} {af:Array Edge} {os:List Oper} {bk:Operand} {f:FuncId} {fs aJ:List AV} {xs:List Operand} {aV:Array TypeId} {l:List AV} {r:AV}
  (ai:bl C.n ({dst:=d,op:= .call {callee:= .value bk,args:=xs.toArray,argTypes:=aV},type:=ty,pos:=pos,after:=af,guard:=none}::os)=true)
  (eY:ev E bk=some (.fn f fs aJ)) (hl:dI E xs=some l) (du:gs l=true) (hc:aj C.P f (fs++l.map AV.st++aJ) H (fun r' H'=>H'=H/\r'=r))
  (h:vq C K os (aZ d i ds) (i+1) (a6 d r E) H):
  AQ C ds i ({dst:=d,op:= .call {callee:= .value bk,args:=xs.toArray,argTypes:=aV},type:=ty,pos:=pos,after:=af,guard:=none}::os) K E H:=
 AQ.No ai eY hl du hc fun r' hr=>by subst hr;exact h
end
mutual
def fx (b:Nat) (l:List IV):AV->AV
 | .ob b' o=>bif Nat.beq b' b then .im (.pt (l.drop o))else .ob b' o
 | .oe b' es i j=>bif Nat.beq b' b then .top else .oe b' es i j
 | .os b' es i n=>bif Nat.beq b' b then .top else .os b' es i n
 | .fn f fs aJ=> .fn f (gU b l fs) (gU b l aJ)
 | .agg cs=> .agg (gU b l cs)
 | .aM cs=> .aM (gU b l cs)
 | .opt g x=> .opt g (fx b l x)
 | .im x=> .im x
 | .ar x=> .ar x
 | .top=> .top
 | .mp b'=>bif Nat.beq b' b then .top else .mp b'
 | .wr k x=> .wr k (fx b l x)
def gU (b:Nat) (l:List IV):List AV->List AV
 |[]=>[]
 |x::xs=>fx b l x::gU b l xs
end
def nT (b:Nat) (l:List IV):Env->Env
 |[]=>[]
 |(i,x)::r=>(i,fx b l x)::nT b l r
def o9 (b:Nat) (l:List IV):Ob->Ob
 | .var e cs=> .var e (gU b l cs)
 | .vec e es rs=> .vec e es rs
 | .lp l0 n st fn q ps E=> .lp l0 n st fn q ps (nT b l E)
def iM (b:Nat) (l:List IV):aa->aa
 |[]=>[]
 |(j,o)::r=>bif Nat.beq j b then iM b l r else(j,o9 b l o)::iM b l r
theorem vU {b:Nat} {l:List IV}:∀(H:aa),lk (iM b l H) b=none
 |[]=>rfl
 |(j,o)::r=>by
  simp only[iM]
  cases hq:Nat.beq j b with
  |true=>simpa using vU r
  |false=>simpa[lk,hq]using vU r
theorem vS {b:Nat} {l:List IV}:∀(H:aa) (b':Nat),b'≠b->lk (iM b l H) b'=(lk H b').map (o9 b l)
 |[],_,_=>rfl
 |(j,o)::r,b',aR=>by
  simp only[iM]
  cases hq:Nat.beq j b with
  |true=>
   have qH:=Nat.eq_of_beq_eq_true hq
   subst qH
   simp only[cond_true,lk,gC (Ne.symm aR),cond_false]
   exact vS r b' aR
  |false=>
   simp only[cond_false,lk]
   cases gJ:Nat.beq j b' with
   |true=>rfl
   |false=>simpa using vS r b' aR
theorem Bf {b:Nat} {l:List IV}:∀(E:Env) (i:Nat),lk (nT b l E) i=(lk E i).map (fx b l)
 |[],_=>rfl
 |(j,x)::r,i=>by
  simp only[nT,lk]
  cases Nat.beq j i with
  |true=>rfl
  |false=>simpa using Bf r i
section
variable {w:World} {φ φ':al} {I I':Nat->Prop} {b:Nat} {l:List IV}
mutual
theorem uk (au:∀b',b'≠b->φ' b'=φ b') (hI:∀g,I g->I' g) (hb:∃g us,φ b=some (some g)/\I' g/\IV.ab w I l us/\cB w g 0 us):∀(x:AV) (u:Value),AV.den w φ I x u->AV.den w φ' I' (fx b l x) u
 | .ob b' o,u,hx=>by
  simp only[fx]
  cases hq:Nat.beq b' b with
  |true=>
   have e:=Nat.eq_of_beq_eq_true hq
   subst e
   obtain⟨g,us,U,h2,h3,h4⟩:=hb
   simp only[AV.den]at hx
   obtain⟨g',cm,rfl⟩:=hx
   rw[U]at cm;cases cm
   simp only[cond_true,AV.den,IV.den]
   refine⟨g,o,us.drop o,rfl,h2,IV.gT (fun _ _=>rfl) hI _ _ (sG o _ _ h3),fun j v hv=>?_⟩
   rw[List.getElem?_drop]at hv
   have:=h4 (o+j) v hv
   rwa [Nat.zero_add]at this
  |false=>
   simp only[cond_false,AV.den]at hx⊢
   rw[au b' (fun e=>by subst e;simp at hq)];exact hx
 | .oe b' _ _ _,u,hx=>by
  simp only[fx]
  cases hq:Nat.beq b' b with
  |true=>simp only[cond_true,AV.den]
  |false=>simp only[cond_false,AV.den]at hx⊢;rw[au b' (fun e=>by subst e;simp at hq)];exact hx
 | .os b' _ _ _,u,hx=>by
  simp only[fx]
  cases hq:Nat.beq b' b with
  |true=>simp only[cond_true,AV.den]
  |false=>simp only[cond_false,AV.den]at hx⊢;rw[au b' (fun e=>by subst e;simp at hq)];exact hx
 | .fn f fs aJ,u,hx=>by simp only[fx];simp only[AV.den]at hx⊢;obtain⟨us,vs,U,h2,h3⟩:=hx;exact⟨us,vs,rZ au hI hb fs us U,rZ au hI hb aJ vs h2,h3⟩
 | .agg cs,u,hx=>by simp only[fx];simp only[AV.den]at hx⊢;obtain⟨us,U,h2⟩:=hx;exact⟨us,rZ au hI hb cs us U,h2⟩
 | .aM cs,u,hx=>by simp only[fx];simp only[AV.den]at hx⊢;obtain⟨us,U,h2⟩:=hx;exact⟨us,rZ au hI hb cs us U,h2⟩
 | .opt g x,u,hx=>by simp only[fx];simp only[AV.den]at hx⊢;exact⟨fun hg=>uk au hI hb x u (hx.1 hg),hx.2⟩
 | .im x,u,hx=>by simp only[fx];simp only[AV.den]at hx⊢;exact IV.jP (fun _ _=>rfl) hI x u hx
 | .ar xs,u,hx=>by simp only[fx];simp only[AV.den]at hx⊢;obtain⟨us,U,h2⟩:=hx;exact⟨us,IV.gT (fun _ _=>rfl) hI xs us U,h2⟩
 | .top,_,_=>by simp only[fx,AV.den]
 | .mp b',u,hx=>by
  simp only[fx]
  cases hq:Nat.beq b' b with
  |true=>simp only[cond_true,AV.den]
  |false=>simp only[cond_false,AV.den]at hx⊢;rw[au b' (fun e=>by subst e;simp at hq)];exact hx
 | .wr k x,u,hx=>by simp only[fx];simp only[AV.den]at hx⊢;obtain⟨v,U,h2⟩:=hx;exact⟨v,U,uk au hI hb x v h2⟩
theorem rZ (au:∀b',b'≠b->φ' b'=φ b') (hI:∀g,I g->I' g) (hb:∃g us,φ b=some (some g)/\I' g/\IV.ab w I l us/\cB w g 0 us):∀(xs:List AV) (us:List Value),AV.ab w φ I xs us->AV.ab w φ' I' (gU b l xs) us
 |[],us,h=>by simpa only[gU,AV.ab]using h
 |x::xs,us,h=>by
  simp only[AV.ab]at h
  simp only[gU,AV.ab]
  obtain⟨u,ao,e,U,h2⟩:=h
  exact⟨u,ao,e,uk au hI hb x u U,rZ au hI hb xs ao h2⟩
end
theorem St.fix {B:Bs} {H:aa} {el:TypeId} {cs:List AV} (h:St B φ I H w) (hl:lk H b=some (.var (.cell el) cs)) (n3:kH cs=some l):
  ∃φ' I',St B φ' I' (iM b l H) w/\(∀g,I g->I' g)/\∀(x:AV) (u:Value),AV.den w φ I x u->AV.den w φ' I' (fx b l x) u:=by
 obtain⟨p,hp⟩:∃p,φ b=some p:=by
  have:=h.real.bq b
  rw[hl]at this
  cases hq:φ b with
  |none=>rw[hq]at this;cases this
  |some p=>exact⟨p,rfl⟩
 have aQ:=h.real.own b _ p hl hp
 simp only[Ob.at,Sh.has,Sh.one]at aQ
 obtain⟨g0,Eg,rfl,b6,lY,Wl⟩:=aQ
 have hb:∃g us,φ b=some (some g)/\(I g\/φ b=some (some g))/\IV.ab w I l us/\cB w g 0 us:=by
  refine⟨g0,Eg,hp,.inr hp,vF cs l Eg n3 lY,fun j u hu=>?_⟩
  simp only[World.cell?,b6,Option.isSome_none,Bool.false_eq_true,if_false,List.getElem?_toArray,Nat.zero_add]
  exact hu
 have au:∀b',b'≠b->(fun i=>if i=b then none else φ i) b'=φ b':=fun b' hb=>by simp[hb]
 refine⟨fun i=>if i=b then none else φ i,fun g=>I g\/φ b=some (some g),⟨⟨fun b'=>?_,fun b' o p' aD b7=>?_,fun b' g b7=>?_,fun b1 b2 g U h2=>?_,fun g hg=>?_⟩,h.ext,fun b' g b7=>?_,fun g hg=>?_,fun g hg=> .inl (h.cj g hg),fun b' g oo ag h0 aD=>?_⟩,fun g hg=> .inl hg,fun x u hx=>uk au (fun g hg=> .inl hg) hb x u hx⟩
 ·by_cases ak:b'=b
  ·subst ak;rw[vU];simp
  ·simp only[if_neg ak];rw[vS H b' ak,Option.isSome_map];exact h.real.bq b'
 ·by_cases ak:b'=b
  ·subst ak;rw[vU]at aD;cases aD
  ·simp only[if_neg ak]at b7
   rw[vS H b' ak]at aD
   cases hq:lk H b' with
   |none=>rw[hq]at aD;cases aD
   |some o1=>
    rw[hq]at aD
    simp only[Option.map_some,Option.some.injEq]at aD
    subst aD
    have br:=h.real.own b' o1 p' hq b7
    cases o1 with
    |var e cs'=>
     simp only[Ob.at,o9]at br⊢
     obtain⟨g,us,U,h2,h3,h4⟩:=br
     exact⟨g,us,U,h2,rZ au (fun g hg=> .inl hg) hb cs' us h3,h4⟩
    |vec e dn rs=>
     simp only[Ob.at,o9]at br⊢
     rcases br with h'|⟨g,ae,rest,U,h2,h3,h4⟩
     ·exact .inl h'
     ·exact .inr ⟨g,ae,rest,U,h2,IV.gD (fun _ _=>rfl) (fun g hg=> .inl hg) rs ae h3,h4⟩
    |lp l0 n st fn q ps E=>
     simp only[Ob.at,o9]at br⊢
     obtain⟨h0,T,D,b_,U,h2,h3⟩:=br
     refine⟨h0,T,D,b_,U,h2,fun i x hx=>?_⟩
     rw[Bf]at hx
     cases hy:lk E i with
     |none=>rw[hy]at hx;cases hx
     |some y=>
      rw[hy]at hx
      simp only[Option.map_some,Option.some.injEq]at hx
      subst hx
      obtain⟨u,hu,hd⟩:=h3 i y hy
      exact⟨u,hu,uk au (fun g hg=> .inl hg) hb y u hd⟩
 ·by_cases ak:b'=b
  ·subst ak;simp at b7
  ·simp only[if_neg ak]at b7
   have:=h.real.off b' g b7
   exact⟨fun hg=>hg.elim this.1 (fun e=>ak (h.real.inj b' b g b7 e)),this.2⟩
 ·by_cases e1:b1=b
  ·subst e1;simp at U
  ·by_cases e2:b2=b
   ·subst e2;simp at h2
   ·simp only[if_neg e1]at U
    simp only[if_neg e2]at h2
    exact h.real.inj b1 b2 g U h2
 ·rcases hg with hg|hg
  ·exact h.real.bO g hg
  ·exact(h.real.off b g hg).2
 ·by_cases ak:b'=b
  ·subst ak;simp at b7
  ·simp only[if_neg ak]at b7;exact h.bU b' g b7
 ·rcases hg with hg|hg
  ·exact h.c8 g hg
  ·exact .inr (h.bU b g hg)
 ·by_cases ak:b'=b
  ·subst ak;rw[vU]at aD;cases aD
  ·rw[vS H b' ak]at aD
   simp only[if_neg ak]
   cases hq:lk H b' with
   |none=>rw[hq]at aD;cases aD
   |some o1=>exact h.cD b' g o1 ag h0 hq
theorem bn.fix {C:Cx} {E:Env} {H:aa} {a:Act} {el:TypeId} {cs:List AV} (h:bn C φ I E H a w) (hl:lk H b=some (.var (.cell el) cs)) (n3:kH cs=some l):
  ∃φ' I',bn C φ' I' (nT b l E) (iM b l H) a w:=by
 obtain⟨φ',I',hS,Bu,hd⟩:=h.st.fix hl n3
 refine⟨φ',I',h.bD.mono (fun _ _=>rfl) Bu,h.bE,fun i x hx=>?_,hS⟩
 rw[Bf]at hx
 cases hq:lk E i with
 |none=>rw[hq]at hx;cases hx
 |some y=>
  rw[hq]at hx;cases hx
  obtain⟨u,hu,dc⟩:=h.env i y hq
  exact⟨u,hu,hd y u dc⟩
end
section
variable {C:Cx} {K:List PK} {E:Env} {H:aa}
theorem AE.fix {e:Exit} (b:Nat) {el:TypeId} {cs:List AV} {l:List IV} (hl:lk H b=some (.var (.cell el) cs)) (n3:kH cs=some l) (h:AE C e K (nT b l E) (iM b l H)):AE C e K E H:=by
 unfold AE at h⊢
 intro φ I a w hs
 obtain⟨φ',I',eG⟩:=hs.fix hl n3
 exact h φ' I' a w eG
theorem AP.fix {p:List Nat} (b:Nat) {el:TypeId} {cs:List AV} {l:List IV} (hl:lk H b=some (.var (.cell el) cs)) (n3:kH cs=some l) (h:AP C p K (nT b l E) (iM b l H)):AP C p K E H:=by
 unfold AP at h⊢
 intro φ I a w hs
 obtain⟨φ',I',eG⟩:=hs.fix hl n3
 exact h φ' I' a w eG
theorem AQ.fix {ds:List (Nat×Nat)} {i:Nat} {rest:List Oper} (b:Nat) {el:TypeId} {cs:List AV} {l:List IV} (hl:lk H b=some (.var (.cell el) cs)) (n3:kH cs=some l) (h:AQ C ds i rest K (nT b l E) (iM b l H)):AQ C ds i rest K E H:=by
 unfold AQ at h⊢
 intro ops U h2 φ I a w hs
 obtain⟨φ',I',eG⟩:=hs.fix hl n3
 exact h ops U h2 φ' I' a w eG
end
attribute [go_sem] fx gU nT o9 iM
theorem St.SM {B:Bs} {φ:al} {I:Nat->Prop} {H:aa} {w:World} (h:St B φ I H w) {b:Nat} {e:Sh} {cs cs':List AV} (hl:lk H b=some (.var e cs)) (hd:∀us,AV.ab w φ I cs us->AV.ab w φ I cs' us):
  St B φ I (bG H b (.var e cs')) w:=by
 refine⟨⟨fun b'=>?_,fun b' o p aD hp=>?_,h.real.off,h.real.inj,h.real.bO⟩,h.ext,h.bU,h.c8,h.cj,fun b' p o ag h0 aD=>?_⟩
 ·by_cases ak:b'=b
  ·subst ak;rw[iA H b' _ hl,h.real.bq b',hl];rfl
  ·rw[e_ H b b' _ ak];exact h.real.bq b'
 ·by_cases ak:b'=b
  ·subst ak
   rw[iA H b' _ hl]at aD
   cases aD
   have:=h.real.own b' _ p hl hp
   simp only[Ob.at]at this⊢
   obtain⟨g,us,U,h2,h3,h4⟩:=this
   exact⟨g,us,U,h2,hd us h3,h4⟩
  ·rw[e_ H b b' _ ak]at aD;exact h.real.own b' o p aD hp
 ·by_cases ak:b'=b
  ·subst ak;exact h.cD b' p _ ag h0 hl
  ·rw[e_ H b b' _ ak]at aD;exact h.cD b' p o ag h0 aD
theorem CW {w:World} {φ:al} {I:Nat->Prop} {b:Nat}:∀(cs:List AV) (us:List Value),AV.ab w φ I cs us->AV.ab w φ I (lz b cs) us
 |[],_,h=>h
 |x::cs,us,h=>by
  simp only[AV.ab]at h
  obtain⟨u,ao,rfl,U,h2⟩:=h
  simp only[lz]
  cases hm:x.men b with
  |true=>simp only[cond_true,AV.ab,AV.den];exact⟨u,ao,rfl,trivial,CW cs ao h2⟩
  |false=>simp only[cond_false,AV.ab];exact⟨u,ao,rfl,U,CW cs ao h2⟩
def vL (b:Nat):Ob->Ob
 | .var e cs=> .var e (lz b cs)
 | .vec e es rows=> .vec e es rows
 | .lp l n st fn q ps E=> .lp l n st fn q ps (killE b E)
def pF (b:Nat):aa->aa
 |[]=>[]
 |(j,o)::r=>(j,vL b o)::pF b r
theorem ze {b:Nat}:∀(H:aa) (b':Nat),lk (pF b H) b'=(lk H b').map (vL b)
 |[],_=>rfl
 |(j,o)::r,b'=>by
  simp only[pF,lk]
  cases Nat.beq j b' with
  |true=>rfl
  |false=>simpa using ze r b'
theorem St.kill {B:Bs} {φ:al} {I:Nat->Prop} {H:aa} {w:World} (h:St B φ I H w) (b:Nat):St B φ I (pF b H) w:=by
 refine⟨⟨fun b'=>?_,fun b' o p aD hp=>?_,h.real.off,h.real.inj,h.real.bO⟩,h.ext,h.bU,h.c8,h.cj,fun b' p o ag h0 aD=>?_⟩
 ·rw[ze,Option.isSome_map];exact h.real.bq b'
 ·rw[ze]at aD
  cases hq:lk H b' with
  |none=>rw[hq]at aD;cases aD
  |some o1=>
   rw[hq]at aD;cases aD
   have:=h.real.own b' o1 p hq hp
   cases o1 with
   |var e cs=>
    simp only[Ob.at,vL]at this⊢
    obtain⟨g,us,U,h2,h3,h4⟩:=this
    exact⟨g,us,U,h2,CW cs us h3,h4⟩
   |lp l n st fn q ps E=>
    simp only[Ob.at,vL]at this⊢
    obtain⟨h0,T,D,b_,U,h2,h3⟩:=this
    refine⟨h0,T,D,b_,U,h2,fun i x hx=>?_⟩
    obtain⟨y,hy,fg⟩:=qZ (w:=w) (φ:=φ) (φ':=φ) (I:=I) (b:=b) (fun _ _=>rfl) E i x hx
    obtain⟨u,hu,hd⟩:=h3 i y hy
    exact⟨u,hu,fg u hd⟩
   |vec e es rows=>exact this
 ·rw[ze]at aD
  cases hq:lk H b' with
  |none=>rw[hq]at aD;cases aD
  |some o1=>exact h.cD b' p o1 ag h0 hq
theorem FW {w:World} {φ:al} {I:Nat->Prop} {y:AV}:∀(cs:List AV) (i:Nat) (x:AV) (us:List Value),cs[i]?=some x->(∀u,AV.den w φ I x u->AV.den w φ I y u)->AV.ab w φ I cs us->AV.ab w φ I (cs.set i y) us
 |[],_,_,_,h,_,_=>by simp at h
 |c::cs,0,x,us,h,hi,hd=>by
  simp only[List.getElem?_cons_zero,Option.some.injEq]at h
  subst h
  simp only[AV.ab]at hd
  obtain⟨u,ao,rfl,U,h2⟩:=hd
  simp only[List.set_cons_zero,AV.ab]
  exact⟨u,ao,rfl,hi u U,h2⟩
 |c::cs,i+1,x,us,h,hi,hd=>by
  simp only[List.getElem?_cons_succ]at h
  simp only[AV.ab]at hd
  obtain⟨u,ao,rfl,U,h2⟩:=hd
  simp only[List.set_cons_succ,AV.ab]
  exact⟨u,ao,rfl,U,FW cs i x ao h hi h2⟩
theorem bn.hO {C:Cx} {φ:al} {I:Nat->Prop} {E:Env} {H:aa} {a:Act} {w:World} (h:bn C φ I E H a w) {b off:Nat} {e:Sh} {cs:List AV} (hl:lk H b=some (.var e cs)) (hc:cs[off]?=some (.im (.v (.slice none 0 0)))) (el:TypeId) (es:Nat):
  ∃φ',bn C φ' I E ((aL C.B.nb H,.vec el es [])::bG H b (.var e (cs.set off (.os (aL C.B.nb H) es 0 0)))) a w:=by
 obtain⟨hS,hk⟩:=h.st.wj (kO C.B.nb H) (gL C.B.nb H).1 el es
 have aR:b≠aL C.B.nb H:=fun e=>by rw[e,kO]at hl;cases hl
 have uV:lk ((aL C.B.nb H,Ob.vec el es [])::H) b=some (.var e cs):=by simp only[lk,gC (Ne.symm aR),cond_false];exact hl
 have r6:=hS.SM (cs':=cs.set off (.os (aL C.B.nb H) es 0 0)) uV (fun us hd=>FW cs off _ us hc (fun u hu=>by
  simp only[AV.den,IV.den]at hu⊢
  exact .inl ⟨by simp[a7],trivial,trivial,hu.1⟩) hd)
 refine⟨a7 φ (aL C.B.nb H) none,h.bD,h.bE,fun i x hx=>?_,?_⟩
 ·obtain⟨u,hu,hd⟩:=h.env i x hx
  exact⟨u,hu,hk.den hd⟩
 ·have e2:bG ((aL C.B.nb H,Ob.vec el es [])::H) b (.var e (cs.set off (.os (aL C.B.nb H) es 0 0)))=(aL C.B.nb H,.vec el es [])::bG H b (.var e (cs.set off (.os (aL C.B.nb H) es 0 0))):=by
   simp only[bG,gC (Ne.symm aR),cond_false]
  rw[e2]at r6
  exact r6
section
variable {C:Cx} {K:List PK} {E:Env} {H:aa}
theorem AE.kill {e:Exit} (b:Nat) (h:AE C e K E (pF b H)):AE C e K E H:=by
 unfold AE at h⊢
 exact fun φ I a w hs=>h _ _ _ _ ⟨hs.bD,hs.bE,hs.env,hs.st.kill b⟩
theorem AP.kill {p:List Nat} (b:Nat) (h:AP C p K E (pF b H)):AP C p K E H:=by
 unfold AP at h⊢
 exact fun φ I a w hs=>h _ _ _ _ ⟨hs.bD,hs.bE,hs.env,hs.st.kill b⟩
theorem AQ.kill {ds:List (Nat×Nat)} {i:Nat} {rest:List Oper} (b:Nat) (h:AQ C ds i rest K E (pF b H)):AQ C ds i rest K E H:=by
 unfold AQ at h⊢
 exact fun ops U h2 φ I a w hs=>h ops U h2 _ _ _ _ ⟨hs.bD,hs.bE,hs.env,hs.st.kill b⟩
theorem AE.hO {x:Exit} (b off:Nat) (el:TypeId) (es:Nat) {e:Sh} {cs:List AV} (hl:lk H b=some (.var e cs)) (hc:cs[off]?=some (.im (.v (.slice none 0 0))))
  (h:AE C x K E ((aL C.B.nb H,.vec el es [])::bG H b (.var e (cs.set off (.os (aL C.B.nb H) es 0 0))))):AE C x K E H:=by
 unfold AE at h⊢
 exact fun φ I a w hs=>by
  obtain⟨φ',eG⟩:=hs.hO hl hc el es
  exact h _ _ _ _ eG
theorem AP.hO {p:List Nat} (b off:Nat) (el:TypeId) (es:Nat) {e:Sh} {cs:List AV} (hl:lk H b=some (.var e cs)) (hc:cs[off]?=some (.im (.v (.slice none 0 0))))
  (h:AP C p K E ((aL C.B.nb H,.vec el es [])::bG H b (.var e (cs.set off (.os (aL C.B.nb H) es 0 0))))):AP C p K E H:=by
 unfold AP at h⊢
 exact fun φ I a w hs=>by
  obtain⟨φ',eG⟩:=hs.hO hl hc el es
  exact h _ _ _ _ eG
theorem AQ.split {ds:List (Nat×Nat)} {i:Nat} {o:Oper} {os:List Oper} {G:Bool} (ai:∀x,o.dst=some x->x<C.n) (hG:gd ds E o.guard=some G)
  (ht:G=true->AQ C ds i ({o with guard:=none}::os) K E H) (hf:G=false->AQ C (aZ o.dst i ds) (i+1) os K (a6 o.dst (.opt false .top) E) H):AQ C ds i (o::os) K E H:=by
 cases G with
 |true=>exact AQ.pa hG (ht rfl)
 |false=>exact AQ.r4 ai hG (hf rfl)
end
attribute [go_sem] vL pF lz List.set_cons_zero List.set_cons_succ
end Go.AL
end
section
namespace Go.AL
open Go Go.Lib
def bV (l:List UInt8):List (List Value):=l.map fun b=>[Value.int .u8 b.toNat]
theorem xy (l:List UInt8):(bV l).flatten=strCells (BA l):=by
 rw[bV,Fi]
 simp[strCells,BA]
theorem M0 (l:List UInt8):(bV l).flatten.length=l.length:=by rw[xy,strCells_length];rfl
theorem ML {P:Program} {B:Bs} {φ:al} {I:Nat->Prop} {H:aa} {w:World} (hS:St B φ I H w) {b n:Nat} {e t u ty:TypeId} {rows:List (List IV)} {s:Value} {l:List UInt8}
  (hs:AV.den w φ I (.os b 1 0 n) s) (hH:lk H b=some (.vec e 1 rows)) (hn:n=rows.length)
  (ht:tk P t= .slice e) (hu:tk P u= .str) (cw:sz P e=some 1) (hz:az P e=some [.int .u8 0]) (ji:aN P e=some 1)
  (eX:rows.length+l.length<=140737488355328/2):
  ∃v w' p',(Builtin.append_ #[t,u] ty #[s,.string (BA l)]).run P w= .ok v w'/\Ext (fun g=>φ b=some (some g)) w w'/\(Ob.vec e 1 (rows++di l)).at w' (a7 φ b p') I p'/\
   (∀g,p'=some g->φ b=some (some g)\/w.heap.size<=g)/\(∀g,p'=some g->g<w'.heap.size)/\AV.den w' (a7 φ b p') I (.os b 1 0 (rows.length+l.length)) v:=by
 subst hn
 simp only[AV.den]at hs
 obtain⟨_,ie,gl,l4⟩:=lF cw
 have uN:ie.bytes=1:=by
  unfold aN at ji
  rw[gl]at ji
  simpa using ji
 obtain⟨z,jw,vD⟩:∃z,ie.zero=some z/\z.cells.toList=[.int .u8 0]:=by
  unfold az at hz
  rw[gl]at hz
  simp only[Option.bind_some]at hz
  cases vE:ie.zero with
  |none=>rw[vE]at hz;cases hz
  |some z=>rw[vE]at hz;exact⟨z,rfl,by simpa using hz⟩
 have Ib:z.cells.size=1:=by rw[<-Array.length_toList,vD];rfl
 have pb:∀{w':World},Ext (fun g=>φ b=some (some g)) w w'->∀g,I g->w'.heap[g]?=w.heap[g]?:=fun hx g hg=>hx.dL g (hS.real.bO g hg) (fun e=>(hS.real.off b g e).1 hg)
 have mW:∀p,a7 φ b p b=some p:=fun p=>by simp[a7]
 have aQ:=fun p hp=>hS.real.own b _ p hH hp
 simp only[Ob.at]at aQ
 have aO:(BA l).size=l.length:=rfl
 have Wv:maxLen=9223372036854775807\/140737488355328<=maxLen:=by right;unfold maxLen;omega
 have Ww:140737488355328<=maxLen:=by unfold maxLen;omega
 have Cy:∀vs∈bV l,vs.length=1:=fun vs dC=>by obtain⟨b,_,rfl⟩:=List.mem_map.1 dC;rfl
 rcases hs with⟨U,_,h2,rfl⟩|⟨g,c,U,rfl,h2,h3,h4⟩
 ·have jo:rows=[]:=List.eq_nil_of_length_eq_zero h2
  subst jo
  by_cases hm:l=[]
  ·subst hm
   refine⟨.slice none 0 0,w,none,?_,Ext.refl _ w,?_,fun g hg=>(by cases hg),fun g hg=>(by cases hg),?_⟩
   ·have hf:=run_firstCells_string (P:=P) w 1 (BA [])
    have h0:(BA []).size=0:=rfl
    rw[h0]at hf
    simp[Builtin.append_,run_underlying (eV ht),run_underlying (kT hu),sizeOf,typeInfo,gl,l4,Builtin.lenOf,h0,hf]
   ·simp only[Ob.at];exact .inl ⟨by simp,rfl⟩
   ·simp only[AV.den];exact .inl ⟨mW _,by simp⟩
  ·have l7:0<l.length:=List.length_pos_iff.2 hm
   have aE:=run_append_nil_string (P:=P) w t u ty e ie z (eV ht) (kT hu) gl jw (BA l) (by omega) (by rw[aO];simp at eX;omega) (by rw[uN,aO];simp at eX;omega)
   have e1:((BA l).data.map fun b=>Value.int .u8 b.toNat)=(strCells (BA l)).toArray:=by
    apply Array.ext'
    simp[strCells]
   rw[e1]at aE
   have fB:=grownCap_ge w (BA l).size 0 e
   have hle:=grownCap_le_maxLen w (BA l).size 0 e (by rw[aO];simp at eX;omega)
   have fp:=ui (own:=fun g=>φ b=some (some g)) (w:=w) (.cells ((strCells (BA l)).toArray++Builtin.zeroCells z.cells (grownCap w (BA l).size 0 e-(BA l).size)) e)
   refine⟨_,_,some w.heap.size,aE,fp,?_,fun g hg=> .inr (by cases hg;exact Nat.le_refl _),fun g hg=>(by cases hg;simp),?_⟩
   ·simp only[Ob.at,List.nil_append]
    refine .inr ⟨_,bV l,(Builtin.zeroCells z.cells (grownCap w (BA l).size 0 e-(BA l).size)).toList,rfl,?_,tT l,Cy⟩
    rw[show(w.heap.size:Nat)=w.drew.heap.size from rfl,gB w.drew,xy]
    congr 2
    apply Array.ext'
    simp
   ·simp only[AV.den]
    refine .inr ⟨_,_,mW _,by simp[aO],by simp only[List.length_nil,Nat.zero_add];rw[aO]at fB;exact fB,hle,_,e,gB w.drew _,?_⟩
    simp only[Array.size_append,List.size_toArray,size_zeroCells,Ib,strCells_length,Nat.zero_add,Nat.mul_one]
    omega
 ·rcases aQ (some g) U with⟨bL,_⟩|⟨g',ae,rest,hg,b6,hr,hl⟩
  ·cases bL
  cases hg
  have fo:=jQ rows ae hr
  have dA:=nS ae 1 hl
  obtain⟨cc,ee,ig,BK⟩:=h4
  rw[b6]at ig
  cases ig
  have r_:c<=(ae.flatten++rest).length:=by simpa using BK
  have yu:ae.flatten.length=rows.length:=by rw[dA,fo,Nat.mul_one]
  simp only[Nat.zero_mul]
  by_cases qS:rows.length+(BA l).size<=c
  ·have aE:=run_append_room_string (P:=P) w t u ty e ie (eV ht) (kT hu) gl l4 g rows.length c (ae.flatten++rest).toArray b6 (BA l) qS (by simp only[List.size_toArray];omega)
   have e1:(ae.flatten++rest).toArray.toList.take rows.length=ae.flatten:=by
    simp only[]
    rw[<-yu];simp
   obtain⟨mm,e2⟩:∃mm,(ae.flatten++rest).toArray.toList.drop (rows.length+(BA l).size)=mm:=⟨_,rfl⟩
   rw[e1,e2,<-xy]at aE
   have vn:(ae.flatten++(bV l).flatten++mm).toArray.size=(ae.flatten++rest).toArray.size:=by
    rw[<-e2]
    simp only[List.size_toArray,List.length_append,List.length_drop,M0]at r_⊢
    rw[yu]at r_⊢
    rw[aO]at qS⊢
    omega
   have fp:Ext (fun g=>φ b=some (some g)) w (w.setRow g (ae.flatten++(bV l).flatten++mm).toArray):=(Gq b6 vn).Es (fun g' cm=>by rw[cm];exact U)
   refine⟨_,_,some g,aE,fp,?_,fun g' hg=> .inl (by cases hg;exact U),fun g' hg=>(by cases hg;simpa using(hS.real.off b g U).2),?_⟩
   ·simp only[Ob.at]
    refine .inr ⟨g,ae++bV l,mm,rfl,?_,qp _ _ _ _ (IV.gD (pb fp) (fun _ h=>h) rows ae hr) (tT l),fun vs hv=>?_⟩
    ·rw[setRow_heap w g _ _ e (0,0) b6];simp
    ·rcases List.mem_append.1 hv with hv|hv
     ·exact hl vs hv
     ·exact Cy vs hv
   ·simp only[AV.den]
    exact .inr ⟨g,c,mW _,by simp[aO],qS,h3,_,e,setRow_heap w g _ _ e (0,0) b6,by rw[vn,List.size_toArray,Nat.zero_add,Nat.mul_one];exact r_⟩
  ·have holds:∀j u,ae.flatten[j]?=some u->w.cell? ((⟨g,0,none⟩:Addr).add j)=some u:=fun j u hu=>by
    rw[addr_add,Nat.zero_add]
    have ag:j<ae.flatten.length:=by
     rcases Nat.lt_or_ge j ae.flatten.length with h|h
     ·exact h
     ·rw[List.getElem?_eq_none h]at hu;cases hu
    simp only[World.cell?,b6,Option.isSome_none,Bool.false_eq_true,if_false,List.getElem?_toArray]
    rw[List.getElem?_append_left ag];exact hu
   have aE:=run_append_grow_string (P:=P) w t u ty e ie z (eV ht) (kT hu) gl jw ⟨g,0,none⟩ rows.length c ae.flatten (by rw[yu,l4,Nat.mul_one]) holds (BA l) (by omega) (by rw[aO];omega) (growslice_fits (by omega) (by rw[uN,aO];omega))
   have fB:=grownCap_ge w (rows.length+(BA l).size) c e
   have hle:=grownCap_le_maxLen w (rows.length+(BA l).size) c e (by rw[aO];omega)
   have fp:=ui (own:=fun g=>φ b=some (some g)) (w:=w) (.cells (ae.flatten.toArray++(strCells (BA l)).toArray++Builtin.zeroCells z.cells (grownCap w (rows.length+(BA l).size) c e-(rows.length+(BA l).size))) e)
   refine⟨_,_,some w.heap.size,aE,fp,?_,fun g hg=> .inr (by cases hg;exact Nat.le_refl _),fun g hg=>(by cases hg;simp),?_⟩
   ·simp only[Ob.at]
    refine .inr ⟨_,ae++bV l,(Builtin.zeroCells z.cells (grownCap w (rows.length+(BA l).size) c e-(rows.length+(BA l).size))).toList,rfl,?_,qp _ _ _ _ (IV.gD (pb fp) (fun _ h=>h) rows ae hr) (tT l),fun vs hv=>?_⟩
    ·rw[show(w.heap.size:Nat)=w.drew.heap.size from rfl,gB w.drew,List.flatten_append,xy]
     congr 2
     apply Array.ext'
     simp
    ·rcases List.mem_append.1 hv with hv|hv
     ·exact hl vs hv
     ·exact Cy vs hv
   ·simp only[AV.den]
    refine .inr ⟨_,_,mW _,by simp[aO],fB,hle,_,e,gB w.drew _,?_⟩
    simp only[Array.size_append,List.size_toArray,size_zeroCells,Ib,strCells_length,yu,Nat.zero_add,Nat.mul_one]
    omega
section
variable {C:Cx} {K:List PK} {E:Env} {H:aa}
theorem AQ.MJ {ds:List (Nat×Nat)} {i:Nat} {d:Nat} {ty:TypeId} {pos:String} {af:Array Edge} {os:List Oper} {x y:Operand} {t u e:TypeId} {b n:Nat} {rows:List (List IV)} {l:List UInt8} (hnb:Nat.ble C.B.nb b=true)
  (ai:bl C.n ({dst:=some d,op:= .call {callee:= .builtin .append,args:=#[x,y],argTypes:=#[t,u]},type:=ty,pos:=pos,after:=af,guard:=none}::os)=true)
  (hx:ev E x=some (.os b 1 0 n)) (hy:ev E y=some (Sv l)) (hH:lk H b=some (.vec e 1 rows)) (bL:noMen b H=true)
  (ht:tk C.P t= .slice e) (hu:tk C.P u= .str) (cw:sz C.P e=some 1) (hz:az C.P e=some [.int .u8 0]) (ji:aN C.P e=some 1)
  (hn:n=rows.length) (eX:rows.length+l.length<=70368744177664)
  (h:vq C K os ((i,d)::ds) (i+1) ((d,.os b 1 0 (rows.length+l.length))::killE b E) (bG H b (.vec e 1 (rows++di l)))):
  AQ C ds i ({dst:=some d,op:= .call {callee:= .builtin .append,args:=#[x,y],argTypes:=#[t,u]},type:=ty,pos:=pos,after:=af,guard:=none}::os) K E H:=by
 obtain⟨eZ,ca⟩:=ef ai
 have bB:=AQ.go ca h
 have BQ:d<C.n:=eZ d rfl
 unfold AQ at bB⊢
 refine AO.step (o:={dst:=some d,op:= .call {callee:= .builtin .append,args:=#[x,y],argTypes:=#[t,u]},type:=ty,pos:=pos,after:=af,guard:=none}) fun ops φ I a w aT _ hs Kn bI=>?_
 have hw:Region.wanted {dst:=some d,op:= .call {callee:= .builtin .append,args:=#[x,y],argTypes:=#[t,u]},type:=ty,pos:=pos,after:=af,guard:=none} (yielded ops a.tmps)=true:=by simp[Region.wanted]
 rw[if_pos hw]
 have H_:=aS hs.env hy
 rw[kg]at H_
 obtain⟨v,w',p',aE,gH,Ce,eC,eP,a_⟩:=ML (P:=C.P) (ty:=ty) hs.st (aS hs.env hx) hH hn ht hu cw hz ji (l:=l) (by omega)
 have hS:=hs.st.move (Nat.le_of_ble_eq_true hnb) hH bL (fun g hg aR=>gH.dL g hg aR) gH Ce eC eP
 have hI:∀g,I g->w'.heap[g]?=w.heap[g]?:=fun g hg=>gH.dL g (hs.st.real.bO g hg) (fun e=>(hs.st.real.off b g e).1 hg)
 have hex:(execOp a.eval {dst:=some d,op:= .call {callee:= .builtin .append,args:=#[x,y],argTypes:=#[t,u]},type:=ty,pos:=pos,after:=af,guard:=none}).run C.P w= .ok (.value v) w':=by
  simp only[execOp,resolve,invoke,builtin,Sem.run_bind,Sem.run_pure,Result.andThen_ok,List.map_toArray,List.map_cons,List.map_nil,H_,aE]
 unfold Oper.wp
 rw[hex,Oper.upon_value]
 refine bI _ _ (a7 φ b p') I _ _ bB ⟨hs.bD.mono hI (fun _ h=>h),by simpa[Act.put]using hs.bE,fun j y hj=>?_,hS⟩
 simp only[lk]at hj
 cases hb:Nat.beq d j with
 |true=>
  rw[hb]at hj
  have:=Nat.eq_of_beq_eq_true hb
  subst this
  simp only[cond_true,Option.some.injEq]at hj
  subst hj
  exact⟨v,by simp only[Act.put];rw[Array.getElem?_setIfInBounds_self_of_lt (by rw[hs.bE];exact BQ)],a_⟩
 |false=>
  rw[hb]at hj
  simp only[cond_false]at hj
  obtain⟨y',CG,fg⟩:=qZ (w:=w) (φ:=φ) (φ':=fun c=>if c=b then none else φ c) (I:=I) (b:=b) (fun b' bK=>by simp[bK]) E j y hj
  obtain⟨v',hv,bR⟩:=hs.env j y' CG
  refine⟨v',?_,AV.jP hI (fun _ h=>h) (fun c p hc=>?_) (fun c g1 n hc eG=>?_) _ _ (fg v' bR)⟩
  rotate_left
  ·by_cases e1:c=b
   ·simp[e1]at hc
   ·simpa[a7,e1]using hc
  ·by_cases e1:c=b
   ·simp[e1]at hc
   ·exact gH.shaped (fun ho=>e1 (hs.st.real.inj c b g1 (by simpa[e1]using hc) ho)) eG
  simp only[Act.put]
  rw[Array.getElem?_setIfInBounds_ne (by intro e;subst e;simp at hb)]
  exact hv
end
section
variable {C:Cx} {K:List PK} {E:Env} {H:aa}
theorem AQ.val {ds:List (Nat×Nat)} {i:Nat} {o:Oper} {os:List Oper} (x:AV) (ai:bl C.n (o::os)=true) (hg:o.guard=none)
  (hex:∀φ I a w,bn C φ I E H a w->∃u,(execOp a.eval o).run C.P w= .ok (.value u) w/\AV.den w φ I x u)
  (h:vq C K os (aZ o.dst i ds) (i+1) (a6 o.dst x E) H):AQ C ds i (o::os) K E H:=by
 obtain⟨hd,ca⟩:=ef ai
 have bB:=AQ.go ca h
 unfold AQ at bB⊢
 refine AO.step (o:=o) fun ops φ I a w aT _ hs Kn bI=>?_
 have hw:Region.wanted o (yielded ops a.tmps)=true:=by simp[Region.wanted,hg]
 rw[if_pos hw]
 obtain⟨u,aE,a_⟩:=hex φ I a w hs
 unfold Oper.wp
 rw[aE,Oper.upon_value]
 exact bI _ _ φ I _ _ bB (hs.put hs.st (bt.refl w φ I) hd a_)
end
theorem aj.drop {P:Program} {f:FuncId} {args:List AV} {H:aa} {r:AV} {R:AV->aa->Prop} (he:enters P f=true) (hr:r.free=true) (OW:R r [])
  (
   h:∀(w:World) (φ:al) (I:Nat->Prop) (vs:List Value),AV.ab w φ I args vs->Real w φ I H->VK P w I->
   Calls P f vs.toArray w fun e w'=>∃v,e= .returned v/\AV.den w' φ I r v/\Ext (cP φ) w w'):aj P f args H R:=by
 refine⟨he,fun w φ I vs hd hR hV=>(h w φ I vs hd hR hV).mono fun e w' ⟨v,he,hv,hx⟩=>?_⟩
 refine⟨r,[],fun _=>none,I,v,OW,he,AV.o7 _ _ hr hv,?_⟩
 exact⟨⟨fun b=>rfl,fun b o p hl=>(by simp[lk]at hl),fun b g hp=>(by cases hp),fun b b' g hp=>(by cases hp),fun g hg=>Nat.lt_of_lt_of_le (hR.bO g hg) hx.size⟩,hx,fun b g hg=>(by cases hg),fun g hg=> .inl hg,fun g hg=>hg,fun _ _ _ _ _ hl=>by simp[lk]at hl⟩
theorem N5 {own:Nat->Prop} (w:World) (p:Addr) (n:Nat) (ho:own p.block):Ext own w (w.freeze p n):=by
 unfold World.freeze
 split
 ·exact Ext.refl own w
 ·refine⟨by simp,fun k hk hn=>?_,fun k c e fz hc=>?_,rfl,rfl,rfl⟩
  ·simp only[Array.getElem?_modify]
   rw[if_neg (by intro e;subst e;exact hn ho)]
  ·simp only[Array.getElem?_modify]
   by_cases hk:p.block=k
   ·subst hk
    rw[if_pos rfl,hc]
    simp only[Option.map_some]
    exact⟨c,_,rfl,rfl⟩
   ·rw[if_neg hk,hc]
    exact⟨c,fz,rfl,rfl⟩
theorem A3 {own:Nat->Prop} (w:World):Ext own w w.drew:=⟨Nat.le_refl _,fun _ _ _=>rfl,fun _ c _ fz h=>⟨c,fz,h,rfl⟩,rfl,rfl,rfl⟩
end Go.AL
end
section
namespace Go.AL
open Go Go.ChangeShapes Go.WideShapes
structure UM {H:Type} (bu:DataW H->Nat) (rJ:List (DataW H)->Nat):Prop where
 one:∀d,1<=bu d
 str:∀l,bu (.lit (.string l))=l.length+1
 ptr:∀d,bu d+1<=bu (.ptr d)
 WM:∀e r,rJ e+1<=bu (.slice e r)
 agg:∀l,rJ l+1<=bu (.agg l)
 nil:rJ []=0
 cons:∀d r,rJ (d::r)=bu d+rJ r
section
variable {H:Type} {bu:DataW H->Nat} {rJ:List (DataW H)->Nat}
variable {enc:TypeId×Value->H} {P:Program} {w:World}
end
end Go.AL
end
section
namespace Go.AL
open Go
section
variable {C:Cx} {K:List PK} {E:Env} {H:aa}
def Aa (C:Cx) (K:List PK) (sk:List (Nat×AV)):List Oper->List (Nat×Nat)->Nat->Env->aa->Prop
 |[],ds,i,E,H=>AQ C ds i [] K E H
 |o::os,ds,i,E,H=>match lk sk i with
  |some x=>gd ds E o.guard=some false/\Aa C K sk os (aZ o.dst i ds) (i+1) (a6 o.dst (.opt false x) E) H
  |none=>match gd ds E o.guard with
  |none=>AQ C ds i (o::os) K E H
  |some G=>match gQ C.P E H o.op with
   |some (sc,v)=>(G=true->sc)/\Aa C K sk os (aZ o.dst i ds) (i+1) (a6 o.dst (wrap o.guard G v) E) H
   |none=>match o.guard with
    |some _=>AQ C ds i (o::os) K E H
    |none=>match nD C.P C.B.nb C.ob E H o with
     |some (sc,v,H')=>sc/\Aa C K sk os (aZ o.dst i ds) (i+1) (a6 o.dst v E) H'
     |none=>AQ C ds i (o::os) K E H
end
attribute [go_sem] Aa
inductive Tree where
 |node (R P es:List Nat) (ts:List Tree)
def lM (ops:List Oper) (i j:Nat):Bool:=match ops[i]? with
 |some o=>o.after.any fun e=>Region.binds .any e&&e.on==j
 |none=>false
def x2 (ops:List Oper) (i:Nat) (S:List Nat):Bool:=match ops[i]? with
 |some o=>o.after.all fun e=>!Region.binds .any e||bJ S e.on
 |none=>false
def mZ (o:Oper):Bool:=match o.op with
 | .select _ _=>false
 |_=>true
def nH:List Nat->Bool
 |[]=>true
 |i::r=>r.all (fun j=>decide (i<j))&&nH r
mutual
def tn (ops:List Oper) (n:Nat) (prev cR:List Nat):Tree->Bool
 | .node R P es ts=>
  nH R&&nH P&&R.all (bJ prev)&&P.all (fun i=>decide (i<n)&&!bJ prev i&&!bJ cR i)&&
  (prev.all fun i=>bJ R i||(List.range n).any fun x=>decide (i<x)&&(bJ cR x||(bJ prev x&&!bJ R x))&&lM ops x i)&&
  P.all (fun i=>x2 ops i (prev++P++cR))&&
  ((List.range n).all fun i=>bJ (prev++P) i||bJ cR i||bJ es i||(List.range n).any fun j=>lM ops i j&&!bJ (prev++P) j&&!bJ cR j)&&
  (!es.isEmpty||(List.range n).all fun i=>bJ (prev++P) i||bJ cR i)&&tq ops n (prev++P) cR es ts
def tq (ops:List Oper) (n:Nat) (prev cR:List Nat):List Nat->List Tree->Bool
 |[],[]=>true
 |x::es,t::ts=>decide (x<n)&&!bJ prev x&&!bJ cR x&&x2 ops x (prev++cR)&&tn ops n prev (x::cR) t&&tq ops n prev cR es ts
 |_,_=>false
end
mutual
def AY:Tree->List Nat
 | .node _ _ es ts=>es++Gc ts
def Gc:List Tree->List Nat
 |[]=>[]
 |t::ts=>AY t++Gc ts
end
mutual
def wk (F:List Nat):Tree->Bool
 | .node _ P _ ts=>P.all (fun i=>!bJ F i)&&zE F ts
def zE (F:List Nat):List Tree->Bool
 |[]=>true
 |t::ts=>wk F t&&zE F ts
end
theorem Kd {F:List Nat}:∀{ts:List Tree} {t:Tree},zE F ts=true->t∈ts->wk F t=true
 |[],_,_,hm=>by cases hm
 |x::ts,t,h,hm=>by
  simp only[zE,Bool.and_eq_true]at h
  rcases List.mem_cons.1 hm with rfl|hm
  ·exact h.1
  ·exact Kd h.2 hm
def x3 (ops:List Oper) (n:Nat) (t:Tree):Bool:=yq ops n (AY t)&&(ops.take n).all mZ&&tn ops n [] [] t&&wk (AY t) t
theorem kJ:∀(l:List Nat) (i:Nat),bJ l i=true↔i∈l
 |[],i=>by simp[bJ]
 |j::l,i=>by
  simp only[bJ,List.mem_cons]
  cases hb:Nat.beq j i with
  |true=>have:=Nat.eq_of_beq_eq_true hb;simp[this]
  |false=>
   have aR:i≠j:=fun e=>by subst e;simp at hb
   have:=kJ l i
   simp[aR,this]
def zP (d:Option Nat) (x:AV) (E:Env):Prop:=match d with
 |none=>True
 |some d=>match lk E d with
  |none=>True
  |some .top=>True
  |some y=>y=x
def qi (P:Program) (E:Env) (H:aa) (op:Op) (G:Bool):Option (Prop×AV):=match gQ P E H op with
 |some r=>some r
 |none=>match G with
  |false=>some (True,.top)
  |true=>none
def vR (C:Cx) (ops:List Oper) (H:aa):List Nat->List (Nat×Nat)->Env->Prop
 |[],_,_=>True
 |i::r,ds,E=>(match ops[i]? with
  |none=>False
  |some o=>match gd ds E o.guard with
   |none=>False
   |some G=>match qi C.P E H o.op G with
    |none=>False
    |some (sc,v)=>(G=true->sc)/\zP o.dst (wrap o.guard G v) E)/\vR C ops H r ds E
def vP (C:Cx) (ops:List Oper) (H:aa) (k:List (Nat×Nat)->Env->Prop):List Nat->List (Nat×Nat)->Env->Prop
 |[],ds,E=>k ds E
 |i::r,ds,E=>match ops[i]? with
  |none=>False
  |some o=>match gd ds E o.guard with
   |none=>False
   |some G=>match qi C.P E H o.op G with
    |none=>False
    |some (sc,v)=>(G=true->sc)/\vP C ops H k r (aZ o.dst i ds) (a6 o.dst (wrap o.guard G v) E)
def Cx.nr (C:Cx):Cx:={C with R:=fun _ _=>False,X:=fun _ _=>False}
def oE (C:Cx) (K:List PK) (ops:List Oper):Exit->Act->World->Prop
 | .panic c,a,w=>∀a':Act,a'.defers=a.defers->a'.tmps.size=a.tmps.size->(∀t,(∀o∈ops,o.dst≠some t)->a'.tmps[t]?=a.tmps[t]?)->dz C (K.map (PK.ki C.fn)) (.panic c) a' w
 |_,_,_=>False
def tz (C:Cx) (V:Env->aa->Prop) (a:Act) (w:World):Prop:=∃E1 H1 φ I,bn C φ I E1 H1 a w/\V E1 H1
mutual
def vd (C:Cx) (K:List PK) (ops:List Oper) (n:Nat):Tree->List (Nat×Nat)->Env->aa->Prop
 | .node R P es ts,ds,E,H=>vR C ops H R ds E/\vP C ops H (fun ds E=>match es with
  |[]=>vq C K (ops.drop n) [] n E H
  |_::_=>lG C K ops n es ts ds E H) P ds E
def lG (C:Cx) (K:List PK) (ops:List Oper) (n:Nat):List Nat->List Tree->List (Nat×Nat)->Env->aa->Prop
 |x::es,t::ts,ds,E,H=>(match ops[x]? with
   |none=>False
   |some o=>AQ C.nr ds x [o] [.lp (tz C (vd C K ops n t (aZ o.dst x ds))),.bot (oE C K ops)] E H)/\lG C K ops n es ts ds E H
 |_,_,_,_,_=>True
end
theorem AQ.next {C:Cx} {K:List PK} {ops:List Oper} {n:Nat} {t:Tree} {ds ia:List (Nat×Nat)} {i:Nat} {E:Env} {H:aa} (h:vd C K ops n t ia E H):
  AQ C.nr ds i [] [.lp (tz C (vd C K ops n t ia)),.bot (oE C K ops)] E H:=by
 unfold AQ AO
 intro _ _ _ φ I a w hs
 exact⟨E,H,φ,I,⟨hs.bD,hs.bE,hs.env,hs.st⟩,h⟩
def fH (L:Array Bool) (i:Nat):Prop:=L.getD i true=false
def kN (L:Array Bool) (i:Nat):Prop:=L.getD i false=true
structure nz (ops:List Oper) (S:List Nat) (L:Array Bool) (a g:Act):Prop where
 bD:a.defers=g.defers
 bE:a.tmps.size=g.tmps.size
 at':∀t,(∀i∈S,fH L i->(ops[i]?).bind (·.dst)≠some t)->a.tmps[t]?=g.tmps[t]?
def qd (P:Program) (ops:List Oper) (g:Act) (w:World) (o:Oper) (u:Value):Prop:=
 if Region.wanted o (yielded ops.toArray g.tmps)=true then(execOp g.eval o).run P w= .ok (.value u) w else u=undef
def kd (P:Program) (ops:List Oper) (g:Act) (w:World) (i:Nat):Prop:=
 ∀o,ops[i]?=some o->∃u,qd P ops g w o u/\∀d,o.dst=some d->g.tmps[d]?=some u
theorem sQ {ops:List Oper} {o:Oper} (hs:mZ o=true) {a g:Act} (h:∀t∈looks ops o,a.tmps[t]?=g.tmps[t]?):
  execOp a.eval o=execOp g.eval o/\Region.wanted o (yielded ops.toArray a.tmps)=Region.wanted o (yielded ops.toArray g.tmps):=by
 constructor
 ·refine execOp_congr o (fun cs b hc=>by simp[mZ,hc]at hs) fun x hx=>?_
  cases x with
  |tmp t=>
   have:=h t (by simp only[looks];exact List.mem_append.2 (.inl (Dh _ (by simpa using hx))))
   simp only[Act.eval,Array.getD_eq_getD_getElem?,this]
  |_=>rfl
 ·unfold Region.wanted
  cases hg:o.guard with
  |none=>rfl
  |some p=>
   obtain⟨j,want⟩:=p
   simp only
   have:yielded ops.toArray a.tmps j=yielded ops.toArray g.tmps j:=by
    unfold yielded
    cases hd:(ops.toArray[j]?).bind (·.dst)with
    |none=>rfl
    |some d=>
     have eg:(ops[j]?).bind (·.dst)=some d:=by simpa using hd
     have:=h d (by simp only[looks,hg,eg];simp)
     simp only[Option.bind_some,this]
   rw[this]
theorem Kg {C:Cx} {φ:al} {I:Nat->Prop} {E:Env} {H:aa} {g:Act} {w:World} (hs:bn C φ I E H g w) {ops:List Oper} {ds:List (Nat×Nat)} (aT:∀j d,lk ds j=some d->(ops[j]?).bind (·.dst)=some d)
  {o:Oper} {G:Bool} {sc:Prop} {v:AV} (hG:gd ds E o.guard=some G) (hv:qi C.P E H o.op G=some (sc,v)) (ay:G=true->sc):∃u,qd C.P ops g w o u/\AV.den w φ I (wrap o.guard G v) u:=by
 have hw:=um (ops:=ops.toArray) hs.env (fun j d hj=>by simpa using aT j d hj) hG
 unfold qd
 rw[hw]
 cases G with
 |true=>
  have od:gQ C.P E H o.op=some (sc,v):=by
   unfold qi at hv
   cases hq:gQ C.P E H o.op with
   |some r=>rw[hq]at hv;exact hv
   |none=>rw[hq]at hv;cases hv
  obtain⟨u,hu,a_⟩:=xw hs.env hs.st.real od (ay rfl)
  exact⟨u,by rw[if_pos rfl];exact hu,Eu a_⟩
 |false=>
  refine⟨undef,by simp,?_⟩
  cases hg:o.guard with
  |none=>rw[hg]at hG;simp[gd]at hG
  |some p=>exact Ev
theorem Act.nf {a:Act} {d:Option Tmp} {u:Value} {t:Nat} (h:d≠some t):(a.put d u).tmps[t]?=a.tmps[t]?:=by
 cases d with
 |none=>rfl
 |some d=>simp only[Act.put];rw[Array.getElem?_setIfInBounds_ne (fun e=>h (by rw[e]))]
theorem Act.pX {a:Act} {d:Option Tmp} {u:Value}:(a.put d u).tmps.size=a.tmps.size:=by cases d<;>simp[Act.put]
theorem Act.wm {a:Act} {d:Option Tmp} {u:Value}:(a.put d u).defers=a.defers:=by cases d<;>rfl
theorem kd.put {P:Program} {ops:List Oper} {n:Nat} {F:List Nat} (ai:nA ops n F) (iw:∀i o,i<n->ops[i]?=some o->mZ o=true) {g:Act} {w:World} {i j:Nat} {o:Oper} {u:Value} (hi:i<n) (hj:j<n) (aR:i≠j)
  (ho:ops[j]?=some o) (Qk:∀oi d,ops[i]?=some oi->o.dst=some d->d∉looks ops oi) (h:kd P ops g w i):kd P ops (g.put o.dst u) w i:=fun oi iq=>by
 obtain⟨v,hv,hd⟩:=h oi iq
 have hl:∀t∈looks ops oi,(g.put o.dst u).tmps[t]?=g.tmps[t]?:=fun t ht=>Act.nf fun e=>Qk oi t iq e ht
 obtain⟨U,h2⟩:=sQ (ops:=ops) (iw i oi hi iq) hl
 refine⟨v,by unfold qd at hv⊢;rw[U,h2];exact hv,fun d eZ=>?_⟩
 rw[Act.nf fun e=>?_]
 ·exact hd d eZ
 ·exact aR (ai.F7 j i d hj hi (by rw[ho];exact e) (by rw[iq];exact eZ))
theorem dH.same {w:World} {φ:al} {I:Nat->Prop} {E:Env} {g:Act} {d:Option Nat} {x:AV} {u:Value} (hp:dH w φ I (a6 d x E) (g.put d u)) (hE:dH w φ I E g) (hs:zP d x E) (ag:∀t,d=some t->t<g.tmps.size):dH w φ I E (g.put d u):=fun t y hy=>by
 by_cases hd:d=some t
 ·subst hd
  simp only[zP,hy]at hs
  obtain⟨v,hv,a_⟩:=hp t x (by simp[a6,lk])
  refine⟨v,hv,?_⟩
  split at hs
  ·rename_i h;cases h
  ·rename_i h;cases h;simp only[AV.den]
  ·rename_i z _ h;cases h;rw[hs];exact a_
 ·obtain⟨v,hv,a_⟩:=hE t y hy
  exact⟨v,by rw[Act.nf hd];exact hv,a_⟩
theorem Ky {C:Cx} {ops:List Oper} {n:Nat} {F:List Nat} (ai:nA ops n F) (gk:bl C.n ops=true) (iw:∀i o,i<n->ops[i]?=some o->mZ o=true) {H:aa} {w:World} {φ:al} {I:Nat->Prop} {ds:List (Nat×Nat)} {E:Env} {S:List Nat} {L:Array Bool} {a:Act}
  (
   aT:∀j d,lk ds j=some d->(ops[j]?).bind (·.dst)=some d) (By:∀i∈S,bJ F i=false):∀(R D:List Nat) (g:Act),(∀i∈R,i<n/\i∈S)->(∀i∈D,i<n)->(∀i∈D,∀j∈R,i<j)->nH R=true->vR C ops H R ds E->bn C φ I E H g w->nz ops S L a g->
   (∀i∈D,fH L i->kd C.P ops g w i)->∃g',bn C φ I E H g' w/\nz ops S L a g'/\∀i,(i∈D\/i∈R)->fH L i->kd C.P ops g' w i
 |[],D,g,_,_,_,_,_,hs,ha,hp=>⟨g,hs,ha,fun i hi=>hp i (hi.resolve_right (by simp))⟩
 |j::R,D,g,hR,hD,Bq,pf,hv,hs,ha,hp=>by
  obtain⟨e7,B0⟩:=hR j (by simp)
  simp only[nH,Bool.and_eq_true,List.all_eq_true,decide_eq_true_eq]at pf
  simp only[vR]at hv
  obtain⟨gq,ju⟩:=hv
  have fin:∀g',bn C φ I E H g' w->nz ops S L a g'->(∀i∈D++[j],fH L i->kd C.P ops g' w i)->∃g',bn C φ I E H g' w/\nz ops S L a g'/\∀i,(i∈D\/i∈j::R)->fH L i->kd C.P ops g' w i:=fun g' eG BC b7=>by
   obtain⟨g2,U,h2,h3⟩:=Ky ai gk iw aT By R (D++[j]) g' (fun i hi=>hR i (by simp[hi])) (fun i hi=>by
    rcases List.mem_append.1 hi with hi|hi
    ·exact hD i hi
    ·simp at hi;subst hi;exact e7) (fun i hi k hk=>by
    rcases List.mem_append.1 hi with hi|hi
    ·exact Bq i hi k (by simp[hk])
    ·simp at hi;subst hi;exact pf.1 k hk) pf.2 ju eG BC b7
   refine⟨g2,U,h2,fun i hi=>h3 i ?_⟩
   rcases hi with hi|hi
   ·exact .inl (by simp[hi])
   ·rcases List.mem_cons.1 hi with rfl|hi
    ·exact .inl (by simp)
    ·exact .inr hi
  split at gq
  ·exact gq.elim
  ·rename_i o ho
   split at gq
   ·exact gq.elim
   ·rename_i G hG
    split at gq
    ·exact gq.elim
    ·rename_i sc v r7
     obtain⟨ay,Cq⟩:=gq
     by_cases hu:fH L j
     ·obtain⟨u,u9,a_⟩:=Kg hs aT hG r7 ay
      have lr:=hs.put (d:=o.dst) (v:=wrap o.guard G v) (u:=u) hs.st (bt.refl w φ I) (fun x hx=>qs gk (List.mem_of_getElem? ho) x hx) a_
      have Cs:∀t∈looks ops o,(g.put o.dst u).tmps[t]?=g.tmps[t]?:=fun t ht=>Act.nf fun e=>by
       have:=(ai.pO j o e7 ho t ht j t e7 (by rw[ho];exact e) rfl (By j B0)).1
       omega
      refine fin (g.put o.dst u) ⟨lr.bD,lr.bE,dH.same lr.env hs.env Cq (fun t ht=>by rw[hs.bE];exact qs gk (List.mem_of_getElem? ho) t ht),hs.st⟩
       ⟨by rw[Act.wm];exact ha.bD,by rw[Act.pX];exact ha.bE,fun t ht=>?_⟩ (fun i hi sy=>?_)
      ·rw[Act.nf fun e=>ht j B0 hu (by rw[ho];exact e)]
       exact ha.at' t ht
      ·rcases List.mem_append.1 hi with hi|hi
       ·refine kd.put ai iw (hD i hi) e7 (by have:=Bq i hi j (by simp);omega) ho (fun oi d iq hd ll=>?_) (hp i hi sy)
        have:=(ai.pO i oi (hD i hi) iq d ll j d e7 (by rw[ho];exact hd) rfl (By j B0)).1
        have:=Bq i hi j (by simp)
        omega
       ·simp at hi
        subst hi
        intro o' mO
        rw[ho]at mO
        cases mO
        obtain⟨U,h2⟩:=sQ (ops:=ops) (iw i o e7 ho) Cs
        refine⟨u,by unfold qd at u9⊢;rw[U,h2];exact u9,fun d hd=>?_⟩
        have ag:d<g.tmps.size:=by rw[hs.bE];exact qs gk (List.mem_of_getElem? ho) d hd
        rw[hd];simp[Act.put,ag]
     ·refine fin g hs ha (fun i hi sy=>?_)
      rcases List.mem_append.1 hi with hi|hi
      ·exact hp i hi sy
      ·simp at hi;subst hi;exact absurd sy hu
def Sep (ops:List Oper) (i j:Nat):Prop:=∀oi oj d,ops[i]?=some oi->ops[j]?=some oj->oj.dst=some d->d∉looks ops oi
theorem Gb {ops:List Oper} {ds:List (Nat×Nat)} {i:Nat} {o:Oper} (ho:ops[i]?=some o) (aT:∀j d,lk ds j=some d->(ops[j]?).bind (·.dst)=some d):∀j d,lk (aZ o.dst i ds) j=some d->(ops[j]?).bind (·.dst)=some d:=fun j d hj=>by
 unfold aZ at hj
 split at hj
 ·rename_i d' eg
  simp only[lk]at hj
  cases hb:Nat.beq i j with
  |true=>
   rw[hb]at hj
   have:=Nat.eq_of_beq_eq_true hb
   subst this
   simp only[cond_true,Option.some.injEq]at hj
   subst hj
   rw[ho];exact eg
  |false=>rw[hb]at hj;exact aT j d hj
 ·exact aT j d hj
theorem Kx {C:Cx} {ops:List Oper} {n:Nat} {F:List Nat} (ai:nA ops n F) (gk:bl C.n ops=true) (iw:∀i o,i<n->ops[i]?=some o->mZ o=true) {H:aa} {w:World} {φ:al} {I:Nat->Prop} {L:Array Bool} {a:Act} {k:List (Nat×Nat)->Env->Prop}:
  ∀(P D S:List Nat) (g:Act) (ds:List (Nat×Nat)) (E:Env),(∀j d,lk ds j=some d->(ops[j]?).bind (·.dst)=some d)->(∀i∈P,i<n/\fH L i/\bJ F i=false)->(∀i∈D,i<n)->(∀i∈D,∀j∈P,i≠j/\Sep ops i j)->nH P=true->
   vP C ops H k P ds E->bn C φ I E H g w->nz ops S L a g->(∀i∈D,fH L i->kd C.P ops g w i)->
   ∃ia E' g',k ia E'/\(∀j d,lk ia j=some d->(ops[j]?).bind (·.dst)=some d)/\bn C φ I E' H g' w/\nz ops (S++P) L a g'/\∀i,(i∈D\/i∈P)->fH L i->kd C.P ops g' w i
 |[],D,S,g,ds,E,aT,_,_,_,_,hv,hs,ha,hp=>⟨ds,E,g,hv,aT,hs,by simpa using ha,fun i hi=>hp i (hi.resolve_right (by simp))⟩
 |j::P,D,S,g,ds,E,aT,hP,hD,Bp,pf,hv,hs,ha,hp=>by
  obtain⟨e7,n5,PI⟩:=hP j (by simp)
  simp only[nH,Bool.and_eq_true,List.all_eq_true,decide_eq_true_eq]at pf
  simp only[vP]at hv
  split at hv
  ·exact hv.elim
  ·rename_i o ho
   split at hv
   ·exact hv.elim
   ·rename_i G hG
    split at hv
    ·exact hv.elim
    ·rename_i sc v r7
     obtain⟨ay,qK⟩:=hv
     obtain⟨u,u9,a_⟩:=Kg hs aT hG r7 ay
     have lr:=hs.put (d:=o.dst) (v:=wrap o.guard G v) (u:=u) hs.st (bt.refl w φ I) (fun x hx=>qs gk (List.mem_of_getElem? ho) x hx) a_
     have Cs:∀t∈looks ops o,(g.put o.dst u).tmps[t]?=g.tmps[t]?:=fun t ht=>Act.nf fun e=>by
      have:=(ai.pO j o e7 ho t ht j t e7 (by rw[ho];exact e) rfl PI).1
      omega
     have Qj:∀i∈D++[j],i<n:=fun i hi=>by
      rcases List.mem_append.1 hi with hi|hi
      ·exact hD i hi
      ·simp at hi;subst hi;exact e7
     obtain⟨ia,E',g',U,h2,h3,h4,h5⟩:=Kx (a:=a) ai gk iw P (D++[j]) (S++[j]) (g.put o.dst u) _ _ (Gb ho aT) (fun i hi=>hP i (by simp[hi])) Qj (fun i hi x hx=>by
       rcases List.mem_append.1 hi with hi|hi
       ·exact Bp i hi x (by simp[hx])
       ·simp at hi;subst hi
        refine⟨by have:=pf.1 x hx;omega,fun oi ox d iq P7 hd ll=>?_⟩
        have U:=(ai.pO i oi e7 iq d ll x d (hP x (by simp[hx])).1 (by rw[P7];exact hd) rfl (hP x (by simp[hx])).2.2).1
        have:=pf.1 x hx
        omega) pf.2 qK lr
      ⟨by rw[Act.wm];exact ha.bD,by rw[Act.pX];exact ha.bE,fun t ht=>by
       rw[Act.nf fun e=>ht j (by simp) n5 (by rw[ho];exact e)]
       exact ha.at' t fun i hi=>ht i (by simp[hi])⟩
      (
       fun i hi sy=>by
       rcases List.mem_append.1 hi with hi|hi
       ·exact kd.put ai iw (hD i hi) e7 (Bp i hi j (by simp)).1 ho (fun oi d iq hd ll=>(Bp i hi j (by simp)).2 oi o d iq ho hd ll) (hp i hi sy)
       ·simp at hi
        subst hi
        intro o' mO
        rw[ho]at mO
        cases mO
        obtain⟨U,h2⟩:=sQ (ops:=ops) (iw i o e7 ho) Cs
        refine⟨u,by unfold qd at u9⊢;rw[U,h2];exact u9,fun d hd=>?_⟩
        have ag:d<g.tmps.size:=by rw[hs.bE];exact qs gk (List.mem_of_getElem? ho) d hd
        rw[hd];simp[Act.put,ag])
     refine⟨ia,E',g',U,h2,h3,by simpa using h4,fun i hi=>h5 i ?_⟩
     rcases hi with hi|hi
     ·exact .inl (by simp[hi])
     ·rcases List.mem_cons.1 hi with rfl|hi
      ·exact .inl (by simp)
      ·exact .inr hi
theorem Sn {C:Cx} {ops:List Oper} {o:Oper} (hs:mZ o=true) {a g:Act} {w:World} (hl:∀t∈looks ops o,a.tmps[t]?=g.tmps[t]?) (mJ:a.defers=g.defers) {J J':Act->World->Prop} {Q Q':Exit->Act->World->Prop}
  (hq:∀c w,Q (.panic c) g w->Q' (.panic c) a w) (ho:¬LetsOut Q) (hn:∀dd v w',J (({g with defers:=dd}:Act).put o.dst v) w'->J' (({a with defers:=dd}:Act).put o.dst v) w') (h:o.wp C.P g w J Q):o.wp C.P a w J' Q':=by
 have u4:∀v w',J (g.put o.dst v) w'->J' (a.put o.dst v) w':=fun v w' hj=>by
  have:=hn g.defers v w' hj
  rw[<-mJ]at this
  exact this
 unfold Oper.wp at h⊢
 rw[(sQ hs hl).1]
 generalize(execOp g.eval o).run C.P w=q at*
 cases q with
 |ok x w'=>
  cases x<;>simp only[Oper.upon]at h⊢<;>first
   |exact u4 _ _ h
   |(rw[mJ];exact hn _ _ _ h)
   |exact h.elim
   |exact h.mono fun v oR he=>u4 _ _ he
   |(
     refine h.mono fun e oR he=>?_
     cases e with
     |returned v=>exact u4 _ _ he
     |panicked c=>exact hq _ _ he
     |outgrown=>exact(ho he).elim)
 |halt x w'=>cases x<;>simp only[Oper.upon]at h⊢<;>first|exact hq _ _ h|exact h.elim
theorem Sp {C:Cx} {ops:List Oper} {o:Oper} (hs:mZ o=true) {a g:Act} {w:World} (hl:∀t∈looks ops o,a.tmps[t]?=g.tmps[t]?) (mJ:a.defers=g.defers) {J J':Act->World->Prop} {Q Q':Exit->Act->World->Prop}
  (hq:∀c w,Q (.panic c) g w->Q' (.panic c) a w) (ho:¬LetsOut Q) (hn:∀dd v w',J (({g with defers:=dd}:Act).put o.dst v) w'->J' (({a with defers:=dd}:Act).put o.dst v) w') (h:m_ C.P o g w J Q):m_ C.P o a w J' Q':=by
 have u4:∀v w',J (g.put o.dst v) w'->J' (a.put o.dst v) w':=fun v w' hj=>by
  have:=hn g.defers v w' hj
  rw[<-mJ]at this
  exact this
 rcases h with h|⟨l,f,tmps,as,bd,hr,h⟩
 ·exact .inl (Sn hs hl mJ hq ho hn h)
 ·refine .inr ⟨l,f,tmps,as,bd,by rw[(sQ hs hl).1];exact hr,h.mono fun e oR he=>?_⟩
  cases e with
  |returned v=>exact u4 _ _ he
  |panicked c=>exact hq _ _ he
  |outgrown=>exact(ho he).elim
theorem sR {L:Array Bool} {i:Nat} (h:kN L i) (h':fH L i):False:=by
 unfold kN at h
 unfold fH at h'
 rcases Nat.lt_or_ge i L.size with hl|hl
 ·simp[hl]at h h';rw[h]at h';cases h'
 ·simp[Array.getElem?_eq_none hl]at h
theorem Uc {L:Array Bool} {i j:Nat} (h:fH (L.setIfInBounds i true) j):fH L j:=by
 unfold fH at h⊢
 by_cases iS:i=j
 ·subst iS
  rcases Nat.lt_or_ge i L.size with hl|hl
  ·simp[hl]at h
  ·simp[Array.getElem?_eq_none hl]at h
 ·rwa [getD_set_ne true iS]at h
theorem z7 {L:Array Bool} {i j:Nat} (iS:i≠j) (h:fH L j):fH (L.setIfInBounds i true) j:=by
 unfold fH at h⊢
 rwa [getD_set_ne true iS]
theorem Jh {L:Array Bool} {i j:Nat} (h:kN L j):kN (L.setIfInBounds i true) j:=getD_set_true h
theorem tP {ops:List Oper} {i j:Nat}:lM ops i j=true↔∃o,ops[i]?=some o/\∃e∈o.after,Region.binds .any e=true/\e.on=j:=by
 unfold lM
 cases ho:ops[i]? with
 |none=>simp
 |some o=>
  constructor
  ·intro h
   obtain⟨e,he,hb⟩:=Array.any_eq_true'.1 h
   simp only[Bool.and_eq_true,beq_iff_eq]at hb
   exact⟨o,rfl,e,he,hb⟩
  ·rintro⟨o',mO,e,he,hb⟩
   cases mO
   exact Array.any_eq_true'.2 ⟨e,he,by simpa using hb⟩
theorem F3 {ops:List Oper} {i:Nat} {S:List Nat} (h:x2 ops i S=true) {j:Nat} (hb:lM ops i j=true):j∈S:=by
 obtain⟨o,ho,e,he,eX,rfl⟩:=tP.1 hb
 unfold x2 at h
 rw[ho]at h
 have:=Array.all_eq_true'.1 h e he
 rw[eX]at this
 simpa[kJ]using this
theorem TW {ops:List Oper} {n:Nat} {prev cR R P es:List Nat} {ts:List Tree} (h:tn ops n prev cR (.node R P es ts)=true):
  nH R=true/\nH P=true/\(∀i∈R,i∈prev)/\(∀i∈P,i<n/\i∉prev/\i∉cR)/\
  (∀i∈prev,i∉R->∃x,i<x/\x<n/\(x∈cR\/(x∈prev/\x∉R))/\lM ops x i=true)/\
  (∀i∈P,∀j,lM ops i j=true->j∈prev++P++cR)/\
  (∀i,i<n->i∈prev++P\/i∈cR\/i∈es\/∃j,j<n/\lM ops i j=true/\j∉prev++P/\j∉cR)/\
  (es=[]->∀i,i<n->i∈prev++P\/i∈cR)/\tq ops n (prev++P) cR es ts=true:=by
 have bL:∀(l:List Nat) (i:Nat),(!bJ l i)=true->i∉l:=fun l i h hm=>by rw[(kJ _ _).2 hm]at h;cases h
 simp only[tn,Bool.and_eq_true]at h
 obtain⟨⟨⟨⟨⟨⟨⟨⟨U,h2⟩,h3⟩,h4⟩,h5⟩,h6⟩,h7⟩,h8⟩,h9⟩:=h
 refine⟨U,h2,fun i hi=>(kJ _ _).1 (List.all_eq_true.1 h3 i hi),fun i hi=>?_,fun i hi hR=>?_,fun i hi j hj=>F3 (List.all_eq_true.1 h6 i hi) hj,fun i hi=>?_,fun he i hi=>?_,h9⟩
 ·have:=List.all_eq_true.1 h4 i hi
  simp only[Bool.and_eq_true,decide_eq_true_eq]at this
  exact⟨this.1.1,bL _ _ this.1.2,bL _ _ this.2⟩
 ·have:=List.all_eq_true.1 h5 i hi
  simp only[Bool.or_eq_true,List.any_eq_true,List.mem_range,Bool.and_eq_true,decide_eq_true_eq]at this
  rcases this with h|⟨x,hx,⟨Hy,P6⟩,hb⟩
  ·exact absurd ((kJ _ _).1 h) hR
  ·refine⟨x,Hy,hx,?_,hb⟩
   rcases P6 with h|h
   ·exact .inl ((kJ _ _).1 h)
   ·exact .inr ⟨(kJ _ _).1 h.1,bL _ _ h.2⟩
 ·have:=List.all_eq_true.1 h7 i (List.mem_range.2 hi)
  simp only[Bool.or_eq_true,List.any_eq_true,List.mem_range,Bool.and_eq_true]at this
  rcases this with((h|h)|h)|⟨j,hj,⟨hb,U⟩,h2⟩
  ·exact .inl ((kJ _ _).1 h)
  ·exact .inr (.inl ((kJ _ _).1 h))
  ·exact .inr (.inr (.inl ((kJ _ _).1 h)))
  ·exact .inr (.inr (.inr ⟨j,hj,hb,bL _ _ U,bL _ _ h2⟩))
 ·subst he
  simp only[List.isEmpty_nil,Bool.not_true,Bool.false_or,List.all_eq_true,List.mem_range,Bool.or_eq_true]at h8
  exact(h8 i hi).imp (kJ _ _).1 (kJ _ _).1
theorem D9 {ops:List Oper} {n:Nat} {prev cR:List Nat} {C:Cx} {K:List PK} {ds:List (Nat×Nat)} {E:Env} {H:aa}:∀(es:List Nat) (ts:List Tree),tq ops n prev cR es ts=true->lG C K ops n es ts ds E H->∀x∈es,∃t∈ts,
  x<n/\x∉prev/\x∉cR/\(∀j,lM ops x j=true->j∈prev++cR)/\tn ops n prev (x::cR) t=true/\
   match ops[x]? with
   |none=>False
   |some o=>AQ C.nr ds x [o] [.lp (tz C (vd C K ops n t (aZ o.dst x ds))),.bot (oE C K ops)] E H
 |[],_,_,_,x,hx=>by simp at hx
 |y::es,[],h,_,x,hx=>by simp[tq]at h
 |y::es,t::ts,h,hv,x,hx=>by
  have bL:∀(l:List Nat) (i:Nat),(!bJ l i)=true->i∉l:=fun l i h hm=>by rw[(kJ _ _).2 hm]at h;cases h
  simp only[tq,Bool.and_eq_true,decide_eq_true_eq]at h
  obtain⟨⟨⟨⟨⟨U,h2⟩,h3⟩,h4⟩,h5⟩,h6⟩:=h
  simp only[lG]at hv
  rcases List.mem_cons.1 hx with rfl|hx
  ·exact⟨t,by simp,U,bL _ _ h2,bL _ _ h3,fun j hj=>F3 h4 hj,h5,hv.1⟩
  ·obtain⟨t',pv,r⟩:=D9 es ts h6 hv.2 x hx
   exact⟨t',by simp[pv],r⟩
theorem OD {L:Array Bool} {i:Nat} (h:L.getD i true=false):kN (L.setIfInBounds i true) i:=by
 unfold kN
 rcases Nat.lt_or_ge i L.size with hl|hl
 ·simp[hl]
 ·simp[Array.getElem?_eq_none hl]at h
theorem J9 {C:Cx} {K:List PK} {ops:List Oper} {n:Nat} {F:List Nat} (ai:nA ops n F) (gk:bl C.n ops=true) (iw:∀i o,i<n->ops[i]?=some o->mZ o=true):
  ∀(t:Tree) (prev cR:List Nat) (ds:List (Nat×Nat)) (E:Env) (H:aa),tn ops n prev cR t=true->wk F t=true->(∀i∈prev,bJ F i=false)->(∀j d,lk ds j=some d->(ops[j]?).bind (·.dst)=some d)->vd C K ops n t ds E H->
  (∀i∈prev,i<n)->(∀i∈cR,i<n)->(∀i,(i∈prev\/i∈cR)->∀j,lM ops i j=true->j∈prev\/j∈cR)->
  ∀(L:Array Bool) (a:Act) (w:World),HeadInv .any ops.toArray n L->(∀i∈cR,kN L i)->(∀i,i<n->i∉prev->i∉cR->fH L i)->(∃g φ I,bn C φ I E H g w/\nz ops prev L a g)->
   nt C.P .any ops.toArray (dz C (K.map (PK.ki C.fn))) (fb L n+(ops.length-n)) L a w
 | .node R P es ts,prev,cR,ds,E,H,hB,HT,HR,aT,hv,yI,Ps,b5,L,a,w,inv,hle,po,⟨g,φ,I,hs,ez⟩=>by
  obtain⟨hR,hP,G9,qB,Px,OV,Pu,sb,G4⟩:=TW hB
  simp only[vd]at hv
  obtain⟨Qw,Qv⟩:=hv
  simp only[wk,Bool.and_eq_true,List.all_eq_true,Bool.not_eq_true']at HT
  obtain⟨Cf,P9⟩:=HT
  have HS:∀i∈prev++P,bJ F i=false:=fun i hi=>(List.mem_append.1 hi).elim (HR i) (Cf i)
  have PO:∀(d i:Nat),n-i=d->i∈prev->i∉R->kN L i:=by
   intro d
   induction d using Nat.strongRecOn with
   |_ d ih=>
    intro i hd hi yz
    obtain⟨x,Hy,vz,hx,hb⟩:=Px i hi yz
    have si:kN L x:=by
     rcases hx with hx|⟨QH,QI⟩
     ·exact hle x hx
     ·exact ih (n-x) (by omega) x rfl QH QI
    obtain⟨o,ho,ed,qG,fA,rfl⟩:=tP.1 hb
    exact inv.closed x o (by simpa using ho) si ed qG fA
  obtain⟨g1,iu,O4,eC⟩:=Ky ai gk iw aT (S:=prev) (L:=L) (a:=a) HR R [] g (fun i hi=>⟨yI i (G9 i hi),G9 i hi⟩) (fun i hi=>by simp at hi) (fun i hi=>by simp at hi) hR Qw hs ez (fun i hi=>by simp at hi)
  have mQ:∀i∈prev,fH L i->kd C.P ops g1 w i:=fun i hi hu=>by
   by_cases yz:i∈R
   ·exact eC i (.inr yz) hu
   ·exact(sR (PO _ i rfl hi yz) hu).elim
  have yg:∀i∈P,i<n/\fH L i:=fun i hi=>⟨(qB i hi).1,po i (qB i hi).1 (qB i hi).2.1 (qB i hi).2.2⟩
  obtain⟨ia,E',g',hk,sa,iV,O5,eP⟩:=Kx (a:=a) ai gk iw P prev prev g1 ds E aT (fun i hi=>⟨(yg i hi).1,(yg i hi).2,Cf i hi⟩) yI (fun i hi j hj=>⟨fun e=>(qB j hj).2.1 (e▸hi),fun oi oj d iq P2 hd ll=>by
    obtain⟨_,ed,qG,fA,u6⟩:=ai.pO i oi (yI i hi) iq d ll j d (yg j hj).1 (by rw[P2];exact hd) rfl (Cf j hj)
    rcases b5 i (.inl hi) j (tP.2 ⟨oi,iq,ed,qG,fA,u6⟩)with h|h
    ·exact(qB j hj).2.1 h
    ·exact(qB j hj).2.2 h⟩) hP Qv iu O4 mQ
  have Bz:∀i∈prev++P,i<n:=fun i hi=>by
   rcases List.mem_append.1 hi with hi|hi
   ·exact yI i hi
   ·exact(yg i hi).1
  have inner:∀(c:Nat) (L:Array Bool) (a:Act),fb L n=c->HeadInv .any ops.toArray n L->(∀i∈cR,kN L i)->(∀i,i<n->i∉prev++P->i∉cR->fH L i)->nz ops (prev++P) L a g'->
    (∀i∈prev++P,fH L i->kd C.P ops g' w i)->nt C.P .any ops.toArray (dz C (K.map (PK.ki C.fn))) (c+(ops.length-n)) L a w:=by
   intro c
   induction c with
   |zero=>
    intro L a hc inv hle po ez hp
    have gG:=xP L n hc
    have aO:L.size=ops.length:=by simpa using inv.size
    have HG:∀i,i<n->kN L i:=fun i hi=>by
     have U:=gG i hi
     have ag:i<L.size:=by rw[aO];have:=ai.le;omega
     unfold kN
     simp[ag]at U⊢;exact U
    cases es with
    |cons x dn=>
     simp only at hk
     obtain⟨t',_,vz,CF,qV,_⟩:=D9 _ _ G4 hk x (by simp)
     exact(sR (HG x vz) (po x vz CF qV)).elim
    |nil=>
     simp only at hk
     have BH:L=canon n ops.length:=by
      apply Array.ext
      ·simp[canon,aO]
      ·intro i U h2
       simp only[canon,List.getElem_toArray,List.getElem_map,List.getElem_range]
       by_cases hi:i<n
       ·have:=gG i hi
        simp[U]at this
        simp[hi,this]
       ·have:=inv.tail i (by omega) (by simpa using(by omega:i<ops.length))
        simp[U]at this
        simp[hi,this]
     have O3:a=g':=by
      have ht:a.tmps=g'.tmps:=by
       apply Array.ext_getElem?
       intro t
       exact ez.at' t fun i hi hu=>(sR (HG i (Bz i hi)) hu).elim
      have hd:=ez.bD
      cases a;cases g'
      simp only at ht hd
      subst ht;subst hd;rfl
     subst O3
     rw[Nat.zero_add]
     have vl:=ai.seq
     rw[<-BH]at vl
     have BS:bl C.n (ops.drop n)=true:=by
      rw[bl,List.all_eq_true]
      exact fun o ho=>List.all_eq_true.1 gk o (List.mem_of_mem_drop ho)
     have fy:=tt (C:=C) (K:=K.map (PK.ki C.fn)) (ops.drop n) [] n E' H BS (tu C K _ _ _ _ _ hk)
     have U:=Et (P:=C.P) (md:= .any) (ops:=ops.toArray) (Q:=dz C (K.map (PK.ki C.fn))) (ops.drop n) n L a w (fun j=>by simp[List.getElem?_drop]) (by simpa using vl)
      (fy ops.toArray (fun j d hj=>by simp[lk]at hj) (fun j o hj=>by rw[List.getElem?_drop]at hj;simp[hj]) φ I a w iV)
     simpa using U
   |succ c ih=>
    intro L a hc inv hle po ez hp
    obtain⟨i0,uM,vr,B7⟩:=AI L n (by omega)
    have aO:L.size=ops.length:=by simpa using inv.size
    have Wx:=ai.le
    have vb:i0∈Region.ready .any ops.toArray L:=by
     rw[mem_ready]
     have ag:i0<ops.length:=by omega
     refine⟨vr,ops[i0],by simp[ag],fun e he hb=>?_⟩
     have j2:=ai.back i0 ops[i0] uM (List.getElem?_eq_getElem ag) e he hb
     have U:=B7 e.on j2
     have B4:e.on<L.size:=by omega
     simp[B4]at U⊢;exact U
    rw[show c+1+(ops.length-n)=(c+(ops.length-n))+1 by omega]
    refine⟨fun h=>(by rw[h]at vb;cases vb),fun i hi=>?_⟩
    have cL:=Ki ai inv uM vr i hi
    obtain⟨pw,o,ho,gG⟩:=mem_ready.1 hi
    have fl:ops[i]?=some o:=by simpa using ho
    have y5:=inv.set hi cL
    have nX:fb (L.setIfInBounds i true) n=c:=by have:=AJ L i pw n cL;omega
    have Hm:∀j,lM ops i j=true->kN L j:=fun j hb=>by
     obtain⟨o',mO,ed,qG,fA,rfl⟩:=tP.1 hb
     rw[fl]at mO
     cases mO
     exact gG ed qG fA
    have uX:∀t∈looks ops o,a.tmps[t]?=g'.tmps[t]?:=fun t ht=>ez.at' t fun j hj n5 l5=>by
     obtain⟨_,ed,qG,fA,u6⟩:=ai.pO i o cL fl t ht j t (Bz j hj) l5 rfl (HS j hj)
     exact sR (Hm j (tP.2 ⟨o,fl,ed,qG,fA,u6⟩)) n5
    obtain⟨hex,H7⟩:=sQ (ops:=ops) (iw i o cL fl) uX
    have O6:∀u,(∀d,o.dst=some d->d<a.tmps.size->g'.tmps[d]?=some u)->nz ops (prev++P) (L.setIfInBounds i true) (a.put o.dst u) g':=fun u hu=>by
     refine⟨by rw[Act.wm];exact ez.bD,by rw[Act.pX];exact ez.bE,fun t ht=>?_⟩
     by_cases hd:o.dst=some t
     ·by_cases ag:t<a.tmps.size
      ·rw[hu t hd ag,hd];simp[Act.put,ag]
      ·rw[Array.getElem?_eq_none (by rw[Act.pX];exact Nat.not_lt.1 ag),Array.getElem?_eq_none (by rw[<-ez.bE];exact Nat.not_lt.1 ag)]
     ·rw[Act.nf hd]
      refine ez.at' t fun j hj n5 l5=>?_
      by_cases iS:i=j
      ·subst iS;rw[fl]at l5;exact hd l5
      ·exact ht j hj (z7 iS n5) l5
    have pure:i∈prev++P->ml C.P ops.toArray (dz C (K.map (PK.ki C.fn))) i (nt C.P .any ops.toArray (dz C (K.map (PK.ki C.fn))) (c+(ops.length-n)) (L.setIfInBounds i true)) a w:=fun Hv=>by
     obtain⟨u,mR,sr⟩:=hp i Hv pw o fl
     have bB:=ih (L.setIfInBounds i true) (a.put o.dst u) nX y5 (fun j hj=>Jh (hle j hj)) (fun j e7 sf mL=>z7 (fun e=>sf (e▸Hv)) (po j e7 sf mL)) (O6 u fun d hd _=>sr d hd) (fun j hj n5=>hp j hj (Uc n5))
     unfold ml
     rw[ho]
     simp only
     rw[H7]
     unfold qd at mR
     split
     ·rename_i hw
      rw[if_pos hw]at mR
      refine Or.inl ?_
      unfold Oper.wp
      rw[hex,mR,Oper.upon_value]
      exact bB
     ·rename_i hw
      rw[if_neg hw]at mR
      rw[<-mR];exact bB
    rcases Pu i cL with h|h|h|⟨j,e7,hb,sf,mL⟩
    ·exact pure h
    ·exact(sR (hle i h) pw).elim
    ·
     cases es with
     |nil=>simp at h
     |cons x0 dn=>
       simp only at hk
       obtain⟨t',pv,vz,CF,qV,yW,OR,hk⟩:=D9 _ _ G4 hk i h
       rw[fl]at hk
       simp only at hk
       have aE:=hk
       unfold AQ AO at aE
       have aE:=aE ops.toArray (fun j d hj=>by simpa using sa j d hj) (fun j o' hj=>by
        cases j with
        |zero=>simp at hj;subst hj;rw[Nat.add_zero,ho];rfl
        |succ j=>simp at hj) φ I g' w ⟨iV.bD,iV.bE,iV.env,iV.st⟩
       simp only[fY]at aE
       have mK:∀dd v w',(∃E1 H1 φ I,bn C φ I E1 H1 (({g' with defers:=dd}:Act).put o.dst v) w'/\vd C K ops n t' (aZ o.dst i ia) E1 H1)->
         nt C.P .any ops.toArray (dz C (K.map (PK.ki C.fn))) (c+(ops.length-n)) (L.setIfInBounds i true) (({a with defers:=dd}:Act).put o.dst v) w':=fun dd v w' ⟨E1,H1,a8,I1,sw,vt⟩=>by
        rw[<-nX]
        refine J9 ai gk iw t' (prev++P) (i::cR) _ E1 H1 OR (Kd P9 pv) HS (Gb fl sa) vt Bz (fun j hj=>by
          rcases List.mem_cons.1 hj with rfl|hj
          ·exact vz
          ·exact Ps j hj) (fun j hj k hb=>by
          have:k∈prev++P++cR:=by
           rcases hj with hj|hj
           ·rcases List.mem_append.1 hj with hj|hj
            ·rcases b5 j (.inl hj) k hb with h|h<;>simp[h]
            ·exact OV j hj k hb
           ·rcases List.mem_cons.1 hj with rfl|hj
            ·exact yW k hb
            ·rcases b5 j (.inr hj) k hb with h|h<;>simp[h]
          rcases List.mem_append.1 this with h|h
          ·exact .inl h
          ·exact .inr (List.mem_cons_of_mem _ h)) _ _ w' y5 (fun j hj=>by
          rcases List.mem_cons.1 hj with rfl|hj
          ·exact OD pw
          ·exact Jh (hle j hj)) (fun j e7 sf mL=>z7 (fun e=>mL (by simp[e])) (po j e7 sf fun hm=>mL (List.mem_cons_of_mem _ hm))) ⟨_,a8,I1,sw,?_⟩
        refine⟨by rw[Act.wm,Act.wm],by rw[Act.pX,Act.pX];exact ez.bE,fun t ht=>?_⟩
        by_cases hd:o.dst=some t
        ·by_cases ag:t<a.tmps.size
         ·rw[hd];simp[Act.put,ag,<-ez.bE]
         ·rw[Array.getElem?_eq_none (by rw[Act.pX];exact Nat.not_lt.1 ag),Array.getElem?_eq_none (by rw[Act.pX,<-ez.bE];exact Nat.not_lt.1 ag)]
        ·rw[Act.nf hd,Act.nf hd]
         exact ez.at' t fun j hj n5=>ht j hj (z7 (fun e=>by subst e;exact CF hj) n5)
       unfold ml
       rw[ho]
       simp only
       rw[H7]
       split
       ·rename_i hw
        rw[if_pos hw]at aE
        exact Sp (ops:=ops) (iw i o cL fl) uX ez.bD (fun c w hq=>hq _ ez.bD ez.bE fun t ht=>ez.at' t fun i _ _ he=>by
         cases ho:ops[i]? with
         |none=>rw[ho]at he;cases he
         |some o=>rw[ho]at he;exact ht o (List.mem_of_getElem? ho) he) (fun⟨a,w,hq⟩=>hq) mK aE
       ·rename_i hw
        rw[if_neg hw]at aE
        have:=mK g'.defers undef w aE
        rw[<-ez.bD]at this
        exact this
    ·
     exact(sR (Hm j hb) (po j e7 sf mL)).elim
  refine inner _ L a rfl inv hle (fun i cL U h2=>po i cL (fun hm=>U (List.mem_append_left _ hm)) h2) O5 (fun i hi hu=>eP i (by
   rcases List.mem_append.1 hi with hi|hi
   ·exact .inl hi
   ·exact .inr hi) hu)
termination_by t=>SizeOf.sizeOf t
decreasing_by
 have:=List.sizeOf_lt_of_mem pv
 simp only[Tree.node.sizeOf_spec]
 omega
section
variable {C:Cx} {K:List PK} {E:Env} {H:aa} {p:List Nat}
theorem AP.cu {id:Nat} {ops:List Oper} (n:Nat) (t:Tree) (hm:C.P.follows .mixedOrders=true) (hc:bS C.fn p= .region id ops.toArray true) (ai:bl C.n ops=true) (hB:x3 ops n t=true)
  (h:vd C K ops n t [] E H):AP C p K E H:=by
 simp only[x3,Bool.and_eq_true]at hB
 obtain⟨⟨⟨ON,OO⟩,OP⟩,OQ⟩:=hB
 have ca:=Ho ON
 have hle:=ca.le
 have iw:∀i o,i<n->ops[i]?=some o->mZ o=true:=fun i o hi ho=>List.all_eq_true.1 OO o (by
  rw[List.mem_take_iff_getElem]
  obtain⟨hl,he⟩:=List.getElem?_eq_some_iff.1 ho
  exact⟨i,by omega,he⟩)
 unfold AP
 rw[hc]
 intro φ I a w hs
 refine L0 hm (AW ai) ?_
 have nX:∀k,fb (Array.replicate ops.length false) k=min k ops.length:=by
  intro k
  induction k with
  |zero=>simp[fb]
  |succ k ih=>
   simp only[fb,ih]
   by_cases hk:k<ops.length
   ·simp[hk];omega
   ·simp[hk];omega
 have CO:HeadInv .any ops.toArray n (Array.replicate ops.length false):=
  ⟨by simp,fun j oj _ hl=>(by rw[getD_replicate_false]at hl;cases hl),fun t _ ht=>getD_in (by simpa using ht) (getD_replicate_false _ _)⟩
 have:=J9 (K:=K) ca ai iw t [] [] [] E H OP OQ (fun i hi=>by simp at hi) (fun j d hj=>by simp[lk]at hj) h (fun i hi=>by simp at hi) (fun i hi=>by simp at hi) (fun i hi=>by simp at hi) (Array.replicate ops.length false) a {w with drawn:=w.drawn+1} CO
  (fun i hi=>by simp at hi) (fun i hi _ _=>getD_in (by simp;omega) (getD_replicate_false _ _)) ⟨a,φ,I,⟨hs.bD,hs.bE,fun t x hx=>?_,hs.st.ud⟩,⟨rfl,rfl,fun t _=>rfl⟩⟩
 ·rw[nX,show min n ops.length+(ops.length-n)=ops.length by omega]at this
  simpa using this
 ·obtain⟨u,hu,hd⟩:=hs.env t x hx
  exact⟨u,hu,(bt.ud w φ I).den hd⟩
end
theorem cr {C:Cx} {K:List PK} {ops:List Oper} {n:Nat} {R P es:List Nat} {ts:List Tree} {ds:List (Nat×Nat)} {E:Env} {H:aa}
  (h:vR C ops H R ds E/\vP C ops H (fun ds E=>match es with
  |[]=>vq C K (ops.drop n) [] n E H
  |_::_=>lG C K ops n es ts ds E H) P ds E):vd C K ops n (.node R P es ts) ds E H:=by
 simp only[vd];exact h
theorem Uh {C:Cx} {K:List PK} {ops:List Oper} {n x:Nat} {es:List Nat} {t:Tree} {ts:List Tree} {ds:List (Nat×Nat)} {E:Env} {H:aa}:
  lG C K ops n (x::es) (t::ts) ds E H=((match ops[x]? with
   |none=>False
   |some o=>AQ C.nr ds x [o] [.lp (tz C (vd C K ops n t (aZ o.dst x ds))),.bot (oE C K ops)] E H)/\lG C K ops n es ts ds E H):=by first|(simp only[lG];done)|(simp only[lG];rfl)
theorem Ui {C:Cx} {K:List PK} {ops:List Oper} {n:Nat} {ts:List Tree} {ds:List (Nat×Nat)} {E:Env} {H:aa}:lG C K ops n [] ts ds E H=True:=by cases ts<;>simp only[lG]
theorem R9 (C:Cx):C.nr.P=C.P:=rfl
theorem R_ (C:Cx):C.nr.fn=C.fn:=rfl
theorem Sb (C:Cx):C.nr.n=C.n:=rfl
theorem R8 (C:Cx):C.nr.B=C.B:=rfl
theorem Sa (C:Cx):C.nr.kp=C.kp:=rfl
theorem Sc (C:Cx):C.nr.ob=C.ob:=rfl
attribute [go_sem] Uh Ui vR vP qi zP R9 R_ Sb R8 Sa Sc
section
variable {C:Cx} {K:List PK} {E:Env} {H:aa}
theorem AQ.Fk {ds:List (Nat×Nat)} {i:Nat} {d:Option Nat} {ty:TypeId} {pos:String} {af:Array Edge} {os:List Oper} {bk:Operand} {f:FuncId} {fs aJ:List AV} {xs:List Operand} {aV:Array TypeId} {l:List AV} {r:AV} {gu:Option (Nat×Bool)} {G:Bool}
  (ai:bl C.n ({dst:=d,op:= .call {callee:= .value bk,args:=xs.toArray,argTypes:=aV},type:=ty,pos:=pos,after:=af,guard:=gu}::os)=true)
  (hG:gd ds E gu=some G) (eY:ev E bk=some (.fn f fs aJ)) (hl:dI E xs=some l) (du:G=true->gs l=true)
  (hc:G=true->aj C.P f (fs++l.map AV.st++aJ) H (fun r' H'=>H'=H/\r'=r))
  (h:vq C K os (aZ d i ds) (i+1) (a6 d (.opt G r) E) H):
  AQ C ds i ({dst:=d,op:= .call {callee:= .value bk,args:=xs.toArray,argTypes:=aV},type:=ty,pos:=pos,after:=af,guard:=gu}::os) K E H:=by
 obtain⟨hd,ca⟩:=ef ai
 have bB:=AQ.go ca h
 cases G with
 |true=>
  refine AQ.pa hG ?_
  have hn:vq C [] [] (aZ d i ds) (i+1) (a6 d r E) H=AQ C (aZ d i ds) (i+1) [] [] (a6 d r E) H:=rfl
  have key:∀zA:List Oper,AQ C (aZ d i ds) (i+1) zA K (a6 d r E) H->bl C.n ({dst:=d,op:= .call {callee:= .value bk,args:=xs.toArray,argTypes:=aV},type:=ty,pos:=pos,after:=af,guard:=none}::zA)=true->
    AQ C ds i ({dst:=d,op:= .call {callee:= .value bk,args:=xs.toArray,argTypes:=aV},type:=ty,pos:=pos,after:=af,guard:=none}::zA) K E H:=fun zA h' P3=>AQ.Nn P3 eY hl (du rfl) (hc rfl) h'
  refine key os (AQ.imp (fun w φ I a=>zF fun u hu=>?_) bB) ?_
  ·simp only[AV.den];exact⟨fun _=>hu,fun h=>by cases h⟩
  ·simp only[bl,List.all_cons,Bool.and_eq_true]at ai⊢
   exact ai
 |false=>
  refine AQ.r4 hd hG ?_
  exact AQ.imp (fun w φ I a=>zF fun u hu=>by simp only[AV.den]at hu⊢;exact⟨fun h=>(by cases h),hu.2⟩) bB
end
structure iJ (P:Program) (nb:Nat) (f:FuncId) (args:List AV) (H:aa) (R:AV->aa->Prop):Prop where
 gh:enters P f=true
 run:∀(w:World) (φ:al) (I:Nat->Prop) (vs:List Value),AV.ab w φ I args vs->Real w φ I H->VK P w I->Calls P f vs.toArray w (kU ⟨w,cP φ,I,φ,nb⟩ R)
structure f_ (P:Program) (nb l:Nat) (args:List AV) (H:aa) (R:AV->aa->Prop):Prop where
 run:∀(w:World) (φ:al) (I:Nat->Prop) (vs:List Value),AV.ab w φ I args vs->Real w φ I H->VK P w I->
  ∃(b_:FuncId) (T:Array Value) (as bd:Code),(Instr.yield l vs.toArray).run P w= .ok (.round l b_ T as bd) w/\RoundIn Fence.wide 3 P l b_ T as bd w (kU ⟨w,cP φ,I,φ,nb⟩ R)
theorem iJ.mono {P:Program} {nb:Nat} {f:FuncId} {args:List AV} {H:aa} {R R':AV->aa->Prop} (h:iJ P nb f args H R) (hr:∀r H',R r H'->R' r H'):iJ P nb f args H R':=
 ⟨h.gh,fun w φ I vs hd hR hV=>(h.run w φ I vs hd hR hV).mono fun _ _ ⟨r,H',φ',I',v,U,h2⟩=>⟨r,H',φ',I',v,hr _ _ U,h2⟩⟩
theorem f_.mono {P:Program} {nb l:Nat} {args:List AV} {H:aa} {R R':AV->aa->Prop} (h:f_ P nb l args H R) (hr:∀r H',R r H'->R' r H'):f_ P nb l args H R':=
 ⟨fun w φ I vs hd hR hV=>let⟨b_,T,as,bd,U,h2⟩:=h.run w φ I vs hd hR hV;⟨b_,T,as,bd,U,h2.mono fun _ _ ⟨r,H',φ',I',v,U,h2⟩=>⟨r,H',φ',I',v,hr _ _ U,h2⟩⟩⟩
mutual
def AV.ge (nb:Nat):AV->Bool
 | .ob b _=>Nat.ble nb b
 | .oe b _ _ _=>Nat.ble nb b
 | .os b _ _ _=>Nat.ble nb b
 | .fn _ fs aJ=>AV.iP nb fs||AV.iP nb aJ
 | .agg cs=>AV.iP nb cs
 | .aM cs=>AV.iP nb cs
 | .opt _ x=>AV.ge nb x
 | .im _=>false
 | .ar _=>false
 | .top=>false
 | .mp b=>Nat.ble nb b
 | .wr _ x=>AV.ge nb x
def AV.iP (nb:Nat):List AV->Bool
 |[]=>false
 |x::xs=>AV.ge nb x||AV.iP nb xs
end
theorem oX {a b:Nat} (h:Nat.ble a b=false):b<a:=by
 rcases Nat.lt_or_ge b a with h'|h'
 ·exact h'
 ·rw[Nat.ble_eq_true_of_le h']at h;cases h
mutual
theorem AV.yc {w:World} {φ φ':al} {I:Nat->Prop} {nb:Nat} (au:∀b',b'<nb->φ' b'=φ b'):∀(x:AV) (u:Value),x.ge nb=false->AV.den w φ I x u->AV.den w φ' I x u
 | .ob b' _,u,h,hd=>by simp only[AV.ge]at h;simp only[AV.den]at hd⊢;rw[au b' (oX h)];exact hd
 | .oe b' _ _ _,u,h,hd=>by simp only[AV.ge]at h;simp only[AV.den]at hd⊢;rw[au b' (oX h)];exact hd
 | .os b' _ _ _,u,h,hd=>by simp only[AV.ge]at h;simp only[AV.den]at hd⊢;rw[au b' (oX h)];exact hd
 | .fn f fs aJ,u,h,hd=>by simp only[AV.ge,Bool.or_eq_false_iff]at h;simp only[AV.den]at hd⊢;obtain⟨us,vs,U,h2,h3⟩:=hd;exact⟨us,vs,AV.uo au fs us h.1 U,AV.uo au aJ vs h.2 h2,h3⟩
 | .agg cs,u,h,hd=>by simp only[AV.ge]at h;simp only[AV.den]at hd⊢;obtain⟨us,U,h2⟩:=hd;exact⟨us,AV.uo au cs us h U,h2⟩
 | .aM cs,u,h,hd=>by simp only[AV.ge]at h;simp only[AV.den]at hd⊢;obtain⟨us,U,h2⟩:=hd;exact⟨us,AV.uo au cs us h U,h2⟩
 | .opt g x,u,h,hd=>by simp only[AV.ge]at h;simp only[AV.den]at hd⊢;exact⟨fun hg=>AV.yc au x u h (hd.1 hg),hd.2⟩
 | .im x,u,_,hd=>by simpa only[AV.den]using hd
 | .ar x,u,_,hd=>by simpa only[AV.den]using hd
 | .top,_,_,_=>by simp only[AV.den]
 | .mp b',u,h,hd=>by simp only[AV.ge]at h;simp only[AV.den]at hd⊢;rw[au b' (oX h)];exact hd
 | .wr k x,u,h,hd=>by simp only[AV.ge]at h;simp only[AV.den]at hd⊢;obtain⟨v,U,h2⟩:=hd;exact⟨v,U,AV.yc au x v h h2⟩
theorem AV.uo {w:World} {φ φ':al} {I:Nat->Prop} {nb:Nat} (au:∀b',b'<nb->φ' b'=φ b'):∀(xs:List AV) (us:List Value),AV.iP nb xs=false->AV.ab w φ I xs us->AV.ab w φ' I xs us
 |[],us,_,h=>by simpa only[AV.ab]using h
 |x::xs,us,h,hd=>by
  simp only[AV.iP,Bool.or_eq_false_iff]at h
  simp only[AV.ab]at hd⊢
  obtain⟨u,ao,e,U,h2⟩:=hd
  exact⟨u,ao,e,AV.yc au x u h.1 U,AV.uo au xs ao h.2 h2⟩
end
def jA (nb:Nat):Env->Env
 |[]=>[]
 |(i,x)::r=>bif x.ge nb then(i,.top)::jA nb r else(i,x)::jA nb r
theorem CX {w w':World} {φ φ':al} {I I':Nat->Prop} {nb:Nat} (au:∀b',b'<nb->φ' b'=φ b') (hw:∀g,I g->w'.heap[g]?=w.heap[g]?) (hI:∀g,I g->I' g)
  (hs:∀b g n,b<nb->φ b=some (some g)->shaped w g n->shaped w' g n):∀(E:Env) (i:Nat) (x:AV),lk (jA nb E) i=some x->∃y,lk E i=some y/\∀u,AV.den w φ I y u->AV.den w' φ' I' x u
 |[],i,x,h=>by simp[jA,lk]at h
 |(j,y)::r,i,x,h=>by
  simp only[jA]at h
  cases hm:y.ge nb with
  |true=>
   rw[hm]at h
   simp only[cond_true,lk]at h⊢
   cases hb:Nat.beq j i with
   |true=>
    rw[hb]at h
    simp only[cond_true,Option.some.injEq]at h⊢
    subst h
    exact⟨y,rfl,fun u _=>by simp only[AV.den]⟩
   |false=>rw[hb]at h;exact CX au hw hI hs r i x h
  |false=>
   rw[hm]at h
   simp only[cond_false,lk]at h⊢
   cases hb:Nat.beq j i with
   |true=>
    rw[hb]at h
    simp only[cond_true,Option.some.injEq]at h⊢
    subst h
    refine⟨y,rfl,fun u hu=>?_⟩
    have U:=AV.yc (φ':=fun b=>if b<nb then φ b else none) (fun b' bK=>by simp[bK]) y u hm hu
    refine AV.jP hw hI (fun b p hb=>?_) (fun b g n hb dB=>?_) y u U
    ·by_cases ag:b<nb
     ·rw[au b ag];simpa[ag]using hb
     ·simp[ag]at hb
    ·by_cases ag:b<nb
     ·exact hs b g n ag (by simpa[ag]using hb) dB
     ·simp[ag]at hb
   |false=>rw[hb]at h;exact CX au hw hI hs r i x h
def eJ (nb:Nat) (H H':aa):Prop:=∀b,b<nb->(lk H' b).isSome=(lk H b).isSome
theorem eJ.refl (nb:Nat) (H:aa):eJ nb H H:=fun _ _=>rfl
theorem St.tH {B:Bs} {φ a8:al} {I I1:Nat->Prop} {H H1:aa} {w w1:World} {nb:Nat} (h:St B φ I H w) (hnb:B.nb<=nb) (U:St ⟨w,cP φ,I,φ,nb⟩ a8 I1 H1 w1) (kB:eJ nb H H1):
  St B a8 I1 H1 w1/\(∀b,b<nb->a8 b=φ b)/\(∀g,I g->w1.heap[g]?=w.heap[g]?)/\(∀g,I g->I1 g)/\∀b g n,b<nb->φ b=some (some g)->shaped w g n->shaped w1 g n:=by
 have au:∀b,b<nb->a8 b=φ b:=fun b hb=>by
  have d1:=U.real.bq b
  have d0:=h.real.bq b
  have hl:=kB b hb
  cases e8:lk H1 b with
  |none=>
   rw[e8]at hl d1
   cases hp:a8 b with
   |some _=>rw[hp]at d1;cases d1
   |none=>
    rw[<-hl]at d0
    cases h0:φ b with
    |some _=>rw[h0]at d0;cases d0
    |none=>rfl
  |some o=>
   rw[e8]at hl
   rw[<-hl]at d0
   cases h0:φ b with
   |none=>rw[h0]at d0;cases d0
   |some p=>exact U.cD b p o hb h0 e8
 have jZ:∀g,I g->w1.heap[g]?=w.heap[g]?:=fun g hg=>U.ext.dL g (h.real.bO g hg) (fun⟨b,hb⟩=>(h.real.off b g hb).1 hg)
 refine⟨⟨U.real,h.ext.trans U.ext (fun g ⟨b,hb⟩=>h.bU b g hb),fun b g hb=>?_,fun g hg=>?_,fun g hg=>U.cj g (h.cj g hg),fun b p o hb h0 hl=>?_⟩,au,jZ,U.cj,fun b g n hb hp dB=>?_⟩
 ·rcases U.bU b g hb with⟨b',bK⟩|h2
  ·exact h.bU b' g bK
  ·exact .inr (Nat.le_trans h.ext.size h2)
 ·rcases U.c8 g hg with h2|⟨b',bK⟩|h2
  ·exact h.c8 g h2
  ·exact .inr (h.bU _ g bK)
  ·exact .inr (.inr (Nat.le_trans h.ext.size h2))
 ·have bK:b<nb:=by omega
  rw[au b bK]
  have uV:=kB b bK
  rw[hl]at uV
  cases HD:lk H b with
  |none=>rw[HD]at uV;cases uV
  |some o'=>exact h.cD b p o' hb h0 HD
 ·obtain⟨cc,ee,ig,hn⟩:=dB
  obtain⟨c',iO,h2,h3⟩:=U.ext.form g cc ee _ ig
  have eC:a8 b=some (some g):=(au b hb).trans hp
  have kq:=U.real.bq b
  rw[eC]at kq
  cases hl:lk H1 b with
  |none=>rw[hl]at kq;cases kq
  |some o=>
   have aQ:=U.real.own b o _ hl eC
   have pj:iO=(0,0):=by
    cases o with
    |var e cs=>
     simp only[Ob.at]at aQ
     obtain⟨g',us,cm,h4,_⟩:=aQ
     cases cm
     exact h4.fz h2
    |vec e es rows=>
     simp only[Ob.at]at aQ
     rcases aQ with⟨h5,_⟩|⟨g',ae,rest,cm,h4,_⟩
     ·cases h5
     ·cases cm;rw[h2]at h4;cases h4;rfl
    |lp l n st fn q ps E=>
     simp only[Ob.at]at aQ
     obtain⟨h0,T,D,b_,_,h4,_⟩:=aQ
     cases h0;rw[h2]at h4;cases h4
   subst pj
   exact⟨c',ee,h2,by rw[h3];exact hn⟩
theorem bn.tH {C:Cx} {φ a8:al} {I I1:Nat->Prop} {E:Env} {H H1:aa} {a:Act} {w w1:World} {nb:Nat} (h:bn C φ I E H a w) (hnb:C.B.nb<=nb) (U:St ⟨w,cP φ,I,φ,nb⟩ a8 I1 H1 w1) (kB:eJ nb H H1):
  bn C a8 I1 (jA nb E) H1 a w1:=by
 obtain⟨hS,au,jZ,hI,dB⟩:=h.st.tH hnb U kB
 refine⟨h.bD.mono jZ hI,h.bE,fun i x hx=>?_,hS⟩
 obtain⟨y,hy,fg⟩:=CX au jZ hI dB E i x hx
 obtain⟨u,hu,hd⟩:=h.env i y hy
 exact⟨u,hu,fg u hd⟩
section
variable {C:Cx} {K:List PK} {E:Env} {H:aa}
theorem AQ.Fl (nb:Nat) {ds:List (Nat×Nat)} {i:Nat} {d:Option Nat} {ty:TypeId} {pos:String} {af:Array Edge} {os:List Oper} {bk:Operand} {f:FuncId} {fs aJ:List AV} {xs:List Operand} {aV:Array TypeId} {l:List AV} {R:AV->aa->Prop}
  (hnb:Nat.ble C.B.nb nb=true)
  (ai:bl C.n ({dst:=d,op:= .call {callee:= .value bk,args:=xs.toArray,argTypes:=aV},type:=ty,pos:=pos,after:=af,guard:=none}::os)=true)
  (eY:ev E bk=some (.fn f fs aJ)) (hl:dI E xs=some l) (du:gs l=true) (hc:iJ C.P nb f (fs++l.map AV.st++aJ) H R) (kB:∀r H',R r H'->eJ nb H H')
  (bB:∀r H',R r H'->AQ C (aZ d i ds) (i+1) os K (a6 d r (jA nb E)) H'):
  AQ C ds i ({dst:=d,op:= .call {callee:= .value bk,args:=xs.toArray,argTypes:=aV},type:=ty,pos:=pos,after:=af,guard:=none}::os) K E H:=by
 obtain⟨hd,ca⟩:=ef ai
 unfold AQ at bB⊢
 refine AO.step (o:={dst:=d,op:= .call {callee:= .value bk,args:=xs.toArray,argTypes:=aV},type:=ty,pos:=pos,after:=af,guard:=none}) fun ops φ I a w aT _ hs Kn bI=>?_
 have hw:Region.wanted {dst:=d,op:= .call {callee:= .value bk,args:=xs.toArray,argTypes:=aV},type:=ty,pos:=pos,after:=af,guard:=none} (yielded ops a.tmps)=true:=by simp[Region.wanted]
 rw[if_pos hw]
 have gj:=aS hs.env eY
 simp only[AV.den]at gj
 obtain⟨dS,us,k_,gp,lX⟩:=gj
 have a_:AV.ab w φ I (fs++l.map AV.st++aJ) (dS++xs.map a.eval++us):=AQ.lP.kW _ _ _ _ (AQ.lP.kW _ _ _ _ k_ (k5 hs.env _ _ hl du)) gp
 have aE:(execOp a.eval {dst:=d,op:= .call {callee:= .value bk,args:=xs.toArray,argTypes:=aV},type:=ty,pos:=pos,after:=af,guard:=none}).run C.P w= .ok (.enter f (dS++xs.map a.eval++us).toArray) w:=by
  have:execOp a.eval {dst:=d,op:= .call {callee:= .value bk,args:=xs.toArray,argTypes:=aV},type:=ty,pos:=pos,after:=af,guard:=none}=(do let d<-Deferred.ofValue (a.eval bk) (xs.toArray.map a.eval);invoke d.target d.args):=rfl
  rw[this,lX,zz (t:=ty) hc.gh]
  simp
 unfold Oper.wp
 rw[aE,Oper.upon_enter]
 refine(hc.run w φ I _ a_ hs.st.real hs.st.vk).mono fun e w' ⟨r,H1,a8,I1,v,hr,he,bR,hS⟩=>?_
 subst he
 have iu:=hs.tH (Nat.le_of_ble_eq_true hnb) hS (kB r H1 hr)
 exact bI _ _ a8 I1 _ _ (bB r H1 hr) (iu.put iu.st (bt.refl _ _ _) hd bR)
abbrev Yl (l:Nat):AV:= .im (.v (.func (.yield l) #[] #[]))
theorem AQ.wU (nb:Nat) {ds:List (Nat×Nat)} {i:Nat} {d:Option Nat} {ty:TypeId} {pos:String} {af:Array Edge} {os:List Oper} {bk:Operand} {l0:Nat} {xs:List Operand} {aV:Array TypeId} {l:List AV} {R:AV->aa->Prop}
  (hnb:Nat.ble C.B.nb nb=true)
  (ai:bl C.n ({dst:=d,op:= .call {callee:= .value bk,args:=xs.toArray,argTypes:=aV},type:=ty,pos:=pos,after:=af,guard:=none}::os)=true)
  {cv:AV} (eY:ev E bk=some cv) (gj:cv.g=true/\cv.st=Yl l0) (hl:dI E xs=some l) (du:gs l=true) (hc:f_ C.P nb l0 (l.map AV.st) H R) (kB:∀r H',R r H'->eJ nb H H')
  (bB:∀r H',R r H'->AQ C (aZ d i ds) (i+1) os K (a6 d r (jA nb E)) H'):
  AQ C ds i ({dst:=d,op:= .call {callee:= .value bk,args:=xs.toArray,argTypes:=aV},type:=ty,pos:=pos,after:=af,guard:=none}::os) K E H:=by
 obtain⟨hd,ca⟩:=ef ai
 unfold AQ at bB⊢
 refine AO.Tz (o:={dst:=d,op:= .call {callee:= .value bk,args:=xs.toArray,argTypes:=aV},type:=ty,pos:=pos,after:=af,guard:=none}) fun ops φ I a w aT _ hs Kn bI=>?_
 have hw:Region.wanted {dst:=d,op:= .call {callee:= .value bk,args:=xs.toArray,argTypes:=aV},type:=ty,pos:=pos,after:=af,guard:=none} (yielded ops a.tmps)=true:=by simp[Region.wanted]
 rw[if_pos hw]
 have BM:=bX (aS hs.env eY) gj.1
 rw[gj.2]at BM
 simp only[AV.den,IV.den]at BM
 obtain⟨lX,_⟩:=BM
 have a_:=k5 hs.env _ _ hl du
 obtain⟨b_,T,as,bd,hy,ve⟩:=hc.run w φ I _ a_ hs.st.real hs.st.vk
 refine .inr ⟨l0,b_,T,as,bd,?_,ve.mono fun e w' ⟨r,H1,a8,I1,v,hr,he,bR,hS⟩=>?_⟩
 ·have:execOp a.eval {dst:=d,op:= .call {callee:= .value bk,args:=xs.toArray,argTypes:=aV},type:=ty,pos:=pos,after:=af,guard:=none}=(do let d<-Deferred.ofValue (a.eval bk) (xs.toArray.map a.eval);invoke d.target d.args):=rfl
  rw[this,lX]
  simp only[Deferred.ofValue,Sem.run_bind,Sem.run_pure,Result.andThen_ok,invoke]
  rw[<-hy]
  simp
 ·subst he
  have iu:=hs.tH (Nat.le_of_ble_eq_true hnb) hS (kB r H1 hr)
  exact bI _ _ a8 I1 _ _ (bB r H1 hr) (iu.put iu.st (bt.refl _ _ _) hd bR)
end
theorem iJ.walk {P:Program} {f:FuncId} {fn:Func} {c:Code} {n nb:Nat} {args:List AV} {H:aa} {R:AV->aa->Prop} (kp ob:List Nat) (hf:P.funcs[f]?=some fn) (hb:fn.body=some c) (hn:fn.ntmps=n)
  (jm:enters P f=true) (cS:Nat.ble args.length n=true)
  (h:∀(w:World) (own I0:Nat->Prop) (aq:al) (lay:Lay P ⟨w,own,I0,aq,nb⟩),AP ⟨P,fn,n,⟨w,own,I0,aq,nb⟩,kp,ob,R,none,fun _ _=>False,[],lay⟩ [] [] (enum 0 args) H):iJ P nb f args H R:=by
 refine⟨jm,fun w φ I vs hd hR hV=>?_⟩
 have hl:=hY args vs hd
 have lV:=Nat.le_of_ble_eq_true cS
 have h0:=h w (cP φ) I φ (hR.lay hV _)
 unfold AP at h0
 simp only[bS,hb,Option.getD_some]at h0
 refine Calls.mono ?_ fun e w' he=>jd.only (C:=⟨P,fn,n,⟨w,cP φ,I,φ,nb⟩,kp,ob,R,none,fun _ _=>False,[],hR.lay hV _⟩) (fun _ _ h=>h) he
 refine Aw (C:=⟨P,fn,n,⟨w,cP φ,I,φ,nb⟩,kp,ob,R,none,fun _ _=>False,[],hR.lay hV _⟩) hf hb rfl (h0 φ I _ w ⟨Marks.nil,?_,fun i x hx=>?_,pY hR _⟩)
 ·simp only[Array.size_append,List.size_toArray,Array.size_replicate,hn];omega
 ·obtain⟨j,rfl,hj⟩:=qt args 0 i x hx
  obtain⟨u,hu,dc⟩:=hU args vs j x hd hj
  refine⟨u,?_,dc⟩
  have ag:j<vs.length:=by
   rcases Nat.lt_or_ge j vs.length with h|h
   ·exact h
   ·rw[List.getElem?_eq_none h]at hu;cases hu
  rw[Nat.zero_add,Array.getElem?_append_left (by simpa using ag)]
  simpa using hu
attribute [go_sem] AV.ge AV.iP jA
section
variable {w:World} {φ:al} {I:Nat->Prop} {l:Nat} {r:Loop} {o':Obj}
theorem Th (hl:w.heap[l]?=some (.loop r)) (g n:Nat) (h:shaped w g n):shaped (w.putObj l o') g n:=by
 obtain⟨c,e,hc,hn⟩:=h
 have hg:g≠l:=fun h=>by subst h;rw[hl]at hc;cases hc
 exact⟨c,e,(World.putObj_heap_other hg).trans hc,hn⟩
theorem y9 (hl:w.heap[l]?=some (.loop r)) (hI:¬I l):bt w φ I (w.putObj l o') φ I:=
 ⟨fun g hg=>World.putObj_heap_other (fun e=>hI (e▸hg)),fun _ h=>h,fun _ _ h=>h,fun _ g n _=>Th hl g n⟩
theorem Gp {own:Nat->Prop} (hl:w.heap[l]?=some (.loop r)) (ho:own l):Ext own w (w.putObj l o'):=
 ⟨by simp,fun g _ hn=>World.putObj_heap_other (fun e=>hn (e▸ho)),fun g c e fz hc=>⟨c,fz,(World.putObj_heap_other (fun e=>by subst e;rw[hl]at hc;cases hc)).trans hc,rfl⟩,rfl,rfl,rfl⟩
theorem St.Kf {B:Bs} {H H':aa} (h:St B φ I H w) {b:Nat} (hb:φ b=some (some l)) (hl:w.heap[l]?=some (.loop r)) {ob:Ob} (fC:lk H' b=some ob) (aQ:ob.at (w.putObj l o') φ I (some l))
  (kA:∀b',b'≠b->lk H' b'=lk H b'):St B φ I H' (w.putObj l o')/\bt w φ I (w.putObj l o') φ I:=by
 have hI:¬I l:=(h.real.off b l hb).1
 have k:bt w φ I (w.putObj l o') φ I:=y9 hl hI
 have Hl:∃o,lk H b=some o:=by
  have:=h.real.bq b
  rw[hb]at this
  cases hq:lk H b with
  |none=>rw[hq]at this;cases this
  |some o=>exact⟨o,rfl⟩
 refine⟨⟨⟨fun b'=>?_,fun b' o p aD hp=>?_,fun b' g hp=>?_,h.real.inj,fun g hg=>?_⟩,h.ext.trans (Gp (own:=fun g=>g=l) hl rfl) (fun g hg=>by subst hg;exact h.bU b _ hb),h.bU,h.c8,h.cj,fun b' p o ag h0 aD=>?_⟩,k⟩
 ·by_cases ak:b'=b
  ·subst ak;rw[fC,hb];rfl
  ·rw[kA b' ak];exact h.real.bq b'
 ·by_cases ak:b'=b
  ·subst ak
   rw[fC]at aD;cases aD
   rw[hb]at hp;cases hp
   exact aQ
  ·rw[kA b' ak]at aD
   exact Ob.jM k.im k.I k.phi k.sh (fun g hg=>World.putObj_heap_other (fun e=>by subst e;subst hg;exact ak (h.real.inj b' b g hp hb))) (h.real.own b' o p aD hp)
 ·have:=h.real.off b' g hp
  exact⟨this.1,by simpa using this.2⟩
 ·have:=h.real.bO g hg
  simpa using this
 ·by_cases ak:b'=b
  ·subst ak
   obtain⟨o1,mP⟩:=Hl
   exact h.cD b' p o1 ag h0 mP
  ·rw[kA b' ak]at aD;exact h.cD b' p o ag h0 aD
end
def nw:List Tmp->List AV->Env->Env
 |t::ts,x::xs,E=>nw ts xs ((t,x)::E)
 |_,_,E=>E
theorem L6 {w:World} {φ:al} {I:Nat->Prop}:∀(ps:List Tmp) (args:List AV) (vs:List Value) (E:Env) (T:Array Value),AV.ab w φ I args vs->ps.length=args.length->(∀t∈ps,t<T.size)->
  (∀i x,lk E i=some x->∃u,T[i]?=some u/\AV.den w φ I x u)->
  ((ps.zip vs).foldl (fun tmps (p:Tmp×Value)=>tmps.setIfInBounds p.1 p.2) T).size=T.size/\
  ∀i x,lk (nw ps args E) i=some x->∃u,((ps.zip vs).foldl (fun tmps (p:Tmp×Value)=>tmps.setIfInBounds p.1 p.2) T)[i]?=some u/\AV.den w φ I x u
 |[],[],vs,E,T,h,_,_,hE=>by simp only[AV.ab]at h;subst h;exact⟨rfl,hE⟩
 |[],_::_,_,_,_,_,h,_,_=>by simp at h
 |_::_,[],_,_,_,_,h,_,_=>by simp at h
 |t::ts,x::xs,vs,E,T,h,hlen,ag,hE=>by
  simp only[AV.ab]at h
  obtain⟨u,us,rfl,U,h2⟩:=h
  simp only[List.zip_cons_cons,List.foldl_cons,nw]
  have:=L6 ts xs us ((t,x)::E) (T.setIfInBounds t u) h2 (by simpa using hlen) (fun t' pv=>by simpa using ag t' (by simp[pv])) (fun i y hy=>by
   simp only[lk]at hy
   cases hb:Nat.beq t i with
   |true=>
    rw[hb]at hy
    have:=Nat.eq_of_beq_eq_true hb
    subst this
    simp only[cond_true,Option.some.injEq]at hy
    subst hy
    exact⟨u,by rw[Array.getElem?_setIfInBounds_self_of_lt (ag t (by simp))],U⟩
   |false=>
    rw[hb]at hy
    have aR:t≠i:=fun e=>by subst e;simp at hb
    obtain⟨v,hv,hd⟩:=hE i y hy
    exact⟨v,by rw[Array.getElem?_setIfInBounds_ne aR];exact hv,hd⟩)
  refine⟨?_,this.2⟩
  rw[this.1];simp
theorem Og (ps:List Tmp) (vs:List Value) (T:Array Value):
  (ps.toArray.zip vs.toArray).foldl (fun tmps (t,a)=>tmps.setIfInBounds t a) T=(ps.zip vs).foldl (fun tmps (p:Tmp×Value)=>tmps.setIfInBounds p.1 p.2) T:=by
 simp
def Ao (C:Cx) (l:Nat) (p:List Nat):Exit->Act->World->Prop:=
 Exit.then (fun jN kb=>∃Af,(Instr.beginRound l).run C.P kb= .ok () Af/\lH (some l) C.P (bS C.fn (1::p)) (roundPost C.P l (kU C.B C.R)) jN Af) (fun _ _ _=>False)
def uf (C:Cx) (l:Nat):Exit->Act->World->Prop:=roundPost C.P l (kU C.B C.R)
section
variable {C:Cx} {K:List PK} {E:Env} {H:aa}
theorem AE.begin {l b n:Nat} {fn:Func} {p:List Nat} {ps:List Tmp} {EL:Env} (fD:C.rd=some l) (hl:lk H b=some (.lp l n .ready fn p ps EL)) (q:List Nat)
  (h:AP C (1::q) [.bot (uf C l)] E (bG H b (.lp l n .busy fn p ps EL))):AE C .normal [.bot (Ao C l q)] E H:=by
 unfold AE
 unfold AP at h
 intro φ I a w hs
 simp only[List.map_cons,List.map_nil,PK.ki,dz,Ao,Exit.then]
 have hd:=hs.st.real.bq b
 rw[hl]at hd
 cases hp:φ b with
 |none=>rw[hp]at hd;cases hd
 |some p0=>
  have aQ:=hs.st.real.own b _ p0 hl hp
  simp only[Ob.at]at aQ
  obtain⟨rfl,T,D,b_,U,h2,h3⟩:=aQ
  refine⟨_,run_beginRound h2 rfl,?_⟩
  obtain⟨hS,k⟩:=hs.st.Kf (o':= .loop {state:=gA.busy.state,pending:=gA.busy.ra,fn:=b_,tmps:=T,params:=ps.toArray,assign:=child 0 (bS fn p),body:=child 1 (bS fn p),defers:=D}) (H':=bG H b (.lp l n .busy fn p ps EL)) hp h2 (iA H b _ hl) (by
   simp only[Ob.at]
   refine⟨trivial,T,D,b_,U,World.putObj_heap_same (Array.getElem?_eq_some_iff.1 h2).1,fun i x hx=>?_⟩
   obtain⟨u,hu,hd⟩:=h3 i x hx
   exact⟨u,hu,(y9 (φ:=φ) h2 (hs.st.real.off b l hp).1).den hd⟩) (fun b' bK=>e_ H b b' _ bK)
  have h4:=h φ I a _ ⟨hs.bD.mono k.im k.I,hs.bE,fun i x hx=>let⟨u,hu,hd⟩:=hs.env i x hx;⟨u,hu,k.den hd⟩,hS⟩
  rw[fD]at h4
  exact h4
theorem Kp {l b n:Nat} {fn:Func} {p:List Nat} {ps:List Tmp} {EL:Env} {φ:al} {I:Nat->Prop} {a:Act} {w:World} (hs:bn C φ I E H a w) (jump:Option Code) (st:gA)
  (bx:st.state=(if jump.isNone then .ready else .done)) (HP:st.ra=jump) (hl:lk H b=some (.lp l n .busy fn p ps EL)) (hR:C.R (.im (.v (.bool jump.isNone))) (bG H b (.lp l n st fn p ps EL))):
  ∃v w',(Instr.endRound l jump).run C.P w= .ok v w'/\kU C.B C.R (.returned v) w':=by
 have hd:=hs.st.real.bq b
 rw[hl]at hd
 cases hp:φ b with
 |none=>rw[hp]at hd;cases hd
 |some p0=>
  have aQ:=hs.st.real.own b _ p0 hl hp
  simp only[Ob.at]at aQ
  obtain⟨rfl,T,D,b_,U,h2,h3⟩:=aQ
  refine⟨_,_,run_endRound jump h2,?_⟩
  obtain⟨hS,k⟩:=hs.st.Kf (o':= .loop {state:=st.state,pending:=st.ra,fn:=b_,tmps:=T,params:=ps.toArray,assign:=child 0 (bS fn p),body:=child 1 (bS fn p),defers:=D}) (H':=bG H b (.lp l n st fn p ps EL)) hp h2 (iA H b _ hl) (by
   simp only[Ob.at]
   refine⟨trivial,T,D,b_,U,World.putObj_heap_same (Array.getElem?_eq_some_iff.1 h2).1,fun i x hx=>?_⟩
   obtain⟨u,hu,hd⟩:=h3 i x hx
   exact⟨u,hu,(y9 (φ:=φ) h2 (hs.st.real.off b l hp).1).den hd⟩) (fun b' bK=>e_ H b b' _ bK)
  rw[<-bx,<-HP]
  rw[HP]at hS⊢
  refine⟨_,_,φ,I,_,hR,rfl,by simp only[AV.den,IV.den];exact⟨trivial,rfl⟩,?_⟩
  exact hS
theorem AE.td {l b n:Nat} {fn:Func} {p:List Nat} {ps:List Tmp} {EL:Env} (hl:lk H b=some (.lp l n .busy fn p ps EL)) (hR:C.R (.im (.v (.bool true))) (bG H b (.lp l n .ready fn p ps EL))):
  AE C .normal [.bot (uf C l)] E H:=by
 unfold AE
 intro φ I a w hs
 simp only[List.map_cons,List.map_nil,PK.ki,dz,uf,roundPost]
 exact Kp hs none .ready rfl rfl hl hR
theorem AE.Ko {l b n:Nat} {fn:Func} {p:List Nat} {ps:List Tmp} {EL:Env} (hl:lk H b=some (.lp l n .busy fn p ps EL)) (hR:C.R (.im (.v (.bool false))) (bG H b (.lp l n (.done .ret) fn p ps EL))):
  AE C .ret [.bot (uf C l)] E H:=by
 unfold AE
 intro φ I a w hs
 simp only[List.map_cons,List.map_nil,PK.ki,dz,uf,roundPost]
 exact Kp hs (some .ret) (.done .ret) rfl rfl hl hR
end
theorem f_.walk {P:Program} {fn:Func} {n nb l b:Nat} {p:List Nat} {ps:List Tmp} {EL:Env} {args:List AV} {H:aa} {R:AV->aa->Prop} (kp ob:List Nat)
  (hl:lk H b=some (.lp l n .ready fn p ps EL)) (Qb:Nat.beq ps.length args.length=true) (ag:(ps.all fun t=>Nat.blt t n)=true)
  (h:∀(w:World) (own I0:Nat->Prop) (aq:al) (lay:Lay P ⟨w,own,I0,aq,nb⟩),AP ⟨P,fn,n,⟨w,own,I0,aq,nb⟩,kp,ob,R,some l,fun _ _=>False,[],lay⟩ (0::p) [.bot (Ao ⟨P,fn,n,⟨w,own,I0,aq,nb⟩,kp,ob,R,some l,fun _ _=>False,[],lay⟩ l p)] (nw ps args EL) H):f_ P nb l args H R:=by
 refine⟨fun w φ I vs hd hR hV=>?_⟩
 have BR:=hR.bq b
 rw[hl]at BR
 cases hp:φ b with
 |none=>rw[hp]at BR;cases BR
 |some p0=>
  have aQ:=hR.own b _ p0 hl hp
  simp only[Ob.at]at aQ
  obtain⟨rfl,T,D,b_,U,h2,h3⟩:=aQ
  have fo:=hY args vs hd
  have j5:=Nat.eq_of_beq_eq_true Qb
  refine⟨b_,_,_,_,run_yield h2 (by simp[fo,j5]),?_⟩
  have h0:=h w (cP φ) I φ (hR.lay hV _)
  unfold AP at h0
  have hz:=L6 ps args vs EL T hd j5 (fun t ht=>by
   have:=List.all_eq_true.1 ag t ht
   rw[Nat.blt_eq]at this
   rw[U];exact this) h3
  have h4:=h0 φ I {tmps:=(ps.zip vs).foldl (fun tmps (p:Tmp×Value)=>tmps.setIfInBounds p.1 p.2) T,defers:=[]} w ⟨Marks.nil,by rw[hz.1];exact U,hz.2,pY hR _⟩
  have hF:∀(c:Code) (Q:Exit->Act->World->Prop) (a:Act) (w:World),lH (some l) P c Q a w->c.wpIn (Fence.wide.inRound l) 3 P Q a w:=fun _ _ _ _ h=>h
  refine roundIn_of_wpIn (F:=Fence.wide) (n:=3) trivial (hF _ _ _ _ ?_)
  rw[Og]
  exact h4
end Go.AL
end
