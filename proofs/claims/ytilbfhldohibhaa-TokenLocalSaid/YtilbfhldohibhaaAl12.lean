import Derived.Test.YtilbfhldohibhaaAl11
set_option linter.unusedSimpArgs false
set_option linter.unusedVariables false
set_option linter.unnecessarySimpa false
namespace Go.AL
open Go

/-! ## Code by its place in the function: so that goals stay small -/
def child : Nat → Code → Code
  | 0, .seq a _ => a
  | 1, .seq _ b => b
  | 0, .cond _ a _ => a
  | 1, .cond _ _ b => b
  | 0, .block _ c => c
  | 0, .loop c => c
  | 0, .scope c => c
  | _, _ => .skip

def codeAt (fn : Func) : List Nat → Code
  | [] => fn.body.getD .skip
  | i :: p => child i (codeAt fn p)

inductive PK where
  | seq (p : List Nat)
  | blk (id : Nat)
  | lp (J : Act → World → Prop)
  | sc

def PK.ki (fn : Func) : PK → KI
  | .seq p => .seq (codeAt fn p)
  | .blk id => .blk id
  | .lp J => .lp J
  | .sc => .sc

def AP (C : Cx) (p : List Nat) (K : List PK) (E : Env) (H : Heap) : Prop := AR C (codeAt C.fn p) (K.map (PK.ki C.fn)) E H
def AE (C : Cx) (e : Exit) (K : List PK) (E : Env) (H : Heap) : Prop := AX C e (K.map (PK.ki C.fn)) E H
def AQ (C : Cx) (ds : List (Nat × Nat)) (i : Nat) (rest : List Oper) (K : List PK) (E : Env) (H : Heap) : Prop := AO C ds i rest (K.map (PK.ki C.fn)) E H

def vq (C : Cx) (K : List PK) : List Oper → List (Nat × Nat) → Nat → Env → Heap → Prop
  | [], ds, i, E, H => AQ C ds i [] K E H
  | o :: os, ds, i, E, H => match gd ds E o.guard with
    | none => AQ C ds i (o :: os) K E H
    | some G => match aval C.P E H o.op with
      | some (sc, v) => (G = true → sc) ∧ vq C K os (dsPut o.dst i ds) (i + 1) (putE o.dst (wrap o.guard G v) E) H
      | none => match o.guard with
        | some _ => AQ C ds i (o :: os) K E H
        | none => match aeff C.P C.B.nb C.ob E H o with
          | some (sc, v, H') => sc ∧ vq C K os (dsPut o.dst i ds) (i + 1) (putE o.dst v E) H'
          | none => AQ C ds i (o :: os) K E H

theorem vq_eq (C : Cx) (K : List PK) : ∀ (rest : List Oper) (ds : List (Nat × Nat)) (i : Nat) (E : Env) (H : Heap), vq C K rest ds i E H → vc C.P C.B.nb C.ob (fun rest ds i E H => AO C ds i rest (K.map (PK.ki C.fn)) E H) rest ds i E H
  | [], ds, i, E, H, h => h
  | o :: os, ds, i, E, H, h => by
    simp only [vq] at h
    simp only [vc]
    cases hG : gd ds E o.guard with
    | none => simp only [hG] at h ⊢; exact h
    | some G =>
      simp only [hG] at h ⊢
      cases hv : aval C.P E H o.op with
      | some q =>
        obtain ⟨sc, v⟩ := q
        simp only [hv] at h ⊢
        exact ⟨h.1, vq_eq C K os _ _ _ _ h.2⟩
      | none =>
        simp only [hv] at h ⊢
        cases hg : o.guard with
        | some q => simp only [hg] at h ⊢; exact h
        | none =>
          simp only [hg] at h ⊢
          cases he : aeff C.P C.B.nb C.ob E H o with
          | some q =>
            obtain ⟨sc, v, H'⟩ := q
            simp only [he] at h ⊢
            exact ⟨h.1, vq_eq C K os _ _ _ _ h.2⟩
          | none => simp only [he] at h ⊢; exact h

section
variable {C : Cx} {K : List PK} {E : Env} {H : Heap} {p : List Nat}

theorem AP.seq {a b : Code} (hc : codeAt C.fn p = .seq a b) (h : AP C (0 :: p) (.seq (1 :: p) :: K) E H) : AP C p K E H := by
  unfold AP at h ⊢
  simp only [codeAt, hc, child, List.map_cons, PK.ki] at h ⊢
  exact AR.seq h
theorem AP.block {id : Nat} {a : Code} (hc : codeAt C.fn p = .block id a) (h : AP C (0 :: p) (.blk id :: K) E H) : AP C p K E H := by
  unfold AP at h ⊢
  simp only [codeAt, hc, child, List.map_cons, PK.ki] at h ⊢
  exact AR.block h
theorem AP.scope {a : Code} (hc : codeAt C.fn p = .scope a) (h : AP C (0 :: p) (.sc :: K) E H) : AP C p K E H := by
  unfold AP at h ⊢
  simp only [codeAt, hc, child, List.map_cons, PK.ki] at h ⊢
  exact AR.scope h
theorem AP.skip (hc : codeAt C.fn p = .skip) (h : AE C .normal K E H) : AP C p K E H := by
  unfold AP; rw [hc]; exact AR.skip h
theorem AP.ret (hc : codeAt C.fn p = .ret) (h : AE C .ret K E H) : AP C p K E H := by
  unfold AP; rw [hc]; exact AR.ret h
theorem AP.exit {id : Nat} (hc : codeAt C.fn p = .exit id) (h : AE C (.exit id) K E H) : AP C p K E H := by
  unfold AP; rw [hc]; exact AR.exit h
theorem AP.label {id : Nat} (hc : codeAt C.fn p = .label id) (h : AE C .normal K E H) : AP C p K E H := by
  unfold AP; rw [hc]; exact AR.label h
theorem AP.region {id : Nat} {ops : List Oper} (hc : codeAt C.fn p = .region id ops.toArray false) (hok : dstOk C.n ops = true) (h : vq C K ops [] 0 E H) : AP C p K E H := by
  unfold AP; rw [hc]
  exact AR.region hok (by simpa using vq_eq C K ops [] 0 E H h)
theorem AP.cond {t : Tmp} {x y : Code} {b : Bool} (hc : codeAt C.fn p = .cond (.tmp t) x y) (hb : lk E t = some (.im (.v (.bool b)))) (ht : b = true → AP C (0 :: p) K E H) (hf : b = false → AP C (1 :: p) K E H) : AP C p K E H := by
  unfold AP at ht hf ⊢
  simp only [codeAt, hc, child] at ht hf ⊢
  exact AR.cond rfl hb ht hf
theorem AP.cond_true {t : Tmp} {x y : Code} (hc : codeAt C.fn p = .cond (.tmp t) x y) (hb : lk E t = some (.im (.v (.bool true)))) (ht : AP C (0 :: p) K E H) : AP C p K E H :=
  AP.cond hc hb (fun _ => ht) (fun h => by cases h)
theorem AP.cond_false {t : Tmp} {x y : Code} (hc : codeAt C.fn p = .cond (.tmp t) x y) (hb : lk E t = some (.im (.v (.bool false)))) (hf : AP C (1 :: p) K E H) : AP C p K E H :=
  AP.cond hc hb (fun h => by cases h) (fun _ => hf)
theorem AP.loop {α : Type} {c : Code} (hc : codeAt C.fn p = .loop c) (LE : α → Env) (LH : α → Heap) (ok : α → Prop) (μ : α → Nat) (p0 : α) (h0 : ok p0) (hE : Sub E (LE p0)) (hH : H = LH p0)
    (round : ∀ q, ok q → AP C (0 :: p) (.lp (LInv C LE LH ok μ (μ q)) :: K) (LE q) (LH q)) : AP C p K E H := by
  unfold AP at round ⊢
  simp only [codeAt, hc, child, List.map_cons, PK.ki] at round ⊢
  exact AR.loop LE LH ok μ p0 h0 hE hH round

theorem AE.seq {q : List Nat} (h : AP C q K E H) : AE C .normal (.seq q :: K) E H := h
theorem AE.seq_exit {q : List Nat} {id : Nat} (h : AE C (.exit id) K E H) : AE C (.exit id) (.seq q :: K) E H := h
theorem AE.seq_ret {q : List Nat} (h : AE C .ret K E H) : AE C .ret (.seq q :: K) E H := h
theorem AE.blk {id : Nat} (h : AE C .normal K E H) : AE C .normal (.blk id :: K) E H := h
theorem AE.blk_exit {id : Nat} (h : AE C .normal K E H) : AE C (.exit id) (.blk id :: K) E H := AX.blk_exit h
theorem AE.blk_exit_ne {id id' : Nat} (hne : (id' == id) = false) (h : AE C (.exit id') K E H) : AE C (.exit id') (.blk id :: K) E H := AX.blk_exit_ne hne h
theorem AE.blk_ret {id : Nat} (h : AE C .ret K E H) : AE C .ret (.blk id :: K) E H := h
theorem AE.sc (h : AE C .normal K E H) : AE C .normal (.sc :: K) E H := h
theorem AE.sc_exit {id : Nat} (h : AE C (.exit id) K E H) : AE C (.exit id) (.sc :: K) E H := h
theorem AE.sc_ret (h : AE C .ret K E H) : AE C .ret (.sc :: K) E H := h
theorem AE.lp_exit {J : Act → World → Prop} {id : Nat} (h : AE C (.exit id) K E H) : AE C (.exit id) (.lp J :: K) E H := h
theorem AE.lp_ret {J : Act → World → Prop} (h : AE C .ret K E H) : AE C .ret (.lp J :: K) E H := h
theorem AE.round {α : Type} {LE : α → Env} {LH : α → Heap} {ok : α → Prop} {μ : α → Nat} {m : Nat} (q : α) (hok : ok q) (hμ : μ q < m) (hE : Sub E (LE q)) (hH : H = LH q) :
    AE C .normal (.lp (LInv C LE LH ok μ m) :: K) E H := AX.round q hok hμ hE hH
theorem AE.ret {sc : Prop} {xs : List AV} (h : resAV C.P E H C.fn.results.toList = some (sc, xs)) (hsc : sc) (hR : C.R (tupOf xs) H) : AE C .ret [] E H := AX.ret h hsc hR
theorem AE.fall {sc : Prop} {xs : List AV} (h : resAV C.P E H C.fn.results.toList = some (sc, xs)) (hsc : sc) (hR : C.R (tupOf xs) H) : AE C .normal [] E H := AX.fall h hsc hR

theorem AQ.done {ds : List (Nat × Nat)} {i : Nat} (h : AE C .normal K (keepE C.kp E) H) : AQ C ds i [] K E H := AO.done h
theorem AQ.go {ds : List (Nat × Nat)} {i : Nat} {rest : List Oper} (hok : dstOk C.n rest = true) (h : vq C K rest ds i E H) : AQ C ds i rest K E H := vc_sound rest ds i E H hok (vq_eq C K rest ds i E H h)
theorem AQ.guard_yes {ds : List (Nat × Nat)} {i : Nat} {o : Oper} {os : List Oper} (hG : gd ds E o.guard = some true) (h : AQ C ds i ({ o with guard := none } :: os) K E H) : AQ C ds i (o :: os) K E H := AO.guard_yes hG h
theorem AQ.guard_no {ds : List (Nat × Nat)} {i : Nat} {o : Oper} {os : List Oper} (hok : ∀ x, o.dst = some x → x < C.n) (hG : gd ds E o.guard = some false) (h : AQ C (dsPut o.dst i ds) (i + 1) os K (putE o.dst (.opt false .top) E) H) : AQ C ds i (o :: os) K E H := AO.guard_no hok hG h

theorem AQ.call {ds : List (Nat × Nat)} {i : Nat} {d : Option Nat} {ty : TypeId} {pos : String} {af : Array Edge} {os : List Oper} {f : FuncId} {xs : List Operand} {ats : Array TypeId} {l : List AV} {R : AV → Heap → Prop}
    (hok : dstOk C.n ({ dst := d, op := .call { callee := .value (.func f), args := xs.toArray, argTypes := ats }, type := ty, pos := pos, after := af, guard := none } :: os) = true)
    (hl : evs E xs = some l) (hgs : gs l = true) (hfr : AV.frees (l.map AV.st) = true) (hc : ACall C.P f (l.map AV.st) [] R)
    (hR : ∀ r H', R r H' → H' = [] ∧ r.free = true) (h : ∀ r, R r [] → vq C K os (dsPut d i ds) (i + 1) (putE d r E) H) :
    AQ C ds i ({ dst := d, op := .call { callee := .value (.func f), args := xs.toArray, argTypes := ats }, type := ty, pos := pos, after := af, guard := none } :: os) K E H := by
  obtain ⟨hd, hok'⟩ := dstOk_cons hok
  exact AO.call rfl rfl hd (by simpa using hl) hgs hfr hc hR fun r hr => AQ.go hok' (h r hr)

theorem AQ.append {ds : List (Nat × Nat)} {i : Nat} {d : Nat} {ty : TypeId} {pos : String} {af : Array Edge} {os : List Oper} {x y : Operand} {t e : TypeId} {b n es bytes : Nat} {rows xs : List (List IV)}
    (hok : dstOk C.n ({ dst := some d, op := .call { callee := .builtin .append, args := #[x, y], argTypes := #[t, t] }, type := ty, pos := pos, after := af, guard := none } :: os) = true)
    (hx : ev E x = some (.os b (es + 1) 0 n)) (hy : ev E y = some (.im (.sl (es + 1) xs))) (hH : lk H b = some (.vec e (es + 1) rows)) (hno : noMen b H = true)
    (ht : tk C.P t = .slice e) (hes : sz C.P e = some (es + 1)) (hz : (zro C.P e).map List.length = some (es + 1)) (hby : by' C.P e = some bytes)
    (hn : n = rows.length) (hb1 : (rows.length + xs.length) * bytes ≤ 140737488355328) (hb2 : rows.length + xs.length ≤ 70368744177664)
    (h : vq C K os ((i, d) :: ds) (i + 1) ((d, .os b (es + 1) 0 (rows.length + xs.length)) :: killE b E) (hset H b (.vec e (es + 1) (rows ++ xs)))) :
    AQ C ds i ({ dst := some d, op := .call { callee := .builtin .append, args := #[x, y], argTypes := #[t, t] }, type := ty, pos := pos, after := af, guard := none } :: os) K E H := by
  obtain ⟨hd, hok'⟩ := dstOk_cons hok
  exact AO.append rfl rfl rfl (by rw [Nat.blt_eq]; exact hd d rfl) hx hy hH hno ht hes hz hby hn hb1 hb2 (AQ.go hok' h)

/-- the usual contract: nothing of the caller's is touched, the result is r -/
theorem AQ.fn {ds : List (Nat × Nat)} {i : Nat} {d : Option Nat} {ty : TypeId} {pos : String} {af : Array Edge} {os : List Oper} {f : FuncId} {xs : List Operand} {ats : Array TypeId} {l : List AV} {r : AV}
    (hok : dstOk C.n ({ dst := d, op := .call { callee := .value (.func f), args := xs.toArray, argTypes := ats }, type := ty, pos := pos, after := af, guard := none } :: os) = true)
    (hl : evs E xs = some l) (hgs : gs l = true) (hfr : AV.frees (l.map AV.st) = true) (hc : ACall C.P f (l.map AV.st) [] (fun r' H' => H' = [] ∧ r' = r)) (hr : r.free = true)
    (h : vq C K os (dsPut d i ds) (i + 1) (putE d r E) H) :
    AQ C ds i ({ dst := d, op := .call { callee := .value (.func f), args := xs.toArray, argTypes := ats }, type := ty, pos := pos, after := af, guard := none } :: os) K E H :=
  AQ.call hok hl hgs hfr hc (fun r' H' ⟨h1, h2⟩ => ⟨h1, by rw [h2]; exact hr⟩) fun r' ⟨_, h2⟩ => by rw [h2]; exact h

theorem AP.weaken {E' : Env} (h : AP C p K E' H) (hE : Sub E E') : AP C p K E H := AR.weaken h hE
theorem AE.weaken {e : Exit} {E' : Env} (h : AE C e K E' H) (hE : Sub E E') : AE C e K E H := AX.weaken h hE
end

theorem ACall.walk {P : Program} {f : FuncId} {fn : Func} {c : Code} {n nb : Nat} {args : List AV} {H : Heap} {R : AV → Heap → Prop} (kp ob : List Nat) (hf : P.funcs[f]? = some fn) (hb : fn.body = some c) (hn : fn.ntmps = n)
    (hname : enters P f = true) (hargs : Nat.ble args.length n = true) (hnb : nid H = nb)
    (h : ∀ (w : World) (own I0 : Nat → Prop) (φ0 : Phi), AP ⟨P, fn, n, ⟨w, own, I0, φ0, nb⟩, kp, ob, R⟩ [] [] (enum 0 args) H) : ACall P f args H R :=
  ACall.intro kp ob hf hb hn hname hargs hnb fun w own I0 φ0 => by
    have := h w own I0 φ0
    unfold AP at this
    simp only [codeAt, hb, Option.getD_some] at this
    exact this

def PFn (P : Program) (f : FuncId) (args : List AV) (r : AV) : Prop := ACall P f args [] (fun r' H' => H' = [] ∧ r' = r)

theorem wr {x : Int} (h : -9223372036854775808 ≤ x ∧ x ≤ 9223372036854775807) : IntKind.i64.wrap x = x := by
  simp only [IntKind.wrap, IntKind.bits, IntKind.signed]
  simp only [Bool.true_and, decide_eq_true_eq, ge_iff_le]
  split <;> omega

/-- A slot's claim compared with what is asked. -/
theorem Sub.nil (E : Env) : Sub E [] := fun i x h => by simp [lk] at h
theorem Sub.cons {E E' : Env} {i : Nat} {x : AV} (h : lk E i = some x) (h' : Sub E E') : Sub E ((i, x) :: E') := fun j y hj => by
  simp only [lk] at hj
  cases hb : Nat.beq i j with
  | true =>
    rw [hb] at hj
    have := Nat.eq_of_beq_eq_true hb
    subst this
    simp only [cond_true, Option.some.injEq] at hj
    subst hj
    exact h
  | false => rw [hb] at hj; exact h' j y hj
theorem Sub.refl (E : Env) : Sub E E := fun _ _ h => h

attribute [go_sem] vq gd bw putE dsPut wrap aval ev constAV un bi AV.g AV.st aInt aStr isShift eqC eqFs aggOf aEq aBin aUn aPick aConv aLen aIndex aIndexAddr fieldOff aFieldAddr aNil mkVal mkValI aLoad aField aExtract aSlice aMin2 aMax2 lk enum TK.agg keepE cond_true cond_false inO inL nidx nid aeff cellsOfAV imCells imOf setAt hset resAV tupOf evs gs
  killE AV.men AV.mens noMen AV.free AV.frees rowsOf fillParts placesOf aBuild setRowI
attribute [go_sem] Int.toNat_natCast pk_t pk_f gs_f gs_t cond Bool.false_or Bool.or_false Bool.true_or Bool.or_true decide_true decide_false eq_self Bool.false_and Bool.and_false true_and and_true imp_self forall_const implies_true Bool.and_true Bool.true_and Bool.not_true Bool.not_false Bool.and_self Bool.or_self
attribute [irreducible] AP AE AQ
end Go.AL
