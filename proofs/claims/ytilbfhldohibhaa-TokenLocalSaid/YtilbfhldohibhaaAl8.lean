import Derived.Test.YtilbfhldohibhaaAl7
set_option linter.unusedSimpArgs false
set_option linter.unusedVariables false
set_option linter.unnecessarySimpa false
namespace Go.AL
open Go

/-! ## A region, in the order of its text -/
def bw (want b : Bool) : Bool := bif want then b else !b

def gd (ds : List (Nat × Nat)) (E : Env) : Option (Nat × Bool) → Option Bool
  | none => some true
  | some (j, want) => match lk ds j with
    | some d => match lk E d with
      | some (.im (.v (.bool b))) => some (bw want b)
      | some (.opt g (.im (.v (.bool b)))) => some (g && bw want b)
      | _ => none
    | none => none

def putE (d : Option Nat) (v : AV) (E : Env) : Env :=
  match d with
  | some d => (d, v) :: E
  | none => E
def dsPut (d : Option Nat) (i : Nat) (ds : List (Nat × Nat)) : List (Nat × Nat) :=
  match d with
  | some d => (i, d) :: ds
  | none => ds
def wrap (g : Option (Nat × Bool)) (G : Bool) (v : AV) : AV :=
  match g with
  | none => v
  | some _ => match v with
    | .opt g' x => .opt (G && g') x
    | x => .opt G x

def vc (P : Program) (nb : Nat) (obl : List Nat) (k : List Oper → List (Nat × Nat) → Nat → Env → Heap → Prop) : List Oper → List (Nat × Nat) → Nat → Env → Heap → Prop
  | [], ds, i, E, H => k [] ds i E H
  | o :: os, ds, i, E, H => match gd ds E o.guard with
    | none => k (o :: os) ds i E H
    | some G => match aval P E H o.op with
      | some (sc, v) => (G = true → sc) ∧ vc P nb obl k os (dsPut o.dst i ds) (i + 1) (putE o.dst (wrap o.guard G v) E) H
      | none => match o.guard with
        | some _ => k (o :: os) ds i E H
        | none => match aeff P nb obl E H o with
          | some (sc, v, H') => sc ∧ vc P nb obl k os (dsPut o.dst i ds) (i + 1) (putE o.dst v E) H'
          | none => k (o :: os) ds i E H

def dstOk (n : Nat) (ops : List Oper) : Bool := ops.all fun o => match o.dst with
  | some d => Nat.blt d n
  | none => true

/-- From here on the walk of the rest of a region (its place in it: i), and behind it of K, ends well. -/
def AO (C : Cx) (ds : List (Nat × Nat)) (i : Nat) (rest : List Oper) (K : List KI) (E : Env) (H : Heap) : Prop :=
  ∀ ops : Array Oper, (∀ j d, lk ds j = some d → (ops[j]?).bind (·.dst) = some d) → (∀ j o, rest[j]? = some o → (ops[i + j]?).bind (·.dst) = o.dst) →
    ∀ φ I a w, Sim C φ I E H a w → wpList C.P ops (denK C K) rest a w

section
variable {C : Cx} {K : List KI} {E : Env} {H : Heap}

theorem Sim.put {φ : Phi} {I : Nat → Prop} {a : Act} {w : World} (h : Sim C φ I E H a w) {φ' : Phi} {I' : Nat → Prop} {w' : World} {H' : Heap} (hS : St C.B φ' I' H' w') (k : Keeps w φ I w' φ' I') {d : Option Nat} {v : AV} {u : Value}
    (hd : ∀ x, d = some x → x < C.n) (hv : AV.den w' φ' I' v u) : Sim C φ' I' (putE d v E) H' (a.put d u) w' := by
  cases d with
  | none =>
    refine ⟨h.dfr, h.siz, fun i x hx => ?_, hS⟩
    obtain ⟨y, hy, hdy⟩ := h.env i x hx
    exact ⟨y, hy, k.den hdy⟩
  | some d =>
    refine ⟨h.dfr, by simpa [Act.put] using h.siz, fun i x hx => ?_, hS⟩
    simp only [putE, lk] at hx
    cases hb : Nat.beq d i with
    | true =>
      rw [hb] at hx
      have hdi := Nat.eq_of_beq_eq_true hb
      subst hdi
      simp only [cond_true, Option.some.injEq] at hx
      subst hx
      have := hd d rfl
      exact ⟨u, by simp only [Act.put]; rw [Array.getElem?_setIfInBounds_self_of_lt (by rw [h.siz]; exact this)], hv⟩
    | false =>
      rw [hb] at hx
      simp only [cond_false] at hx
      obtain ⟨y, hy, hdy⟩ := h.env i x hx
      refine ⟨y, ?_, k.den hdy⟩
      simp only [Act.put]
      rw [Array.getElem?_setIfInBounds_ne (by intro e; subst e; simp at hb)]
      exact hy

theorem gd_sound {φ : Phi} {I : Nat → Prop} {a : Act} {w : World} {ds : List (Nat × Nat)} {ops : Array Oper} (hE : EnvOk w φ I E a) (hds : ∀ j d, lk ds j = some d → (ops[j]?).bind (·.dst) = some d) {o : Oper} {G : Bool}
    (h : gd ds E o.guard = some G) : Region.wanted o (yielded ops a.tmps) = G := by
  unfold gd at h
  unfold Region.wanted
  split at h
  · rename_i hg
    simp only [Option.some.injEq] at h
    rw [hg]; exact h
  · rename_i j want hg
    rw [hg]
    simp only
    split at h
    · rename_i d hd
      have hdd := hds j d hd
      split at h
      · rename_i b hb
        simp only [Option.some.injEq] at h
        obtain ⟨u, hu, hden⟩ := hE d _ hb
        rw [den_b] at hden
        subst hden
        simp only [yielded, hdd, Option.bind_some, hu]
        subst h
        cases want <;> cases b <;> rfl
      · rename_i g b hb
        simp only [Option.some.injEq] at h
        obtain ⟨u, hu, hden⟩ := hE d _ hb
        simp only [AV.den] at hden
        simp only [yielded, hdd, Option.bind_some, hu]
        subst h
        cases g with
        | true =>
          have := hden.1 rfl
          rw [show (IV.den w I (IV.v (Value.bool b)) u) = (AV.den w φ I (.im (.v (.bool b))) u) from by simp only [AV.den], den_b] at this
          subst this
          cases want <;> cases b <;> rfl
        | false =>
          have := hden.2 rfl
          subst this
          rfl
      · cases h
    · cases h

theorem AO.step {ds : List (Nat × Nat)} {i : Nat} {o : Oper} {os : List Oper}
    (h : ∀ (ops : Array Oper) φ I a w, (∀ j d, lk ds j = some d → (ops[j]?).bind (·.dst) = some d) → (ops[i]?).bind (·.dst) = o.dst → Sim C φ I E H a w →
      ∀ Kn : Act → World → Prop, (∀ E' H' φ' I' a' w', AO C (dsPut o.dst i ds) (i + 1) os K E' H' → Sim C φ' I' E' H' a' w' → Kn a' w') →
        if Region.wanted o (yielded ops a.tmps) then o.wp C.P a w Kn (denK C K) else Kn (a.put o.dst undef) w) : AO C ds i (o :: os) K E H := by
  intro ops hds hrest φ I a w hs
  have h0 : (ops[i]?).bind (·.dst) = o.dst := hrest 0 o (by simp)
  refine wpList_step fun Kn hKn => h ops φ I a w hds h0 hs Kn fun E' H' φ' I' a' w' hao hs' => hKn _ _ (hao ops (fun j d hj => ?_) (fun j o' hj => ?_) φ' I' a' w' hs')
  · unfold dsPut at hj
    split at hj
    · rename_i d' hd'
      simp only [lk] at hj
      cases hb : Nat.beq i j with
      | true =>
        rw [hb] at hj
        have := Nat.eq_of_beq_eq_true hb
        subst this
        simp only [cond_true, Option.some.injEq] at hj
        subst hj
        rw [h0, hd']
      | false =>
        rw [hb] at hj
        exact hds j d hj
    · exact hds j d hj
  · have := hrest (j + 1) o' (by simpa using hj)
    rw [← this]
    congr 2
    omega

theorem dstOk_cons {n : Nat} {o : Oper} {os : List Oper} (h : dstOk n (o :: os) = true) : (∀ x, o.dst = some x → x < n) ∧ dstOk n os = true := by
  simp only [dstOk, List.all_cons, Bool.and_eq_true] at h
  refine ⟨fun x hx => ?_, h.2⟩
  have h1 := h.1
  rw [hx] at h1
  simpa [Nat.blt_eq] using h1

theorem den_undef_opt {w : World} {φ : Phi} {I : Nat → Prop} {x : AV} : AV.den w φ I (.opt false x) undef := by simp [AV.den]

theorem wrap_den {w : World} {φ : Phi} {I : Nat → Prop} {g : Option (Nat × Bool)} {v : AV} {u : Value} (h : AV.den w φ I v u) : AV.den w φ I (wrap g true v) u := by
  unfold wrap
  split
  · exact h
  · split
    · simpa using h
    · simp only [AV.den]; exact ⟨fun _ => h, fun e => by cases e⟩
theorem wrap_undef {w : World} {φ : Phi} {I : Nat → Prop} {p : Nat × Bool} {v : AV} : AV.den w φ I (wrap (some p) false v) undef := by
  cases v <;> simp [wrap, AV.den]

theorem vc_sound : ∀ (rest : List Oper) (ds : List (Nat × Nat)) (i : Nat) (E : Env) (H : Heap), dstOk C.n rest = true →
    vc C.P C.B.nb C.ob (fun rest ds i E H => AO C ds i rest K E H) rest ds i E H → AO C ds i rest K E H
  | [], ds, i, E, H, _, h => h
  | o :: os, ds, i, E, H, hok, h => by
    obtain ⟨hd, hok'⟩ := dstOk_cons hok
    simp only [vc] at h
    split at h
    · exact h
    · rename_i G hG
      split at h
      · rename_i sc v hv
        obtain ⟨hsc, hnext⟩ := h
        have hao := vc_sound os _ _ _ _ hok' hnext
        refine AO.step fun ops φ I a w hds _ hs Kn hKn => ?_
        rw [gd_sound hs.env hds hG]
        cases G with
        | true =>
          obtain ⟨u, hu, hden⟩ := aval_sound hs.env hs.st.real hv (hsc rfl)
          rw [if_pos rfl]
          unfold Oper.wp
          rw [hu, Oper.upon_value]
          exact hKn _ _ φ I _ _ hao (hs.put hs.st (Keeps.refl _ _ _) hd (wrap_den hden))
        | false =>
          rw [if_neg (by simp)]
          refine hKn _ _ φ I _ _ hao (hs.put hs.st (Keeps.refl _ _ _) hd ?_)
          cases hg : o.guard with
          | none => rw [hg] at hG; simp [gd] at hG
          | some p => exact wrap_undef
      · split at h
        · exact h
        · split at h
          · rename_i hg _ sc v H' he
            obtain ⟨hsc, hnext⟩ := h
            have hao := vc_sound os _ _ _ _ hok' hnext
            refine AO.step fun ops φ I a w hds _ hs Kn hKn => ?_
            have hw : Region.wanted o (yielded ops a.tmps) = true := by simp [Region.wanted, hg]
            rw [if_pos hw]
            obtain ⟨nx, w', φ', I', hrun, hnx, hS, hk⟩ := aeff_sound (P := C.P) hs.env hs.st he hsc
            unfold Oper.wp
            rw [hrun]
            rcases hnx with ⟨u, rfl, hden⟩ | ⟨rfl, hden⟩
            · rw [Oper.upon_value]
              exact hKn _ _ φ' I' _ _ hao (hs.put hS hk hd hden)
            · rw [Oper.upon_skip]
              exact hKn _ _ φ' I' _ _ hao (hs.put hS hk hd hden)
          · exact h

theorem AR.region {id : Nat} {ops : Array Oper} (hok : dstOk C.n ops.toList = true) (h : vc C.P C.B.nb C.ob (fun rest ds i E H => AO C ds i rest K E H) ops.toList [] 0 E H) : AR C (.region id ops false) K E H := by
  have hao := vc_sound (C := C) (K := K) ops.toList [] 0 E H hok h
  intro φ I a w hs
  refine wp_region_list (hao ops (fun j d hj => by simp [lk] at hj) (fun j o hj => ?_) φ I a w hs)
  rw [Nat.zero_add]
  rw [Array.getElem?_toList] at hj
  simp [hj]

theorem AO.nil {ds : List (Nat × Nat)} {i : Nat} (h : AX C .normal K E H) : AO C ds i [] K E H := fun _ _ _ φ I a w hs => wpList_nil (h φ I a w hs)

/-- Only the slots that are read later are kept. -/
def keepE : List Nat → Env → Env
  | [], _ => []
  | i :: r, E => match lk E i with
    | some x => (i, x) :: keepE r E
    | none => keepE r E
theorem keepE_sub : ∀ (l : List Nat) (E : Env), Sub E (keepE l E)
  | [], _, i, x, h => by simp [keepE, lk] at h
  | j :: r, E, i, x, h => by
    simp only [keepE] at h
    split at h
    · rename_i y hy
      simp only [lk] at h
      cases hb : Nat.beq j i with
      | true =>
        rw [hb] at h
        have := Nat.eq_of_beq_eq_true hb
        subst this
        simp only [cond_true, Option.some.injEq] at h
        subst h
        exact hy
      | false => rw [hb] at h; exact keepE_sub r E i x h
    · exact keepE_sub r E i x h
theorem AO.done {ds : List (Nat × Nat)} {i : Nat} (h : AX C .normal K (keepE C.kp E) H) : AO C ds i [] K E H := AO.nil (AX.weaken h (keepE_sub _ _))

/-- One operation, its guard decided. -/
theorem AO.guard_yes {ds : List (Nat × Nat)} {i : Nat} {o : Oper} {os : List Oper} (hG : gd ds E o.guard = some true) (h : AO C ds i ({ o with guard := none } :: os) K E H) : AO C ds i (o :: os) K E H := by
  intro ops hds hrest φ I a w hs
  have := h ops hds (fun j o' hj => by
    cases j with
    | zero => simp at hj; subst hj; exact hrest 0 o (by simp)
    | succ j => exact hrest (j + 1) o' (by simpa using hj)) φ I a w hs
  unfold wpList at this ⊢
  rw [if_pos (gd_sound hs.env hds hG)]
  rw [if_pos (by simp [Region.wanted])] at this
  exact this
theorem AO.guard_no {ds : List (Nat × Nat)} {i : Nat} {o : Oper} {os : List Oper} (hok : ∀ x, o.dst = some x → x < C.n) (hG : gd ds E o.guard = some false) (h : AO C (dsPut o.dst i ds) (i + 1) os K (putE o.dst (.opt false .top) E) H) : AO C ds i (o :: os) K E H :=
  AO.step fun ops φ I a w hds _ hs Kn hKn => by
    rw [gd_sound hs.env hds hG, if_neg (by simp)]
    exact hKn _ _ φ I _ _ h (hs.put hs.st (Keeps.refl _ _ _) hok den_undef_opt)
end
end Go.AL
