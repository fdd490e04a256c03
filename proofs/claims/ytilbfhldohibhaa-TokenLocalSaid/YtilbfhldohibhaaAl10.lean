import Derived.Test.YtilbfhldohibhaaAl9
import Derived.Maps.AppendAt
set_option linter.unusedSimpArgs false
set_option linter.unusedVariables false
set_option linter.unnecessarySimpa false
namespace Go.AL
open Go

/-! ## Calls of functions that leave the caller's own blocks alone -/
mutual
/-- no own block is named -/
def AV.free : AV → Bool
  | .ob _ _ => false
  | .oe _ _ _ _ => false
  | .os _ _ _ _ => false
  | .fn _ caps => AV.frees caps
  | .agg cs => AV.frees cs
  | .tup cs => AV.frees cs
  | .opt _ x => AV.free x
  | .im _ => true
  | .ar _ => true
  | .top => true
def AV.frees : List AV → Bool
  | [] => true
  | x :: xs => AV.free x && AV.frees xs
end

mutual
theorem AV.free_den {w : World} {φ φ' : Phi} {I : Nat → Prop} : ∀ (x : AV) (u : Value), x.free = true → AV.den w φ I x u → AV.den w φ' I x u
  | .ob _ _, _, h, _ => by simp [AV.free] at h
  | .oe _ _ _ _, _, h, _ => by simp [AV.free] at h
  | .os _ _ _ _, _, h, _ => by simp [AV.free] at h
  | .fn f caps, u, h, hd => by simp only [AV.free] at h; simp only [AV.den] at hd ⊢; obtain ⟨us, h1, h2⟩ := hd; exact ⟨us, AV.frees_dens caps us h h1, h2⟩
  | .agg cs, u, h, hd => by simp only [AV.free] at h; simp only [AV.den] at hd ⊢; obtain ⟨us, h1, h2⟩ := hd; exact ⟨us, AV.frees_dens cs us h h1, h2⟩
  | .tup cs, u, h, hd => by simp only [AV.free] at h; simp only [AV.den] at hd ⊢; obtain ⟨us, h1, h2⟩ := hd; exact ⟨us, AV.frees_dens cs us h h1, h2⟩
  | .opt g x, u, h, hd => by simp only [AV.free] at h; simp only [AV.den] at hd ⊢; exact ⟨fun hg => AV.free_den x u h (hd.1 hg), hd.2⟩
  | .im x, u, _, hd => by simpa only [AV.den] using hd
  | .ar x, u, _, hd => by simpa only [AV.den] using hd
  | .top, _, _, _ => by simp only [AV.den]
theorem AV.frees_dens {w : World} {φ φ' : Phi} {I : Nat → Prop} : ∀ (xs : List AV) (us : List Value), AV.frees xs = true → AV.dens w φ I xs us → AV.dens w φ' I xs us
  | [], us, _, h => by simpa only [AV.dens] using h
  | x :: xs, us, h, hd => by
    simp only [AV.frees, Bool.and_eq_true] at h
    simp only [AV.dens] at hd ⊢
    obtain ⟨u, us', e, h1, h2⟩ := hd
    exact ⟨u, us', e, AV.free_den x u h.1 h1, AV.frees_dens xs us' h.2 h2⟩
end

def evs (E : Env) : List Operand → Option (List AV)
  | [] => some []
  | x :: r => match ev E x, evs E r with
    | some a, some l => some (a :: l)
    | _, _ => none
def gs : List AV → Bool
  | [] => true
  | a :: r => a.g && gs r

section
variable {C : Cx} {K : List KI} {E : Env} {H : Heap}

theorem evs_sound {w : World} {φ : Phi} {I : Nat → Prop} {a : Act} (hE : EnvOk w φ I E a) : ∀ (xs : List Operand) (l : List AV), evs E xs = some l → gs l = true → AV.dens w φ I (l.map AV.st) (xs.map a.eval)
  | [], l, h, _ => by simp only [evs, Option.some.injEq] at h; subst h; simp [AV.dens]
  | x :: r, l, h, hg => by
    simp only [evs] at h
    split at h
    · rename_i av l' hx hl
      simp only [Option.some.injEq] at h
      subst h
      simp only [gs, Bool.and_eq_true] at hg
      simp only [List.map_cons, AV.dens]
      exact ⟨_, _, rfl, st_den (ev_sound hE hx) hg.1, evs_sound hE r l' hl hg.2⟩
    · cases h

theorem run_callFunc {P : Program} {f : FuncId} (h : enters P f = true) (args : Array Value) (w : World) : (callFunc f args).run P w = .ok (.enter f args) w := by
  unfold enters at h
  split at h
  · rename_i fn hf
    simp only [Bool.and_eq_true, bne_iff_ne, ne_eq] at h
    have h1 : (fn.name == "runtime.NumGoroutine") = false := by simpa using h.1
    have h2 : fn.body.isNone = false := by cases hb : fn.body <;> simp_all
    have h3 : fn.body ≠ none := by intro e; rw [e] at h2; cases h2
    simp [callFunc, program, Sem.run, hf, h.1, h3]
  · cases h

/-- the caller's state behind a call that was handed nothing of its own -/
theorem St.after_pure {B : Bs} {φ φ1 : Phi} {I I1 : Nat → Prop} {H : Heap} {w w1 : World} (h : St B φ I H w) (h1 : St ⟨w, ownB (fun _ => none), I, fun _ => none, 0⟩ φ1 I1 [] w1) :
    St B φ I1 H w1 ∧ Keeps w φ I w1 φ I1 := by
  have hno : ∀ g, ¬ ownB (fun _ => none) g := fun g ⟨b, hb⟩ => by cases hb
  have hk : ∀ g, g < w.heap.size → w1.heap[g]? = w.heap[g]? := fun g hg => h1.ext.keep g hg (hno g)
  have k : Keeps w φ I w1 φ I1 := ⟨fun g hg => hk g (h.real.imm g hg), h1.immo, fun _ _ h => h, fun g n hs => h1.ext.shaped hs⟩
  have himm : ∀ g, I1 g → I g ∨ w.heap.size ≤ g := fun g hg => by
    rcases h1.immx g hg with h | h | h
    · exact .inl h
    · exact absurd h (hno g)
    · exact .inr h
  refine ⟨⟨⟨h.real.dom, fun b o p hl hp => ?_, fun b g hp => ?_, h.real.inj, h1.real.imm⟩, h.ext.trans h1.ext (fun g hg => absurd hg (hno g)), h.ownx, fun g hg => ?_, fun g hg => h1.immo g (h.immo g hg), h.phx⟩, k⟩
  · refine Ob.at_mono k.im k.I k.phi k.sh (fun g hg => ?_) (h.real.own b o p hl hp)
    subst hg
    exact hk g (h.real.off b g hp).2
  · have := h.real.off b g hp
    exact ⟨fun hi => (himm g hi).elim this.1 (by omega), Nat.lt_of_lt_of_le this.2 h1.ext.size⟩
  · rcases himm g hg with hg | hg
    · exact h.immx g hg
    · exact .inr (.inr (Nat.le_trans h.ext.size hg))

theorem real_none {w : World} {φ : Phi} {I : Nat → Prop} {H : Heap} (h : Real w φ I H) : Real w (fun _ => none) I [] :=
  ⟨fun b => rfl, fun b o p hl => (by simp [lk] at hl), fun b g hp => (by cases hp), fun b b' g hp => (by cases hp), h.imm⟩

/-- A call. -/
theorem AO.call {ds : List (Nat × Nat)} {i : Nat} {o : Oper} {os : List Oper} {f : FuncId} {xs ats : Array _} {l : List AV} {R : AV → Heap → Prop} (hop : o.op = .call { callee := .value (.func f), args := xs, argTypes := ats }) (hg : o.guard = none)
    (hd : ∀ x, o.dst = some x → x < C.n) (hl : evs E xs.toList = some l) (hgs : gs l = true) (hfr : AV.frees (l.map AV.st) = true) (hc : ACall C.P f (l.map AV.st) [] R)
    (hR : ∀ r H', R r H' → H' = [] ∧ r.free = true) (h : ∀ r, R r [] → AO C (dsPut o.dst i ds) (i + 1) os K (putE o.dst r E) H) : AO C ds i (o :: os) K E H :=
  AO.step fun ops φ I a w hds _ hs Kn hKn => by
    have hw : Region.wanted o (yielded ops a.tmps) = true := by simp [Region.wanted, hg]
    rw [if_pos hw]
    have hden := AV.frees_dens (φ' := fun _ => none) _ _ hfr (evs_sound hs.env _ _ hl hgs)
    have hrun : (execOp a.eval o).run C.P w = .ok (.enter f (xs.toList.map a.eval).toArray) w := by
      have : execOp a.eval o = callFunc f (#[] ++ xs.map a.eval ++ #[]) := by simp only [execOp, hop]; rfl
      rw [this, run_callFunc hc.ent]
      cases xs
      simp
    unfold Oper.wp
    rw [hrun, Oper.upon_enter]
    refine (hc.run w (fun _ => none) I _ hden (real_none hs.st.real)).mono fun e w' ⟨r, H', φ', I', v, hr, he, hdv, hS⟩ => ?_
    subst he
    obtain ⟨rfl, hfree⟩ := hR r H' hr
    obtain ⟨hS1, hk⟩ := hs.st.after_pure hS
    exact hKn _ _ φ I' _ _ (h r hr) (hs.put hS1 hk hd (AV.free_den r v hfree hdv))

/-! ## A row of the call's own grows -/
mutual
def AV.men (b : Nat) : AV → Bool
  | .ob b' _ => Nat.beq b' b
  | .oe b' _ _ _ => Nat.beq b' b
  | .os b' _ _ _ => Nat.beq b' b
  | .fn _ caps => AV.mens b caps
  | .agg cs => AV.mens b cs
  | .tup cs => AV.mens b cs
  | .opt _ x => AV.men b x
  | .im _ => false
  | .ar _ => false
  | .top => false
def AV.mens (b : Nat) : List AV → Bool
  | [] => false
  | x :: xs => AV.men b x || AV.mens b xs
end
mutual
theorem AV.men_den {w : World} {φ φ' : Phi} {I : Nat → Prop} {b : Nat} (hφ : ∀ b', b' ≠ b → φ' b' = φ b') : ∀ (x : AV) (u : Value), x.men b = false → AV.den w φ I x u → AV.den w φ' I x u
  | .ob b' _, u, h, hd => by
    simp only [AV.men] at h; simp only [AV.den] at hd ⊢
    rw [hφ b' (by intro e; subst e; simp at h)]; exact hd
  | .oe b' _ _ _, u, h, hd => by
    simp only [AV.men] at h; simp only [AV.den] at hd ⊢
    rw [hφ b' (by intro e; subst e; simp at h)]; exact hd
  | .os b' _ _ _, u, h, hd => by
    simp only [AV.men] at h; simp only [AV.den] at hd ⊢
    rw [hφ b' (by intro e; subst e; simp at h)]; exact hd
  | .fn f caps, u, h, hd => by simp only [AV.men] at h; simp only [AV.den] at hd ⊢; obtain ⟨us, h1, h2⟩ := hd; exact ⟨us, AV.mens_dens hφ caps us h h1, h2⟩
  | .agg cs, u, h, hd => by simp only [AV.men] at h; simp only [AV.den] at hd ⊢; obtain ⟨us, h1, h2⟩ := hd; exact ⟨us, AV.mens_dens hφ cs us h h1, h2⟩
  | .tup cs, u, h, hd => by simp only [AV.men] at h; simp only [AV.den] at hd ⊢; obtain ⟨us, h1, h2⟩ := hd; exact ⟨us, AV.mens_dens hφ cs us h h1, h2⟩
  | .opt g x, u, h, hd => by simp only [AV.men] at h; simp only [AV.den] at hd ⊢; exact ⟨fun hg => AV.men_den hφ x u h (hd.1 hg), hd.2⟩
  | .im x, u, _, hd => by simpa only [AV.den] using hd
  | .ar x, u, _, hd => by simpa only [AV.den] using hd
  | .top, _, _, _ => by simp only [AV.den]
theorem AV.mens_dens {w : World} {φ φ' : Phi} {I : Nat → Prop} {b : Nat} (hφ : ∀ b', b' ≠ b → φ' b' = φ b') : ∀ (xs : List AV) (us : List Value), AV.mens b xs = false → AV.dens w φ I xs us → AV.dens w φ' I xs us
  | [], us, _, h => by simpa only [AV.dens] using h
  | x :: xs, us, h, hd => by
    simp only [AV.mens, Bool.or_eq_false_iff] at h
    simp only [AV.dens] at hd ⊢
    obtain ⟨u, us', e, h1, h2⟩ := hd
    exact ⟨u, us', e, AV.men_den hφ x u h.1 h1, AV.mens_dens hφ xs us' h.2 h2⟩
end

/-- what names block b is forgotten -/
def killE (b : Nat) : Env → Env
  | [] => []
  | (i, x) :: r => bif x.men b then (i, .top) :: killE b r else (i, x) :: killE b r
def killC (b : Nat) : List AV → List AV
  | [] => []
  | x :: r => bif x.men b then .top :: killC b r else x :: killC b r

theorem killE_lk {w : World} {φ φ' : Phi} {I : Nat → Prop} {b : Nat} (hφ : ∀ b', b' ≠ b → φ' b' = φ b') : ∀ (E : Env) (i : Nat) (x : AV), lk (killE b E) i = some x → ∃ y, lk E i = some y ∧ ∀ u, AV.den w φ I y u → AV.den w φ' I x u
  | [], i, x, h => by simp [killE, lk] at h
  | (j, y) :: r, i, x, h => by
    simp only [killE] at h
    cases hm : y.men b with
    | true =>
      rw [hm] at h
      simp only [cond_true, lk] at h ⊢
      cases hb : Nat.beq j i with
      | true =>
        rw [hb] at h
        simp only [cond_true, Option.some.injEq] at h ⊢
        subst h
        exact ⟨y, rfl, fun u _ => by simp only [AV.den]⟩
      | false => rw [hb] at h; exact killE_lk hφ r i x h
    | false =>
      rw [hm] at h
      simp only [cond_false, lk] at h ⊢
      cases hb : Nat.beq j i with
      | true =>
        rw [hb] at h
        simp only [cond_true, Option.some.injEq] at h ⊢
        subst h
        exact ⟨y, rfl, fun u hu => AV.men_den hφ y u hm hu⟩
      | false => rw [hb] at h; exact killE_lk hφ r i x h

/-- no own variable names block b -/
def noMen (b : Nat) : Heap → Bool
  | [] => true
  | (j, .var _ cs) :: r => !(AV.mens b cs) && noMen b r
  | (_, .vec _ _ _) :: r => noMen b r
theorem noMen_lk {b : Nat} : ∀ (H : Heap), noMen b H = true → ∀ b' el cs, lk H b' = some (.var el cs) → AV.mens b cs = false
  | [], _, _, _, _, h => by simp [lk] at h
  | (j, o) :: r, hn, b', el, cs, h => by
    simp only [lk] at h
    cases hb : Nat.beq j b' with
    | true =>
      rw [hb] at h
      simp only [cond_true, Option.some.injEq] at h
      subst h
      simp only [noMen, Bool.and_eq_true, Bool.not_eq_true'] at hn
      exact hn.1
    | false =>
      rw [hb] at h
      refine noMen_lk r ?_ b' el cs h
      cases o with
      | var _ _ => simp only [noMen, Bool.and_eq_true] at hn; exact hn.2
      | vec _ _ _ => simpa only [noMen] using hn
end

section
variable {C : Cx} {K : List KI} {E : Env} {H : Heap}

/-- A row of the own heap comes to lie elsewhere, or grows: φ changes at b alone. -/
theorem St.move {B : Bs} {φ : Phi} {I : Nat → Prop} {w w' : World} (h : St B φ I H w) {b : Nat} {el : TypeId} {es es' : Nat} {rows rows' : List (List IV)} {p' : Option Nat} (hl : lk H b = some (.vec el es rows)) (hn : noMen b H = true)
    (hk : ∀ g, g < w.heap.size → φ b ≠ some (some g) → w'.heap[g]? = w.heap[g]?) (hx : Ext (fun g => φ b = some (some g)) w w') (ho : (Ob.vec el es' rows').at w' (upd φ b p') I p')
    (hp' : ∀ g, p' = some g → φ b = some (some g) ∨ w.heap.size ≤ g) (hpl : ∀ g, p' = some g → g < w'.heap.size) :
    St B (upd φ b p') I (hset H b (.vec el es' rows')) w' := by
  have hφ : ∀ b', b' ≠ b → upd φ b p' b' = φ b' := fun b' hb => by simp [upd, hb]
  have hdb : ∃ p, φ b = some p := by
    have := h.real.dom b
    rw [hl] at this
    cases hq : φ b with
    | none => rw [hq] at this; cases this
    | some p => exact ⟨p, rfl⟩
  have hI : ∀ g, I g → w'.heap[g]? = w.heap[g]? := fun g hg => hk g (h.real.imm g hg) (fun e => (h.real.off b g e).1 hg)
  refine ⟨⟨fun b' => ?_, fun b' o p hl' hp => ?_, fun b' g hp => ?_, fun b1 b2 g h1 h2 => ?_, fun g hg => Nat.lt_of_lt_of_le (h.real.imm g hg) hx.size⟩, h.ext.trans hx (fun g hg => h.ownx b g hg), fun b' g hp => ?_, h.immx, h.immo, fun b' g el' cs' hlt h0 hl' => ?_⟩
  · by_cases hbb : b' = b
    · subst hbb; rw [lk_hset_same H b' _ hl]; simp [upd]
    · rw [hφ b' hbb, lk_hset_other H b b' _ hbb]; exact h.real.dom b'
  · by_cases hbb : b' = b
    · subst hbb
      rw [lk_hset_same H b' _ hl] at hl'
      cases hl'
      simp only [upd, if_true, Option.some.injEq] at hp
      subst hp
      exact ho
    · rw [lk_hset_other H b b' _ hbb] at hl'
      rw [hφ b' hbb] at hp
      have hown := h.real.own b' o p hl' hp
      have hpb : ∀ g, p = some g → w'.heap[g]? = w.heap[g]? := fun g hg => by
        subst hg
        exact hk g (h.real.off b' g hp).2 (fun e => hbb (h.real.inj b' b g hp e))
      cases o with
      | var e cs =>
        simp only [Ob.at] at hown ⊢
        obtain ⟨g, us, rfl, h2, h3, h4⟩ := hown
        refine ⟨g, us, rfl, (hpb g rfl).trans h2, ?_, h4⟩
        exact AV.mens_dens hφ cs us (noMen_lk H hn b' e cs hl') (AV.dens_mono hI (fun _ h => h) (fun _ _ h => h) (fun g n hs => hx.shaped hs) cs us h3)
      | vec e es0 rows0 =>
        simp only [Ob.at] at hown ⊢
        rcases hown with h' | ⟨g, vss, rest, rfl, h2, h3, h4⟩
        · exact .inl h'
        · exact .inr ⟨g, vss, rest, rfl, (hpb g rfl).trans h2, IV.denss_mono hI (fun _ h => h) rows0 vss h3, h4⟩
  · by_cases hbb : b' = b
    · subst hbb
      simp only [upd, if_true, Option.some.injEq] at hp
      refine ⟨fun hi => ?_, hpl g hp⟩
      rcases hp' g hp with h1 | h1
      · exact (h.real.off b' g h1).1 hi
      · exact absurd (h.real.imm g hi) (by omega)
    · rw [hφ b' hbb] at hp
      have := h.real.off b' g hp
      exact ⟨this.1, Nat.lt_of_lt_of_le this.2 hx.size⟩
  · by_cases e1 : b1 = b <;> by_cases e2 : b2 = b
    · rw [e1, e2]
    · subst e1
      simp only [upd, if_true, Option.some.injEq] at h1
      rw [hφ b2 e2] at h2
      rcases hp' g h1 with h3 | h3
      · exact h.real.inj b1 b2 g h3 h2
      · exact absurd (h.real.off b2 g h2).2 (by omega)
    · subst e2
      simp only [upd, if_true, Option.some.injEq] at h2
      rw [hφ b1 e1] at h1
      rcases hp' g h2 with h3 | h3
      · exact h.real.inj b1 b2 g h1 h3
      · exact absurd (h.real.off b1 g h1).2 (by omega)
    · rw [hφ b1 e1] at h1
      rw [hφ b2 e2] at h2
      exact h.real.inj b1 b2 g h1 h2
  · by_cases hbb : b' = b
    · subst hbb
      simp only [upd, if_true, Option.some.injEq] at hp
      rcases hp' g hp with h1 | h1
      · exact h.ownx b' g h1
      · exact .inr (Nat.le_trans h.ext.size h1)
    · rw [hφ b' hbb] at hp
      exact h.ownx b' g hp
  · by_cases hbb : b' = b
    · subst hbb
      rw [lk_hset_same H b' _ hl] at hl'
      cases hl'
    · rw [lk_hset_other H b b' _ hbb] at hl'
      rw [hφ b' hbb]
      exact h.phx b' g el' cs' hlt h0 hl'

theorem flat_len : ∀ (l : List (List Value)) (es : Nat), (∀ x ∈ l, x.length = es) → l.flatten.length = l.length * es
  | [], es, _ => by simp
  | x :: l, es, h => by
    simp only [List.flatten_cons, List.length_append, List.length_cons]
    rw [flat_len l es (fun y hy => h y (by simp [hy])), h x (by simp), Nat.add_mul]; omega

theorem denss_append {w : World} {I : Nat → Prop} : ∀ (a b : List (List IV)) (us vs : List (List Value)), IV.denss w I a us → IV.denss w I b vs → IV.denss w I (a ++ b) (us ++ vs)
  | [], b, us, vs, h1, h2 => by simp only [IV.denss] at h1; subst h1; simpa using h2
  | x :: a, b, us, vs, h1, h2 => by
    simp only [IV.denss] at h1
    obtain ⟨u, us', rfl, h3, h4⟩ := h1
    simp only [List.cons_append, IV.denss]
    exact ⟨u, _, rfl, h3, denss_append a b us' vs h4 h2⟩

/-- what 'append' comes to: a row as the kit's laws say it -/
theorem run_append0 {P : Program} {t ty e : TypeId} {es : Nat} (ht : tk P t = .slice e) (hes : sz P e = some es) (base p : Option Addr) (n c c' : Nat) (hnc : n ≤ c) (w : World) :
    (Builtin.append_ #[t, t] ty #[.slice base n c, .slice p 0 c']).run P w = .ok (.slice base n c) w := by
  obtain ⟨_, i, hi, _⟩ := sz_both hes
  cases base with
  | none => cases p <;> simp [Builtin.append_, run_underlying (und_slice ht), sizeOf, typeInfo, hi, Builtin.lenOf, Builtin.firstCells, loadCells, loadCellsFrom, hnc]
  | some ad => cases p <;> simp [Builtin.append_, run_underlying (und_slice ht), sizeOf, typeInfo, hi, Builtin.lenOf, Builtin.firstCells, loadCells, loadCellsFrom, hnc, storeCells]
end
end Go.AL
