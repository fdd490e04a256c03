import Derived.Test.YtilbfhldohibhaaAl13
set_option linter.unusedSimpArgs false
set_option linter.unusedVariables false
set_option linter.unnecessarySimpa false
namespace Go.AL
open Go

/-! ## A region that draws its order: a head in any order, then a tail in the order of the text -/

theorem fillParts_congr {place : Nat → Option (Nat × Nat)} {E E' : Env} : ∀ (parts : List (Nat × Operand)) (cs : List AV), (∀ p ∈ parts, ev E p.2 = ev E' p.2) → fillParts place E cs parts = fillParts place E' cs parts
  | [], _, _ => rfl
  | (i, x) :: r, cs, h => by
    have hx : ev E x = ev E' x := h (i, x) (by simp)
    have ih : ∀ cs, fillParts place E cs r = fillParts place E' cs r := fun cs => fillParts_congr r cs (fun p hp => h p (by simp [hp]))
    simp only [fillParts, hx, ih]

theorem aBuild_congr {P : Program} {t : TypeId} {E E' : Env} (parts : List (Nat × Operand)) (h : ∀ p ∈ parts, ev E p.2 = ev E' p.2) : aBuild P t parts E = aBuild P t parts E' := by
  unfold aBuild
  split
  · split
    · rw [fillParts_congr parts _ h]
    · rfl
  · split
    · rw [fillParts_congr parts _ h]
    · rfl
  · rfl

theorem aval_congr {P : Program} {E E' : Env} {H : Heap} (op : Op) (h : ∀ x ∈ op.operands, ev E x = ev E' x) : aval P E H op = aval P E' H op := by
  cases op with
  | build t parts =>
    simp only [aval]
    exact aBuild_congr _ fun p hp => h p.2 (by simp only [Op.operands]; simp; exact ⟨p.1, by simpa using hp⟩)
  | call c =>
    obtain ⟨callee, args, ts⟩ := c
    cases callee with
    | builtin b =>
      cases b <;> simp only [aval] <;> split <;> first
        | rfl
        | (rename_i x hx _
           rw [h x (by simp only [Op.operands, Call.operands]; obtain rfl : args = #[x] := by cases args; simpa using hx
                       simp)]; done)
        | (rename_i x t hx ht
           obtain rfl : args = #[x] := by cases args; simpa using hx
           rw [h x (by simp [Op.operands, Call.operands])])
        | (rename_i x y hx
           obtain rfl : args = #[x, y] := by cases args; simpa using hx
           rw [h x (by simp [Op.operands, Call.operands]), h y (by simp [Op.operands, Call.operands])])
    | value f => simp only [aval]
    | invoke r m => simp only [aval]
  | slice t x lo hi mx =>
    cases mx with
    | some _ => simp only [aval]
    | none =>
      cases lo <;> cases hi <;> simp only [aval] <;> first
        | rfl
        | (rename_i l r; rw [h l (by simp [Op.operands]), h r (by simp [Op.operands]), h x (by simp [Op.operands])])
        | (rename_i l; rw [h l (by simp [Op.operands]), h x (by simp [Op.operands])])
  | pick c a b => simp only [aval]; rw [h c (by simp [Op.operands]), h a (by simp [Op.operands]), h b (by simp [Op.operands])]
  | binOp o t x y u => simp only [aval]; rw [h x (by simp [Op.operands]), h y (by simp [Op.operands])]
  | index t x i => simp only [aval]; rw [h x (by simp [Op.operands]), h i (by simp [Op.operands])]
  | indexAddr t x i => simp only [aval]; rw [h x (by simp [Op.operands]), h i (by simp [Op.operands])]
  | move x => simp only [aval]; rw [h x (by simp [Op.operands])]
  | assign x => simp only [aval]; rw [h x (by simp [Op.operands])]
  | unOp o t x => simp only [aval]; rw [h x (by simp [Op.operands])]
  | convert s d x => simp only [aval]; rw [h x (by simp [Op.operands])]
  | nilCheck x => simp only [aval]; rw [h x (by simp [Op.operands])]
  | fieldAddr t x f => simp only [aval]; rw [h x (by simp [Op.operands])]
  | field t x f => simp only [aval]; rw [h x (by simp [Op.operands])]
  | load t x => simp only [aval]; rw [h x (by simp [Op.operands])]
  | extract x i => simp only [aval]; rw [h x (by simp [Op.operands])]
  | _ => simp only [aval]

theorem evs_congr {E E' : Env} : ∀ (xs : List Operand), (∀ x ∈ xs, ev E x = ev E' x) → evs E xs = evs E' xs
  | [], _ => rfl
  | x :: r, h => by
    simp only [evs]
    rw [h x (by simp), evs_congr r (fun y hy => h y (by simp [hy]))]

/-- slots that an operation looks at -/
def tmpsOf : List Operand → List Nat
  | [] => []
  | .tmp t :: r => t :: tmpsOf r
  | _ :: r => tmpsOf r
theorem mem_tmpsOf {t : Tmp} : ∀ (l : List Operand), Operand.tmp t ∈ l → t ∈ tmpsOf l
  | [], h => by cases h
  | x :: r, h => by
    rcases List.mem_cons.1 h with rfl | h
    · simp [tmpsOf]
    · have := mem_tmpsOf r h
      cases x <;> simp [tmpsOf, this]
def looks (ops : List Oper) (o : Oper) : List Nat :=
  tmpsOf o.op.operands.toList ++ match o.guard with
    | some (j, _) => match (ops[j]?).bind (·.dst) with
      | some d => [d]
      | none => []
    | none => []

def canon (n m : Nat) : Array Bool := ((List.range m).map fun i => decide (i < n)).toArray

/-- the checks of a head of n operations, closed facts of the text -/
def headB (ops : List Oper) (n : Nat) : Bool :=
  decide (n ≤ ops.length) &&
  ((List.range n).all fun i => match ops[i]? with
    | none => false
    | some o => (o.after.all fun e => !Region.binds .any e || decide (e.on < i)) &&
      ((looks ops o).all fun t => (List.range n).all fun j => match (ops[j]?).bind (·.dst) with
        | some d => d != t || (decide (j < i) && o.after.any fun e => Region.binds .any e && e.on == j)
        | none => true) &&
      ((List.range n).all fun j => match (ops[j]?).bind (·.dst), o.dst with
        | some d, some d' => d != d' || j == i
        | _, _ => true)) &&
  (n == ops.length || (Region.sinkB .any ops.toArray n && Region.chainB .any ops.toArray n)) &&
  Region.seqB .any ops.toArray (ops.length - n) n (canon n ops.length)

/-- the head, evaluated in the order of the text; cv: what the calls in it come to -/
def vh (C : Cx) (H : Heap) (cv : List (Nat × AV)) (k : Env → Prop) : List Oper → List (Nat × Nat) → Nat → Env → Prop
  | [], _, _, E => k E
  | o :: os, ds, i, E => match gd ds E o.guard with
    | none => False
    | some G => match aval C.P E H o.op with
      | some (sc, v) => (G = true → sc) ∧ vh C H cv k os (dsPut o.dst i ds) (i + 1) (putE o.dst (wrap o.guard G v) E)
      | none => match o.op, o.guard with
        | .call { callee := .value (.func f), args := xs, .. }, none => match evs E xs.toList, lk cv i with
          | some l, some r => (gs l = true ∧ AV.frees (l.map AV.st) = true ∧ r.free = true ∧ PFn C.P f (l.map AV.st) r) ∧ vh C H cv k os (dsPut o.dst i ds) (i + 1) (putE o.dst r E)
          | _, _ => False
        | _, _ => False

/-! ### Soundness -/
theorem lk_filter (p : Nat → Bool) : ∀ (E : Env) (t : Nat), lk (E.filter fun q => p q.1) t = if p t then lk E t else none
  | [], t => by simp [lk]
  | (j, x) :: r, t => by
    rw [List.filter_cons]
    cases hb : Nat.beq j t with
    | true =>
      have := Nat.eq_of_beq_eq_true hb
      subst this
      cases hp : p j with
      | true => simp [lk]
      | false =>
        have := lk_filter p r j
        rw [hp] at this
        simpa [hp] using this
    | false =>
      cases hp : p j with
      | true => simp only [hp, if_true, lk, hb, cond_false]; exact lk_filter p r t
      | false => simp only [hp, lk, hb, cond_false]; exact lk_filter p r t

def cntTo (listed : Array Bool) : Nat → Nat
  | 0 => 0
  | k + 1 => cntTo listed k + bif listed.getD k true then 0 else 1
theorem cntTo_set_ge (listed : Array Bool) (i : Nat) : ∀ k, k ≤ i → cntTo (listed.setIfInBounds i true) k = cntTo listed k
  | 0, _ => rfl
  | k + 1, h => by
    simp only [cntTo]
    rw [cntTo_set_ge listed i k (by omega), getD_set_ne true (by omega : i ≠ k)]
theorem cntTo_set (listed : Array Bool) (i : Nat) (hi : listed.getD i true = false) : ∀ k, i < k → cntTo (listed.setIfInBounds i true) k + 1 = cntTo listed k
  | 0, h => by omega
  | k + 1, h => by
    simp only [cntTo]
    by_cases hik : i = k
    · subst hik
      have hlt : i < listed.size := by
        rcases Nat.lt_or_ge i listed.size with h' | h'
        · exact h'
        · simp [Array.getElem?_eq_none h'] at hi
      rw [cntTo_set_ge listed i i (Nat.le_refl _)]
      have e1 : (listed.setIfInBounds i true).getD i true = true := by simp [hlt]
      rw [e1, hi]
      rfl
    · rw [getD_set_ne true (by omega : i ≠ k)]
      have := cntTo_set listed i hi k (by omega)
      omega
theorem cntTo_zero (listed : Array Bool) : ∀ k, cntTo listed k = 0 → ∀ i, i < k → listed.getD i true = true
  | 0, _, i, h => by omega
  | k + 1, h, i, hi => by
    simp only [cntTo] at h
    by_cases hik : i = k
    · subst hik
      cases hq : listed.getD i true with
      | true => rfl
      | false => rw [hq] at h; simp at h
    · exact cntTo_zero listed k (by omega) i (by omega)
theorem cntTo_pos (listed : Array Bool) : ∀ k, 0 < cntTo listed k → ∃ i, i < k ∧ listed.getD i true = false ∧ ∀ j, j < i → listed.getD j true = true
  | 0, h => by simp [cntTo] at h
  | k + 1, h => by
    rcases Nat.eq_zero_or_pos (cntTo listed k) with h0 | h0
    · simp only [cntTo, h0] at h
      refine ⟨k, by omega, ?_, cntTo_zero listed k h0⟩
      cases hq : listed.getD k true with
      | true => rw [hq] at h; simp at h
      | false => rfl
    · obtain ⟨i, h1, h2, h3⟩ := cntTo_pos listed k h0
      exact ⟨i, by omega, h2, h3⟩

structure HeadOk (ops : List Oper) (n : Nat) : Prop where
  le : n ≤ ops.length
  back : ∀ i o, i < n → ops[i]? = some o → ∀ e ∈ o.after, Region.binds .any e = true → e.on < i
  need : ∀ i o, i < n → ops[i]? = some o → ∀ t ∈ looks ops o, ∀ j d, j < n → (ops[j]?).bind (·.dst) = some d → d = t → j < i ∧ ∃ e ∈ o.after, Region.binds .any e = true ∧ e.on = j
  dist : ∀ i j d, i < n → j < n → (ops[i]?).bind (·.dst) = some d → (ops[j]?).bind (·.dst) = some d → j = i
  tail : n = ops.length ∨ (Region.sinkB .any ops.toArray n = true ∧ Region.chainB .any ops.toArray n = true)
  seq : Region.seqB .any ops.toArray (ops.length - n) n (canon n ops.length) = true

theorem headB_spec {ops : List Oper} {n : Nat} (h : headB ops n = true) : HeadOk ops n := by
  simp only [headB, Bool.and_eq_true, decide_eq_true_eq, Bool.or_eq_true, beq_iff_eq] at h
  obtain ⟨⟨⟨hle, hall⟩, ht⟩, hs⟩ := h
  have key : ∀ i o, i < n → ops[i]? = some o → ((o.after.all fun e => !Region.binds .any e || decide (e.on < i)) = true ∧
      ((looks ops o).all fun t => (List.range n).all fun j => match (ops[j]?).bind (·.dst) with
        | some d => d != t || (decide (j < i) && o.after.any fun e => Region.binds .any e && e.on == j)
        | none => true) = true) ∧ ((List.range n).all fun j => match (ops[j]?).bind (·.dst), o.dst with
        | some d, some d' => d != d' || j == i
        | _, _ => true) = true := fun i o hi ho => by
    have := List.all_eq_true.1 hall i (List.mem_range.2 hi)
    rw [ho] at this
    simpa only [Bool.and_eq_true] using this
  refine ⟨hle, fun i o hi ho e he hb => ?_, fun i o hi ho t ht j d hj hd hdt => ?_, fun i j d hi hj h1 h2 => ?_, ht.imp id id, hs⟩
  · have := Array.all_eq_true'.1 (key i o hi ho).1.1 e he
    simpa [hb] using this
  · have h1 := List.all_eq_true.1 (key i o hi ho).1.2 t ht
    have h2 := List.all_eq_true.1 h1 j (List.mem_range.2 hj)
    rw [hd] at h2
    subst hdt
    simp only [bne_self_eq_false, Bool.false_or, Bool.and_eq_true, decide_eq_true_eq] at h2
    obtain ⟨h3, h4⟩ := h2
    obtain ⟨e, he, hb⟩ := Array.any_eq_true'.1 h4
    simp only [Bool.and_eq_true, beq_iff_eq] at hb
    exact ⟨h3, e, he, hb.1, hb.2⟩
  · cases ho : ops[i]? with
    | none => rw [ho] at h1; cases h1
    | some o =>
      rw [ho] at h1
      simp only [Option.bind_some] at h1
      have h3 := List.all_eq_true.1 (key i o hi ho).2 j (List.mem_range.2 hj)
      rw [h2, h1] at h3
      simpa using h3

/-- writers below k of slot t: listed -/
def wrOk (ops : List Oper) (n : Nat) (listed : Array Bool) (t : Nat) : Bool :=
  (List.range n).all fun j => match (ops[j]?).bind (·.dst) with
    | some d => d != t || listed.getD j false
    | none => true
theorem wrOk_spec {ops : List Oper} {n : Nat} {listed : Array Bool} {t : Nat} : wrOk ops n listed t = true ↔ ∀ j d, j < n → (ops[j]?).bind (·.dst) = some d → d = t → listed.getD j false = true := by
  unfold wrOk
  rw [List.all_eq_true]
  constructor
  · intro h j d hj hd hdt
    have := h j (List.mem_range.2 hj)
    rw [hd] at this
    subst hdt
    simpa using this
  · intro h j hj
    cases hd : (ops[j]?).bind (·.dst) with
    | none => simp
    | some d =>
      simp only [Bool.or_eq_true, bne_iff_ne, ne_eq]
      by_cases hdt : d = t
      · exact .inr (h j d (List.mem_range.1 hj) hd hdt)
      · exact .inl hdt

theorem St.drew1 {B : Bs} {φ : Phi} {I : Nat → Prop} {H : Heap} {w : World} (h : St B φ I H w) : St B φ I H { w with drawn := w.drawn + 1 } := by
  have k : Ext (fun _ => False) w { w with drawn := w.drawn + 1 } := ⟨Nat.le_refl _, fun _ _ _ => rfl, fun _ c _ _ h => ⟨c, h, rfl⟩, rfl, rfl, rfl⟩
  exact ⟨⟨h.real.dom, fun b o p hl hp => Ob.at_mono (w := w) (w' := { w with drawn := w.drawn + 1 }) (fun _ _ => rfl) (fun _ h => h) (fun _ _ h => h) (fun _ _ hs => k.shaped hs) (fun _ _ => rfl) (h.real.own b o p hl hp), h.real.off, h.real.inj, h.real.imm⟩, h.ext.trans k (fun g hf => hf.elim), h.ownx, h.immx, h.immo, h.phx⟩
theorem Keeps.drew1 (w : World) (φ : Phi) (I : Nat → Prop) : Keeps w φ I { w with drawn := w.drawn + 1 } φ I := by
  have k : Ext (fun _ => False) w { w with drawn := w.drawn + 1 } := ⟨Nat.le_refl _, fun _ _ _ => rfl, fun _ c _ _ h => ⟨c, h, rfl⟩, rfl, rfl, rfl⟩
  exact ⟨fun _ _ => rfl, fun _ h => h, fun _ _ h => h, fun _ _ hs => k.shaped hs⟩

def OpFact (C : Cx) (H : Heap) (ops : List Oper) (n : Nat) (En : Env) (i : Nat) (o : Oper) : Prop :=
  ∃ E' ds G val, (∀ j d, lk ds j = some d → (ops[j]?).bind (·.dst) = some d) ∧ gd ds E' o.guard = some G ∧ (∀ t, (∀ j, i ≤ j → j < n → (ops[j]?).bind (·.dst) ≠ some t) → lk E' t = lk En t) ∧
    (∀ d, o.dst = some d → lk En d = some val) ∧ (∀ j, ds.find? (fun q => q.1 == j) = ds.find? (fun q => q.1 == j)) ∧
    ((∃ sc v, aval C.P E' H o.op = some (sc, v) ∧ (G = true → sc) ∧ val = wrap o.guard G v) ∨
      (o.guard = none ∧ ∃ f xs ats l, o.op = .call { callee := .value (.func f), args := xs, argTypes := ats } ∧ evs E' xs.toList = some l ∧ gs l = true ∧ AV.frees (l.map AV.st) = true ∧ val.free = true ∧ PFn C.P f (l.map AV.st) val))

theorem vh_facts {C : Cx} {H : Heap} {cv : List (Nat × AV)} {k : Env → Prop} {ops : List Oper} {n : Nat} (hok : HeadOk ops n) : ∀ (rest : List Oper) (ds : List (Nat × Nat)) (i : Nat) (E : Env), (∀ m, rest[m]? = (ops.take n)[i + m]?) →
    (∀ j d, lk ds j = some d → (ops[j]?).bind (·.dst) = some d) → vh C H cv k rest ds i E →
    ∃ En, k En ∧ (∀ t, (∀ j, i ≤ j → j < n → (ops[j]?).bind (·.dst) ≠ some t) → lk E t = lk En t) ∧ (∀ m o, rest[m]? = some o → OpFact C H ops n En (i + m) o)
  | [], ds, i, E, _, _, h => ⟨E, h, fun _ _ => rfl, fun m o hm => by simp at hm⟩
  | o :: os, ds, i, E, hr, hds, h => by
    have h0 := hr 0
    simp only [List.getElem?_cons_zero, Nat.add_zero] at h0
    have hin : i < n := by
      rcases Nat.lt_or_ge i n with h' | h'
      · exact h'
      · rw [List.getElem?_eq_none (by rw [List.length_take]; omega)] at h0; cases h0
    have hoi : ops[i]? = some o := by rw [List.getElem?_take, if_pos hin] at h0; exact h0.symm
    have hr' : ∀ m, os[m]? = (ops.take n)[i + 1 + m]? := fun m => by
      have := hr (m + 1)
      rw [List.getElem?_cons_succ] at this
      rw [this]; congr 1; omega
    have hds' : ∀ j d, lk (dsPut o.dst i ds) j = some d → (ops[j]?).bind (·.dst) = some d := fun j d hj => by
      unfold dsPut at hj
      split at hj
      · rename_i d' hd'
        simp only [lk] at hj
        cases hb : Nat.beq i j with
        | true =>
          rw [hb] at hj
          have := Nat.eq_of_beq_eq_true hb
          subst this
          simp only [cond_true, Option.some.injEq] at hj
          subst hj
          rw [hoi]; exact hd'
        | false => rw [hb] at hj; exact hds j d hj
      · exact hds j d hj
    have fin : ∀ (G : Bool) (val : AV), gd ds E o.guard = some G → vh C H cv k os (dsPut o.dst i ds) (i + 1) (putE o.dst val E) →
        ((∃ sc v, aval C.P E H o.op = some (sc, v) ∧ (G = true → sc) ∧ val = wrap o.guard G v) ∨
          (o.guard = none ∧ ∃ f xs ats l, o.op = .call { callee := .value (.func f), args := xs, argTypes := ats } ∧ evs E xs.toList = some l ∧ gs l = true ∧ AV.frees (l.map AV.st) = true ∧ val.free = true ∧ PFn C.P f (l.map AV.st) val)) →
        ∃ En, k En ∧ (∀ t, (∀ j, i ≤ j → j < n → (ops[j]?).bind (·.dst) ≠ some t) → lk E t = lk En t) ∧ (∀ m o', (o :: os)[m]? = some o' → OpFact C H ops n En (i + m) o') := by
      intro G val hG hv hcase
      obtain ⟨En, h1, h2, h3⟩ := vh_facts hok os _ (i + 1) _ hr' hds' hv
      have hkeep : ∀ t, (∀ j, i ≤ j → j < n → (ops[j]?).bind (·.dst) ≠ some t) → lk E t = lk En t := fun t ht => by
        rw [← h2 t (fun j hj hjn => ht j (by omega) hjn)]
        cases hd : o.dst with
        | none => rfl
        | some d =>
          have hne : d ≠ t := fun e => ht i (Nat.le_refl _) hin (by rw [hoi, ← e]; exact hd)
          have : Nat.beq d t = false := by
            cases hq : Nat.beq d t with
            | false => rfl
            | true => exact absurd (Nat.eq_of_beq_eq_true hq) hne
          simp [putE, lk, this]
      refine ⟨En, h1, hkeep, fun m o' hm => ?_⟩
      cases m with
      | succ m =>
        rw [List.getElem?_cons_succ] at hm
        have := h3 m o' hm
        rw [show i + (m + 1) = i + 1 + m by omega]; exact this
      | zero =>
        simp only [List.getElem?_cons_zero, Option.some.injEq] at hm
        subst hm
        refine ⟨E, ds, G, val, hds, hG, hkeep, fun d hd => ?_, fun _ => rfl, hcase⟩
        rw [← h2 d (fun j hj hjn hjd => ?_)]
        · rw [hd]; simp [putE, lk]
        · have := hok.dist i j d hin hjn (by rw [hoi]; exact hd) hjd
          omega
    simp only [vh] at h
    split at h
    · exact h.elim
    · rename_i G hG
      split at h
      · rename_i sc v hv
        exact fin G _ hG h.2 (.inl ⟨sc, v, hv, h.1, rfl⟩)
      · split at h
        · rename_i f xs ats hop hgu
          split at h
          · rename_i l r hl hr2
            obtain ⟨⟨h1, h2, h3, h4⟩, h5⟩ := h
            exact fin G r hG h5 (.inr ⟨hgu, f, xs, _, l, hop, hl, h1, h2, h3, h4⟩)
          · exact h.elim
        · exact h.elim

theorem ready_lt {ops : List Oper} {n : Nat} (hok : HeadOk ops n) {listed : Array Bool} (inv : HeadInv .any ops.toArray n listed) {i : Nat} (hi : i < n) (hun : listed.getD i true = false) : ∀ j ∈ Region.ready .any ops.toArray listed, j < n := by
  intro j hj
  rcases Nat.lt_or_ge j n with h | h
  · exact h
  · exfalso
    rcases hok.tail with he | ⟨hs, hc⟩
    · obtain ⟨_, o, ho, _⟩ := mem_ready.1 hj
      have := (Array.getElem?_eq_some_iff.1 ho).1
      simp at this; omega
    · have hjs : j < ops.toArray.size := by
        obtain ⟨_, o, ho, _⟩ := mem_ready.1 hj
        exact (Array.getElem?_eq_some_iff.1 ho).1
      exact tail_waits hs hc (by omega) inv _ i rfl hi hun j h hj

theorem head_run {C : Cx} {H : Heap} {ops : List Oper} {n : Nat} {En : Env} {Q : Exit → Act → World → Prop} (hok : HeadOk ops n) (hdst : dstOk C.n ops = true) (hf : ∀ i o, i < n → ops[i]? = some o → OpFact C H ops n En i o)
    (htail : ∀ φ I a w, Sim C φ I En H a w → wpList C.P ops.toArray Q (ops.drop n) a w) :
    ∀ (c : Nat) (listed : Array Bool) (a : Act) (w : World), cntTo listed n = c → HeadInv .any ops.toArray n listed →
      (∃ φ I, Sim C φ I (En.filter fun q => wrOk ops n listed q.1) H a w) → wpAny C.P .any ops.toArray Q (c + (ops.length - n)) listed a w
  | 0, listed, a, w, hc, inv, ⟨φ, I, hs⟩ => by
    have hall := cntTo_zero listed n hc
    have hsz : listed.size = ops.length := by simpa using inv.size
    have hcan : listed = canon n ops.length := by
      apply Array.ext
      · simp [canon, hsz]
      · intro i h1 h2
        simp only [canon, List.getElem_toArray, List.getElem_map, List.getElem_range]
        by_cases hi : i < n
        · have := hall i hi
          simp [h1] at this
          simp [hi, this]
        · have := inv.tail i (by omega) (by simpa using (by omega : i < ops.length))
          simp [h1] at this
          simp [hi, this]
    rw [Nat.zero_add]
    have hseq := hok.seq
    rw [← hcan] at hseq
    have h1 := wpAny_of_seq (P := C.P) (md := .any) (ops := ops.toArray) (Q' := Q) (ops.drop n) n listed a w (fun j => by simp [List.getElem?_drop]) (by simpa using hseq) (htail φ I a w (by
      refine ⟨hs.dfr, hs.siz, fun t x hx => hs.env t x ?_, hs.st⟩
      rw [lk_filter]
      rw [if_pos (wrOk_spec.2 fun j d hj _ _ => by
        have h1 := hall j hj
        have hlt : j < listed.size := by rw [hsz]; have := hok.le; omega
        simp [hlt] at h1 ⊢; exact h1)]
      exact hx))
    simpa using h1
  | c + 1, listed, a, w, hc, inv, ⟨φ, I, hs⟩ => by
    obtain ⟨i0, hi0, hun0, hmin⟩ := cntTo_pos listed n (by omega)
    have hsz : listed.size = ops.length := by simpa using inv.size
    have hle := hok.le
    have hready0 : i0 ∈ Region.ready .any ops.toArray listed := by
      rw [mem_ready]
      have hlt : i0 < ops.length := by omega
      refine ⟨hun0, ops[i0], by simp [hlt], fun e he hb => ?_⟩
      have hlt2 := hok.back i0 ops[i0] hi0 (List.getElem?_eq_getElem hlt) e he hb
      have h1 := hmin e.on hlt2
      have hlt3 : e.on < listed.size := by omega
      simp [hlt3] at h1 ⊢; exact h1
    rw [show c + 1 + (ops.length - n) = (c + (ops.length - n)) + 1 by omega]
    refine ⟨fun h => (by rw [h] at hready0; cases hready0), fun i hi => ?_⟩
    have hin := ready_lt hok inv hi0 hun0 i hi
    obtain ⟨hun, o, ho, hall⟩ := mem_ready.1 hi
    have hol : ops[i]? = some o := by simpa using ho
    have hun' : listed.getD i true = false := hun
    have inv' := inv.set hi hin
    have hcnt : cntTo (listed.setIfInBounds i true) n = c := by have := cntTo_set listed i hun' n hin; omega
    obtain ⟨E', ds, G, val, hds, hG, hagree, hval, _, hcase⟩ := hf i o hin hol
    -- what the operation looks at is there
    have hlook : ∀ t ∈ looks ops o, wrOk ops n listed t = true ∧ lk E' t = lk En t := fun t ht => by
      refine ⟨wrOk_spec.2 fun j d hj hd hdt => ?_, hagree t fun j hij hjn hjt => ?_⟩
      · obtain ⟨_, e, he, hb, hon⟩ := hok.need i o hin hol t ht j d hj hd hdt
        rw [← hon]; exact hall e he hb
      · have := (hok.need i o hin hol t ht j t hjn hjt rfl).1
        omega
    have hlk : ∀ t ∈ looks ops o, lk (En.filter fun q => wrOk ops n listed q.1) t = lk E' t := fun t ht => by
      rw [lk_filter, if_pos (hlook t ht).1, (hlook t ht).2]
    have hev : ∀ x ∈ o.op.operands, ev (En.filter fun q => wrOk ops n listed q.1) x = ev E' x := fun x hx => by
      cases x with
      | tmp t => simp only [ev]; exact hlk t (by simp only [looks]; exact List.mem_append.2 (.inl (mem_tmpsOf _ (by simpa using hx))))
      | _ => rfl
    have hgd : gd ds (En.filter fun q => wrOk ops n listed q.1) o.guard = some G := by
      rw [← hG]
      unfold gd
      cases hg : o.guard with
      | none => rfl
      | some p =>
        obtain ⟨j, want⟩ := p
        simp only
        cases hj : lk ds j with
        | none => rfl
        | some d =>
          simp only
          rw [hlk d (by simp only [looks, hg]; rw [hds j d hj]; simp)]
    have hwant := gd_sound (ops := ops.toArray) hs.env (fun j d hj => by simpa using hds j d hj) hgd
    -- behind it
    have hdok : ∀ x, o.dst = some x → x < C.n := fun x hx => by
      have := List.all_eq_true.1 hdst o (List.mem_of_getElem? hol)
      rw [hx] at this
      simpa [Nat.blt_eq] using this
    have next : ∀ (φ' : Phi) (I' : Nat → Prop) (w' : World) (u : Value), St C.B φ' I' H w' → Keeps w φ I w' φ' I' → AV.den w' φ' I' val u → wpAny C.P .any ops.toArray Q (c + (ops.length - n)) (listed.setIfInBounds i true) (a.put o.dst u) w' := by
      intro φ' I' w' u hS hk hden
      refine head_run hok hdst hf htail c _ _ _ hcnt inv' ⟨φ', I', ?_⟩
      have hput := hs.put (d := o.dst) (v := val) (u := u) hS hk hdok hden
      refine ⟨hput.dfr, hput.siz, fun t x hx => ?_, hS⟩
      rw [lk_filter] at hx
      split at hx
      · rename_i hwr
        by_cases hdt : o.dst = some t
        · rw [hval t hdt] at hx
          cases hx
          exact hput.env t val (by rw [hdt]; simp [putE, lk])
        · refine hput.env t x ?_
          have hne : lk (putE o.dst val (En.filter fun q => wrOk ops n listed q.1)) t = lk (En.filter fun q => wrOk ops n listed q.1) t := by
            cases hd : o.dst with
            | none => rfl
            | some d =>
              have : Nat.beq d t = false := by
                cases hq : Nat.beq d t with
                | false => rfl
                | true => exact absurd (by rw [hd, Nat.eq_of_beq_eq_true hq]) hdt
              simp [putE, lk, this]
          rw [hne, lk_filter, if_pos (wrOk_spec.2 fun j d hj hd hdd => ?_)]
          · exact hx
          · have h1 := wrOk_spec.1 hwr j d hj hd hdd
            by_cases hij : i = j
            · subst hij
              rw [hol] at hd
              exact absurd (by rw [← hdd]; exact hd) hdt
            · rwa [getD_set_ne false hij] at h1
      · cases hx
    unfold wpOp
    rw [ho]
    simp only
    rw [hwant]
    rcases hcase with ⟨sc, v, hav, hsc, rfl⟩ | ⟨hgu, f, xs, ats, l, hop, hl, hgs, hfr, hfree, hc'⟩
    · rw [← aval_congr o.op hev] at hav
      cases G with
      | true =>
        obtain ⟨u, hu, hden⟩ := aval_sound hs.env hs.st.real hav (hsc rfl)
        rw [if_pos rfl]
        left
        unfold Oper.wp
        rw [hu, Oper.upon_value]
        exact next φ I w u hs.st (Keeps.refl _ _ _) (wrap_den hden)
      | false =>
        rw [if_neg (by simp)]
        refine next φ I w undef hs.st (Keeps.refl _ _ _) ?_
        cases hg : o.guard with
        | none => rw [hg] at hgd; simp [gd] at hgd
        | some p => exact wrap_undef
    · have hGt : G = true := by rw [hgu] at hgd; simp [gd] at hgd; exact hgd
      subst hGt
      rw [if_pos rfl]
      left
      have hl' : evs (En.filter fun q => wrOk ops n listed q.1) xs.toList = some l := by
        rw [← hl]
        exact evs_congr _ fun x hx => hev x (by rw [hop]; simp only [Op.operands, Call.operands]; simp; exact .inr (by simpa using hx))
      have hden := AV.frees_dens (φ' := fun _ => none) _ _ hfr (evs_sound hs.env _ _ hl' hgs)
      have hrun : (execOp a.eval o).run C.P w = .ok (.enter f (xs.toList.map a.eval).toArray) w := by
        have : execOp a.eval o = callFunc f (#[] ++ xs.map a.eval ++ #[]) := by simp only [execOp, hop]; rfl
        rw [this, run_callFunc hc'.ent]
        cases xs
        simp
      unfold Oper.wp
      rw [hrun, Oper.upon_enter]
      refine (hc'.run w (fun _ => none) I _ hden (real_none hs.st.real)).mono fun e w' ⟨r, H', φ', I', v, hr, he, hdv, hS⟩ => ?_
      subst he
      obtain ⟨rfl, rfl⟩ := hr
      obtain ⟨hS1, hk⟩ := hs.st.after_pure hS
      exact next φ I' w' v hS1 hk (AV.free_den r v hfree hdv)

section
variable {C : Cx} {K : List PK} {E : Env} {H : Heap} {p : List Nat}
theorem AP.draw {id : Nat} {ops : List Oper} (n : Nat) (cv : List (Nat × AV)) (hm : C.P.follows .mixedOrders = true) (hc : codeAt C.fn p = .region id ops.toArray true) (hok : dstOk C.n ops = true) (hB : headB ops n = true)
    (h : vh C H cv (fun En => vq C K (ops.drop n) [] n En H) (ops.take n) [] 0 E) : AP C p K E H := by
  unfold AP
  rw [hc]
  intro φ I a w hs
  have hok' := headB_spec hB
  obtain ⟨En, hk, hag, hf⟩ := vh_facts hok' (ops.take n) [] 0 E (fun m => by rw [Nat.zero_add]) (fun j d hj => by simp [lk] at hj) h
  refine wp_region_any hm ?_
  have hcnt : ∀ k, cntTo (Array.replicate ops.length false) k = min k ops.length := by
    intro k
    induction k with
    | zero => simp [cntTo]
    | succ k ih =>
      simp only [cntTo, ih]
      by_cases hk : k < ops.length
      · simp [hk]; omega
      · simp [hk]; omega
  have inv0 : HeadInv .any ops.toArray n (Array.replicate ops.length false) :=
    ⟨by simp, fun j oj _ hl => (by rw [getD_replicate_false] at hl; cases hl), fun t _ ht => getD_in (by simpa using ht) (getD_replicate_false _ _)⟩
  have hle := hok'.le
  have := head_run (C := C) (H := H) (En := En) (Q := denK C (K.map (PK.ki C.fn))) hok' hok (fun i o hi ho => by
      have := hf i o (by rw [List.getElem?_take, if_pos hi]; exact ho)
      rwa [Nat.zero_add] at this) (fun φ I a w hs => by
      have hdrop : dstOk C.n (ops.drop n) = true := by
        rw [dstOk, List.all_eq_true]
        exact fun o ho => List.all_eq_true.1 hok o (List.mem_of_mem_drop ho)
      have hao := vc_sound (C := C) (K := K.map (PK.ki C.fn)) (ops.drop n) [] n En H hdrop (vq_eq C K _ _ _ _ _ hk)
      exact hao ops.toArray (fun j d hj => by simp [lk] at hj) (fun j o hj => by rw [List.getElem?_drop] at hj; simp [hj]) φ I a w hs)
    n (Array.replicate ops.length false) a { w with drawn := w.drawn + 1 } (by rw [hcnt]; omega) inv0 ⟨φ, I, ?_⟩
  · simp only [List.size_toArray]
    rwa [show n + (ops.length - n) = ops.length by omega] at this
  · refine ⟨hs.dfr, hs.siz, fun t x hx => ?_, hs.st.drew1⟩
    rw [lk_filter] at hx
    split at hx
    · rename_i hwr
      rw [← hag t (fun j _ hj hd => by
        have := wrOk_spec.1 hwr j t hj hd rfl
        rw [getD_replicate_false] at this; cases this)] at hx
      obtain ⟨u, hu, hd⟩ := hs.env t x hx
      exact ⟨u, hu, (Keeps.drew1 w φ I).den hd⟩
    · cases hx
end
attribute [go_sem] vh List.drop List.take
end Go.AL
