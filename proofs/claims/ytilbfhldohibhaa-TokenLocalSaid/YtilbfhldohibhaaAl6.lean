import Derived.Test.YtilbfhldohibhaaAl5
set_option linter.unusedSimpArgs false
set_option linter.unusedVariables false
set_option linter.unnecessarySimpa false
namespace Go.AL
open Go

/-! ## Changes of the state -/
def upd (φ : Phi) (b : Nat) (p : Option Nat) : Phi := fun i => if i = b then some p else φ i

def hset : Heap → Nat → Ob → Heap
  | [], _, _ => []
  | (j, x) :: r, i, o => bif Nat.beq j i then (j, o) :: r else (j, x) :: hset r i o

theorem lk_hset_same : ∀ (H : Heap) (b : Nat) (o : Ob) {x : Ob}, lk H b = some x → lk (hset H b o) b = some o
  | [], _, _, _, h => by simp [lk] at h
  | (j, y) :: r, b, o, x, h => by
    simp only [lk, hset] at h ⊢
    cases hb : Nat.beq j b with
    | true => simp [lk, hb]
    | false =>
      rw [hb] at h
      simp only [cond_false] at h
      simp only [cond_false, lk, hb]
      exact lk_hset_same r b o h
theorem lk_hset_other : ∀ (H : Heap) (b b' : Nat) (o : Ob), b' ≠ b → lk (hset H b o) b' = lk H b'
  | [], _, _, _, _ => rfl
  | (j, y) :: r, b, b', o, hne => by
    simp only [hset]
    cases hb : Nat.beq j b with
    | true =>
      have hj := Nat.eq_of_beq_eq_true hb
      subst hj
      have : Nat.beq j b' = false := by
        cases hq : Nat.beq j b' with
        | false => rfl
        | true => exact absurd (Nat.eq_of_beq_eq_true hq).symm hne
      simp [lk, this]
    | false =>
      simp only [cond_false, lk]
      rw [lk_hset_other r b b' o hne]

def nid : Heap → Nat
  | [] => 0
  | (j, _) :: r => bif Nat.ble (nid r) j then j + 1 else nid r

theorem nid_gt : ∀ (H : Heap) (b : Nat) (o : Ob), lk H b = some o → b < nid H
  | [], _, _, h => by simp [lk] at h
  | (j, y) :: r, b, o, h => by
    simp only [lk, nid] at h ⊢
    cases hb : Nat.beq j b with
    | true =>
      have hj := Nat.eq_of_beq_eq_true hb
      subst hj
      cases hq : Nat.ble (nid r) j with
      | true => simp
      | false => simp only [cond_false]; have : ¬ nid r ≤ j := fun h => by rw [Nat.ble_eq_true_of_le h] at hq; cases hq
                 omega
    | false =>
      rw [hb] at h
      simp only [cond_false] at h
      have := nid_gt r b o h
      cases hq : Nat.ble (nid r) j with
      | true => simp only [cond_true]; have := Nat.le_of_ble_eq_true hq; omega
      | false => simpa using this
def nidx (nb : Nat) (H : Heap) : Nat := bif Nat.ble nb (nid H) then nid H else nb
theorem nidx_ge (nb : Nat) (H : Heap) : nb ≤ nidx nb H ∧ nid H ≤ nidx nb H := by
  unfold nidx
  cases h : Nat.ble nb (nid H) with
  | true => have := Nat.le_of_ble_eq_true h; simpa using this
  | false =>
    have : ¬ nb ≤ nid H := fun h' => by rw [Nat.ble_eq_true_of_le h'] at h; cases h
    simp only [cond_false]; omega
theorem nid_fresh (nb : Nat) (H : Heap) : lk H (nidx nb H) = none := by
  cases h : lk H (nidx nb H) with
  | none => rfl
  | some o => have := nid_gt H _ o h; have := (nidx_ge nb H).2; omega

section
variable {B : Bs} {w : World} {φ : Phi} {I : Nat → Prop} {H : Heap}

theorem ext_alloc (o' : Nat → Prop) (w : World) (o : Obj) : Ext o' w (w.alloc o) :=
  ⟨by simp, fun g hg _ => heap_alloc_old w o hg, fun g c e fz h => ⟨c, (heap_alloc_old w o (by
      rcases Nat.lt_or_ge g w.heap.size with h' | h'
      · exact h'
      · rw [Array.getElem?_eq_none h'] at h; cases h)).trans h, rfl⟩, rfl, rfl, rfl⟩

theorem Ob.at_mono {w' : World} {φ φ' : Phi} {I I' : Nat → Prop} (hw : ∀ g, I g → w'.heap[g]? = w.heap[g]?) (hI : ∀ g, I g → I' g) (hφ : ∀ b p, φ b = some p → φ' b = some p)
    (hs : ∀ g n, shaped w g n → shaped w' g n) {o : Ob} {p : Option Nat} (hp : ∀ g, p = some g → w'.heap[g]? = w.heap[g]?) (h : o.at w φ I p) : o.at w' φ' I' p := by
  cases o with
  | var e cs =>
    simp only [Ob.at] at h ⊢
    obtain ⟨g, us, rfl, h2, h3, h4⟩ := h
    exact ⟨g, us, rfl, (hp g rfl).trans h2, AV.dens_mono hw hI hφ hs cs us h3, h4⟩
  | vec e es rows =>
    simp only [Ob.at] at h ⊢
    rcases h with h | ⟨g, vss, rest, rfl, h2, h3, h4⟩
    · exact .inl h
    · exact .inr ⟨g, vss, rest, rfl, (hp g rfl).trans h2, IV.denss_mono hw hI rows vss h3, h4⟩

/-- What any change keeps of the slots. -/
structure Keeps (w : World) (φ : Phi) (I : Nat → Prop) (w' : World) (φ' : Phi) (I' : Nat → Prop) : Prop where
  im : ∀ g, I g → w'.heap[g]? = w.heap[g]?
  I : ∀ g, I g → I' g
  phi : ∀ b p, φ b = some p → φ' b = some p
  sh : ∀ g n, shaped w g n → shaped w' g n

theorem Keeps.den {w' : World} {φ' : Phi} {I' : Nat → Prop} (k : Keeps w φ I w' φ' I') {x : AV} {u : Value} (h : AV.den w φ I x u) : AV.den w' φ' I' x u := AV.den_mono k.im k.I k.phi k.sh x u h
theorem Keeps.refl (w : World) (φ : Phi) (I : Nat → Prop) : Keeps w φ I w φ I := ⟨fun _ _ => rfl, fun _ h => h, fun _ _ h => h, fun _ _ h => h⟩

/-- A new block that the function owns. -/
theorem St.alloc_own (h : St B φ I H w) {b : Nat} (hb : lk H b = none) (hnb0 : B.nb ≤ b) {cs : Array Value} {e : TypeId} {o : Ob}
    (ho : o.at (w.alloc (.cells cs e)) (upd φ b (some w.heap.size)) I (some w.heap.size)) :
    St B (upd φ b (some w.heap.size)) I ((b, o) :: H) (w.alloc (.cells cs e)) ∧ Keeps w φ I (w.alloc (.cells cs e)) (upd φ b (some w.heap.size)) I := by
  have hnb : φ b = none := by
    have := h.real.dom b
    rw [hb] at this
    cases hφ : φ b with
    | none => rfl
    | some x => rw [hφ] at this; cases this
  have k : Keeps w φ I (w.alloc (.cells cs e)) (upd φ b (some w.heap.size)) I := by
    refine ⟨fun g hg => heap_alloc_old w _ (h.real.imm g hg), fun _ h => h, fun b' p hp => ?_, fun g n hs => (ext_alloc (fun _ => False) w _).shaped hs⟩
    unfold upd
    rw [if_neg (by intro e; subst e; rw [hnb] at hp; cases hp)]
    exact hp
  refine ⟨⟨⟨fun b' => ?_, fun b' o' p hl hp => ?_, fun b' g hp => ?_, fun b1 b2 g h1 h2 => ?_, fun g hg => ?_⟩, h.ext.trans (ext_alloc (fun _ => False) w _) (fun g hf => hf.elim), fun b' g hp => ?_, h.immx, h.immo, fun b' g el cs' hlt h0 hl => ?_⟩, k⟩
  · simp only [upd, lk]
    by_cases hbb : b' = b
    · subst hbb; simp
    · rw [if_neg hbb]
      have : Nat.beq b b' = false := by
        cases hq : Nat.beq b b' with
        | false => rfl
        | true => exact absurd (Nat.eq_of_beq_eq_true hq).symm hbb
      rw [this]
      exact h.real.dom b'
  · by_cases hbb : b' = b
    · subst hbb
      simp only [upd, if_true, Option.some.injEq] at hp
      subst hp
      simp [lk] at hl
      subst hl
      exact ho
    · have hq : Nat.beq b b' = false := by
        cases hq : Nat.beq b b' with
        | false => rfl
        | true => exact absurd (Nat.eq_of_beq_eq_true hq).symm hbb
      simp only [lk, hq, cond_false] at hl
      simp only [upd, if_neg hbb] at hp
      refine Ob.at_mono k.im k.I k.phi k.sh (fun g hg => ?_) (h.real.own b' o' p hl hp)
      subst hg
      exact heap_alloc_old w _ (h.real.off b' g hp).2
  · by_cases hbb : b' = b
    · subst hbb
      simp only [upd, if_true, Option.some.injEq] at hp
      subst hp
      exact ⟨fun hi => absurd (h.real.imm _ hi) (by omega), by simp⟩
    · simp only [upd, if_neg hbb] at hp
      have := h.real.off b' g hp
      exact ⟨this.1, by simp; omega⟩
  · by_cases e1 : b1 = b <;> by_cases e2 : b2 = b
    · rw [e1, e2]
    · subst e1
      simp only [upd, if_true, Option.some.injEq] at h1
      subst h1
      simp only [upd, if_neg e2] at h2
      exact absurd (h.real.off b2 _ h2).2 (by omega)
    · subst e2
      simp only [upd, if_true, Option.some.injEq] at h2
      subst h2
      simp only [upd, if_neg e1] at h1
      exact absurd (h.real.off b1 _ h1).2 (by omega)
    · simp only [upd, if_neg e1] at h1
      simp only [upd, if_neg e2] at h2
      exact h.real.inj b1 b2 g h1 h2
  · have := h.real.imm g hg
    simp; omega
  · by_cases hbb : b' = b
    · subst hbb
      simp only [upd, if_true, Option.some.injEq] at hp
      subst hp
      exact .inr h.ext.size
    · simp only [upd, if_neg hbb] at hp
      exact h.ownx b' g hp
  · have hbb : b' ≠ b := by omega
    have hq : Nat.beq b b' = false := by
      cases hq : Nat.beq b b' with
      | false => rfl
      | true => exact absurd (Nat.eq_of_beq_eq_true hq).symm hbb
    simp only [lk, hq, cond_false] at hl
    simp only [upd, if_neg hbb]
    exact h.phx b' g el cs' hlt h0 hl

/-- A new block that nobody will change. -/
theorem St.alloc_im (h : St B φ I H w) (cs : Array Value) (e : TypeId) :
    St B φ (fun g => I g ∨ g = w.heap.size) H (w.alloc (.cells cs e)) ∧ Keeps w φ I (w.alloc (.cells cs e)) φ (fun g => I g ∨ g = w.heap.size) := by
  have k : Keeps w φ I (w.alloc (.cells cs e)) φ (fun g => I g ∨ g = w.heap.size) :=
    ⟨fun g hg => heap_alloc_old w _ (h.real.imm g hg), fun _ h => .inl h, fun _ _ h => h, fun g n hs => (ext_alloc (fun _ => False) w _).shaped hs⟩
  refine ⟨⟨⟨h.real.dom, fun b' o' p hl hp => ?_, fun b' g hp => ?_, h.real.inj, fun g hg => ?_⟩, h.ext.trans (ext_alloc (fun _ => False) w _) (fun g hf => hf.elim), h.ownx, fun g hg => ?_, fun g hg => .inl (h.immo g hg), h.phx⟩, k⟩
  · refine Ob.at_mono k.im k.I k.phi k.sh (fun g hg => ?_) (h.real.own b' o' p hl hp)
    subst hg
    exact heap_alloc_old w _ (h.real.off b' g hp).2
  · have := h.real.off b' g hp
    exact ⟨fun hi => hi.elim this.1 (by omega), by simp; omega⟩
  · rcases hg with hg | rfl
    · have := h.real.imm g hg; simp; omega
    · simp
  · rcases hg with hg | rfl
    · exact h.immx g hg
    · exact .inr (.inr h.ext.size)

/-- A block that the function owns gets other cells. -/
theorem St.write (h : St B φ I H w) {b g : Nat} {o o' : Ob} (hl : lk H b = some o) (hg : φ b = some (some g)) {cur cs : Array Value} {e : TypeId} (hc : w.heap[g]? = some (.cells cur e (0, 0))) (hsz : cs.size = cur.size)
    (hk : ∀ el cs, o' = .var el cs → ∃ el' cs', o = .var el' cs') (ho : o'.at (w.setRow g cs) φ I (some g)) :
    St B φ I (hset H b o') (w.setRow g cs) ∧ Keeps w φ I (w.setRow g cs) φ I := by
  have hform : ∀ (g' : Nat) (c : Array Value) (e' : TypeId) (fz : Nat × Nat), w.heap[g']? = some (Obj.cells c e' fz) → ∃ c' : Array Value, (w.setRow g cs).heap[g']? = some (Obj.cells c' e' fz) ∧ c'.size = c.size := by
    intro g' c e' fz hc'
    by_cases hgg : g' = g
    · subst hgg
      rw [hc] at hc'
      cases hc'
      exact ⟨cs, setRow_heap w g' cur cs e (0, 0) hc, hsz⟩
    · exact ⟨c, (setRow_other w g g' cs hgg).trans hc', rfl⟩
  have hext : Ext (fun x => x = g) w (w.setRow g cs) :=
    ⟨by simp, fun g' _ hn => setRow_other w g g' cs hn, hform, rfl, rfl, rfl⟩
  have k : Keeps w φ I (w.setRow g cs) φ I :=
    ⟨fun g' hg' => setRow_other w g g' cs (fun e => by subst e; exact (h.real.off b g' hg).1 hg'), fun _ h => h, fun _ _ h => h, fun _ _ hs => hext.shaped hs⟩
  refine ⟨⟨⟨fun b' => ?_, fun b' o1 p hl' hp => ?_, fun b' g' hp => ?_, h.real.inj, fun g' hg' => ?_⟩, h.ext.trans hext (fun g' hg' => ?_), h.ownx, h.immx, h.immo, fun b' g' el cs' hlt h0 hl' => ?_⟩, k⟩
  · by_cases hbb : b' = b
    · subst hbb
      rw [lk_hset_same H b' o' hl, hg]; rfl
    · rw [lk_hset_other H b b' o' hbb]; exact h.real.dom b'
  · by_cases hbb : b' = b
    · subst hbb
      rw [lk_hset_same H b' o' hl] at hl'
      cases hl'
      rw [hg] at hp
      cases hp
      exact ho
    · rw [lk_hset_other H b b' o' hbb] at hl'
      refine Ob.at_mono k.im k.I k.phi k.sh (fun g' hg' => ?_) (h.real.own b' o1 p hl' hp)
      subst hg'
      exact setRow_other w g g' cs (fun e => hbb (h.real.inj b' b g' hp (by rw [e]; exact hg)))
  · have := h.real.off b' g' hp
    exact ⟨this.1, by simpa using this.2⟩
  · have := h.real.imm g' hg'
    simpa using this
  · subst hg'
    exact h.ownx b g' hg
  · by_cases hbb : b' = b
    · subst hbb
      rw [lk_hset_same H b' o' hl] at hl'
      cases hl'
      obtain ⟨el', cs'', rfl⟩ := hk _ _ rfl
      exact h.phx b' g' el' cs'' hlt h0 hl
    · rw [lk_hset_other H b b' o' hbb] at hl'
      exact h.phx b' g' el cs' hlt h0 hl'
end

/-! ## Operations that change the heap -/
def imOf : List AV → Option (List IV)
  | [] => some []
  | .im x :: r => match imOf r with
    | some l => some (x :: l)
    | none => none
  | _ :: _ => none

/-- the cells of a value, all of them immutable -/
def imCells : AV → Option (List IV)
  | .ar cs => some cs
  | a => match cellsOfAV a with
    | some ys => imOf ys
    | none => none

def rowsOf (E : Env) (es : Nat) : Nat → List (Nat × Operand) → Option (List (List IV))
  | _, [] => some []
  | k, (i, x) :: r => bif Nat.beq i k then match ev E x with
    | some a => match imCells a, rowsOf E es (k + 1) r with
      | some c, some l => bif Nat.beq c.length es then some (c :: l) else none
      | _, _ => none
    | none => none
    else none

def inL : List Nat → Nat → Bool
  | [], _ => false
  | j :: r, i => bif Nat.beq j i then true else inL r i
def inO (l : List Nat) : Option Nat → Bool
  | some d => inL l d
  | none => false

def setRowI (row : List IV) (j : Nat) (c : List IV) : List IV := row.take j ++ c ++ row.drop (j + c.length)

/-- what is made: the new value, the new own block if there is one -/
def aeff (P : Program) (nb : Nat) (obl : List Nat) (E : Env) (H : Heap) (o : Oper) : Option (Prop × AV × Heap) :=
  match o.op with
  | .alloc t => match zro P t with
    | some z => bif z.all Value.oneCell' then match tk P t with
      | .arr _ e => bif decide (sz P e = some 1) then some (True, .ob (nidx nb H) 0, (nidx nb H, .vec t 1 (z.map fun c => [.v c])) :: H) else some (True, .ob (nidx nb H) 0, (nidx nb H, .var t (z.map fun c => .im (.v c))) :: H)
      | _ => some (True, .ob (nidx nb H) 0, (nidx nb H, .var t (z.map fun c => .im (.v c))) :: H)
      else none
    | none => none
  | .box t x => match ev E x with
    | some a => bif inO obl o.dst then match cellsOfAV a with
        | some ys => some (True, .ob (nidx nb H) 0, (nidx nb H, .var t ys) :: H)
        | none => none
      else match imCells a with
        | some cs => some (True, .im (.pt cs), H)
        | none => none
    | none => none
  | .buildSlice t len parts => match tk P t with
    | .slice e => match len with
      | 0 => match sz P e, parts.toList with
        | some es, [] => some (True, .os (nidx nb H) es 0 0, (nidx nb H, .vec e es []) :: H)
        | _, _ => none
      | k + 1 => match sz P e, zro P e with
        | some (es + 1), some z => bif Nat.beq parts.toList.length (k + 1) && Nat.beq z.length (es + 1) && Nat.ble ((k + 1) * (es + 1)) 16777216 then match rowsOf E (es + 1) 0 parts.toList with
          | some rows => bif inO obl o.dst then some (True, .os (nidx nb H) (es + 1) 0 (k + 1), (nidx nb H, .vec e (es + 1) rows) :: H) else some (True, .im (.sl (es + 1) rows), H)
          | none => none
          else none
        | _, _ => none
    | _ => none
  | .store t p x => match ev E p, ev E x, sz P t with
    | some (.ob b off), some a, some n => match lk H b with
      | some (.var el cs) => match cellsOfAV a with
        | some ys => bif Nat.beq ys.length n then some (off + n ≤ cs.length, .top, hset H b (.var el (setAt cs off ys))) else none
        | none => none
      | some (.vec el 1 rows) => match a with
        | .ar cs => bif Nat.beq off 0 then some (cs.length = n ∧ rows.length = n, .top, hset H b (.vec el 1 (cs.map fun c => [c]))) else none
        | _ => none
      | _ => none
    | some (.oe b es i j), some a, some n => match lk H b, imCells a with
      | some (.vec el es' rows), some c => bif Nat.beq es es' && Nat.beq c.length n then some (i < rows.length ∧ j + n ≤ es, .top, hset H b (.vec el es' (rows.set i (setRowI (rows.getD i []) j c)))) else none
      | _, _ => none
    | _, _, _ => none
  | _ => none
end Go.AL
