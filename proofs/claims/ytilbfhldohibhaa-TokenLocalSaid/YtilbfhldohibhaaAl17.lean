import Derived.Test.YtilbfhldohibhaaAl16
import Derived.Below
set_option linter.unusedSimpArgs false
set_option linter.unusedVariables false
set_option linter.unnecessarySimpa false
namespace Go.AL
open Go

section
variable {C : Cx} {K : List PK} {E : Env} {H : Heap}

/-- What the function still owns is forgotten. -/
theorem St.drop {B : Bs} {φ : Phi} {I : Nat → Prop} {w : World} (h : St B φ I H w) : St B (fun _ => none) I [] w :=
  ⟨real_none h.real, h.ext, fun b g hg => (by cases hg), h.immx, h.immo, fun b g el cs _ _ hl => by simp [lk] at hl⟩

theorem AE.ret0 {sc : Prop} {xs : List AV} (h : resAV C.P E H C.fn.results.toList = some (sc, xs)) (hsc : sc) (hf : (tupOf xs).free = true) (hR : C.R (tupOf xs) []) : AE C .ret [] E H := by
  unfold AE
  intro φ I a w hs
  obtain ⟨v, hv, hd⟩ := results_run hs.env hs.st.real h hsc
  exact ⟨hs.dfr, v, hv, tupOf xs, [], fun _ => none, I, v, hR, rfl, AV.free_den _ _ hf hd, hs.st.drop⟩

/-- A nil slice as a row of one's own. -/
theorem St.own_nil {B : Bs} {φ : Phi} {I : Nat → Prop} {w : World} (h : St B φ I H w) {b : Nat} (hb : lk H b = none) (hnb0 : B.nb ≤ b) (el : TypeId) (es : Nat) :
    St B (upd φ b none) I ((b, .vec el es []) :: H) w ∧ Keeps w φ I w (upd φ b none) I := by
  have hnb : φ b = none := by
    have := h.real.dom b
    rw [hb] at this
    cases hφ : φ b with
    | none => rfl
    | some x => rw [hφ] at this; cases this
  have k : Keeps w φ I w (upd φ b none) I := by
    refine ⟨fun g hg => rfl, fun _ h => h, fun b' p hp => ?_, fun g n hs => hs⟩
    unfold upd
    rw [if_neg (by intro e; subst e; rw [hnb] at hp; cases hp)]
    exact hp
  have nq : ∀ b', b' ≠ b → Nat.beq b b' = false := fun b' hbb => by
    cases hq : Nat.beq b b' with
    | false => rfl
    | true => exact absurd (Nat.eq_of_beq_eq_true hq).symm hbb
  refine ⟨⟨⟨fun b' => ?_, fun b' o' p hl hp => ?_, fun b' g hp => ?_, fun b1 b2 g h1 h2 => ?_, h.real.imm⟩, h.ext, fun b' g hp => ?_, h.immx, h.immo, fun b' g el cs' hlt h0 hl => ?_⟩, k⟩
  · simp only [upd, lk]
    by_cases hbb : b' = b
    · subst hbb; simp
    · rw [if_neg hbb, nq b' hbb]
      exact h.real.dom b'
  · by_cases hbb : b' = b
    · subst hbb
      simp only [upd, if_true, Option.some.injEq] at hp
      subst hp
      simp [lk] at hl
      subst hl
      exact .inl ⟨rfl, rfl⟩
    · simp only [lk, nq b' hbb, cond_false] at hl
      simp only [upd, if_neg hbb] at hp
      exact Ob.at_mono k.im k.I k.phi k.sh (fun g hg => rfl) (h.real.own b' o' p hl hp)
  · by_cases hbb : b' = b
    · subst hbb; simp [upd] at hp
    · simp only [upd, if_neg hbb] at hp
      exact h.real.off b' g hp
  · by_cases e1 : b1 = b
    · subst e1; simp [upd] at h1
    · by_cases e2 : b2 = b
      · subst e2; simp [upd] at h2
      · simp only [upd, if_neg e1] at h1
        simp only [upd, if_neg e2] at h2
        exact h.real.inj b1 b2 g h1 h2
  · by_cases hbb : b' = b
    · subst hbb; simp [upd] at hp
    · simp only [upd, if_neg hbb] at hp
      exact h.ownx b' g hp
  · have hbb : b' ≠ b := by omega
    simp only [lk, nq b' hbb, cond_false] at hl
    simp only [upd, if_neg hbb]
    exact h.phx b' g el cs' hlt h0 hl

theorem Sim.own_nil {φ : Phi} {I : Nat → Prop} {a : Act} {w : World} (h : Sim C φ I E H a w) {t : Nat} (ht : lk E t = some (.im (.v (.slice none 0 0)))) (el : TypeId) (es : Nat) :
    Sim C (upd φ (nidx C.B.nb H) none) I ((t, .os (nidx C.B.nb H) es 0 0) :: E) ((nidx C.B.nb H, .vec el es []) :: H) a w := by
  obtain ⟨hS, hk⟩ := h.st.own_nil (nid_fresh C.B.nb H) (nidx_ge C.B.nb H).1 el es
  refine ⟨h.dfr, h.siz, fun i x hx => ?_, hS⟩
  simp only [lk] at hx
  cases hb : Nat.beq t i with
  | true =>
    rw [hb] at hx
    have := Nat.eq_of_beq_eq_true hb
    subst this
    simp only [cond_true, Option.some.injEq] at hx
    subst hx
    obtain ⟨u, hu, hd⟩ := h.env t _ ht
    refine ⟨u, hu, ?_⟩
    simp only [AV.den, IV.den] at hd ⊢
    exact .inl ⟨by simp [upd], trivial, trivial, hd.1⟩
  | false =>
    rw [hb] at hx
    obtain ⟨u, hu, hd⟩ := h.env i x hx
    exact ⟨u, hu, hk.den hd⟩

theorem AE.own {e : Exit} (t : Nat) (el : TypeId) (es : Nat) (ht : lk E t = some (.im (.v (.slice none 0 0)))) (h : AE C e K ((t, .os (nidx C.B.nb H) es 0 0) :: E) ((nidx C.B.nb H, .vec el es []) :: H)) : AE C e K E H := by
  unfold AE at h ⊢
  exact fun φ I a w hs => h _ I a w (hs.own_nil ht el es)
theorem AP.own {p : List Nat} (t : Nat) (el : TypeId) (es : Nat) (ht : lk E t = some (.im (.v (.slice none 0 0)))) (h : AP C p K ((t, .os (nidx C.B.nb H) es 0 0) :: E) ((nidx C.B.nb H, .vec el es []) :: H)) : AP C p K E H := by
  unfold AP at h ⊢
  exact fun φ I a w hs => h _ I a w (hs.own_nil ht el es)
theorem AP.freeze {p : List Nat} (b : Nat) {el : TypeId} {es : Nat} {rows : List (List IV)} (hl : lk H b = some (.vec el es rows)) (hC : frzHC b rows H) (hEC : frzEC b rows E) (h : AP C p K (frzE b es rows E) (frzH b es rows H)) : AP C p K E H := by
  unfold AP at h ⊢
  intro φ I a w hs
  obtain ⟨φ', I', hs'⟩ := hs.freeze hl hEC hC
  exact h φ' I' a w hs'
end

/-- A contract of the kit's own make, as a rule here. -/
theorem PFn.of_below {P : Program} {f : FuncId} {args : List AV} {r : AV} (he : enters P f = true) (hr : r.free = true)
    (h : ∀ (w : World) (φ : Phi) (I : Nat → Prop) (vs : List Value), AV.dens w φ I args vs → (∀ g, I g → g < w.heap.size) →
      Calls P f vs.toArray w fun e w' => ∃ v, e = .returned v ∧ AV.den w' φ I r v ∧ Go.RowKit.Below w.heap.size w w') : PFn P f args r := by
  refine ⟨he, fun w φ I vs hd hR => (h w φ I vs hd hR.imm).mono fun e w' ⟨v, he, hv, hb⟩ => ?_⟩
  refine ⟨r, [], fun _ => none, I, v, ⟨rfl, rfl⟩, he, AV.free_den _ _ hr hv, ?_⟩
  have hx : Ext (ownB φ) w w' := by
    refine ⟨hb.size, fun g hg _ => hb.block g hg, fun g c e fz hc => ?_, hb.os, hb.tape, hb.output⟩
    have hlt : g < w.heap.size := by
      rcases Nat.lt_or_ge g w.heap.size with h | h
      · exact h
      · rw [Array.getElem?_eq_none h] at hc; cases hc
    exact ⟨c, (hb.block g hlt).trans hc, rfl⟩
  refine ⟨⟨fun b => rfl, fun b o p hl => (by simp [lk] at hl), fun b g hp => (by cases hp), fun b b' g hp => (by cases hp), fun g hg => Nat.lt_of_lt_of_le (hR.imm g hg) hb.size⟩, hx, fun b g hg => (by cases hg), fun g hg => .inl hg, fun g hg => hg, fun b g el cs _ _ hl => by simp [lk] at hl⟩

theorem vq_id {C : Cx} {K : List PK} {os : List Oper} {ds : List (Nat × Nat)} {i : Nat} {E : Env} {H : Heap} (h : vq C K os ds i E H) : vq C K os ds i E H := h

/-! ## Rows of numbers -/
def upto (n : Nat) : List Nat := List.range n
theorem upto_mem {n j : Nat} : j ∈ upto n ↔ j < n := List.mem_range
theorem upto_len (n : Nat) : (upto n).length = n := List.length_range
theorem upto_get {n j : Nat} (h : j < (upto n).length) : (upto n)[j] = j := List.getElem_range h
def rowsF (k : IntKind) (n : Nat) (f : Nat → Int) : List (List IV) := (upto n).map fun j => [.v (.int k (f j))]
def colF (k : IntKind) (n : Nat) (f : Nat → Int) : List IV := (upto n).map fun j => .v (.int k (f j))
theorem rowsF_len (k : IntKind) (n : Nat) (f : Nat → Int) : (rowsF k n f).length = n := by simp [rowsF, upto_len]
theorem colF_len (k : IntKind) (n : Nat) (f : Nat → Int) : (colF k n f).length = n := by simp [colF, upto_len]
theorem rowsF_flat (k : IntKind) (n : Nat) (f : Nat → Int) : (rowsF k n f).flatten = colF k n f := by
  unfold rowsF colF
  induction upto n with
  | nil => rfl
  | cons n l ih => simp [ih]
theorem colF_rows (k : IntKind) (n : Nat) (f : Nat → Int) : (colF k n f).map (fun c => [c]) = rowsF k n f := by
  simp [colF, rowsF, Function.comp_def]
theorem rowsF_get (k : IntKind) {n i : Nat} (f : Nat → Int) (hi : i < n) : (rowsF k n f).getD i [] = [.v (.int k (f i))] := by
  unfold rowsF
  have : i < (upto n).length := by rw [upto_len]; exact hi
  simp [List.getD_eq_getElem?_getD, this, upto_get]
theorem colF_get (k : IntKind) {n i : Nat} (f : Nat → Int) (d : IV) (hi : i < n) : (colF k n f).getD i d = .v (.int k (f i)) := by
  unfold colF
  have : i < (upto n).length := by rw [upto_len]; exact hi
  simp [List.getD_eq_getElem?_getD, this, upto_get]
theorem rowsF_set (k : IntKind) {n i : Nat} (f g : Nat → Int) (x : Int) (h : ∀ j, j < n → g j = if j = i then x else f j) : (rowsF k n f).set i [.v (.int k x)] = rowsF k n g := by
  unfold rowsF
  apply List.ext_getElem
  · simp
  · intro j h1 h2
    have hj : j < n := by simpa [upto_len] using h2
    rw [List.getElem_set]
    simp only [List.getElem_map, upto_get, h j hj]
    by_cases hij : i = j
    · subst hij; simp
    · have : ¬ j = i := fun e => hij e.symm
      simp [hij, this]
theorem rowsF_congr (k : IntKind) {n : Nat} (f g : Nat → Int) (h : ∀ j, j < n → g j = f j) : rowsF k n f = rowsF k n g := by
  unfold rowsF
  apply List.map_congr_left
  intro j hj
  rw [h j (upto_mem.1 hj)]
theorem colF_congr (k : IntKind) {n : Nat} (f g : Nat → Int) (h : ∀ j, j < n → g j = f j) : colF k n f = colF k n g := by
  unfold colF
  apply List.map_congr_left
  intro j hj
  rw [h j (upto_mem.1 hj)]
theorem rowsF_zero (k : IntKind) (n : Nat) : (List.replicate n (Value.int k 0)).map (fun c => [IV.v c]) = rowsF k n (fun _ => 0) := by
  unfold rowsF
  apply List.ext_getElem
  · simp [upto_len]
  · intro j h1 h2; simp
theorem all_int (k : IntKind) (n : Nat) (x : Int) : (List.replicate n (Value.int k x)).all Value.oneCell' = true := by
  rw [List.all_eq_true]; intro v hv; rw [List.eq_of_mem_replicate hv]; rfl
attribute [go_sem] all_int rowsF_zero rowsF_len rowsF_flat colF_len colF_rows List.nil_append List.cons_append List.length_cons List.length_nil Nat.zero_add
end Go.AL
namespace Go.AL
section
variable {C : Cx} {K : List PK} {E : Env} {H : Heap}
/-- A nil slice as a slice of nothing. -/
theorem Sim.nilsl {φ : Phi} {I : Nat → Prop} {a : Act} {w : World} (h : Sim C φ I E H a w) {t : Nat} (ht : lk E t = some (.im (.v (.slice none 0 0)))) (es : Nat) : Sim C φ I ((t, .im (.sl es [])) :: E) H a w := by
  refine ⟨h.dfr, h.siz, fun i x hx => ?_, h.st⟩
  simp only [lk] at hx
  cases hb : Nat.beq t i with
  | true =>
    rw [hb] at hx
    have := Nat.eq_of_beq_eq_true hb
    subst this
    simp only [cond_true, Option.some.injEq] at hx
    subst hx
    obtain ⟨u, hu, hd⟩ := h.env t _ ht
    refine ⟨u, hu, ?_⟩
    simp only [AV.den, IV.den] at hd ⊢
    exact ⟨none, 0, [], by rw [hd.1]; rfl, by simp, by simp only [IV.denss], by simp, fun e => absurd rfl e⟩
  | false =>
    rw [hb] at hx
    exact h.env i x hx
theorem AE.nilsl {e : Exit} (t : Nat) (es : Nat) (ht : lk E t = some (.im (.v (.slice none 0 0)))) (h : AE C e K ((t, .im (.sl es [])) :: E) H) : AE C e K E H := by
  unfold AE at h ⊢
  exact fun φ I a w hs => h φ I a w (hs.nilsl ht es)
theorem AP.nilsl {p : List Nat} (t : Nat) (es : Nat) (ht : lk E t = some (.im (.v (.slice none 0 0)))) (h : AP C p K ((t, .im (.sl es [])) :: E) H) : AP C p K E H := by
  unfold AP at h ⊢
  exact fun φ I a w hs => h φ I a w (hs.nilsl ht es)
end
attribute [go_sem] Int.toNat_natCast_add_one
end Go.AL
namespace Go.AL
theorem typed_str {P : Program} {n : Nat} {t : TypeId} {xs : List IV} (ht : P.underlying t = some .string) (h : Typed P n t xs) : ∃ s : ByteArray, xs = [.v (.string s)] ∧ s.size ≤ maxLen := by
  cases n with
  | zero => exact h.elim
  | succ n => simpa only [Typed, ht] using h
theorem typed_bool {P : Program} {n : Nat} {t : TypeId} {xs : List IV} (ht : P.underlying t = some .bool) (h : Typed P n t xs) : ∃ b, xs = [.v (.bool b)] := by
  cases n with
  | zero => exact h.elim
  | succ n => simpa only [Typed, ht] using h
theorem typed_int {P : Program} {n : Nat} {t : TypeId} {k : IntKind} {xs : List IV} (ht : P.underlying t = some (.int k)) (h : Typed P n t xs) : ∃ i, xs = [.v (.int k i)] ∧ (Lit.int k i).wf = true := by
  cases n with
  | zero => exact h.elim
  | succ n => simpa only [Typed, ht] using h
theorem typed_slice {P : Program} {n : Nat} {t e : TypeId} {xs : List IV} (ht : P.underlying t = some (.slice e)) (h : Typed P n t xs) : ∃ rows m, xs = [.sl (P.cellsOf e) rows] ∧ rows.length ≤ maxLen ∧ ∀ r ∈ rows, Typed P m e r := by
  cases n with
  | zero => exact h.elim
  | succ n =>
    simp only [Typed, ht] at h
    obtain ⟨rows, h1, h2, h3⟩ := h
    exact ⟨rows, n, h1, h2, h3⟩
theorem typed_struct {P : Program} {n : Nat} {t : TypeId} {fs : Array Field} {xs : List IV} (ht : P.underlying t = some (.struct fs)) (h : Typed P n t xs) :
    ∃ m, xs.length = P.cellsOf t ∧ ∀ (i : Nat) (f : Field), fs.toList[i]? = some f → Typed P m f.type ((xs.drop f.offset).take (P.cellsOf f.type)) := by
  cases n with
  | zero => exact h.elim
  | succ n =>
    simp only [Typed, ht] at h
    exact ⟨n, h⟩
/-- rows, each of one making -/
theorem rows_of {α : Type} {p : α → Prop} {f : α → List IV} : ∀ (rows : List (List IV)), (∀ r ∈ rows, ∃ a, r = f a ∧ p a) → ∃ l : List α, rows = l.map f ∧ ∀ a ∈ l, p a
  | [], _ => ⟨[], rfl, by simp⟩
  | r :: rows, h => by
    obtain ⟨a, rfl, ha⟩ := h r (by simp)
    obtain ⟨l, rfl, hl⟩ := rows_of rows (fun r hr => h r (by simp [hr]))
    exact ⟨a :: l, rfl, by simpa using ⟨ha, hl⟩⟩
end Go.AL
