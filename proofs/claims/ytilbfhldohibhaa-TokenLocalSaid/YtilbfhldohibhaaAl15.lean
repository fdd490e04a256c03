import Derived.Test.YtilbfhldohibhaaAl14
import Derived.OpenShut
import Derived.WideKeyArgs
import Derived.ChangeSame
import Derived.ProofKit
import Derived.JoinedCond
set_option linter.unusedSimpArgs false
set_option linter.unusedVariables false
set_option linter.unnecessarySimpa false
namespace Go.AL
open Go Go.ChangeShapes Go.WideShapes

/-! ## What came in, as immutable trees -/
def Typed (P : Program) : Nat → TypeId → List IV → Prop
  | 0, _, _ => False
  | n + 1, t, xs => match P.underlying t with
    | some .bool => ∃ b, xs = [.v (.bool b)]
    | some (.int k) => ∃ i, xs = [.v (.int k i)] ∧ (Lit.int k i).wf = true
    | some (.float k) => ∃ b, xs = [.v (.float k b)] ∧ (Lit.float k b).wf = true
    | some .string => ∃ s : ByteArray, xs = [.v (.string s)] ∧ s.size ≤ maxLen
    | some (.pointer e) => xs = [.v (.pointer none)] ∨ ∃ cs, xs = [.pt cs] ∧ Typed P n e cs
    | some (.slice e) => ∃ rows, xs = [.sl (P.cellsOf e) rows] ∧ rows.length ≤ maxLen ∧ ∀ r ∈ rows, Typed P n e r
    | some (.struct fs) => xs.length = P.cellsOf t ∧ ∀ (i : Nat) (f : Field), fs.toList[i]? = some f → Typed P n f.type ((xs.drop f.offset).take (P.cellsOf f.type))
    | some (.array m e) => xs.length = P.cellsOf t ∧ ∀ i, i < m → Typed P n e ((xs.drop (i * P.cellsOf e)).take (P.cellsOf e))
    | _ => False

def kidOk (P : Program) (T : List TypeId) (t : TypeId) : Bool :=
  match P.underlying t with
  | some .bool | some (.int _) | some (.float _) | some .string => P.cellsOf t == 1
  | some (.pointer e) => P.cellsOf t == 1 && T.contains e && P.cellsOf e != 0
  | some (.slice e) => P.cellsOf t == 1 && T.contains e && P.cellsOf e != 0
  | some (.struct fs) => fs.toList.all (fun f => T.contains f.type) && P.cellsOf t == (fs.toList.map fun f => P.cellsOf f.type).sum &&
      (List.range fs.toList.length).all fun j => match fs.toList[j]? with | some f => f.offset == ((fs.toList.take j).map fun f => P.cellsOf f.type).sum | none => true
  | some (.array n e) => T.contains e && P.cellsOf t == n * P.cellsOf e
  | _ => false

theorem dens_append {w : World} {I : Nat → Prop} : ∀ (xs ys : List IV) (us vs : List Value), IV.dens w I xs us → IV.dens w I ys vs → IV.dens w I (xs ++ ys) (us ++ vs)
  | [], _, _, _, h, h' => by simp only [IV.dens] at h; subst h; exact h'
  | x :: xs, ys, us, vs, h, h' => by
    simp only [IV.dens] at h
    obtain ⟨u, us', rfl, h1, h2⟩ := h
    simp only [List.cons_append, IV.dens]
    exact ⟨u, us' ++ vs, rfl, h1, dens_append xs ys us' vs h2 h'⟩
theorem dens_length {w : World} {I : Nat → Prop} : ∀ (xs : List IV) (us : List Value), IV.dens w I xs us → xs.length = us.length
  | [], _, h => by simp only [IV.dens] at h; subst h; rfl
  | x :: xs, us, h => by
    simp only [IV.dens] at h
    obtain ⟨u, us', rfl, _, h2⟩ := h
    simp [dens_length xs us' h2]

theorem pieces {α : Type} {w : World} {I : Nat → Prop} {len : α → Nat} {Q : α → List IV → Prop} : ∀ (l : List α) (cs : List Value), cs.length = (l.map len).sum →
    (∀ j a, l[j]? = some a → ∃ ys, IV.dens w I ys ((cs.drop ((l.take j).map len).sum).take (len a)) ∧ Q a ys) →
    ∃ xs, IV.dens w I xs cs ∧ ∀ j a, l[j]? = some a → Q a ((xs.drop ((l.take j).map len).sum).take (len a))
  | [], cs, hl, _ => by
    have : cs = [] := List.eq_nil_of_length_eq_zero (by simpa using hl)
    subst this
    exact ⟨[], rfl, fun j a h => by simp at h⟩
  | a :: l, cs, hl, h => by
    simp only [List.map_cons, List.sum_cons] at hl
    obtain ⟨ys, h1, h2⟩ := h 0 a rfl
    simp only [List.take_zero, List.map_nil, List.sum_nil, List.drop_zero] at h1
    obtain ⟨xs, h3, h4⟩ := pieces (w := w) (I := I) (len := len) (Q := Q) l (cs.drop (len a)) (by simp; omega) (fun j b hb => by
      obtain ⟨zs, hz, hq⟩ := h (j + 1) b (by simpa using hb)
      refine ⟨zs, ?_, hq⟩
      simpa [List.drop_drop, Nat.add_comm] using hz)
    have hly : ys.length = len a := by
      rw [dens_length _ _ h1]; simp; omega
    refine ⟨ys ++ xs, ?_, fun j b hb => ?_⟩
    · have := dens_append _ _ _ _ h1 h3
      rwa [List.take_append_drop] at this
    · cases j with
      | zero =>
        simp only [List.getElem?_cons_zero, Option.some.injEq] at hb
        subst hb
        simp only [List.take_zero, List.map_nil, List.sum_nil, List.drop_zero]
        rw [← hly, List.take_left]; exact h2
      | succ j =>
        simp only [List.getElem?_cons_succ] at hb
        simp only [List.take_succ_cons, List.map_cons, List.sum_cons]
        rw [← List.drop_drop, ← hly, List.drop_left]
        exact h4 j b hb

theorem listOf {α : Type} {R : Nat → α → Prop} : ∀ (n : Nat), (∀ i, i < n → ∃ a, R i a) → ∃ l : List α, l.length = n ∧ ∀ i a, l[i]? = some a → R i a
  | 0, _ => ⟨[], rfl, fun i a h => by simp at h⟩
  | n + 1, h => by
    obtain ⟨l, hl, hr⟩ := listOf n (fun i hi => h i (by omega))
    obtain ⟨a, ha⟩ := h n (by omega)
    refine ⟨l ++ [a], by simp [hl], fun i b hb => ?_⟩
    rcases Nat.lt_trichotomy i n with hi | hi | hi
    · rw [List.getElem?_append_left (by omega)] at hb; exact hr i b hb
    · subst hi
      rw [List.getElem?_append_right (by omega), hl] at hb
      simp at hb; subst hb; exact ha
    · rw [List.getElem?_eq_none (by simp; omega)] at hb; cases hb

theorem rowsAt {w : World} {g es : Nat} : ∀ (vss : List (List Value)) (off : Nat), (∀ i vs, vss[i]? = some vs → vs.length = es ∧ cellsAt w g (off + i * es) vs) → cellsAt w g off vss.flatten
  | [], _, _ => fun j u h => by simp at h
  | vs :: vss, off, h => by
    obtain ⟨hl, h0⟩ := h 0 vs rfl
    simp only [Nat.zero_mul, Nat.add_zero] at h0
    have hr := rowsAt vss (off + es) (fun i us hu => by
      obtain ⟨h1, h2⟩ := h (i + 1) us (by simpa using hu)
      refine ⟨h1, ?_⟩
      rw [Nat.add_assoc, Nat.add_comm es, ← Nat.succ_mul]; exact h2)
    intro j u hu
    rw [List.flatten_cons] at hu
    rcases Nat.lt_or_ge j es with hj | hj
    · rw [List.getElem?_append_left (by omega)] at hu
      exact h0 j u hu
    · rw [List.getElem?_append_right (by omega), hl] at hu
      have := hr (j - es) u hu
      rwa [Nat.add_assoc, Nat.add_sub_cancel' hj] at this

theorem cells_at {w : World} {b n : Nat} {a : Addr} {cs : List Value} (h : w.cells? b a n = some cs) :
    cs.length = n ∧ ∀ (i : Nat) u, cs[i]? = some u → w.cell? (a.add i) = some u := by
  obtain ⟨_, h1, h2⟩ := World.cells?_some h
  refine ⟨h1, fun i u hu => ?_⟩
  rw [h2 i (by rw [← h1]; exact (List.getElem?_eq_some_iff.1 hu).1)]
  exact hu

theorem cells_block {w : World} {b n : Nat} {a : Addr} {cs : List Value} (h : w.cells? b a n = some cs) (hn : 0 < n) :
    a = ⟨a.block, a.off, none⟩ ∧ a.block < w.heap.size ∧ cellsAt w a.block a.off cs := by
  obtain ⟨hl, hc⟩ := cells_at h
  have h0 : ∃ u, cs[0]? = some u := ⟨cs[0]'(by omega), List.getElem?_eq_getElem _⟩
  obtain ⟨u, hu⟩ := h0
  have hs := hc 0 u hu
  have hsp : a.spot = none := by
    simp only [Addr.add, if_true, World.cell?] at hs
    split at hs
    · split at hs
      · cases hs
      · rename_i hn; simpa using hn
    · cases hs
  have ea : a = ⟨a.block, a.off, none⟩ := by
    obtain ⟨x, y, z⟩ := a
    simp only at hsp
    subst hsp; rfl
  refine ⟨ea, World.cells?_block h hn, fun j u hu => ?_⟩
  have := hc j u hu
  unfold Addr.add at this
  split at this
  · rename_i hj; subst hj; rw [Nat.add_zero, ← ea]; exact this
  · exact this

section
variable {H : Type} {enc : TypeId × Value → H} {P : Program} {w : World}

theorem opens {T : List TypeId} (hT : T.all (kidOk P T) = true) : ∀ (fuel : Nat) (t : TypeId) (cs : List Value) (x : DataW H × List MemPlace), T.contains t = true →
    DataW.trod enc P w 0 (fun _ => true) true fuel t cs = some x → cs.length = P.cellsOf t ∧ ∃ xs, IV.dens w (fun g => g < w.heap.size) xs cs ∧ Typed P fuel t xs := by
  intro fuel
  induction fuel with
  | zero => intro t cs x _ h; simp [DataW.trod] at h
  | succ n ih =>
    intro t cs x ht h
    have hk : kidOk P T t = true := by
      rw [List.all_eq_true] at hT
      exact hT t (by simpa using ht)
    unfold kidOk at hk
    have one : ∀ (v : Value), v.oneCell' = true → IV.dens w (fun g => g < w.heap.size) [.v v] [v] := fun v hv => by
      simp only [IV.dens, IV.den]; exact ⟨v, [], rfl, ⟨rfl, hv⟩, rfl⟩
    split at hk
    · rename_i hu
      obtain ⟨b, rfl, rfl⟩ := DataW.trod_bool hu h
      refine ⟨by simpa using (by simpa using hk : P.cellsOf t = 1).symm, [.v (.bool b)], one _ rfl, ?_⟩
      simp only [Typed, hu]; exact ⟨b, rfl⟩
    · rename_i k hu
      obtain ⟨b, rfl, rfl, hw⟩ := DataW.trod_int hu h
      refine ⟨by simpa using (by simpa using hk : P.cellsOf t = 1).symm, [.v (.int k b)], one _ rfl, ?_⟩
      simp only [Typed, hu]; exact ⟨b, rfl, hw⟩
    · rename_i k hu
      unfold DataW.trod at h
      rw [hu] at h
      have hx : ∃ b, cs = [.float k b] ∧ (Lit.float k b).wf = true := by split at h <;> simp_all
      obtain ⟨b, rfl, hw⟩ := hx
      refine ⟨by simpa using (by simpa using hk : P.cellsOf t = 1).symm, [.v (.float k b)], one _ rfl, ?_⟩
      simp only [Typed, hu]; exact ⟨b, rfl, hw⟩
    · rename_i hu
      obtain ⟨s, rfl, rfl, hw⟩ := DataW.trod_string hu h
      refine ⟨by simpa using (by simpa using hk : P.cellsOf t = 1).symm, [.v (.string s)], one _ rfl, ?_⟩
      simp only [Typed, hu]; exact ⟨s, rfl, hw⟩
    · rename_i e hu
      simp only [Bool.and_eq_true, beq_iff_eq, bne_iff_ne, ne_eq] at hk
      obtain ⟨⟨hk1, hk2⟩, hk3⟩ := hk
      rcases DataW.trod_pointer hu h with ⟨rfl, rfl⟩ | ⟨a, cs', y, m, hm, rfl, rfl, hc, hy⟩
      · refine ⟨by simp [hk1], [.v (.pointer none)], one _ rfl, ?_⟩
        simp only [Typed, hu]; exact .inl trivial
      · obtain rfl : m = n := by omega
        obtain ⟨hl, xs, hd, hty⟩ := ih e cs' y hk2 hy
        obtain ⟨ea, hb, hca⟩ := cells_block hc (by omega)
        refine ⟨by simp [hk1], [.pt xs], ?_, ?_⟩
        · simp only [IV.dens, IV.den]
          exact ⟨_, [], rfl, ⟨a.block, a.off, cs', by rw [← ea], hb, hd, hca⟩, rfl⟩
        · simp only [Typed, hu]; exact .inr ⟨xs, rfl, hty⟩
    · rename_i e hu
      simp only [Bool.and_eq_true, beq_iff_eq, bne_iff_ne, ne_eq] at hk
      obtain ⟨⟨hk1, hk2⟩, hk3⟩ := hk
      rcases DataW.trod_slice hu h with ⟨rfl, rfl⟩ | ⟨a, len, cap, elems, rest, m, hm, rfl, rfl, _, hlc, hcap, hel, hr, _, _⟩
      · refine ⟨by simp [hk1], [.sl (P.cellsOf e) []], ?_, ?_⟩
        · simp only [IV.dens, IV.den]
          exact ⟨_, [], rfl, ⟨none, 0, [], rfl, Nat.le_refl _, rfl, by simp, by simp⟩, rfl⟩
        · simp only [Typed, hu]; exact ⟨[], rfl, by simp, by simp⟩
      · obtain rfl : m = n := by omega
        obtain ⟨l, hll, hl⟩ := listOf (R := fun i (p : List Value × List IV) => w.cells? 0 (a.add (i * P.cellsOf e)) (P.cellsOf e) = some p.1 ∧ p.1.length = P.cellsOf e ∧ IV.dens w (fun g => g < w.heap.size) p.2 p.1 ∧ Typed P m e p.2) len (fun i hi => by
          have := hr i hi
          rw [List.getElem?_eq_getElem (by omega), Option.bind_eq_some_iff] at this
          obtain ⟨cs', hc, hy⟩ := this
          obtain ⟨h1, xs, h2, h3⟩ := ih e cs' _ hk2 hy
          exact ⟨(cs', xs), hc, h1, h2, h3⟩)
        refine ⟨by simp [hk1], [.sl (P.cellsOf e) (l.map Prod.snd)], ?_, ?_⟩
        · simp only [IV.dens, IV.den]
          refine ⟨_, [], rfl, ⟨some a, cap, l.map Prod.fst, by simp [hll], by simp [hll, hlc], ?_, ?_, fun hne => ?_⟩, rfl⟩
          · have : ∀ (l : List (List Value × List IV)), (∀ p ∈ l, IV.dens w (fun g => g < w.heap.size) p.2 p.1) → IV.denss w (fun g => g < w.heap.size) (l.map Prod.snd) (l.map Prod.fst) := by
              intro l
              induction l with
              | nil => intro _; rfl
              | cons p l ihl =>
                intro hp
                simp only [List.map_cons, IV.denss]
                exact ⟨_, _, rfl, hp p (by simp), ihl (fun q hq => hp q (by simp [hq]))⟩
            refine this l (fun p hp => ?_)
            obtain ⟨i, hi⟩ := List.getElem?_of_mem hp
            exact (hl i p hi).2.2.1
          · intro vs hvs
            obtain ⟨p, hp, rfl⟩ := List.mem_map.1 hvs
            obtain ⟨i, hi⟩ := List.getElem?_of_mem hp
            exact (hl i p hi).2.1
          · have hpos : 0 < l.length := by
              rcases l with _ | ⟨p, l⟩
              · simp at hne
              · simp
            have h0 := hl 0 (l[0]'hpos) (List.getElem?_eq_getElem _)
            have h00 := h0.1
            rw [Nat.zero_mul] at h00
            have ea0 : a.add 0 = a := by simp [Addr.add]
            rw [ea0] at h00
            obtain ⟨ea, hb, _⟩ := cells_block h00 (by omega)
            refine ⟨a.block, a.off, by rw [← ea], hb, rowsAt (es := P.cellsOf e) _ _ (fun i vs hv => ?_)⟩
            rw [List.getElem?_map, Option.map_eq_some_iff] at hv
            obtain ⟨p, hp, rfl⟩ := hv
            obtain ⟨g1, g2, g3, g4⟩ := hl i p hp
            refine ⟨g2, ?_⟩
            obtain ⟨_, _, hca⟩ := cells_block g1 (by omega)
            have e1 : (a.add (i * P.cellsOf e)).block = a.block := by unfold Addr.add; split <;> rfl
            have e2 : (a.add (i * P.cellsOf e)).off = a.off + i * P.cellsOf e := by
              unfold Addr.add; split
              · rename_i hz; rw [hz]; rfl
              · rfl
            rw [e1, e2] at hca
            exact hca
        · simp only [Typed, hu]
          refine ⟨_, rfl, by simp [hll]; omega, fun r hr' => ?_⟩
          obtain ⟨p, hp, rfl⟩ := List.mem_map.1 hr'
          obtain ⟨i, hi⟩ := List.getElem?_of_mem hp
          exact (hl i p hi).2.2.2
    · rename_i fs hu
      simp only [Bool.and_eq_true, beq_iff_eq, List.all_eq_true] at hk
      obtain ⟨⟨hk1, hk2⟩, hk3⟩ := hk
      obtain ⟨xs, m, hm, rfl, hlen, hxl, hf⟩ := DataW.trod_struct hu h
      obtain rfl : m = n := by omega
      have off : ∀ (i : Nat) (f : Field), fs.toList[i]? = some f → f.offset = ((fs.toList.take i).map fun f => P.cellsOf f.type).sum := fun i f hi => by
        have := hk3 i (by simpa using (List.getElem?_eq_some_iff.1 hi).1)
        rw [hi] at this
        simpa using this
      obtain ⟨ys, hy, hq⟩ := pieces (w := w) (I := fun g => g < w.heap.size) (len := fun f : Field => P.cellsOf f.type) (Q := fun f ys => Typed P m f.type ys) fs.toList cs (by rw [hlen, hk2]) (fun i f hi => by
        rw [← off i f hi]
        have hi' : fs[i]? = some f := by simpa using hi
        have hx := hf i f hi'
        have hlt : i < fs.size := by
          rcases Nat.lt_or_ge i fs.size with h' | h'
          · exact h'
          · rw [Array.getElem?_eq_none h'] at hi'; cases hi'
        rw [List.getElem?_eq_getElem (by omega)] at hx
        obtain ⟨_, zs, h2, h3⟩ := ih f.type _ _ (hk1 f (List.mem_of_getElem? hi)) hx
        exact ⟨zs, h2, h3⟩)
      refine ⟨hlen, ys, hy, ?_⟩
      simp only [Typed, hu]
      exact ⟨by rw [dens_length _ _ hy, hlen], fun i f hi => by rw [off i f hi]; exact hq i f hi⟩
    · rename_i m' e hu
      simp only [Bool.and_eq_true, beq_iff_eq] at hk
      obtain ⟨hk1, hk2⟩ := hk
      obtain ⟨xs, m, hm, rfl, hlen, hxl, hf⟩ := DataW.trod_array hu h
      obtain rfl : m = n := by omega
      have sm : ∀ k, ((List.replicate k ()).map fun _ => P.cellsOf e).sum = k * P.cellsOf e := fun k => by simp
      obtain ⟨ys, hy, hq⟩ := pieces (w := w) (I := fun g => g < w.heap.size) (len := fun _ : Unit => P.cellsOf e) (Q := fun _ ys => Typed P m e ys) (List.replicate m' ()) cs (by rw [hlen, hk2, sm]) (fun i f hi => by
        have hlt : i < m' := by simpa using (List.getElem?_eq_some_iff.1 hi).1
        rw [List.take_replicate, sm, Nat.min_eq_left (Nat.le_of_lt hlt)]
        have hx := hf i hlt
        rw [List.getElem?_eq_getElem (by omega)] at hx
        obtain ⟨_, zs, h2, h3⟩ := ih e _ _ hk1 hx
        exact ⟨zs, h2, h3⟩)
      refine ⟨hlen, ys, hy, ?_⟩
      simp only [Typed, hu]
      exact ⟨by rw [dens_length _ _ hy, hlen], fun i hi => by
        have := hq i () (by simp [hi])
        rwa [List.take_replicate, sm, Nat.min_eq_left (Nat.le_of_lt hi)] at this⟩
    · cases hk
end

end Go.AL
