import Derived.Test.YtilbfhldohibhaaAl3
set_option linter.unusedSimpArgs false
set_option linter.unusedVariables false
set_option linter.unnecessarySimpa false
namespace Go.AL
open Go
section
variable {P : Program} {w : World} {φ : Phi} {I : Nat → Prop} {E : Env} {H : Heap} {a : Act}

theorem load_at {t : TypeId} {n : Nat} {cs : List AV} {us : List Value} {v : AV} {g o : Nat} (hn : sz P t = some n) (hv : mkVal P t cs = some v) (hd : AV.dens w φ I cs us) (h1 : ∀ x ∈ us, x.oneCell' = true)
    (hl : us.length = n) (hc : cellsAt w g o us) : Yields1 P w (Instr.loadAt t (.pointer (some ⟨g, o, none⟩))) φ I v := by
  obtain ⟨⟨u, hu⟩, _⟩ := sz_both hn
  obtain ⟨h2, h3⟩ := mkVal_den hu hv hd h1
  exact ⟨_, run_loadVar_cells hu hn hl hc (fun hb => by rw [← hl]; exact h3 hb), h2⟩

theorem load_atI {t : TypeId} {n : Nat} {cs : List IV} {us : List Value} {v : AV} {g o : Nat} (hn : sz P t = some n) (hv : mkValI P t cs = some v) (hd : IV.dens w I cs us)
    (hl : us.length = n) (hc : cellsAt w g o us) : Yields1 P w (Instr.loadAt t (.pointer (some ⟨g, o, none⟩))) φ I v := by
  obtain ⟨⟨u, hu⟩, _⟩ := sz_both hn
  obtain ⟨h2, h3⟩ := mkValI_den hu hv hd
  exact ⟨_, run_loadVar_cells hu hn hl hc (fun hb => by rw [← hl]; exact h3 hb), h2⟩

theorem denss_flat : ∀ (rows : List (List IV)) (vss : List (List Value)), IV.denss w I rows vss → IV.dens w I rows.flatten vss.flatten
  | [], vss, h => by simp only [IV.denss] at h; subst h; simp [IV.dens]
  | r :: rows, vss, h => by
    simp only [IV.denss] at h
    obtain ⟨u, us', rfl, h1, h2⟩ := h
    simp only [List.flatten_cons]
    exact idens_append _ _ _ _ h1 (denss_flat rows us' h2)
where
  idens_append : ∀ (a b : List IV) (us vs : List Value), IV.dens w I a us → IV.dens w I b vs → IV.dens w I (a ++ b) (us ++ vs)
    | [], b, us, vs, h1, h2 => by simp only [IV.dens] at h1; subst h1; simpa using h2
    | x :: a, b, us, vs, h1, h2 => by
      simp only [IV.dens] at h1
      obtain ⟨u, us', rfl, h3, h4⟩ := h1
      simp only [List.cons_append, IV.dens]
      exact ⟨u, _, rfl, h3, idens_append a b us' vs h4 h2⟩

theorem block_cells {g : Nat} {us : List Value} {e : TypeId} {fz : Nat × Nat} (h : w.heap[g]? = some (.cells us.toArray e fz)) (o : Nat) : cellsAt w g o (us.drop o) := by
  intro j u hu
  rw [List.getElem?_drop] at hu
  simp [World.cell?, h, hu]
theorem cellsAt.take {g o : Nat} {us : List Value} (h : cellsAt w g o us) (n : Nat) : cellsAt w g o (us.take n) := by
  intro j u hu
  rw [List.getElem?_take] at hu
  split at hu
  · exact h j u hu
  · cases hu
theorem cellsAt.drop {g o : Nat} {us : List Value} (h : cellsAt w g o us) (n : Nat) : cellsAt w g (o + n) (us.drop n) := by
  intro j u hu
  rw [List.getElem?_drop] at hu
  rw [Nat.add_assoc]
  exact h _ u hu

theorem row_cells {g : Nat} {vss : List (List Value)} {rest : List Value} {e : TypeId} {fz : Nat × Nat} {es i : Nat} {vs : List Value} (h : w.heap[g]? = some (.cells (vss.flatten ++ rest).toArray e fz)) (hl : ∀ vs ∈ vss, vs.length = es)
    (hi : vss[i]? = some vs) : cellsAt w g (i * es) vs := by
  intro j u hu
  have hf := flat_get vss es i j vs u hl hi hu
  have hlt : i * es + j < vss.flatten.length := by
    rcases Nat.lt_or_ge (i * es + j) vss.flatten.length with h | h
    · exact h
    · rw [List.getElem?_eq_none h] at hf; cases hf
  simp only [World.cell?, h, Option.isSome_none, Bool.false_eq_true, if_false, List.getElem?_toArray]
  rw [List.getElem?_append_left hlt]
  exact hf

theorem aLoad_sound (hR : Real w φ I H) {t : TypeId} {x : AV} {p : Value} {sc : Prop} {v : AV} (h : aLoad P H t x = some (sc, v)) (hsc : sc) (hx : AV.den w φ I x p) : Yields1 P w (Instr.loadAt t p) φ I v := by
  unfold aLoad at h
  split at h
  · rename_i cs
    split at h
    · rename_i n hn
      split at h
      · rename_i v' hv
        simp only [Option.some.injEq, Prod.mk.injEq] at h
        obtain ⟨rfl, rfl⟩ := h
        simp only [AV.den, IV.den] at hx
        obtain ⟨g, off, us, rfl, hg, hd, hc⟩ := hx
        refine load_atI hn hv (idens_take n cs us hd) ?_ (hc.take n)
        rw [List.length_take, idens_len cs us hd]; omega
      · cases h
    · cases h
  · rename_i b o
    split at h
    · rename_i el cs n hlk hn
      split at h
      · rename_i v' hv
        simp only [Option.some.injEq, Prod.mk.injEq] at h
        obtain ⟨rfl, rfl⟩ := h
        simp only [AV.den] at hx
        obtain ⟨g, hg, rfl⟩ := hx
        have hown := hR.own b _ _ hlk hg
        simp only [Ob.at] at hown
        obtain ⟨g', us, hgg, hheap, hd, h1⟩ := hown
        cases hgg
        refine load_at hn hv (adens_take n _ _ (adens_drop o cs us hd)) (fun x hx => h1 x (List.mem_of_mem_drop (List.mem_of_mem_take hx))) ?_ ((block_cells hheap o).take n)
        rw [List.length_take, List.length_drop, adens_len cs us hd]; omega
      · cases h
    · rename_i el es rows n hlk hn
      cases hb : Nat.beq o 0 with
      | false => rw [hb] at h; simp at h
      | true =>
        rw [hb] at h
        have ho := Nat.eq_of_beq_eq_true hb
        subst ho
        simp only [cond_true] at h
        split at h
        · rename_i m e ht
          simp only [Option.some.injEq, Prod.mk.injEq] at h
          obtain ⟨rfl, rfl⟩ := h
          simp only [AV.den] at hx
          obtain ⟨g, hg, rfl⟩ := hx
          have hown := hR.own b _ _ hlk hg
          simp only [Ob.at] at hown
          rcases hown with ⟨h1, _⟩ | ⟨g', vss, rest, hgg, hheap, hd, hl⟩
          · cases h1
          cases hgg
          have hdf := denss_flat rows vss hd
          have hlen := idens_len _ _ hdf
          refine load_atI hn (cs := rows.flatten) (us := vss.flatten) (by simp [mkValI, ht]) hdf (by rw [hlen]; exact hsc) ?_
          intro j u hu
          have hlt : j < vss.flatten.length := by
            rcases Nat.lt_or_ge j vss.flatten.length with h | h
            · exact h
            · rw [List.getElem?_eq_none h] at hu; cases hu
          simp only [World.cell?, hheap, Option.isSome_none, Bool.false_eq_true, if_false, List.getElem?_toArray]
          rw [List.getElem?_append_left (by simpa using hlt)]
          simpa using hu
        · cases h
    · cases h
  · rename_i b es i j
    split at h
    · rename_i el es' rows n hlk hn
      cases hb : Nat.beq es es' with
      | false => rw [hb] at h; simp at h
      | true =>
        rw [hb] at h
        have hes := Nat.eq_of_beq_eq_true hb
        subst hes
        simp only [cond_true] at h
        split at h
        · rename_i v' hv
          simp only [Option.some.injEq, Prod.mk.injEq] at h
          obtain ⟨rfl, rfl⟩ := h
          obtain ⟨hi, hj⟩ := hsc
          simp only [AV.den] at hx
          obtain ⟨g, hg, rfl⟩ := hx
          have hown := hR.own b _ _ hlk hg
          simp only [Ob.at] at hown
          rcases hown with ⟨_, rfl⟩ | ⟨g', vss, rest, hgg, hheap, hd, hl⟩
          · simp at hi
          cases hgg
          obtain ⟨vs, hvs, hdv⟩ := denss_get rows vss i _ hd (List.getElem?_eq_getElem hi)
          have e1 : rows.getD i [] = rows[i] := by simp [List.getD, hi]
          rw [e1] at hv
          have hvl : vs.length = es := hl vs (List.mem_of_getElem? hvs)
          refine load_atI hn hv (idens_take n _ _ (idens_drop j _ vs hdv)) ?_ (((row_cells hheap hl hvs).drop j).take n)
          rw [List.length_take, List.length_drop, hvl]; omega
        · cases h
    · cases h
  · cases h

theorem aField_sound {t : TypeId} {f : Nat} {x : AV} {p : Value} {sc : Prop} {v : AV} (h : aField P t f x = some (sc, v)) (hsc : sc) (hx : AV.den w φ I x p) : Yields1 P w (Instr.field t p f) φ I v := by
  unfold aField at h
  split at h
  · rename_i cs
    split at h
    · rename_i fs ht
      obtain ⟨F, hF, hmap⟩ := und_struct ht
      split at h
      · rename_i off ty hf
        split at h
        · rename_i n hn
          split at h
          · rename_i v' hv
            simp only [Option.some.injEq, Prod.mk.injEq] at h
            obtain ⟨rfl, rfl⟩ := h
            simp only [AV.den] at hx
            obtain ⟨us, hd, rfl, h1⟩ := hx
            have hF' : ∃ fd : Field, F[f]? = some fd ∧ fd.offset = off ∧ fd.type = ty := by
              rw [← hmap, List.getElem?_map] at hf
              simp at hf
              obtain ⟨fd, h1, h2, h3⟩ := hf
              exact ⟨fd, h1, h2, h3⟩
            obtain ⟨fd, hf1, hf2, hf3⟩ := hF'
            subst hf3; subst hf2
            obtain ⟨⟨u, hu⟩, _⟩ := sz_both hn
            have hlen := adens_len cs us hd
            obtain ⟨h2, h3⟩ := mkVal_den hu hv (adens_take n _ _ (adens_drop fd.offset cs us hd)) (fun x hx => h1 x (List.mem_of_mem_drop (List.mem_of_mem_take hx)))
            refine ⟨_, ?_, h2⟩
            have hagg := run_isAgg hu w
            cases hb : (TK.of u).agg with
            | true =>
              rw [hb] at hagg
              simp [Instr.field, run_underlying hF, hf1, asAgg, part, hagg, run_sizeOf hn]
            | false =>
              rw [hb] at hagg
              have hl1 := h3 hb
              have hn1 : n = 1 := by
                rw [List.length_take, List.length_drop] at hl1
                omega
              subst hn1
              have hlt : fd.offset < us.length := by omega
              have e1 : ((us.drop fd.offset).take 1).getD 0 undef = us[fd.offset] := by
                simp [List.getD, List.getElem?_take, hlt]
              simp [Instr.field, run_underlying hF, hf1, asAgg, part, hagg, hlt]
          · cases h
        · cases h
      · cases h
    · cases h
  · cases h

theorem aExtract_sound {i : Nat} {x : AV} {p : Value} {sc : Prop} {v : AV} (h : aExtract i x = some (sc, v)) (hx : AV.den w φ I x p) : Yields1 P w (Instr.extract p i) φ I v := by
  unfold aExtract at h
  split at h
  · rename_i vs
    split at h
    · rename_i v' hv
      simp only [Option.some.injEq, Prod.mk.injEq] at h
      obtain ⟨_, rfl⟩ := h
      simp only [AV.den] at hx
      obtain ⟨us, hd, rfl⟩ := hx
      obtain ⟨u, hu, hdu⟩ := adens_get vs us i _ hd hv
      exact ⟨u, by simp [Instr.extract, hu], hdu⟩
    · cases h
  · cases h

theorem aMin2_sound {x y : AV} {p q : Value} {sc : Prop} {v : AV} {ts : Array TypeId} {ty : TypeId} (h : aMin2 x y = some (sc, v)) (hx : AV.den w φ I x p) (hy : AV.den w φ I y q) : Yields1 P w (Builtin.min_ ts ty #[p, q]) φ I v := by
  unfold aMin2 at h
  split at h
  · rw [den_i] at hx hy
    subst hx; subst hy
    simp only [Option.some.injEq, Prod.mk.injEq] at h
    obtain ⟨_, rfl⟩ := h
    exact ⟨_, by simp [Builtin.min_, Builtin.min2], den_int⟩
  · cases h
theorem aMax2_sound {x y : AV} {p q : Value} {sc : Prop} {v : AV} {ts : Array TypeId} {ty : TypeId} (h : aMax2 x y = some (sc, v)) (hx : AV.den w φ I x p) (hy : AV.den w φ I y q) : Yields1 P w (Builtin.max_ ts ty #[p, q]) φ I v := by
  unfold aMax2 at h
  split at h
  · rw [den_i] at hx hy
    subst hx; subst hy
    simp only [Option.some.injEq, Prod.mk.injEq] at h
    obtain ⟨_, rfl⟩ := h
    exact ⟨_, by simp [Builtin.max_, Builtin.max2], den_int⟩
  · cases h

theorem aPick_sound {c x y : AV} {pc p q : Value} {sc : Prop} {v : AV} (h : aPick c x y = some (sc, v)) (hsc : sc) (hc : AV.den w φ I c pc) (hx : AV.den w φ I x p) (hy : AV.den w φ I y q) :
    ∃ b : Bool, pc = .bool b ∧ AV.den w φ I v (if b then p else q) := by
  unfold aPick at h
  split at h
  · rename_i cb hcs
    split at h
    · rename_i xb yb hxs hys
      simp only [Option.some.injEq, Prod.mk.injEq] at h
      obtain ⟨rfl, rfl⟩ := h
      have hc' := st_den hc hsc.1
      rw [hcs, den_b] at hc'
      subst hc'
      refine ⟨cb, rfl, ?_⟩
      cases cb with
      | true =>
        have := st_den hx (hsc.2.1 rfl)
        rw [hxs] at this
        simpa [pk] using this
      | false =>
        have := st_den hy (hsc.2.2 rfl)
        rw [hys] at this
        simpa [pk] using this
    · cases h
  · cases h

theorem sliceBound_run {k : IntKind} {n : Int} {y : Nat} {code : BoundsCode} (h0 : 0 ≤ n) (h1 : n ≤ y) : (Instr.sliceBound (.int k n) y code).run P w = .ok n.toNat w := by
  simp [Instr.sliceBound, asIntOf, h0, h1]

theorem extract_size (s : ByteArray) (l : Nat) : s.extract l s.size = s.extract l s.size := rfl

theorem denss_drop : ∀ (k : Nat) (xs : List (List IV)) (us : List (List Value)), IV.denss w I xs us → IV.denss w I (xs.drop k) (us.drop k)
  | 0, _, _, h => by simpa using h
  | k + 1, [], us, h => by simp only [IV.denss] at h; subst h; simp [IV.denss]
  | k + 1, x :: xs, us, h => by
    simp only [IV.denss] at h
    obtain ⟨u, us', rfl, h1, h2⟩ := h
    simpa using denss_drop k xs us' h2
theorem denss_take : ∀ (k : Nat) (xs : List (List IV)) (us : List (List Value)), IV.denss w I xs us → IV.denss w I (xs.take k) (us.take k)
  | 0, _, _, h => by simp [IV.denss]
  | k + 1, [], us, h => by simp only [IV.denss] at h; subst h; simp [IV.denss]
  | k + 1, x :: xs, us, h => by
    simp only [IV.denss] at h
    obtain ⟨u, us', rfl, h1, h2⟩ := h
    simp only [List.take_succ_cons, IV.denss]
    exact ⟨u, _, rfl, h1, denss_take k xs us' h2⟩

theorem flat_drop : ∀ (k : Nat) (vss : List (List Value)) (es : Nat), (∀ vs ∈ vss, vs.length = es) → k ≤ vss.length → (vss.drop k).flatten = vss.flatten.drop (k * es)
  | 0, vss, es, _, _ => by simp
  | k + 1, [], es, _, h => by simp at h
  | k + 1, x :: xs, es, hl, h => by
    have hx : x.length = es := hl x (by simp)
    rw [List.drop_succ_cons, List.flatten_cons, flat_drop k xs es (fun vs hv => hl vs (by simp [hv])) (by simpa using h)]
    rw [show (k + 1) * es = x.length + k * es by rw [hx, Nat.add_mul]; omega, List.drop_append]
    simp
theorem flat_take : ∀ (k : Nat) (vss : List (List Value)) (es : Nat), (∀ vs ∈ vss, vs.length = es) → k ≤ vss.length → (vss.take k).flatten = vss.flatten.take (k * es)
  | 0, vss, es, _, _ => by simp
  | k + 1, [], es, _, h => by simp at h
  | k + 1, x :: xs, es, hl, h => by
    have hx : x.length = es := hl x (by simp)
    rw [List.take_succ_cons, List.flatten_cons, List.flatten_cons, flat_take k xs es (fun vs hv => hl vs (by simp [hv])) (by simpa using h)]
    rw [show (k + 1) * es = x.length + k * es by rw [hx, Nat.add_mul]; omega, List.take_append, List.take_of_length_le (l := x) (by omega)]
    simp

/-- rows l..h of an immutable slice -/
theorem sl_cut {es : Nat} {rows : List (List IV)} {p : Option Addr} {c l h : Nat} {vss : List (List Value)} (hr : IV.denss w I rows vss) (hl : ∀ vs ∈ vss, vs.length = es)
    (ha : rows ≠ [] → ∃ g off, p = some ⟨g, off, none⟩ ∧ I g ∧ cellsAt w g off vss.flatten) (hlh : l ≤ h) (hh : h ≤ rows.length) (hc : rows.length ≤ c) :
    AV.den w φ I (.im (.sl es ((rows.take h).drop l))) (.slice (if c = l then p else p.map (·.add (l * es))) (h - l) (c - l)) := by
  simp only [AV.den, IV.den]
  have hvl := denss_len rows vss hr
  have hlen : ((rows.take h).drop l).length = h - l := by rw [List.length_drop, List.length_take]; omega
  refine ⟨_, c - l, (vss.take h).drop l, by rw [hlen], by rw [hlen]; omega, denss_drop l _ _ (denss_take h _ _ hr), fun vs hv => hl vs (List.mem_of_mem_take (List.mem_of_mem_drop hv)), fun hn => ?_⟩
  have hlt : l < h := by
    rcases Nat.lt_or_ge l h with h' | h'
    · exact h'
    · exact absurd (List.eq_nil_of_length_eq_zero (by rw [hlen]; omega)) hn
  obtain ⟨g, off, rfl, hg, hcell⟩ := ha (by intro e; rw [e] at hh; simp at hh; omega)
  refine ⟨g, off + l * es, ?_, hg, ?_⟩
  · rw [if_neg (by omega)]
    simp [addr_add]
  · have htl : (vss.take h).length = h := by rw [List.length_take]; omega
    rw [flat_drop l _ es (fun vs hv => hl vs (List.mem_of_mem_take hv)) (by omega), flat_take h vss es hl (by omega)]
    exact (hcell.take (h * es)).drop (l * es)

theorem bounds_lh {b : Bool} {len cap : Nat} {k k' : IntKind} {l h : Int} (h0 : 0 ≤ l) (h1 : l ≤ h) (h2 : h ≤ cap) :
    (Instr.sliceBounds b len cap (some (.int k l)) (some (.int k' h)) none).run P w = .ok (l.toNat, h.toNat, cap) w := by
  have e1 := fun code => sliceBound_run (P := P) (w := w) (k := k') (n := h) (y := cap) (code := code) (by omega) h2
  have e2 := fun code => sliceBound_run (P := P) (w := w) (k := k) (n := l) (y := h.toNat) (code := code) h0 (by omega)
  simp [Instr.sliceBounds, e1, e2]
theorem bounds_l {b : Bool} {len cap : Nat} {k : IntKind} {l : Int} (h0 : 0 ≤ l) (h1 : l ≤ len) :
    (Instr.sliceBounds b len cap (some (.int k l)) none none).run P w = .ok (l.toNat, len, cap) w := by
  have e2 := fun code => sliceBound_run (P := P) (w := w) (k := k) (n := l) (y := len) (code := code) h0 h1
  simp [Instr.sliceBounds, e2]
theorem bounds_h {b : Bool} {len cap : Nat} {k : IntKind} {h : Int} (h0 : 0 ≤ h) (h2 : h ≤ cap) :
    (Instr.sliceBounds b len cap none (some (.int k h)) none).run P w = .ok (0, h.toNat, cap) w := by
  have e1 := fun code => sliceBound_run (P := P) (w := w) (k := k) (n := h) (y := cap) (code := code) h0 h2
  simp [Instr.sliceBounds, e1]

theorem slice_str {t : TypeId} {s : ByteArray} {plo phi : Option Value} {l h : Nat} (ht : tk P t = .str) (hb : (Instr.sliceBounds false s.size s.size plo phi none).run P w = .ok (l, h, s.size) w) :
    (Instr.sliceAt t (.string s) plo phi none).run P w = .ok (.string (s.extract l h)) w := by
  simp [Instr.sliceAt, Instr.slice, run_underlying (und_str ht), hb]
theorem slice_sl {t e : TypeId} {es n c : Nat} {p : Option Addr} {plo phi : Option Value} {l h : Nat} (ht : tk P t = .slice e) (hes : sz P e = some es) (hb : (Instr.sliceBounds true n c plo phi none).run P w = .ok (l, h, c) w) :
    (Instr.sliceAt t (.slice p n c) plo phi none).run P w = .ok (.slice (if c = l then p else p.map (·.add (l * es))) (h - l) (c - l)) w := by
  simp [Instr.sliceAt, Instr.slice, run_underlying (und_slice ht), hb, run_sizeOf hes]

theorem aSlice_sound {t : TypeId} {lo hi : Option AV} {x : AV} {p : Value} {plo phi : Option Value} {sc : Prop} {v : AV} (h : aSlice P t lo hi x = some (sc, v)) (hsc : sc) (hx : AV.den w φ I x p)
    (hlo : ∀ y, lo = some y → ∃ u, plo = some u ∧ AV.den w φ I y u) (hlo' : lo = none → plo = none) (hhi : ∀ y, hi = some y → ∃ u, phi = some u ∧ AV.den w φ I y u) (hhi' : hi = none → phi = none) :
    Yields1 P w (Instr.sliceAt t p plo phi none) φ I v := by
  unfold aSlice at h
  split at h
  · rename_i s
    rw [den_s] at hx
    subst hx
    split at h
    · rename_i ht
      obtain ⟨_, rfl, hl⟩ := hlo _ rfl
      obtain ⟨_, rfl, hh⟩ := hhi _ rfl
      rw [den_i] at hl hh
      subst hl; subst hh
      simp only [Option.some.injEq, Prod.mk.injEq] at h
      obtain ⟨rfl, rfl⟩ := h
      obtain ⟨h0, h1, h2⟩ := hsc
      exact ⟨_, slice_str ht (bounds_lh h0 h1 h2), den_str⟩
    · rename_i ht
      obtain ⟨_, rfl, hl⟩ := hlo _ rfl
      obtain rfl := hhi' rfl
      rw [den_i] at hl
      subst hl
      simp only [Option.some.injEq, Prod.mk.injEq] at h
      obtain ⟨rfl, rfl⟩ := h
      obtain ⟨h0, h1⟩ := hsc
      exact ⟨_, slice_str ht (bounds_l h0 h1), den_str⟩
    · rename_i ht
      obtain ⟨_, rfl, hh⟩ := hhi _ rfl
      obtain rfl := hlo' rfl
      rw [den_i] at hh
      subst hh
      simp only [Option.some.injEq, Prod.mk.injEq] at h
      obtain ⟨rfl, rfl⟩ := h
      obtain ⟨h0, h1⟩ := hsc
      exact ⟨_, slice_str ht (bounds_h h0 h1), den_str⟩
    · cases h
  · rename_i es rows
    simp only [AV.den, IV.den] at hx
    obtain ⟨pp, c, vss, rfl, hc, hr, hl, ha⟩ := hx
    split at h
    · rename_i e _ lv _ hv ht
      cases hd : decide (sz P e = some es) with
      | false => rw [hd] at h; simp at h
      | true =>
        rw [hd] at h
        simp only [cond_true, Option.some.injEq, Prod.mk.injEq] at h
        obtain ⟨rfl, rfl⟩ := h
        have hsz := of_decide_eq_true hd
        obtain ⟨_, rfl, hl1⟩ := hlo _ rfl
        obtain ⟨_, rfl, hh⟩ := hhi _ rfl
        rw [den_i] at hl1 hh
        subst hl1; subst hh
        obtain ⟨h0, h1, h2⟩ := hsc
        exact ⟨_, slice_sl ht hsz (bounds_lh h0 h1 (by omega)), sl_cut hr hl ha (by omega) (by omega) hc⟩
    · rename_i e _ lv ht
      cases hd : decide (sz P e = some es) with
      | false => rw [hd] at h; simp at h
      | true =>
        rw [hd] at h
        simp only [cond_true, Option.some.injEq, Prod.mk.injEq] at h
        obtain ⟨rfl, rfl⟩ := h
        have hsz := of_decide_eq_true hd
        obtain ⟨_, rfl, hl1⟩ := hlo _ rfl
        obtain rfl := hhi' rfl
        rw [den_i] at hl1
        subst hl1
        obtain ⟨h0, h1⟩ := hsc
        refine ⟨_, slice_sl ht hsz (bounds_l h0 h1), ?_⟩
        have := sl_cut (φ := φ) (l := lv.toNat) (h := rows.length) hr hl ha (by omega) (Nat.le_refl _) hc
        rw [List.take_length] at this
        exact this
    · rename_i e _ hv ht
      cases hd : decide (sz P e = some es) with
      | false => rw [hd] at h; simp at h
      | true =>
        rw [hd] at h
        simp only [cond_true, Option.some.injEq, Prod.mk.injEq] at h
        obtain ⟨rfl, rfl⟩ := h
        have hsz := of_decide_eq_true hd
        obtain ⟨_, rfl, hh⟩ := hhi _ rfl
        obtain rfl := hlo' rfl
        rw [den_i] at hh
        subst hh
        obtain ⟨h0, h1⟩ := hsc
        refine ⟨_, slice_sl ht hsz (bounds_h h0 (by omega)), ?_⟩
        have := sl_cut (φ := φ) (l := 0) (h := hv.toNat) hr hl ha (by omega) (by omega) hc
        rw [List.drop_zero] at this
        exact this
    · cases h
  · cases h
end
end Go.AL
