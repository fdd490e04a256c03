import Derived.Test.YtilbfhldohibhaaAl4
set_option linter.unusedSimpArgs false
set_option linter.unusedVariables false
set_option linter.unnecessarySimpa false
namespace Go.AL
open Go
section
variable {P : Program} {w : World} {φ : Phi} {I : Nat → Prop} {E : Env} {H : Heap} {a : Act}

/-! ## Literals -/
def setAtV (cs : List Value) (off : Nat) : List Value → List Value
  | [] => cs
  | x :: xs => setAtV (cs.set off x) (off + 1) xs

theorem mapIdx_zip' {α : Type} : ∀ (l : List α) (k : Nat) (f : Nat → α → α × Nat), (∀ i x, f i x = (x, i + k)) → l.mapIdx f = l.zipIdx k
  | [], _, _, _ => rfl
  | x :: l, k, f, hf => by
    rw [List.mapIdx_cons, List.zipIdx_cons, hf 0 x, Nat.zero_add, mapIdx_zip' l (k + 1) (fun i => f (i + 1)) (fun i x => by rw [hf]; simp; omega)]
theorem mapIdx_zip {α : Type} (l : List α) : l.mapIdx (fun i a => (a, i)) = l.zipIdx := mapIdx_zip' l 0 _ (fun _ _ => rfl)
theorem fold_setAt : ∀ (ws : List Value) (k off : Nat) (cs : List Value),
    ((ws.zipIdx k).foldl (fun (cs : Array Value) (p : Value × Nat) => cs.setIfInBounds (off + p.2) p.1) cs.toArray) = (setAtV cs (off + k) ws).toArray
  | [], _, _, _ => rfl
  | x :: ws, k, off, cs => by
    simp only [List.zipIdx_cons, List.foldl_cons, setAtV, List.setIfInBounds_toArray]
    rw [fold_setAt ws (k + 1) off (cs.set (off + k) x)]
    rfl

theorem adens_set : ∀ (cs : List AV) (us : List Value) (i : Nat) (x : AV) (u : Value), AV.dens w φ I cs us → AV.den w φ I x u → AV.dens w φ I (cs.set i x) (us.set i u)
  | [], us, i, x, u, h, _ => by simp only [AV.dens] at h; subst h; simp [AV.dens]
  | c :: cs, us, i, x, u, h, hx => by
    simp only [AV.dens] at h
    obtain ⟨u0, us', rfl, h1, h2⟩ := h
    cases i with
    | zero => simp only [List.set_cons_zero, AV.dens]; exact ⟨u, us', rfl, hx, h2⟩
    | succ i => simp only [List.set_cons_succ, AV.dens]; exact ⟨u0, _, rfl, h1, adens_set cs us' i x u h2 hx⟩

theorem setAt_dens : ∀ (ys : List AV) (ws : List Value) (off : Nat) (cs : List AV) (us : List Value), AV.dens w φ I cs us → AV.dens w φ I ys ws → AV.dens w φ I (setAt cs off ys) (setAtV us off ws)
  | [], ws, off, cs, us, h, hy => by simp only [AV.dens] at hy; subst hy; exact h
  | y :: ys, ws, off, cs, us, h, hy => by
    simp only [AV.dens] at hy
    obtain ⟨u0, us', rfl, h1, h2⟩ := hy
    simp only [setAt, setAtV]
    exact setAt_dens ys us' (off + 1) _ _ (adens_set cs us off y u0 h h1) h2

theorem setAtV_one : ∀ (ws : List Value) (off : Nat) (us : List Value), (∀ x ∈ us, x.oneCell' = true) → (∀ x ∈ ws, x.oneCell' = true) → ∀ x ∈ setAtV us off ws, x.oneCell' = true
  | [], _, _, h, _ => h
  | y :: ws, off, us, h, hw => setAtV_one ws (off + 1) _ (fun x hx => by
      rcases List.mem_or_eq_of_mem_set hx with h' | rfl
      · exact h x h'
      · exact hw _ (by simp)) (fun x hx => hw x (by simp [hx]))
theorem setAtV_len : ∀ (ws : List Value) (off : Nat) (us : List Value), (setAtV us off ws).length = us.length
  | [], _, _ => rfl
  | y :: ws, off, us => by simp only [setAtV]; rw [setAtV_len ws (off + 1)]; simp

theorem cells_one {u : Value} (h : u.oneCell' = true) : u.cells = #[u] := by cases u <;> first | rfl | cases h

theorem cellsOfAV_den {x : AV} {ys : List AV} {u : Value} (h : cellsOfAV x = some ys) (hx : AV.den w φ I x u) : ∃ ws, u.cells = ws.toArray ∧ AV.dens w φ I ys ws ∧ ∀ x ∈ ws, x.oneCell' = true := by
  unfold cellsOfAV at h
  split at h
  · simp only [Option.some.injEq] at h; subst h
    simp only [AV.den] at hx
    obtain ⟨us, hd, rfl, h1⟩ := hx
    exact ⟨us, rfl, hd, h1⟩
  · rename_i y
    simp only [Option.some.injEq] at h; subst h
    have h1 := iv_one y u (by simpa only [AV.den] using hx)
    exact ⟨[u], cells_one h1, by simp only [AV.dens]; exact ⟨u, [], rfl, hx, rfl⟩, by simpa using h1⟩
  · simp only [Option.some.injEq] at h; subst h
    have h1 : u.oneCell' = true := by simp only [AV.den] at hx; obtain ⟨_, _, rfl⟩ := hx; rfl
    exact ⟨[u], cells_one h1, by simp only [AV.dens]; exact ⟨u, [], rfl, hx, rfl⟩, by simpa using h1⟩
  · simp only [Option.some.injEq] at h; subst h
    have h1 : u.oneCell' = true := by simp only [AV.den] at hx; rcases hx with ⟨_, _, _, rfl⟩ | ⟨_, _, _, rfl, _⟩ <;> rfl
    exact ⟨[u], cells_one h1, by simp only [AV.dens]; exact ⟨u, [], rfl, hx, rfl⟩, by simpa using h1⟩
  · simp only [Option.some.injEq] at h; subst h
    have h1 : u.oneCell' = true := by simp only [AV.den] at hx; obtain ⟨_, _, rfl⟩ := hx; rfl
    exact ⟨[u], cells_one h1, by simp only [AV.dens]; exact ⟨u, [], rfl, hx, rfl⟩, by simpa using h1⟩
  · simp only [Option.some.injEq] at h; subst h
    have h1 : u.oneCell' = true := by simp only [AV.den] at hx; obtain ⟨_, _, rfl⟩ := hx; rfl
    exact ⟨[u], cells_one h1, by simp only [AV.dens]; exact ⟨u, [], rfl, hx, rfl⟩, by simpa using h1⟩
  · cases h

theorem fillParts_sound {place : Nat → Option (Nat × Nat)} (hE : EnvOk w φ I E a) : ∀ (parts : List (Nat × Operand)) (cs cs' : List AV) (us : List Value), fillParts place E cs parts = some cs' → AV.dens w φ I cs us → (∀ x ∈ us, x.oneCell' = true) →
    ∃ us', Instr.fill place us.toArray (parts.map fun p => (p.1, a.eval p.2)) = some us'.toArray ∧ AV.dens w φ I cs' us' ∧ (∀ x ∈ us', x.oneCell' = true) ∧ us'.length = us.length
  | [], cs, cs', us, h, hd, h1 => by
    simp only [fillParts, Option.some.injEq] at h
    subst h
    exact ⟨us, rfl, hd, h1, rfl⟩
  | (i, x) :: parts, cs, cs', us, h, hd, h1 => by
    simp only [fillParts] at h
    split at h
    · rename_i off n av hp hev
      split at h
      · rename_i ys hy
        cases hb : (Nat.beq ys.length n && decide (off + n ≤ cs.length)) with
        | false => rw [hb] at h; simp at h
        | true =>
          rw [hb] at h
          simp only [cond_true] at h
          simp only [Bool.and_eq_true, decide_eq_true_eq] at hb
          have hn := Nat.eq_of_beq_eq_true hb.1
          obtain ⟨ws, hw, hdw, hw1⟩ := cellsOfAV_den hy (ev_sound hE hev)
          have hlen := adens_len cs us hd
          have hwl : ws.length = n := by rw [adens_len ys ws hdw]; exact hn
          obtain ⟨us', h2, h3, h4, h5⟩ := fillParts_sound hE parts _ cs' (setAtV us off ws) h (setAt_dens ys ws off cs us hd hdw) (setAtV_one ws off us h1 hw1)
          refine ⟨us', ?_, h3, h4, by rw [h5, setAtV_len]⟩
          simp only [List.map_cons, Instr.fill, hp]
          rw [if_neg (by simp [hw, hwl]; omega)]
          rw [hw]
          have := fold_setAt ws 0 off us
          simp only [Nat.add_zero] at this
          have e2 : (Array.foldl (fun (cs : Array Value) (x : Value × Nat) => cs.setIfInBounds (off + x.2) x.1) us.toArray ws.toArray.zipIdx) = (setAtV us off ws).toArray := by
            rw [← this, Array.zipIdx, ← Array.foldl_toList]; simp [mapIdx_zip]
          rw [← h2]
          congr 1
      · cases h
    · cases h

theorem zro_info {t : TypeId} {z : List Value} (h : zro P t = some z) : ∃ i zv, P.info? t = some i ∧ i.zero = some zv ∧ zv.cells.toList = z := by
  unfold zro at h
  cases hi : P.info? t with
  | none => rw [hi] at h; cases h
  | some i =>
    rw [hi] at h
    simp only [Option.bind_some] at h
    cases hz : i.zero with
    | none => rw [hz] at h; cases h
    | some zv => rw [hz] at h; exact ⟨i, zv, rfl, hz, by simpa using h⟩

theorem placesOf_mapM : ∀ (F : List Field) (pl : List (Nat × Nat)), placesOf P (F.map fun f => (f.offset, f.type)) = some pl → F.mapM (fun f => (P.info? f.type).map fun i => (f.offset, i.size)) = some pl
  | [], pl, h => by simpa [placesOf] using h
  | f :: F, pl, h => by
    simp only [List.map_cons, placesOf] at h
    split at h
    · rename_i n l hn hl
      simp only [Option.some.injEq] at h
      subst h
      obtain ⟨_, i, hi, rfl⟩ := sz_both hn
      simp [List.mapM_cons, hi, placesOf_mapM F l hl]
    · cases h

theorem parts_map (parts : Array (Nat × Operand)) (a : Act) : (parts.map fun (i, x) => (i, a.eval x)).toList = parts.toList.map fun p => (p.1, a.eval p.2) := by simp

theorem aBuild_sound (hE : EnvOk w φ I E a) {t : TypeId} {parts : Array (Nat × Operand)} {sc : Prop} {v : AV} (h : aBuild P t parts.toList E = some (sc, v)) :
    Yields1 P w (Instr.build t (parts.map fun (i, x) => (i, a.eval x))) φ I v := by
  unfold aBuild at h
  split at h
  · rename_i fs z ht hz
    obtain ⟨F, hF, rfl⟩ := und_struct ht
    obtain ⟨it, zv, hit, hzv, rfl⟩ := zro_info hz
    split at h
    · rename_i pl hpl
      split at h
      · rename_i cs hcs
        cases hb : zv.cells.toList.all Value.oneCell' with
        | false => rw [hb] at h; simp at h
        | true =>
          rw [hb] at h
          simp only [cond_true, Option.some.injEq, Prod.mk.injEq] at h
          obtain ⟨_, rfl⟩ := h
          obtain ⟨us', h2, h3, h4, h5⟩ := fillParts_sound (w := w) (φ := φ) (I := I) hE _ _ _ zv.cells.toList hcs (dens_ofVals _ hb) (List.all_eq_true.1 hb)
          refine ⟨.agg us'.toArray, run_build w t _ _ ?_, by simp only [AV.den]; exact ⟨us', h3, rfl, h4⟩⟩
          simp only [Program.built, hit, hF, hzv, placesOf_mapM _ _ hpl]
          rw [parts_map, ← h2]
          simp
      · cases h
    · cases h
  · rename_i m e z ht hz
    obtain ⟨it, zv, hit, hzv, rfl⟩ := zro_info hz
    split at h
    · rename_i n hn
      obtain ⟨_, ie, hie, rfl⟩ := sz_both hn
      split at h
      · rename_i cs hcs
        cases hb : zv.cells.toList.all Value.oneCell' with
        | false => rw [hb] at h; simp at h
        | true =>
          rw [hb] at h
          simp only [cond_true, Option.some.injEq, Prod.mk.injEq] at h
          obtain ⟨_, rfl⟩ := h
          obtain ⟨us', h2, h3, h4, h5⟩ := fillParts_sound (w := w) (φ := φ) (I := I) hE _ _ _ zv.cells.toList hcs (dens_ofVals _ hb) (List.all_eq_true.1 hb)
          refine ⟨.agg us'.toArray, run_build w t _ _ ?_, by simp only [AV.den]; exact ⟨us', h3, rfl, h4⟩⟩
          simp only [Program.built, hit, und_arr ht, hzv, hie]
          rw [parts_map, ← h2]
      · cases h
    · cases h
  · cases h

/-! ## All of them -/
theorem aval_sound (hE : EnvOk w φ I E a) (hR : Real w φ I H) {o : Oper} {sc : Prop} {v : AV} (h : aval P E H o.op = some (sc, v)) (hsc : sc) :
    ∃ u, (execOp a.eval o).run P w = .ok (.value u) w ∧ AV.den w φ I v u := by
  have fin : ∀ {s : Sem Value}, Yields1 P w s φ I v → (execOp a.eval o = do pure (.value (← s))) → ∃ u, (execOp a.eval o).run P w = .ok (.value u) w ∧ AV.den w φ I v u := by
    intro s ⟨u, hu, hd⟩ he
    exact ⟨u, by rw [he]; simp [hu], hd⟩
  obtain ⟨dst, op, ty, pos, after, guard⟩ := o
  simp only at h ⊢
  unfold aval at h
  split at h
  · rename_i x
    split at h
    · rename_i av hx
      simp only [Option.some.injEq, Prod.mk.injEq] at h
      obtain ⟨_, rfl⟩ := h
      exact ⟨_, rfl, ev_sound hE hx⟩
    · cases h
  · rename_i x
    split at h
    · rename_i av hx
      simp only [Option.some.injEq, Prod.mk.injEq] at h
      obtain ⟨_, rfl⟩ := h
      exact ⟨_, rfl, ev_sound hE hx⟩
    · cases h
  · rename_i c x y
    split at h
    · rename_i cv xv yv hc hx hy
      obtain ⟨b, hb, hd⟩ := aPick_sound h hsc (ev_sound hE hc) (ev_sound hE hx) (ev_sound hE hy)
      refine ⟨_, ?_, hd⟩
      simp [execOp, hb, asBool]
    · cases h
  · rename_i op t x y _
    obtain ⟨xa, ya, sc', hx, hy, hf, hsc', g1, g2⟩ := bi_sound h hsc
    exact fin (aBin_sound (ox := x) (oy := y) hf hsc' (st_den (ev_sound hE hx) g1) (st_den (ev_sound hE hy) g2)) rfl
  · rename_i op t x
    obtain ⟨xa, sc', hx, hf, hsc', g1⟩ := un_sound h hsc
    exact fin (aUn_sound hf (st_den (ev_sound hE hx) g1)) rfl
  · rename_i s d x
    obtain ⟨xa, sc', hx, hf, hsc', g1⟩ := un_sound h hsc
    split at hf
    · exact fin (aConv_sound hf (st_den (ev_sound hE hx) g1) (by rename_i hs; exact Option.isSome_iff_exists.1 hs)) rfl
    · cases hf
  · rename_i x
    obtain ⟨xa, sc', hx, hf, hsc', g1⟩ := un_sound h hsc
    exact ⟨_, aNil_sound (o := ⟨dst, .nilCheck x, ty, pos, after, guard⟩) rfl hf (st_den (ev_sound hE hx) g1) rfl⟩
  · obtain ⟨xa, ya, sc', hx, hy, hf, hsc', g1, g2⟩ := bi_sound h hsc
    exact fin (aIndex_sound hf hsc' (st_den (ev_sound hE hx) g1) (st_den (ev_sound hE hy) g2)) rfl
  · obtain ⟨xa, ya, sc', hx, hy, hf, hsc', g1, g2⟩ := bi_sound h hsc
    exact fin (aIndexAddr_sound hf hsc' (st_den (ev_sound hE hx) g1) (st_den (ev_sound hE hy) g2)) rfl
  · obtain ⟨xa, sc', hx, hf, hsc', g1⟩ := un_sound h hsc
    exact fin (aFieldAddr_sound hf (st_den (ev_sound hE hx) g1)) rfl
  · obtain ⟨xa, sc', hx, hf, hsc', g1⟩ := un_sound h hsc
    exact fin (aField_sound hf hsc' (st_den (ev_sound hE hx) g1)) rfl
  · obtain ⟨xa, sc', hx, hf, hsc', g1⟩ := un_sound h hsc
    exact fin (aLoad_sound hR hf hsc' (st_den (ev_sound hE hx) g1)) rfl
  · obtain ⟨xa, sc', hx, hf, hsc', g1⟩ := un_sound h hsc
    exact fin (aExtract_sound hf (st_den (ev_sound hE hx) g1)) rfl
  · exact fin (aBuild_sound hE h) rfl
  · rename_i args ts
    split at h
    · rename_i x t hargs hts
      obtain ⟨xa, sc', hx, hf, hsc', g1⟩ := un_sound h hsc
      obtain rfl : args = #[x] := by cases args; simpa using hargs
      obtain rfl : ts = #[t] := by cases ts; simpa using hts
      obtain ⟨u, hu, hd⟩ := aLen_sound (ty := ty) hf (st_den (ev_sound hE hx) g1)
      exact ⟨u, by simp [execOp, resolve, invoke, builtin, hu], hd⟩
    · cases h
  · rename_i args ts
    split at h
    · rename_i x y hargs
      obtain ⟨xa, ya, sc', hx, hy, hf, hsc', g1, g2⟩ := bi_sound h hsc
      obtain rfl : args = #[x, y] := by cases args; simpa using hargs
      obtain ⟨u, hu, hd⟩ := aMin2_sound (P := P) (ts := ts) (ty := ty) hf (st_den (ev_sound hE hx) g1) (st_den (ev_sound hE hy) g2)
      exact ⟨u, by simp [execOp, resolve, invoke, builtin, hu], hd⟩
    · cases h
  · rename_i args ts
    split at h
    · rename_i x y hargs
      obtain ⟨xa, ya, sc', hx, hy, hf, hsc', g1, g2⟩ := bi_sound h hsc
      obtain rfl : args = #[x, y] := by cases args; simpa using hargs
      obtain ⟨u, hu, hd⟩ := aMax2_sound (P := P) (ts := ts) (ty := ty) hf (st_den (ev_sound hE hx) g1) (st_den (ev_sound hE hy) g2)
      exact ⟨u, by simp [execOp, resolve, invoke, builtin, hu], hd⟩
    · cases h
  · rename_i t x lo hi
    split at h
    · rename_i l hh
      split at h
      · rename_i lv hv h1 h2
        obtain ⟨xa, sc', hx, hf, hsc', g1⟩ := un_sound h hsc
        refine fin (aSlice_sound (plo := some (a.eval l)) (phi := some (a.eval hh)) hf hsc' (st_den (ev_sound hE hx) g1) (fun y hy => ?_) (fun e => by cases e) (fun y hy => ?_) (fun e => by cases e)) rfl
        · cases hy; exact ⟨_, rfl, ev_sound hE h1⟩
        · cases hy; exact ⟨_, rfl, ev_sound hE h2⟩
      · cases h
    · rename_i l
      split at h
      · rename_i lv h1
        obtain ⟨xa, sc', hx, hf, hsc', g1⟩ := un_sound h hsc
        refine fin (aSlice_sound (plo := some (a.eval l)) (phi := none) hf hsc' (st_den (ev_sound hE hx) g1) (fun y hy => ?_) (fun e => by cases e) (fun y hy => by cases hy) (fun _ => rfl)) rfl
        cases hy; exact ⟨_, rfl, ev_sound hE h1⟩
      · cases h
    · rename_i hh
      split at h
      · rename_i hv h2
        obtain ⟨xa, sc', hx, hf, hsc', g1⟩ := un_sound h hsc
        refine fin (aSlice_sound (plo := none) (phi := some (a.eval hh)) hf hsc' (st_den (ev_sound hE hx) g1) (fun y hy => by cases hy) (fun _ => rfl) (fun y hy => ?_) (fun e => by cases e)) rfl
        cases hy; exact ⟨_, rfl, ev_sound hE h2⟩
      · cases h
    · cases h
  · cases h
end
end Go.AL
