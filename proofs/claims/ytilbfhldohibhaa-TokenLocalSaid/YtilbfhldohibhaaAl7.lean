import Derived.Test.YtilbfhldohibhaaAl6
import Derived.Great.BuildSlice
set_option linter.unusedSimpArgs false
set_option linter.unusedVariables false
set_option linter.unnecessarySimpa false
namespace Go.AL
open Go
section
variable {P : Program} {B : Bs} {w : World} {φ : Phi} {I : Nat → Prop} {E : Env} {H : Heap} {a : Act}

theorem al_new (w : World) (o : Obj) : (w.alloc o).heap[w.heap.size]? = some o := heap_alloc_new w o

/-- what an operation with an effect comes to -/
def Does (P : Program) (B : Bs) (w : World) (φ : Phi) (I : Nat → Prop) (s : Sem Next) (v : AV) (H' : Heap) : Prop :=
  ∃ nx w' φ' I', s.run P w = .ok nx w' ∧ ((∃ u, nx = .value u ∧ AV.den w' φ' I' v u) ∨ (nx = .skip ∧ AV.den w' φ' I' v undef)) ∧ St B φ' I' H' w' ∧ Keeps w φ I w' φ' I'

theorem rows1_dens : ∀ (us : List Value), us.all Value.oneCell' = true → IV.denss w I (us.map fun c => [.v c]) (us.map fun c => [c])
  | [], _ => by simp [IV.denss]
  | x :: us, h => by
    simp only [List.all_cons, Bool.and_eq_true] at h
    simp only [List.map_cons, IV.denss, IV.dens]
    exact ⟨[x], _, rfl, ⟨x, [], rfl, by simp only [IV.den]; exact ⟨by simp, h.1⟩, rfl⟩, rows1_dens us h.2⟩
theorem flat1 : ∀ (us : List Value), (us.map fun c => [c]).flatten = us
  | [] => rfl
  | x :: us => by simp [flat1 us]

theorem imOf_dens : ∀ (ys : List AV) (l : List IV) (us : List Value), imOf ys = some l → AV.dens w φ I ys us → IV.dens w I l us
  | [], l, us, h, hd => by simp only [imOf, Option.some.injEq] at h; subst h; simpa [AV.dens, IV.dens] using hd
  | y :: ys, l, us, h, hd => by
    cases y with
    | im x =>
      simp only [imOf] at h
      split at h
      · rename_i l' hl
        simp only [Option.some.injEq] at h
        subst h
        simp only [AV.dens] at hd
        obtain ⟨u, us', rfl, h1, h2⟩ := hd
        simp only [IV.dens]
        exact ⟨u, us', rfl, by simpa only [AV.den] using h1, imOf_dens ys l' us' hl h2⟩
      · cases h
    | _ => simp [imOf] at h

theorem imCells_den {x : AV} {l : List IV} {u : Value} (h : imCells x = some l) (hx : AV.den w φ I x u) : ∃ us, u.cells = us.toArray ∧ IV.dens w I l us := by
  unfold imCells at h
  split at h
  · simp only [Option.some.injEq] at h; subst h
    simp only [AV.den] at hx
    obtain ⟨us, hd, rfl⟩ := hx
    exact ⟨us, rfl, hd⟩
  · split at h
    · rename_i ys hy
      obtain ⟨ws, hw, hd, _⟩ := cellsOfAV_den hy hx
      exact ⟨ws, hw, imOf_dens ys l ws h hd⟩
    · cases h

theorem rowsOf_sound (hE : EnvOk w φ I E a) {es : Nat} : ∀ (parts : List (Nat × Operand)) (k : Nat) (rows : List (List IV)), rowsOf E es k parts = some rows →
    ∃ vs : List Value, parts.map (fun p => (p.1, a.eval p.2)) = (vs.zipIdx k).map (fun x => (x.2, x.1)) ∧ (∀ v ∈ vs, v.cells.size = es) ∧ vs.length = parts.length ∧
      IV.denss w I rows (vs.map fun v => v.cells.toList)
  | [], k, rows, h => by
    simp only [rowsOf, Option.some.injEq] at h
    subst h
    exact ⟨[], rfl, by simp, rfl, by simp [IV.denss]⟩
  | (i, x) :: r, k, rows, h => by
    simp only [rowsOf] at h
    cases hb : Nat.beq i k with
    | false => rw [hb] at h; simp at h
    | true =>
      rw [hb] at h
      have hi := Nat.eq_of_beq_eq_true hb
      subst hi
      simp only [cond_true] at h
      split at h
      · rename_i av hev
        split at h
        · rename_i c l hc hl
          cases hq : Nat.beq c.length es with
          | false => rw [hq] at h; simp at h
          | true =>
            rw [hq] at h
            simp only [cond_true, Option.some.injEq] at h
            subst h
            have hcl := Nat.eq_of_beq_eq_true hq
            obtain ⟨us, hu, hd⟩ := imCells_den hc (ev_sound hE hev)
            obtain ⟨vs, h1, h2, h3, h4⟩ := rowsOf_sound hE r (i + 1) l hl
            refine ⟨a.eval x :: vs, by simp [List.zipIdx_cons, h1], fun v hv => ?_, by simp [h3], ?_⟩
            · rcases List.mem_cons.1 hv with rfl | hv
              · rw [hu]; simp; rw [idens_len c us hd]; exact hcl
              · exact h2 v hv
            · simp only [List.map_cons, IV.denss]
              exact ⟨_, _, rfl, by rw [hu]; exact hd, h4⟩
        · cases h
      · cases h

theorem dens_setRow {row : List IV} {us : List Value} {c : List IV} {ws : List Value} {j : Nat} (hd : IV.dens w I row us) (hc : IV.dens w I c ws) (hj : j + c.length ≤ row.length) :
    IV.dens w I (setRowI row j c) (us.take j ++ ws ++ us.drop (j + ws.length)) := by
  unfold setRowI
  rw [idens_len c ws hc]
  exact denss_flat.idens_append _ _ _ _ (denss_flat.idens_append _ _ _ _ (idens_take j _ _ hd) hc) (idens_drop _ _ _ hd)

theorem denss_set : ∀ (rows : List (List IV)) (vss : List (List Value)) (i : Nat) (r : List IV) (vs : List Value), IV.denss w I rows vss → IV.dens w I r vs → IV.denss w I (rows.set i r) (vss.set i vs)
  | [], vss, i, r, vs, h, _ => by simp only [IV.denss] at h; subst h; simp [IV.denss]
  | c :: cs, vss, i, r, vs, h, hx => by
    simp only [IV.denss] at h
    obtain ⟨u0, us', rfl, h1, h2⟩ := h
    cases i with
    | zero => simp only [List.set_cons_zero, IV.denss]; exact ⟨vs, us', rfl, hx, h2⟩
    | succ i => simp only [List.set_cons_succ, IV.denss]; exact ⟨u0, _, rfl, h1, denss_set cs us' i r vs h2 hx⟩

theorem flat_set : ∀ (vss : List (List Value)) (es i : Nat) (vs : List Value), (∀ v ∈ vss, v.length = es) → vs.length = es → i < vss.length →
    (vss.set i vs).flatten = vss.flatten.take (i * es) ++ vs ++ vss.flatten.drop (i * es + es)
  | [], _, _, _, _, _, h => by simp at h
  | x :: xs, es, 0, vs, hl, hv, _ => by
    have hx : x.length = es := hl x (by simp)
    simp [List.flatten_cons, List.drop_append, ← hx]
  | x :: xs, es, i + 1, vs, hl, hv, h => by
    have hx : x.length = es := hl x (by simp)
    have ih := flat_set xs es i vs (fun v hv => hl v (by simp [hv])) hv (by simpa using h)
    rw [List.set_cons_succ, List.flatten_cons, List.flatten_cons, ih]
    have e1 : (i + 1) * es = x.length + i * es := by rw [hx, Nat.add_mul]; omega
    rw [e1, List.take_append, List.drop_append, List.take_of_length_le (l := x) (by omega), List.drop_eq_nil_of_le (as := x) (by omega)]
    have e2 : x.length + i * es - x.length = i * es := by omega
    have e3 : x.length + i * es + es - x.length = i * es + es := by omega
    rw [e2, e3]
    simp

theorem run_storeAt {t : TypeId} {n g o : Nat} {u : Value} {ws : List Value} {cur : Array Value} {e : TypeId} (hn : sz P t = some n) (hu : u.cells = ws.toArray) (hl : ws.length = n) (h1 : ∀ x ∈ ws, x.oneCell' = true)
    (hg : w.heap[g]? = some (.cells cur e (0, 0))) (hfit : o + n ≤ cur.size) :
    (Instr.storeAt t (.pointer (some ⟨g, o, none⟩)) u).run P w = .ok () (w.setRow g (cur.toList.take o ++ ws ++ cur.toList.drop (o + n)).toArray) := by
  have hst := run_storeCells_at P g o e ws 0 cur w hg (by simp only [Nat.add_zero]; omega) h1
  simp only [Nat.add_zero] at hst
  simp [Instr.storeAt, Instr.sureAddr, storeVar, hu, hl, run_sizeOf hn, hst]

theorem setAtV_eq : ∀ (ws : List Value) (off : Nat) (us : List Value), off + ws.length ≤ us.length → setAtV us off ws = us.take off ++ ws ++ us.drop (off + ws.length)
  | [], off, us, _ => by simp [setAtV]
  | x :: ws, off, us, h => by
    simp only [setAtV]
    rw [setAtV_eq ws (off + 1) (us.set off x) (by simp at h ⊢; omega)]
    have hlt : off < us.length := by simp at h; omega
    have e1 : (us.set off x).take (off + 1) = us.take off ++ [x] := by
      rw [List.take_succ_eq_append_getElem (by simpa using hlt), List.take_set_of_le (Nat.le_refl _)]
      simp
    have e2 : (us.set off x).drop (off + 1 + ws.length) = us.drop (off + 1 + ws.length) := by rw [List.drop_set_of_lt (by omega)]
    rw [e1, e2]
    rw [List.length_cons, show off + (ws.length + 1) = off + 1 + ws.length by omega]
    simp

theorem aeff_sound (hE : EnvOk w φ I E a) (hS : St B φ I H w) {obl : List Nat} {o : Oper} {sc : Prop} {v : AV} {H' : Heap} (h : aeff P B.nb obl E H o = some (sc, v, H')) (hsc : sc) :
    Does P B w φ I (execOp a.eval o) v H' := by
  obtain ⟨dst, op, ty, pos, after, guard⟩ := o
  unfold aeff at h
  simp only at h
  split at h
  · -- alloc
    rename_i t
    split at h
    · rename_i z hz
      obtain ⟨it, zv, hit, hzv, rfl⟩ := zro_info hz
      cases hb : zv.cells.toList.all Value.oneCell' with
      | false => rw [hb] at h; simp at h
      | true =>
        rw [hb] at h
        simp only [cond_true] at h
        have hrun : (execOp a.eval ⟨dst, .alloc t, ty, pos, after, guard⟩).run P w = .ok (.value (.pointer (some ⟨w.heap.size, 0, none⟩))) (w.alloc (.cells zv.cells t)) := by
          simp [execOp, Instr.alloc, zeroValue, typeInfo, hit, hzv, newVar, newRow]
        have hvar : ∀ {H'}, H' = (nidx B.nb H, Ob.var t (zv.cells.toList.map fun c => .im (.v c))) :: H → Does P B w φ I (execOp a.eval ⟨dst, .alloc t, ty, pos, after, guard⟩) (.ob (nidx B.nb H) 0) H' := by
          intro H' e
          subst e
          obtain ⟨h1, h2⟩ := hS.alloc_own (nid_fresh B.nb H) (nidx_ge B.nb H).1 (cs := zv.cells) (e := t) (o := .var t (zv.cells.toList.map fun c => .im (.v c))) (by
            simp only [Ob.at]
            exact ⟨_, zv.cells.toList, rfl, by simpa using al_new w _, dens_ofVals _ hb, List.all_eq_true.1 hb⟩)
          exact ⟨_, _, _, _, hrun, .inl ⟨_, rfl, by simp only [AV.den, upd]; exact ⟨_, by simp, rfl⟩⟩, h1, h2⟩
        split at h
        · rename_i m e _
          cases hd : decide (sz P e = some 1) with
          | true =>
            rw [hd] at h
            simp only [cond_true, Option.some.injEq, Prod.mk.injEq] at h
            obtain ⟨_, rfl, rfl⟩ := h
            obtain ⟨h1, h2⟩ := hS.alloc_own (nid_fresh B.nb H) (nidx_ge B.nb H).1 (cs := zv.cells) (e := t) (o := .vec t 1 (zv.cells.toList.map fun c => [.v c])) (by
              simp only [Ob.at]
              refine .inr ⟨_, zv.cells.toList.map fun c => [c], [], rfl, ?_, rows1_dens _ hb, by simp⟩
              rw [flat1]
              simpa using al_new w _)
            exact ⟨_, _, _, _, hrun, .inl ⟨_, rfl, by simp only [AV.den, upd]; exact ⟨_, by simp, rfl⟩⟩, h1, h2⟩
          | false =>
            rw [hd] at h
            simp only [cond_false, Option.some.injEq, Prod.mk.injEq] at h
            obtain ⟨_, rfl, rfl⟩ := h
            exact hvar rfl
        · simp only [Option.some.injEq, Prod.mk.injEq] at h
          obtain ⟨_, rfl, rfl⟩ := h
          exact hvar rfl
    · cases h
  · -- box
    rename_i t x
    split at h
    · rename_i av hx
      have hd := ev_sound (w := w) (φ := φ) (I := I) hE hx
      have hrun : (execOp a.eval ⟨dst, .box t x, ty, pos, after, guard⟩).run P w = .ok (.value (.pointer (some ⟨w.heap.size, 0, none⟩))) (w.alloc (.cells (a.eval x).cells t)) := by
        simp [execOp, Instr.box, newVar, newRow]
      cases hb : inO obl dst with
      | true =>
        rw [hb] at h
        simp only [cond_true] at h
        split at h
        · rename_i ys hy
          simp only [Option.some.injEq, Prod.mk.injEq] at h
          obtain ⟨_, rfl, rfl⟩ := h
          obtain ⟨ws, hw, hdw, hw1⟩ := cellsOfAV_den hy hd
          rw [hw] at hrun
          have hnb : φ (nidx B.nb H) = none := by
            have := hS.real.dom (nidx B.nb H)
            rw [nid_fresh B.nb H] at this
            cases hq : φ (nidx B.nb H) with
            | none => rfl
            | some _ => rw [hq] at this; cases this
          obtain ⟨h1, h2⟩ := hS.alloc_own (nid_fresh B.nb H) (nidx_ge B.nb H).1 (cs := ws.toArray) (e := t) (o := .var t ys) (by
            simp only [Ob.at]
            refine ⟨_, ws, rfl, by simpa using al_new w _, ?_, hw1⟩
            refine AV.dens_mono (fun g hg => heap_alloc_old w _ (hS.real.imm g hg)) (fun _ h => h) (fun b p hp => ?_) (fun g n hs => (ext_alloc (fun _ => False) w _).shaped hs) ys ws hdw
            unfold upd
            rw [if_neg (by intro e; rw [e, hnb] at hp; cases hp)]
            exact hp)
          exact ⟨_, _, _, _, hrun, .inl ⟨_, rfl, by simp only [AV.den, upd]; exact ⟨_, by simp, rfl⟩⟩, h1, h2⟩
        · cases h
      | false =>
        rw [hb] at h
        simp only [cond_false] at h
        split at h
        · rename_i cs hc
          simp only [Option.some.injEq, Prod.mk.injEq] at h
          obtain ⟨_, rfl, rfl⟩ := h
          obtain ⟨us, hu, hdu⟩ := imCells_den hc hd
          rw [hu] at hrun
          obtain ⟨h1, h2⟩ := hS.alloc_im us.toArray t
          refine ⟨_, _, _, _, hrun, .inl ⟨_, rfl, ?_⟩, h1, h2⟩
          simp only [AV.den, IV.den]
          refine ⟨_, 0, us, rfl, .inr rfl, IV.dens_mono h2.im h2.I cs us hdu, fun j u hu => ?_⟩
          rw [Nat.zero_add]
          simp only [World.cell?, al_new w, Option.isSome_none, Bool.false_eq_true, if_false, List.getElem?_toArray]
          exact hu
        · cases h
    · cases h
  · -- buildSlice
    rename_i t len parts
    split at h
    · rename_i e ht
      split at h
      · split at h
        · rename_i es hes hparts
          simp only [Option.some.injEq, Prod.mk.injEq] at h
          obtain ⟨_, rfl, rfl⟩ := h
          obtain rfl : parts = #[] := by cases parts; simpa using hparts
          have hrun : (execOp a.eval ⟨dst, .buildSlice t 0 #[], ty, pos, after, guard⟩).run P w = .ok (.value (.slice (some ⟨w.heap.size, 0, none⟩) 0 0)) (w.alloc (.cells #[] e)) := by
            have h0 : Array.range 0 = #[] := by decide
            simp [execOp, Instr.buildSlice, run_underlying (und_slice ht), run_sizeOf hes, Instr.fill, newRow, h0]
          obtain ⟨h1, h2⟩ := hS.alloc_own (nid_fresh B.nb H) (nidx_ge B.nb H).1 (cs := #[]) (e := e) (o := .vec e es []) (by
              simp only [Ob.at]
              exact .inr ⟨_, [], [], rfl, by simpa using al_new w _, by simp [IV.denss], by simp⟩)
          refine ⟨_, _, _, _, hrun, .inl ⟨_, rfl, ?_⟩, h1, h2⟩
          simp only [AV.den, upd]
          exact .inr ⟨_, 0, by simp, by simp, Nat.le_refl _, Nat.zero_le _, #[], e, al_new w _, by simp⟩
        · cases h
      · rename_i k
        split at h
        · rename_i es z hes hz
          cases hb : (Nat.beq parts.toList.length (k + 1) && Nat.beq z.length (es + 1) && Nat.ble ((k + 1) * (es + 1)) 16777216) with
          | false => rw [hb] at h; simp at h
          | true =>
            rw [hb] at h
            simp only [cond_true] at h
            simp only [Bool.and_eq_true] at hb
            have hpl := Nat.eq_of_beq_eq_true hb.1.1
            have hsm := Nat.le_of_ble_eq_true hb.2
            split at h
            · rename_i rows hrows
              obtain ⟨vs, hv1, hv2, hv3, hv4⟩ := rowsOf_sound (w := w) (φ := φ) (I := I) hE _ _ _ hrows
              obtain ⟨_, ie, hie, hsz⟩ := sz_both hes
              obtain ⟨ie', zv, hie', hzv, _⟩ := zro_info hz
              rw [hie] at hie'
              cases hie'
              have hrun : (execOp a.eval ⟨dst, .buildSlice t (k + 1) parts, ty, pos, after, guard⟩).run P w = .ok (.value (.slice (some ⟨w.heap.size, 0, none⟩) (k + 1) (k + 1))) (w.alloc (.cells (vs.flatMap fun v => v.cells.toList).toArray e)) := by
                have := run_buildSlice (P := P) w t e (k + 1) (parts.map fun (i, x) => (i, a.eval x)) (vs.flatMap fun v => v.cells.toList).toArray ie zv (und_slice ht) hie hzv (by rw [hsz]; show ¬ (k + 1) * (es + 1) > 2 ^ 24; omega) (by rw [hsz]; simp) (by
                  rw [parts_map, hv1, hsz]
                  exact Great.fill_whole (Nat.succ_pos _) vs _ hv2 (by rw [hv3, hpl]; simp))
                simp only [execOp, Sem.run_bind, this, Result.andThen_ok, Sem.run_pure]
              have hfl : (vs.flatMap fun v => v.cells.toList) = (vs.map fun v => v.cells.toList).flatten := by simp [List.flatMap]
              have hrl : rows.length = k + 1 := by rw [← denss_len _ _ hv4, List.length_map, hv3, hpl]
              cases hq : inO obl dst with
              | true =>
                rw [hq] at h
                simp only [cond_true, Option.some.injEq, Prod.mk.injEq] at h
                obtain ⟨_, rfl, rfl⟩ := h
                obtain ⟨h1, h2⟩ := hS.alloc_own (nid_fresh B.nb H) (nidx_ge B.nb H).1 (cs := (vs.flatMap fun v => v.cells.toList).toArray) (e := e) (o := .vec e (es + 1) rows) (by
                  simp only [Ob.at]
                  refine .inr ⟨_, vs.map fun v => v.cells.toList, [], rfl, ?_, IV.denss_mono (fun g hg => heap_alloc_old w _ (hS.real.imm g hg)) (fun _ h => h) rows _ hv4, ?_⟩
                  · rw [List.append_nil, ← hfl]; exact al_new w _
                  · intro us hus
                    obtain ⟨v, hv, rfl⟩ := List.mem_map.1 hus
                    simpa using hv2 v hv)
                refine ⟨_, _, _, _, hrun, .inl ⟨_, rfl, ?_⟩, h1, h2⟩
                simp only [AV.den, upd]
                refine .inr ⟨_, k + 1, by simp, by simp, Nat.le_refl _, ?_, _, e, al_new w _, ?_⟩
                · have : k + 1 ≤ (k + 1) * (es + 1) := Nat.le_mul_of_pos_right _ (Nat.succ_pos _)
                  unfold maxLen; omega
                · rw [hfl]
                  have : ∀ (l : List (List Value)), (∀ x ∈ l, x.length = es + 1) → l.flatten.length = l.length * (es + 1) := by
                    intro l
                    induction l with
                    | nil => simp
                    | cons x l ih => intro hx; simp only [List.flatten_cons, List.length_append, List.length_cons]; rw [ih (fun y hy => hx y (by simp [hy])), hx x (by simp), Nat.add_mul]; omega
                  rw [List.size_toArray, this _ (by intro us hus; obtain ⟨v, hv, rfl⟩ := List.mem_map.1 hus; simpa using hv2 v hv), List.length_map, hv3, hpl]
                  simp
              | false =>
                rw [hq] at h
                simp only [cond_false, Option.some.injEq, Prod.mk.injEq] at h
                obtain ⟨_, rfl, rfl⟩ := h
                obtain ⟨h1, h2⟩ := hS.alloc_im (vs.flatMap fun v => v.cells.toList).toArray e
                refine ⟨_, _, _, _, hrun, .inl ⟨_, rfl, ?_⟩, h1, h2⟩
                simp only [AV.den, IV.den]
                refine ⟨_, k + 1, vs.map fun v => v.cells.toList, by rw [hrl], by omega, IV.denss_mono h2.im h2.I rows _ hv4, ?_, fun _ => ⟨w.heap.size, 0, rfl, .inr rfl, fun j u hu => ?_⟩⟩
                · intro us hus
                  obtain ⟨v, hv, rfl⟩ := List.mem_map.1 hus
                  simpa using hv2 v hv
                · rw [Nat.zero_add]
                  rw [← hfl] at hu
                  simp only [World.cell?, al_new w, Option.isSome_none, Bool.false_eq_true, if_false, List.getElem?_toArray]
                  exact hu
            · cases h
        · cases h
    · cases h
  · -- store
    rename_i t p x
    split at h
    · rename_i b off av n hp hx hn
      have hdx := ev_sound (w := w) (φ := φ) (I := I) hE hx
      have hdp := ev_sound (w := w) (φ := φ) (I := I) hE hp
      simp only [AV.den] at hdp
      obtain ⟨g, hg, hpv⟩ := hdp
      split at h
      · rename_i el cs hlk
        split at h
        · rename_i ys hy
          cases hq : Nat.beq ys.length n with
          | false => rw [hq] at h; simp at h
          | true =>
            rw [hq] at h
            simp only [cond_true, Option.some.injEq, Prod.mk.injEq] at h
            obtain ⟨rfl, rfl, rfl⟩ := h
            have hyl := Nat.eq_of_beq_eq_true hq
            obtain ⟨ws, hw, hdw, hw1⟩ := cellsOfAV_den hy hdx
            have hown := hS.real.own b _ _ hlk hg
            simp only [Ob.at] at hown
            obtain ⟨g', us, hgg, hheap, hd, h1⟩ := hown
            cases hgg
            have hul := adens_len cs us hd
            have hwl : ws.length = n := by rw [adens_len ys ws hdw]; exact hyl
            have hrun := run_storeAt (P := P) (w := w) (o := off) hn hw hwl hw1 hheap (by simp; omega)
            have e1 := setAtV_eq ws off us (by omega)
            rw [hwl] at e1
            rw [← e1] at hrun
            have hkeep : ∀ (y : AV) (u : Value), True := fun _ _ => trivial
            obtain ⟨h2, h3⟩ := hS.write (o' := .var el (setAt cs off ys)) hlk hg hheap (cs := (setAtV us off ws).toArray) (by simp [setAtV_len]) (fun _ _ _ => ⟨_, _, rfl⟩) (by
              simp only [Ob.at]
              refine ⟨g, setAtV us off ws, rfl, setRow_heap w g _ _ el (0, 0) hheap, ?_, setAtV_one ws off us h1 hw1⟩
              refine AV.dens_mono (fun g' hg' => setRow_other w g g' _ (fun e => by subst e; exact (hS.real.off b g' hg).1 hg')) (fun _ h => h) (fun _ _ h => h) (fun g' n' hs => ?_) _ _ (setAt_dens ys ws off cs us hd hdw)
              obtain ⟨c, e, hc, hcn⟩ := hs
              by_cases hgg : g' = g
              · subst hgg
                rw [hheap] at hc
                cases hc
                exact ⟨_, el, setRow_heap w g' _ _ el (0, 0) hheap, by rw [← hcn]; simp [setAtV_len]⟩
              · exact ⟨c, e, (setRow_other w g g' _ hgg).trans hc, hcn⟩)
            refine ⟨.skip, _, _, _, ?_, .inr ⟨rfl, by simp only [AV.den]⟩, h2, h3⟩
            simp only [execOp, hpv, Sem.run_bind, hrun, Result.andThen_ok, Sem.run_pure]
        · cases h
      · rename_i el rows hlk
        split at h
        · rename_i cs
          cases hq : Nat.beq off 0 with
          | false => rw [hq] at h; simp at h
          | true =>
            rw [hq] at h
            have ho := Nat.eq_of_beq_eq_true hq
            subst ho
            simp only [cond_true, Option.some.injEq, Prod.mk.injEq] at h
            obtain ⟨rfl, rfl, rfl⟩ := h
            obtain ⟨hcl, hrl⟩ := hsc
            simp only [AV.den] at hdx
            obtain ⟨ws, hdw, hxv⟩ := hdx
            have hown := hS.real.own b _ _ hlk hg
            simp only [Ob.at] at hown
            rcases hown with ⟨hno, _⟩ | ⟨g', vss, rest, hgg, hheap, hd, hl⟩
            · cases hno
            cases hgg
            have hwl : ws.length = n := by rw [idens_len cs ws hdw]; exact hcl
            have hvl := denss_len rows vss hd
            have hfl : ∀ (l : List (List Value)), (∀ x ∈ l, x.length = 1) → l.flatten.length = l.length := by
              intro l
              induction l with
              | nil => simp
              | cons x l ih => intro hx; simp only [List.flatten_cons, List.length_append, List.length_cons]; rw [ih (fun y hy => hx y (by simp [hy])), hx x (by simp)]; omega
            have hvfl := hfl vss hl
            have hrun := run_storeAt (P := P) (w := w) (o := 0) (u := a.eval x) hn (by rw [hxv]; rfl) hwl (idens_one cs ws hdw) hheap (by simp only [List.size_toArray, List.length_append]; omega)
            have e1 : ((vss.flatten ++ rest).toArray.toList.take 0 ++ ws ++ (vss.flatten ++ rest).toArray.toList.drop (0 + n)) = (ws.map fun c => [c]).flatten ++ rest := by
              rw [flat1]
              simp only [List.take_zero, List.nil_append, Nat.zero_add]
              rw [List.drop_append, List.drop_eq_nil_of_le (as := vss.flatten) (by omega), show n - vss.flatten.length = 0 from by omega]
              rfl
            rw [e1] at hrun
            obtain ⟨h2, h3⟩ := hS.write (o' := .vec el 1 (cs.map fun c => [c])) hlk hg hheap (cs := ((ws.map fun c => [c]).flatten ++ rest).toArray) (by rw [flat1]; simp only [List.size_toArray, List.length_append]; omega) (fun _ _ e => by cases e) (by
              simp only [Ob.at]
              refine .inr ⟨g, ws.map fun c => [c], rest, rfl, setRow_heap w g _ _ el (0, 0) hheap, ?_, by simp⟩
              refine IV.denss_mono (fun g' hg' => setRow_other w g g' _ (fun e => by subst e; exact (hS.real.off b g' hg).1 hg')) (fun _ h => h) _ _ ?_
              have : ∀ (xs : List IV) (us : List Value), IV.dens w I xs us → IV.denss w I (xs.map fun c => [c]) (us.map fun c => [c]) := by
                intro xs
                induction xs with
                | nil => intro us h; simp only [IV.dens] at h; subst h; simp [IV.denss]
                | cons x xs ih =>
                  intro us h
                  simp only [IV.dens] at h
                  obtain ⟨u, us', rfl, h1, h2⟩ := h
                  simp only [List.map_cons, IV.denss, IV.dens]
                  exact ⟨[u], _, rfl, ⟨u, [], rfl, h1, rfl⟩, ih us' h2⟩
              exact this cs ws hdw)
            refine ⟨.skip, _, _, _, ?_, .inr ⟨rfl, by simp only [AV.den]⟩, h2, h3⟩
            simp only [execOp, hpv, Sem.run_bind, hrun, Result.andThen_ok, Sem.run_pure]
        · cases h
      · cases h
    · rename_i b es i j av n hp hx hn
      have hdx := ev_sound (w := w) (φ := φ) (I := I) hE hx
      have hdp := ev_sound (w := w) (φ := φ) (I := I) hE hp
      simp only [AV.den] at hdp
      obtain ⟨g, hg, hpv⟩ := hdp
      split at h
      · rename_i el es' rows c hlk hc
        cases hq : (Nat.beq es es' && Nat.beq c.length n) with
        | false => rw [hq] at h; simp at h
        | true =>
          rw [hq] at h
          simp only [cond_true, Option.some.injEq, Prod.mk.injEq] at h
          obtain ⟨rfl, rfl, rfl⟩ := h
          simp only [Bool.and_eq_true] at hq
          have hes := Nat.eq_of_beq_eq_true hq.1
          subst hes
          have hcl := Nat.eq_of_beq_eq_true hq.2
          obtain ⟨hi, hj⟩ := hsc
          obtain ⟨ws, hw, hdw⟩ := imCells_den hc hdx
          have hown := hS.real.own b _ _ hlk hg
          simp only [Ob.at] at hown
          rcases hown with ⟨hno, _⟩ | ⟨g', vss, rest, hgg, hheap, hd, hl⟩
          · cases hno
          cases hgg
          have hwl : ws.length = n := by rw [idens_len c ws hdw]; exact hcl
          have hvl := denss_len rows vss hd
          obtain ⟨vs, hvs, hdv⟩ := denss_get rows vss i _ hd (List.getElem?_eq_getElem hi)
          have e0 : rows.getD i [] = rows[i] := by simp [List.getD, hi]
          have hvsl : vs.length = es := hl vs (List.mem_of_getElem? hvs)
          have hrl : rows[i].length = es := by rw [← idens_len _ vs hdv]; exact hvsl
          have hiv : i < vss.length := by omega
          have hfl : ∀ (l : List (List Value)), (∀ x ∈ l, x.length = es) → l.flatten.length = l.length * es := by
            intro l
            induction l with
            | nil => simp
            | cons x l ih => intro hx; simp only [List.flatten_cons, List.length_append, List.length_cons]; rw [ih (fun y hy => hx y (by simp [hy])), hx x (by simp), Nat.add_mul]; omega
          have hvfl := hfl vss hl
          have hbnd : i * es + es ≤ vss.flatten.length := by
            rw [hvfl]
            have := Nat.mul_le_mul_right es (show i + 1 ≤ vss.length by omega)
            rw [Nat.add_mul] at this; omega
          have hrun := run_storeAt (P := P) (w := w) (o := i * es + j) (u := a.eval x) hn hw hwl (idens_one c ws hdw) hheap (by simp only [List.size_toArray, List.length_append]; omega)
          have hnew : (vs.take j ++ ws ++ vs.drop (j + n)).length = es := by simp only [List.length_append, List.length_take, List.length_drop]; omega
          have hrow : vss.flatten.drop (i * es) = vs ++ vss.flatten.drop (i * es + es) := by
            have hd1 := flat_drop i vss es hl (by omega)
            rw [← hd1, List.drop_eq_getElem_cons hiv, List.flatten_cons]
            have hd2 := flat_drop (i + 1) vss es hl (by omega)
            have hvi : vss[i] = vs := by
              have := List.getElem?_eq_getElem hiv
              rw [this] at hvs
              exact Option.some.inj hvs
            rw [hvi, hd2, Nat.add_mul, Nat.one_mul]
          have e1 : ((vss.flatten ++ rest).toArray.toList.take (i * es + j) ++ ws ++ (vss.flatten ++ rest).toArray.toList.drop (i * es + j + n)) = (vss.set i (vs.take j ++ ws ++ vs.drop (j + n))).flatten ++ rest := by
            rw [flat_set vss es i _ hl hnew hiv]
            simp only []
            have t1 : (vss.flatten ++ rest).take (i * es + j) = vss.flatten.take (i * es) ++ vs.take j := by
              rw [List.take_append_of_le_length (by omega)]
              have : i * es + j = i * es + j := rfl
              rw [List.take_add, hrow, List.take_append_of_le_length (by omega)]
            have t2 : (vss.flatten ++ rest).drop (i * es + j + n) = vs.drop (j + n) ++ vss.flatten.drop (i * es + es) ++ rest := by
              rw [List.drop_append_of_le_length (by omega), show i * es + j + n = i * es + (j + n) by omega, ← List.drop_drop, hrow, List.drop_append_of_le_length (by omega)]
            rw [t1, t2]
            simp
          rw [e1] at hrun
          obtain ⟨h2, h3⟩ := hS.write (o' := .vec el es (rows.set i (setRowI (rows.getD i []) j c))) hlk hg hheap (cs := ((vss.set i (vs.take j ++ ws ++ vs.drop (j + n))).flatten ++ rest).toArray) (by
              rw [flat_set vss es i _ hl hnew hiv]
              simp only [List.size_toArray, List.length_append, List.length_take, List.length_drop]
              omega) (fun _ _ e => by cases e) (by
            simp only [Ob.at]
            refine .inr ⟨g, vss.set i (vs.take j ++ ws ++ vs.drop (j + n)), rest, rfl, setRow_heap w g _ _ el (0, 0) hheap, ?_, ?_⟩
            · refine IV.denss_mono (fun g' hg' => setRow_other w g g' _ (fun e => by subst e; exact (hS.real.off b g' hg).1 hg')) (fun _ h => h) _ _ ?_
              rw [e0]
              have hdr := dens_setRow hdv hdw (j := j) (by omega)
              rw [hwl] at hdr
              exact denss_set rows vss i _ _ hd hdr
            · intro us hus
              rcases List.mem_or_eq_of_mem_set hus with h' | rfl
              · exact hl us h'
              · exact hnew)
          refine ⟨.skip, _, _, _, ?_, .inr ⟨rfl, by simp only [AV.den]⟩, h2, h3⟩
          simp only [execOp, hpv, Sem.run_bind, hrun, Result.andThen_ok, Sem.run_pure]
      · cases h
    · cases h
  · cases h
end
end Go.AL
