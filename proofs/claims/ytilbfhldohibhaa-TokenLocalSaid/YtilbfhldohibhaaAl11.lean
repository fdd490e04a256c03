import Derived.Test.YtilbfhldohibhaaAl10
set_option linter.unusedSimpArgs false
set_option linter.unusedVariables false
set_option linter.unnecessarySimpa false
namespace Go.AL
open Go

theorem ext_drew {own : Nat → Prop} {w : World} (o : Obj) : Ext own w (w.drew.alloc o) := by
  have e := ext_alloc own w.drew o
  exact ⟨e.size, e.keep, e.form, e.os, e.tape, e.output⟩

theorem ext_set {w : World} {g : Nat} {cur cs : Array Value} {e : TypeId} (hc : w.heap[g]? = some (.cells cur e (0, 0))) (hsz : cs.size = cur.size) : Ext (fun x => x = g) w (w.setRow g cs) :=
  ⟨by simp, fun g' _ hn => setRow_other w g g' cs hn, fun g' c e' fz hc' => by
    by_cases hgg : g' = g
    · subst hgg
      rw [hc] at hc'
      cases hc'
      exact ⟨cs, setRow_heap w g' cur cs e (0, 0) hc, hsz⟩
    · exact ⟨c, (setRow_other w g g' cs hgg).trans hc', rfl⟩, rfl, rfl, rfl⟩

theorem Ext.weak {own own' : Nat → Prop} {w w' : World} (h : Ext own w w') (ho : ∀ g, own g → own' g) : Ext own' w w' := ⟨h.size, fun g hg hn => h.keep g hg (fun h' => hn (ho g h')), h.form, h.os, h.tape, h.output⟩

/-- 'append' onto a row of the own heap: what is handed to 'St.move'. -/
theorem append_own {P : Program} {B : Bs} {φ : Phi} {I : Nat → Prop} {H : Heap} {w : World} (hS : St B φ I H w) {b n : Nat} {e t ty : TypeId} {es bytes : Nat} {rows xs : List (List IV)} {s x : Value}
    (hs : AV.den w φ I (.os b (es + 1) 0 n) s) (hx : AV.den w φ I (.im (.sl (es + 1) xs)) x) (hH : lk H b = some (.vec e (es + 1) rows)) (hn : n = rows.length)
    (ht : tk P t = .slice e) (hes : sz P e = some (es + 1)) (hz : (zro P e).map List.length = some (es + 1)) (hby : by' P e = some bytes)
    (hb1 : (rows.length + xs.length) * bytes ≤ 140737488355328) (hb2 : rows.length + xs.length ≤ maxLen) :
    ∃ u w' p', (Builtin.append_ #[t, t] ty #[s, x]).run P w = .ok u w' ∧ Ext (fun g => φ b = some (some g)) w w' ∧ (Ob.vec e (es + 1) (rows ++ xs)).at w' (upd φ b p') I p' ∧
      (∀ g, p' = some g → φ b = some (some g) ∨ w.heap.size ≤ g) ∧ (∀ g, p' = some g → g < w'.heap.size) ∧ AV.den w' (upd φ b p') I (.os b (es + 1) 0 (rows.length + xs.length)) u := by
  subst hn
  simp only [AV.den, IV.den] at hs hx
  obtain ⟨px, cx, vsx, rfl, hcx, hrx, hlx, hax⟩ := hx
  obtain ⟨_, ie, hie, hisz⟩ := sz_both hes
  have hiby : ie.bytes = bytes := by
    unfold by' at hby
    rw [hie] at hby
    simpa using hby
  obtain ⟨z, hz1, hz2⟩ : ∃ z, ie.zero = some z ∧ z.cells.size = es + 1 := by
    unfold zro at hz
    rw [hie] at hz
    simp only [Option.bind_some] at hz
    cases hzz : ie.zero with
    | none => rw [hzz] at hz; cases hz
    | some z => rw [hzz] at hz; exact ⟨z, rfl, by simpa using hz⟩
  have hImono : ∀ {w' : World}, Ext (fun g => φ b = some (some g)) w w' → ∀ g, I g → w'.heap[g]? = w.heap[g]? := fun hx g hg => hx.keep g (hS.real.imm g hg) (fun e => (hS.real.off b g e).1 hg)
  have hupd : ∀ p, upd φ b p b = some p := fun p => by simp [upd]
  have hat := fun p hp => hS.real.own b _ p hH hp
  simp only [Ob.at] at hat
  have hvx := denss_len xs vsx hrx
  have hfx := flat_len vsx (es + 1) hlx
  by_cases hx0 : xs = []
  · -- nothing is appended
    subst hx0
    rcases hs with ⟨h1, _, h2, rfl⟩ | ⟨g, c, h1, rfl, h2, h3, h4⟩
    · refine ⟨_, w, none, run_append0 ht hes none px 0 0 cx (Nat.le_refl _) w, Ext.refl _ w, ?_, fun g hg => (by cases hg), fun g hg => (by cases hg), ?_⟩
      · simp only [Ob.at]
        rcases hat none h1 with ⟨_, hr⟩ | ⟨g, _, _, hg, _⟩
        · exact .inl ⟨by simp, by rw [hr]; simp⟩
        · cases hg
      · simp only [AV.den]
        exact .inl ⟨hupd _, by simp, by simpa using h2, by simp⟩
    · refine ⟨_, w, some g, run_append0 ht hes _ px _ c cx h2 w, Ext.refl _ w, ?_, fun g' hg => .inl (by cases hg; exact h1), fun g' hg => (by cases hg; exact (hS.real.off b g h1).2), ?_⟩
      · simp only [Ob.at, List.append_nil]
        rcases hat (some g) h1 with ⟨hno, _⟩ | ⟨g', vss, rest, hg, hr⟩
        · cases hno
        · exact .inr ⟨g', vss, rest, hg, hr⟩
      · simp only [AV.den]
        exact .inr ⟨g, c, hupd _, by simp, by simpa using h2, h3, h4⟩
  · obtain ⟨gx, ox, rfl, hgx, hcell⟩ := hax hx0
    have hm0 : 0 < xs.length := List.length_pos_iff.2 hx0
    have hnews : ∀ j u, vsx.flatten[j]? = some u → w.cell? ((⟨gx, ox, none⟩ : Addr).add j) = some u := fun j u hu => by rw [addr_add]; exact hcell j u hu
    have hnl : vsx.flatten.length = xs.length * ie.size := by rw [hfx, hvx, hisz]
    have hsm : rows.length + xs.length ≤ 9223372036854775807 := by simp only [maxLen] at hb2; omega
    have h1x : ∀ u ∈ vsx.flatten, u.oneCell' = true := idens_one _ _ (denss_flat _ _ hrx)
    rcases hs with ⟨h1, _, h2, rfl⟩ | ⟨g, c, h1, rfl, h2, h3, h4⟩
    · -- the row was nil
      have hr0 : rows = [] := List.eq_nil_of_length_eq_zero h2
      subst hr0
      have hrun := run_append_nil (P := P) w t ty e ie z (und_slice ht) hie hz1 ⟨gx, ox, none⟩ xs.length cx vsx.flatten hnl hnews hm0 (by simp at hsm; omega) (by rw [hiby]; simp at hb1; omega)
      have hge := grownCap_ge w xs.length 0 e
      have hle := grownCap_le_maxLen w xs.length 0 e (by simp at hb2; exact hb2)
      have hx' := ext_drew (own := fun g => φ b = some (some g)) (w := w) (.cells (vsx.flatten.toArray ++ Builtin.zeroCells z.cells (grownCap w xs.length 0 e - xs.length)) e)
      refine ⟨_, _, some w.heap.size, hrun, hx', ?_, fun g hg => .inr (by cases hg; exact Nat.le_refl _), fun g hg => (by cases hg; simp), ?_⟩
      · simp only [Ob.at, List.nil_append]
        refine .inr ⟨_, vsx, (Builtin.zeroCells z.cells (grownCap w xs.length 0 e - xs.length)).toList, rfl, ?_, IV.denss_mono (hImono hx') (fun _ h => h) xs vsx hrx, hlx⟩
        rw [show (w.heap.size : Nat) = w.drew.heap.size from rfl, al_new w.drew]
        congr 2
        apply Array.ext'
        simp
      · simp only [AV.den]
        refine .inr ⟨_, _, hupd _, by simp, by simpa using hge, hle, _, e, al_new w.drew _, ?_⟩
        simp only [Array.size_append, List.size_toArray, size_zeroCells, hz2, hnl, hisz, Nat.zero_add, ← Nat.add_mul]
        congr 1
        omega
    · rcases hat (some g) h1 with ⟨hno, _⟩ | ⟨g', vss, rest, hg, hheap, hr, hl⟩
      · cases hno
      cases hg
      have hvl := denss_len rows vss hr
      have hfl := flat_len vss (es + 1) hl
      obtain ⟨cc, ee, hcc, hcsz⟩ := h4
      rw [hheap] at hcc
      cases hcc
      have hcur : (vss.flatten ++ rest).length = c * (es + 1) := by simpa using hcsz
      simp only [Nat.zero_mul]
      by_cases hroom : rows.length + xs.length ≤ c
      · have hfit : rows.length * (es + 1) + vsx.flatten.length ≤ (vss.flatten ++ rest).toArray.size := by
          rw [List.size_toArray, hcur, hnl, hisz, ← Nat.add_mul]
          exact Nat.mul_le_mul_right _ hroom
        have hrun := run_append_room (P := P) w t ty e ie (und_slice ht) hie g rows.length c (vss.flatten ++ rest).toArray hheap ⟨gx, ox, none⟩ xs.length cx vsx.flatten hnl hnews h1x hroom (by rw [hisz]; exact hfit)
        rw [hisz] at hrun
        have e1 : (vss.flatten ++ rest).toArray.toList.take (rows.length * (es + 1)) = vss.flatten := by
          simp only []
          rw [← hvl, ← hfl]; simp
        have e2 : ∃ rest', (vss.flatten ++ rest).toArray.toList.drop (rows.length * (es + 1) + vsx.flatten.length) = rest' := ⟨_, rfl⟩
        obtain ⟨rest', e2⟩ := e2
        rw [e1, e2] at hrun
        have hszn : (vss.flatten ++ vsx.flatten ++ rest').toArray.size = (vss.flatten ++ rest).toArray.size := by
          rw [← e2]
          simp only [List.size_toArray, List.length_append, List.length_drop] at hfit ⊢
          rw [hfl, hvl] at hfit ⊢
          omega
        have hx' : Ext (fun g => φ b = some (some g)) w (w.setRow g (vss.flatten ++ vsx.flatten ++ rest').toArray) := (ext_set hheap hszn).weak (fun g' hg' => by rw [hg']; exact h1)
        refine ⟨_, _, some g, hrun, hx', ?_, fun g' hg => .inl (by cases hg; exact h1), fun g' hg => (by cases hg; simpa using (hS.real.off b g h1).2), ?_⟩
        · simp only [Ob.at]
          refine .inr ⟨g, vss ++ vsx, rest', rfl, ?_, denss_append _ _ _ _ (IV.denss_mono (hImono hx') (fun _ h => h) rows vss hr) (IV.denss_mono (hImono hx') (fun _ h => h) xs vsx hrx), fun vs hv => ?_⟩
          · rw [setRow_heap w g _ _ e (0, 0) hheap]; simp
          · rcases List.mem_append.1 hv with hv | hv
            · exact hl vs hv
            · exact hlx vs hv
        · simp only [AV.den]
          exact .inr ⟨g, c, hupd _, by simp, hroom, h3, _, e, setRow_heap w g _ _ e (0, 0) hheap, by rw [hszn, List.size_toArray, hcur]; simp⟩
      · have holds : ∀ j u, vss.flatten[j]? = some u → w.cell? ((⟨g, 0, none⟩ : Addr).add j) = some u := fun j u hu => by
          rw [addr_add, Nat.zero_add]
          have hlt : j < vss.flatten.length := by
            rcases Nat.lt_or_ge j vss.flatten.length with h | h
            · exact h
            · rw [List.getElem?_eq_none h] at hu; cases hu
          simp only [World.cell?, hheap, Option.isSome_none, Bool.false_eq_true, if_false, List.getElem?_toArray]
          rw [List.getElem?_append_left hlt]; exact hu
        have hol : vss.flatten.length = rows.length * ie.size := by rw [hfl, hvl, hisz]
        have hrun := run_append_grow (P := P) w t ty e ie z (und_slice ht) hie hz1 ⟨g, 0, none⟩ rows.length c vss.flatten hol holds ⟨gx, ox, none⟩ xs.length cx vsx.flatten hnl hnews (by omega) (by omega) (growslice_fits (by omega) (by rw [hiby]; exact hb1))
        have hge := grownCap_ge w (rows.length + xs.length) c e
        have hle := grownCap_le_maxLen w (rows.length + xs.length) c e hb2
        have hx' := ext_drew (own := fun g => φ b = some (some g)) (w := w) (.cells (vss.flatten.toArray ++ vsx.flatten.toArray ++ Builtin.zeroCells z.cells (grownCap w (rows.length + xs.length) c e - (rows.length + xs.length))) e)
        refine ⟨_, _, some w.heap.size, hrun, hx', ?_, fun g hg => .inr (by cases hg; exact Nat.le_refl _), fun g hg => (by cases hg; simp), ?_⟩
        · simp only [Ob.at]
          refine .inr ⟨_, vss ++ vsx, (Builtin.zeroCells z.cells (grownCap w (rows.length + xs.length) c e - (rows.length + xs.length))).toList, rfl, ?_, denss_append _ _ _ _ (IV.denss_mono (hImono hx') (fun _ h => h) rows vss hr) (IV.denss_mono (hImono hx') (fun _ h => h) xs vsx hrx), fun vs hv => ?_⟩
          · rw [show (w.heap.size : Nat) = w.drew.heap.size from rfl, al_new w.drew]
            congr 2
            apply Array.ext'
            simp
          · rcases List.mem_append.1 hv with hv | hv
            · exact hl vs hv
            · exact hlx vs hv
        · simp only [AV.den]
          refine .inr ⟨_, _, hupd _, by simp, hge, hle, _, e, al_new w.drew _, ?_⟩
          simp only [Array.size_append, List.size_toArray, size_zeroCells, hz2, hnl, hol, hisz, Nat.zero_add, ← Nat.add_mul]
          congr 1
          omega

section
variable {C : Cx} {K : List KI} {E : Env} {H : Heap}

theorem AO.append {ds : List (Nat × Nat)} {i : Nat} {o : Oper} {os : List Oper} {x y : Operand} {t e : TypeId} {b n es bytes d : Nat} {rows xs : List (List IV)}
    (hop : o.op = .call { callee := .builtin .append, args := #[x, y], argTypes := #[t, t] }) (hg : o.guard = none) (hd : o.dst = some d) (hdn : Nat.blt d C.n = true)
    (hx : ev E x = some (.os b (es + 1) 0 n)) (hy : ev E y = some (.im (.sl (es + 1) xs))) (hH : lk H b = some (.vec e (es + 1) rows)) (hno : noMen b H = true)
    (ht : tk C.P t = .slice e) (hes : sz C.P e = some (es + 1)) (hz : (zro C.P e).map List.length = some (es + 1)) (hby : by' C.P e = some bytes)
    (hn : n = rows.length) (hb1 : (rows.length + xs.length) * bytes ≤ 140737488355328) (hb2 : rows.length + xs.length ≤ 70368744177664)
    (h : AO C ((i, d) :: ds) (i + 1) os K ((d, .os b (es + 1) 0 (rows.length + xs.length)) :: killE b E) (hset H b (.vec e (es + 1) (rows ++ xs)))) : AO C ds i (o :: os) K E H :=
  AO.step fun ops φ I a w hds _ hs Kn hKn => by
    have hw : Region.wanted o (yielded ops a.tmps) = true := by simp [Region.wanted, hg]
    rw [if_pos hw]
    obtain ⟨u, w', p', hrun, hext, hob, hp1, hp2, hden⟩ := append_own (P := C.P) (ty := o.type) hs.st (ev_sound hs.env hx) (ev_sound hs.env hy) hH hn ht hes hz hby hb1 (by unfold maxLen; omega)
    have hS := hs.st.move hH hno (fun g hg hne => hext.keep g hg hne) hext hob hp1 hp2
    have hI : ∀ g, I g → w'.heap[g]? = w.heap[g]? := fun g hg => hext.keep g (hs.st.real.imm g hg) (fun e => (hs.st.real.off b g e).1 hg)
    have hdlt : d < C.n := by simpa [Nat.blt_eq] using hdn
    have hex : (execOp a.eval o).run C.P w = .ok (.value u) w' := by
      simp only [execOp, hop, resolve, invoke, builtin, Sem.run_bind, Sem.run_pure, Result.andThen_ok, List.map_toArray, List.map_cons, List.map_nil, hrun]
    unfold Oper.wp
    rw [hex, Oper.upon_value]
    have hds' : dsPut o.dst i ds = (i, d) :: ds := by rw [hd]; rfl
    rw [hds'] at hKn
    refine hKn _ _ _ I _ _ h ⟨by rw [hd]; exact hs.dfr, by rw [hd]; simpa [Act.put] using hs.siz, fun j y hj => ?_, hS⟩
    rw [hd]
    simp only [lk] at hj
    cases hb : Nat.beq d j with
    | true =>
      rw [hb] at hj
      have := Nat.eq_of_beq_eq_true hb
      subst this
      simp only [cond_true, Option.some.injEq] at hj
      subst hj
      exact ⟨u, by simp only [Act.put]; rw [Array.getElem?_setIfInBounds_self_of_lt (by rw [hs.siz]; exact hdlt)], hden⟩
    | false =>
      rw [hb] at hj
      simp only [cond_false] at hj
      obtain ⟨y', hy', hyd⟩ := killE_lk (w := w') (φ := φ) (φ' := upd φ b p') (I := I) (b := b) (fun b' hb' => by simp [upd, hb']) E j y hj
      obtain ⟨v, hv, hdv⟩ := hs.env j y' hy'
      refine ⟨v, ?_, hyd v (AV.den_mono hI (fun _ h => h) (fun _ _ h => h) (fun g n hs => hext.shaped hs) _ _ hdv)⟩
      simp only [Act.put]
      rw [Array.getElem?_setIfInBounds_ne (by intro e; subst e; simp at hb)]
      exact hv
end
end Go.AL
