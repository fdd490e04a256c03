import Derived.Test.YtilbfhldohibhaaAl2
set_option linter.unusedSimpArgs false
set_option linter.unusedVariables false
set_option linter.unnecessarySimpa false
namespace Go.AL
open Go

theorem addr_add (g o j : Nat) : (⟨g, o, none⟩ : Addr).add j = ⟨g, o + j, none⟩ := by unfold Addr.add; split <;> simp_all

theorem lk_lt {a : Act} {t : Tmp} {u : Value} (h : a.tmps[t]? = some u) : a.eval (.tmp t) = u := by
  simp only [Act.eval, Array.getD_eq_getD_getElem?, h, Option.getD_some]

section
variable {P : Program} {w : World} {φ : Phi} {I : Nat → Prop} {E : Env} {H : Heap} {a : Act}

theorem dens_ofVals : ∀ (l : List Value), l.all Value.oneCell' = true → AV.dens w φ I (l.map fun c => .im (.v c)) l
  | [], _ => by simp [AV.dens]
  | x :: l, h => by
    simp only [List.all_cons, Bool.and_eq_true] at h
    simp only [List.map_cons, AV.dens]
    exact ⟨x, l, rfl, by simp only [AV.den, IV.den]; exact ⟨by simp, h.1⟩, dens_ofVals l h.2⟩

theorem constAV_den (x : Value) : AV.den w φ I (constAV x) x := by
  cases x with
  | agg cs =>
    simp only [constAV]
    cases h : cs.toList.all Value.oneCell' with
    | true =>
      simp only [cond_true, AV.den]
      exact ⟨cs.toList, dens_ofVals _ h, by simp, List.all_eq_true.1 h⟩
    | false => simp [AV.den]
  | tuple _ => simp [constAV, AV.den]
  | _ => simp [constAV, AV.den, IV.den, Value.oneCell']

theorem ev_sound (hE : EnvOk w φ I E a) {x : Operand} {v : AV} (h : ev E x = some v) : AV.den w φ I v (a.eval x) := by
  cases x with
  | tmp t =>
    obtain ⟨u, hu, hd⟩ := hE t v h
    rw [lk_lt hu]; exact hd
  | const c => simp only [ev, Option.some.injEq] at h; subst h; exact constAV_den c
  | func f => simp only [ev, Option.some.injEq] at h; subst h; simp only [AV.den, AV.dens, Act.eval]; exact ⟨[], rfl, rfl⟩
  | global g => simp [ev] at h

theorem st_den {v : AV} {u : Value} (h : AV.den w φ I v u) (hg : v.g = true) : AV.den w φ I v.st u := by
  cases v <;> first | exact h | (simp only [AV.den, AV.g] at h hg; exact h.1 hg)

theorem un_sound {f : AV → Option (Prop × AV)} {x : Option AV} {sc : Prop} {v : AV} (h : un f x = some (sc, v)) (hsc : sc) : ∃ a sc', x = some a ∧ f a.st = some (sc', v) ∧ sc' ∧ a.g = true := by
  unfold un at h
  split at h
  · split at h
    · rename_i a sc' v' hf
      simp only [Option.some.injEq, Prod.mk.injEq] at h
      obtain ⟨rfl, rfl⟩ := h
      exact ⟨_, sc', rfl, hf, hsc.2, hsc.1⟩
    · cases h
  · cases h

theorem bi_sound {f : AV → AV → Option (Prop × AV)} {x y : Option AV} {sc : Prop} {v : AV} (h : bi f x y = some (sc, v)) (hsc : sc) :
    ∃ a b sc', x = some a ∧ y = some b ∧ f a.st b.st = some (sc', v) ∧ sc' ∧ a.g = true ∧ b.g = true := by
  unfold bi at h
  split at h
  · split at h
    · rename_i a b sc' v' hf
      simp only [Option.some.injEq, Prod.mk.injEq] at h
      obtain ⟨rfl, rfl⟩ := h
      exact ⟨_, _, sc', rfl, rfl, hf, hsc.2.2, hsc.1, hsc.2.1⟩
    · cases h
  · cases h

theorem den_bool {x : Bool} : AV.den w φ I (.im (.v (.bool x))) (.bool x) := by simp [AV.den, IV.den, Value.oneCell']
theorem den_int {k : IntKind} {n : Int} : AV.den w φ I (.im (.v (.int k n))) (.int k n) := by simp [AV.den, IV.den, Value.oneCell']
theorem den_str {s : ByteArray} : AV.den w φ I (.im (.v (.string s))) (.string s) := by simp [AV.den, IV.den, Value.oneCell']

theorem aStr_sound {op : BinOp} {t : TypeId} {a b : ByteArray} {sc : Prop} {v : AV} (h : aStr op a b = some (sc, v)) (hsc : sc) :
    Yields1 P w (binOp op t (.string a) (.string b)) φ I v := by
  cases op <;> simp only [aStr, Option.some.injEq, Prod.mk.injEq, reduceCtorEq] at h <;> obtain ⟨rfl, rfl⟩ := h
  all_goals first
    | (refine ⟨_, ?_, den_bool⟩; simp [binOp, Op.stringOp]; done)
    | (refine ⟨_, ?_, den_str⟩
       have hn : ¬ ((a.size + b.size : Nat) : Int) > IntKind.i64.max := by simp only [IntKind.max, IntKind.signed, IntKind.bits]; simp; omega
       simp [binOp, Op.stringOp] at hn ⊢
       omega)

theorem eqGuard_run (op : BinOp) (t : TypeId) (x y : Operand) (p q : Value) (h1 : ∀ c, p ≠ .agg c) (h2 : p ≠ .nilIface) (w : World) : (eqGuard op t x y p q).run P w = .ok () w := by
  unfold eqGuard
  cases op <;> first | rfl | (cases p <;> first | rfl | exact absurd rfl (h1 _) | exact absurd rfl h2)

theorem run_equalIn_bool (d : Nat) {t : TypeId} (a b : Bool) (ht : P.underlying t = some .bool) : (Op.equalIn (d + 1) t (.bool a) (.bool b)).run P w = .ok (a == b) w := by
  simp [Op.equalIn, run_underlying ht]
theorem run_equal_bool {t : TypeId} (a b : Bool) (ht : P.underlying t = some .bool) : (Op.equal t (.bool a) (.bool b)).run P w = .ok (a == b) w := run_equalIn_bool 9999 a b ht

theorem adens_get : ∀ (xs : List AV) (us : List Value) (i : Nat) (x : AV), AV.dens w φ I xs us → xs[i]? = some x → ∃ u, us[i]? = some u ∧ AV.den w φ I x u
  | [], _, _, _, _, h => by simp at h
  | y :: ys, us, i, x, hd, h => by
    simp only [AV.dens] at hd
    obtain ⟨u, us', rfl, h1, h2⟩ := hd
    cases i with
    | zero => simp at h; subst h; exact ⟨u, by simp, h1⟩
    | succ i => simpa using adens_get ys us' i x h2 (by simpa using h)

theorem eqC_sound {t : TypeId} {x y : AV} {p q : Value} {b : Bool} (h : eqC (tk P t) x y = some b) (hx : AV.den w φ I x p) (hy : AV.den w φ I y q) (d : Nat) :
    P.plainKey t = true ∧ (Op.equalIn (d + 1) t p q).run P w = .ok b w := by
  unfold eqC at h
  split at h
  · rw [den_i] at hx hy
    subst hx; subst hy
    split at h
    · rename_i ht
      have hu := und_int ht
      rename_i k x1 a y1 _ _
      cases hk : decide (k = a) with
      | false => rw [hk] at h; simp at h
      | true =>
        rw [hk] at h
        simp only [cond_true, Option.some.injEq] at h
        have := of_decide_eq_true hk
        subst this; subst h
        exact ⟨by simp [Program.plainKey, hu], by simp [Op.equalIn, run_underlying hu]⟩
    · cases h
  · rw [den_s] at hx hy
    subst hx; subst hy
    split at h
    · rename_i ht
      have hu := und_str ht
      simp only [Option.some.injEq] at h
      subst h
      refine ⟨by simp [Program.plainKey, hu], ?_⟩
      simp only [Op.equalIn, Sem.run_bind, run_underlying hu, Result.andThen_ok, Sem.run_pure, beq_toListBytes]
    · cases h
  · rw [den_b] at hx hy
    subst hx; subst hy
    split at h
    · rename_i ht
      have hu := und_bool ht
      simp only [Option.some.injEq] at h
      subst h
      exact ⟨by simp [Program.plainKey, hu], run_equalIn_bool d _ _ hu⟩
    · cases h
  · cases h

theorem eqFs_fields {xs ys : List AV} {us vs : List Value} (hx : AV.dens w φ I xs us) (hy : AV.dens w φ I ys vs) (d : Nat) : ∀ (F : List Field) (b : Bool), eqFs P xs ys (F.map fun f => (f.offset, f.type)) = some b → (∀ f ∈ F, f.name ≠ "_") →
    (Op.eqFields (d + 1) us.toArray vs.toArray F).run P w = .ok b w
  | [], b, h, _ => by
    simp only [List.map_nil, eqFs, Option.some.injEq] at h
    subst h; simp [Op.eqFields]
  | f :: F, b, h, hn => by
    simp only [List.map_cons, eqFs] at h
    split at h
    · rename_i x y ex ey
      split at h
      · rename_i b1 b2 h1 h2
        simp only [Option.some.injEq] at h
        subst h
        obtain ⟨u, hu, hdu⟩ := adens_get _ _ _ _ hx ex
        obtain ⟨v, hv, hdv⟩ := adens_get _ _ _ _ hy ey
        obtain ⟨hp, he⟩ := eqC_sound (P := P) h1 hdu hdv d
        have hr := eqFs_fields hx hy d F b2 h2 (fun g hg => hn g (by simp [hg]))
        have p1 := run_part_plain w hp (xs := us.toArray) (off := f.offset) (v := u) (by simpa using hu)
        have p2 := run_part_plain w hp (xs := vs.toArray) (off := f.offset) (v := v) (by simpa using hv)
        have hnf := hn f (by simp)
        simp only [Op.eqFields, hnf, ne_eq, not_false_eq_true, if_true, Sem.run_bind, p1, p2, he, Result.andThen_ok]
        cases b1 <;> simp [hr]
      · cases h
    · cases h

theorem eqFs_items {xs ys : List AV} {us vs : List Value} (hx : AV.dens w φ I xs us) (hy : AV.dens w φ I ys vs) (d : Nat) (e : TypeId) : ∀ (is : List Nat) (b : Bool), eqFs P xs ys (is.map fun i => (i, e)) = some b →
    (Op.eqItems (d + 1) e 1 us.toArray vs.toArray is).run P w = .ok b w
  | [], b, h => by
    simp only [List.map_nil, eqFs, Option.some.injEq] at h
    subst h; simp [Op.eqItems]
  | i :: is, b, h => by
    simp only [List.map_cons, eqFs] at h
    split at h
    · rename_i x y ex ey
      split at h
      · rename_i b1 b2 h1 h2
        simp only [Option.some.injEq] at h
        subst h
        obtain ⟨u, hu, hdu⟩ := adens_get _ _ _ _ hx ex
        obtain ⟨v, hv, hdv⟩ := adens_get _ _ _ _ hy ey
        obtain ⟨hp, he⟩ := eqC_sound (P := P) h1 hdu hdv d
        have hr := eqFs_items hx hy d e is b2 h2
        have p1 := run_part_plain w hp (xs := us.toArray) (off := i) (v := u) (by simpa using hu)
        have p2 := run_part_plain w hp (xs := vs.toArray) (off := i) (v := v) (by simpa using hv)
        simp only [Op.eqItems, Nat.mul_one, Sem.run_bind, p1, p2, he, Result.andThen_ok]
        cases b1 <;> simp [hr]
      · cases h
    · cases h

theorem aggOf_den {x : AV} {xs : List AV} {p : Value} (h : aggOf x = some xs) (hx : AV.den w φ I x p) : ∃ us : List Value, p = .agg us.toArray ∧ AV.dens w φ I xs us := by
  unfold aggOf at h
  split at h
  · simp only [Option.some.injEq] at h
    subst h
    simp only [AV.den] at hx
    obtain ⟨us, h1, h2, _⟩ := hx
    exact ⟨us, h2, h1⟩
  · simp only [Option.some.injEq] at h
    subst h
    simp only [AV.den] at hx
    obtain ⟨us, h1, h2⟩ := hx
    refine ⟨us, h2, ?_⟩
    have : ∀ (cs : List IV) (us : List Value), IV.dens w I cs us → AV.dens w φ I (cs.map .im) us := by
      intro cs
      induction cs with
      | nil => intro us h; simpa only [IV.dens, AV.dens, List.map_nil] using h
      | cons c cs ih =>
        intro us h
        simp only [IV.dens] at h
        obtain ⟨u, us', rfl, h1, h2⟩ := h
        simp only [List.map_cons, AV.dens]
        exact ⟨u, us', rfl, by simpa only [AV.den] using h1, ih us' h2⟩
    exact this _ _ h1
  · cases h

theorem aEq_sound {t : TypeId} {x y : AV} {p q : Value} {b : Bool} (h : aEq P t x y = some b) (hx : AV.den w φ I x p) (hy : AV.den w φ I y q) :
    ∃ us vs : Array Value, p = .agg us ∧ q = .agg vs ∧ P.eqGuardType P.depth t = false ∧ (Op.equalIn 10000 t (.agg us) (.agg vs)).run P w = .ok b w := by
  unfold aEq at h
  split at h
  · rename_i xs ys ex ey hok
    obtain ⟨us, rfl, hxs⟩ := aggOf_den ex hx
    obtain ⟨vs, rfl, hys⟩ := aggOf_den ey hy
    unfold eqOk at hok
    simp only [Bool.and_eq_true, Bool.not_eq_true'] at hok
    refine ⟨_, _, rfl, rfl, hok.1, ?_⟩
    split at h
    · rename_i fs ht
      obtain ⟨F, hu, hF⟩ := und_struct ht
      have h2 := hok.2
      rw [hu] at h2
      simp only [Bool.and_eq_true, Bool.not_eq_true', List.all_eq_true, bne_iff_ne, ne_eq] at h2
      have hfs : P.fieldsOf t = F := by simp [Program.fieldsOf, hu]
      rw [run_equalIn_struct w 9999 t _ _ (by rw [hfs]; exact hu) h2.2, hfs]
      exact eqFs_fields hxs hys 9998 F.toList b (by rw [hF]; exact h) h2.1
    · rename_i n e ht
      have hu := und_arr ht
      split at h
      · rename_i hs
        obtain ⟨i, hi, hsz⟩ := sz_info hs
        have hc : P.cellsOf e = 1 := by simp [Program.cellsOf, hi, hsz]
        rw [run_equalIn_array w 9999 _ _ hu hi, hc]
        exact eqFs_items hxs hys 9998 e _ b h
      · cases h
    · cases h
  · cases h

theorem aBin_sound {op : BinOp} {t : TypeId} {x y : AV} {p q : Value} {ox oy : Operand} {sc : Prop} {v : AV} (h : aBin P op t x y = some (sc, v)) (hsc : sc) (hx : AV.den w φ I x p) (hy : AV.den w φ I y q) :
    Yields1 P w (do eqGuard op t ox oy p q; binOp op t p q) φ I v := by
  unfold aBin at h
  split at h
  · rename_i k a k' b
    rw [den_i] at hx hy
    subst hx; subst hy
    cases hc : (isShift op || decide (k = k')) with
    | false => rw [hc] at h; simp at h
    | true =>
      rw [hc] at h
      simp only [cond_true] at h
      obtain ⟨u, hu, hd⟩ := aInt_sound (P := P) (w := w) (φ := φ) (I := I) (t := t) h hsc (by simpa using hc)
      refine ⟨u, ?_, hd⟩
      simp [eqGuard_run, hu]
  · rename_i a b
    rw [den_s] at hx hy
    subst hx; subst hy
    obtain ⟨u, hu, hd⟩ := aStr_sound (P := P) (w := w) (φ := φ) (I := I) (t := t) h hsc
    refine ⟨u, ?_, hd⟩
    simp [eqGuard_run, hu]
  · rename_i a b
    rw [den_b] at hx hy
    subst hx; subst hy
    split at h
    · rename_i ht
      simp only [Option.some.injEq, Prod.mk.injEq] at h
      obtain ⟨_, rfl⟩ := h
      refine ⟨_, ?_, den_bool⟩
      simp only [Sem.run_bind, eqGuard_run _ _ _ _ (.bool a) _ (by simp) (by simp), Result.andThen_ok, binOp, run_equal_bool a b (und_bool ht), Sem.run_pure]
    · rename_i ht
      simp only [Option.some.injEq, Prod.mk.injEq] at h
      obtain ⟨_, rfl⟩ := h
      refine ⟨_, ?_, den_bool⟩
      simp only [Sem.run_bind, eqGuard_run _ _ _ _ (.bool a) _ (by simp) (by simp), Result.andThen_ok, binOp, run_equal_bool a b (und_bool ht), Sem.run_pure]
      rfl
    · cases h
  · split at h
    · split at h
      · rename_i b hb
        simp only [Option.some.injEq, Prod.mk.injEq] at h
        obtain ⟨_, rfl⟩ := h
        obtain ⟨us, vs, rfl, rfl, hg, hr⟩ := aEq_sound hb hx hy
        refine ⟨_, ?_, den_bool⟩
        simp only [Sem.run_bind, run_eqGuard_agg _ _ _ _ _ _ _ hg, Result.andThen_ok, run_eql_struct, hr]
      · cases h
    · split at h
      · rename_i b hb
        simp only [Option.some.injEq, Prod.mk.injEq] at h
        obtain ⟨_, rfl⟩ := h
        obtain ⟨us, vs, rfl, rfl, hg, hr⟩ := aEq_sound hb hx hy
        refine ⟨_, ?_, den_bool⟩
        simp only [Sem.run_bind, run_eqGuard_agg _ _ _ _ _ _ _ hg, Result.andThen_ok, run_neq_struct, hr]
      · cases h
    · cases h

theorem aUn_sound {op : UnOp} {x : AV} {p : Value} {sc : Prop} {v : AV} (h : aUn op x = some (sc, v)) (hx : AV.den w φ I x p) : Yields1 P w (Op.unary op p) φ I v := by
  unfold aUn at h
  split at h
  · rw [den_b] at hx
    subst hx
    split at h
    · simp only [Option.some.injEq, Prod.mk.injEq] at h
      obtain ⟨_, rfl⟩ := h
      exact ⟨_, by simp [Op.unary], den_bool⟩
    · cases h
  · rw [den_i] at hx
    subst hx
    split at h
    · simp only [Option.some.injEq, Prod.mk.injEq] at h
      obtain ⟨_, rfl⟩ := h
      exact ⟨_, by simp [Op.unary, Op.intArith], den_int⟩
    · cases h
  · cases h

theorem aConv_sound {s d : TypeId} {x : AV} {p : Value} {sc : Prop} {v : AV} (h : aConv P s d x = some (sc, v)) (hx : AV.den w φ I x p) (hs : ∃ u, P.underlying s = some u) : Yields1 P w (convert s d p) φ I v := by
  obtain ⟨su, hsu⟩ := hs
  unfold aConv at h
  split at h
  · rw [den_i] at hx
    subst hx
    split at h
    · rename_i hk
      simp only [Option.some.injEq, Prod.mk.injEq] at h
      obtain ⟨_, rfl⟩ := h
      exact ⟨_, by simp [convert, run_underlying hsu, run_underlying (und_int hk), Conv.intToInt], den_int⟩
    · cases h
  · rw [den_s] at hx
    subst hx
    split at h
    · rename_i hk
      simp only [Option.some.injEq, Prod.mk.injEq] at h
      obtain ⟨_, rfl⟩ := h
      exact ⟨_, by simp [convert, run_underlying hsu, run_underlying (und_str hk)], den_str⟩
    · cases h
  · cases h

theorem aLen_sound {t ty : TypeId} {x : AV} {p : Value} {sc : Prop} {v : AV} (h : aLen P t x = some (sc, v)) (hx : AV.den w φ I x p) : Yields1 P w (Builtin.len_ #[t] ty #[p]) φ I v := by
  unfold aLen at h
  split at h
  · rw [den_s] at hx
    subst hx
    split at h
    · rename_i hk
      simp only [Option.some.injEq, Prod.mk.injEq] at h
      obtain ⟨_, rfl⟩ := h
      exact ⟨_, by simp [Builtin.len_, run_underlying (und_str hk), goInt], den_int⟩
    · cases h
  · simp only [AV.den, IV.den] at hx
    obtain ⟨rfl, _⟩ := hx
    split at h
    · rename_i hk
      simp only [Option.some.injEq, Prod.mk.injEq] at h
      obtain ⟨_, rfl⟩ := h
      exact ⟨_, by simp [Builtin.len_, run_underlying (und_slice hk), goInt], den_int⟩
    · cases h
  · simp only [AV.den, IV.den] at hx
    obtain ⟨q, c, vss, rfl, _⟩ := hx
    split at h
    · rename_i hk
      simp only [Option.some.injEq, Prod.mk.injEq] at h
      obtain ⟨_, rfl⟩ := h
      exact ⟨_, by simp [Builtin.len_, run_underlying (und_slice hk), goInt], den_int⟩
    · cases h
  · simp only [AV.den] at hx
    split at h
    · rename_i hk
      simp only [Option.some.injEq, Prod.mk.injEq] at h
      obtain ⟨_, rfl⟩ := h
      rcases hx with ⟨_, rfl, rfl, rfl⟩ | ⟨g, c, _, rfl, _⟩
      · exact ⟨_, by simp [Builtin.len_, run_underlying (und_slice hk), goInt], den_int⟩
      · exact ⟨_, by simp [Builtin.len_, run_underlying (und_slice hk), goInt], den_int⟩
    · cases h
  · cases h

theorem flat_get : ∀ (vss : List (List Value)) (es i j : Nat) (vs : List Value) (u : Value), (∀ vs ∈ vss, vs.length = es) → vss[i]? = some vs → vs[j]? = some u → vss.flatten[i * es + j]? = some u
  | [], _, _, _, _, _, _, h, _ => by simp at h
  | x :: xs, es, 0, j, vs, u, hl, h, hj => by
    simp at h; subst h
    have hlt : j < x.length := by
      rcases Nat.lt_or_ge j x.length with h | h
      · exact h
      · rw [List.getElem?_eq_none h] at hj; cases hj
    simp [List.flatten_cons, List.getElem?_append_left hlt, hj]
  | x :: xs, es, i + 1, j, vs, u, hl, h, hj => by
    have hx : x.length = es := hl x (by simp)
    have := flat_get xs es i j vs u (fun vs hv => hl vs (by simp [hv])) (by simpa using h) hj
    rw [List.flatten_cons, List.getElem?_append_right (by rw [hx]; have := Nat.add_mul i 1 es; omega)]
    rw [hx, show (i + 1) * es + j - es = i * es + j by have := Nat.add_mul i 1 es; omega]
    exact this

theorem denss_get : ∀ (rows : List (List IV)) (vss : List (List Value)) (i : Nat) (r : List IV), IV.denss w I rows vss → rows[i]? = some r → ∃ vs, vss[i]? = some vs ∧ IV.dens w I r vs
  | [], _, _, _, _, h => by simp at h
  | x :: xs, vss, i, r, hd, h => by
    simp only [IV.denss] at hd
    obtain ⟨u, us', rfl, h1, h2⟩ := hd
    cases i with
    | zero => simp at h; subst h; exact ⟨u, by simp, h1⟩
    | succ i => simpa using denss_get xs us' i r h2 (by simpa using h)
theorem denss_len : ∀ (rows : List (List IV)) (vss : List (List Value)), IV.denss w I rows vss → vss.length = rows.length
  | [], vss, h => by simp only [IV.denss] at h; simp [h]
  | x :: xs, vss, h => by
    simp only [IV.denss] at h
    obtain ⟨u, us', rfl, h1, h2⟩ := h
    simp [denss_len xs us' h2]
theorem idens_len : ∀ (xs : List IV) (us : List Value), IV.dens w I xs us → us.length = xs.length
  | [], us, h => by simp only [IV.dens] at h; simp [h]
  | x :: xs, us, h => by
    simp only [IV.dens] at h
    obtain ⟨u, us', rfl, h1, h2⟩ := h
    simp [idens_len xs us' h2]
theorem adens_len : ∀ (xs : List AV) (us : List Value), AV.dens w φ I xs us → us.length = xs.length
  | [], us, h => by simp only [AV.dens] at h; simp [h]
  | x :: xs, us, h => by
    simp only [AV.dens] at h
    obtain ⟨u, us', rfl, h1, h2⟩ := h
    simp [adens_len xs us' h2]
theorem idens_drop : ∀ (k : Nat) (xs : List IV) (us : List Value), IV.dens w I xs us → IV.dens w I (xs.drop k) (us.drop k)
  | 0, _, _, h => by simpa using h
  | k + 1, [], us, h => by simp only [IV.dens] at h; subst h; simp [IV.dens]
  | k + 1, x :: xs, us, h => by
    simp only [IV.dens] at h
    obtain ⟨u, us', rfl, h1, h2⟩ := h
    simpa using idens_drop k xs us' h2
theorem idens_take : ∀ (k : Nat) (xs : List IV) (us : List Value), IV.dens w I xs us → IV.dens w I (xs.take k) (us.take k)
  | 0, _, _, h => by simp [IV.dens]
  | k + 1, [], us, h => by simp only [IV.dens] at h; subst h; simp [IV.dens]
  | k + 1, x :: xs, us, h => by
    simp only [IV.dens] at h
    obtain ⟨u, us', rfl, h1, h2⟩ := h
    simp only [List.take_succ_cons, IV.dens]
    exact ⟨u, _, rfl, h1, idens_take k xs us' h2⟩
theorem adens_drop : ∀ (k : Nat) (xs : List AV) (us : List Value), AV.dens w φ I xs us → AV.dens w φ I (xs.drop k) (us.drop k)
  | 0, _, _, h => by simpa using h
  | k + 1, [], us, h => by simp only [AV.dens] at h; subst h; simp [AV.dens]
  | k + 1, x :: xs, us, h => by
    simp only [AV.dens] at h
    obtain ⟨u, us', rfl, h1, h2⟩ := h
    simpa using adens_drop k xs us' h2
theorem adens_take : ∀ (k : Nat) (xs : List AV) (us : List Value), AV.dens w φ I xs us → AV.dens w φ I (xs.take k) (us.take k)
  | 0, _, _, h => by simp [AV.dens]
  | k + 1, [], us, h => by simp only [AV.dens] at h; subst h; simp [AV.dens]
  | k + 1, x :: xs, us, h => by
    simp only [AV.dens] at h
    obtain ⟨u, us', rfl, h1, h2⟩ := h
    simp only [List.take_succ_cons, AV.dens]
    exact ⟨u, _, rfl, h1, adens_take k xs us' h2⟩
theorem dens_im : ∀ (xs : List IV) (us : List Value), IV.dens w I xs us → AV.dens w φ I (xs.map .im) us
  | [], us, h => by simpa [AV.dens, IV.dens] using h
  | x :: xs, us, h => by
    simp only [IV.dens] at h
    obtain ⟨u, us', rfl, h1, h2⟩ := h
    simp only [List.map_cons, AV.dens]
    exact ⟨u, us', rfl, by simpa only [AV.den] using h1, dens_im xs us' h2⟩

theorem iv_one : ∀ (x : IV) (u : Value), IV.den w I x u → u.oneCell' = true
  | .v _, u, h => by simp only [IV.den] at h; rw [h.1]; exact h.2
  | .sl _ _, u, h => by simp only [IV.den] at h; obtain ⟨_, _, _, rfl, _⟩ := h; rfl
  | .pt _, u, h => by simp only [IV.den] at h; obtain ⟨_, _, _, rfl, _⟩ := h; rfl
theorem idens_one : ∀ (xs : List IV) (us : List Value), IV.dens w I xs us → ∀ u ∈ us, u.oneCell' = true
  | [], us, h => by simp only [IV.dens] at h; simp [h]
  | x :: xs, us, h => by
    simp only [IV.dens] at h
    obtain ⟨u, us', rfl, h1, h2⟩ := h
    intro z hz
    rcases List.mem_cons.1 hz with rfl | hz
    · exact iv_one x _ h1
    · exact idens_one xs us' h2 z hz

theorem idens_get : ∀ (xs : List IV) (us : List Value) (i : Nat) (x : IV), IV.dens w I xs us → xs[i]? = some x → ∃ u, us[i]? = some u ∧ IV.den w I x u
  | [], _, _, _, _, h => by simp at h
  | y :: ys, us, i, x, hd, h => by
    simp only [IV.dens] at hd
    obtain ⟨u, us', rfl, h1, h2⟩ := hd
    cases i with
    | zero => simp at h; subst h; exact ⟨u, by simp, h1⟩
    | succ i => simpa using idens_get ys us' i x h2 (by simpa using h)

theorem run_isAgg {t : TypeId} {u : TypeDesc} (h : P.underlying t = some u) (w : World) : (isAgg t).run P w = .ok (TK.of u).agg w := by
  unfold isAgg
  simp only [Sem.run_bind, run_underlying h, Result.andThen_ok]
  cases u <;> rfl

theorem aIndex_sound {t : TypeId} {x i : AV} {p q : Value} {sc : Prop} {v : AV} (h : aIndex P t x i = some (sc, v)) (hsc : sc) (hx : AV.den w φ I x p) (hi : AV.den w φ I i q) : Yields1 P w (Instr.index t p q) φ I v := by
  unfold aIndex at h
  split at h
  · rename_i cs k n
    rw [den_i] at hi
    subst hi
    simp only [AV.den] at hx
    obtain ⟨us, hd, rfl⟩ := hx
    split at h
    · rename_i m e ht
      have key : ∀ (hnot : (TK.of ((P.underlying e).getD .invalid)).agg = false) (hs1 : sz P e = some 1), (0 ≤ n ∧ n < m ∧ m ≤ cs.length) → v = .im (cs.getD n.toNat (.v (.bool false))) → Yields1 P w (Instr.index t (.agg us.toArray) (.int k n)) φ I v := by
        intro hnot hs1 ⟨h0, h1, h2⟩ hv
        obtain ⟨⟨ue, hue⟩, _⟩ := sz_both hs1
        have hlen := idens_len cs us hd
        have hlt : n.toNat < cs.length := by omega
        obtain ⟨u, hu, hdu⟩ := idens_get cs us n.toNat _ hd (List.getElem?_eq_getElem hlt)
        refine ⟨u, ?_, ?_⟩
        · have hag := run_isAgg hue w
          rw [hue] at hnot
          simp only [Option.getD_some] at hnot
          rw [hnot] at hag
          simp [Instr.index, asIntOf, run_underlying (und_arr ht), h0, h1, run_sizeOf hs1, part, hag, hu]
        · rw [hv]
          simp only [AV.den]
          have : cs.getD n.toNat (.v (.bool false)) = cs[n.toNat] := by simp [List.getD, hlt]
          rw [this]; exact hdu
      split at h
      · rename_i hk hs1
        simp only [Option.some.injEq, Prod.mk.injEq] at h
        obtain ⟨rfl, rfl⟩ := h
        exact key (by rw [und_int hk]; rfl) hs1 hsc rfl
      · rename_i hk hs1
        simp only [Option.some.injEq, Prod.mk.injEq] at h
        obtain ⟨rfl, rfl⟩ := h
        exact key (by rw [und_str hk]; rfl) hs1 hsc rfl
      · cases h
    · cases h
  · rename_i s k n
    rw [den_s] at hx
    rw [den_i] at hi
    subst hx; subst hi
    split at h
    · rename_i hk
      simp only [Option.some.injEq, Prod.mk.injEq] at h
      obtain ⟨rfl, rfl⟩ := h
      refine ⟨_, ?_, den_int⟩
      obtain ⟨h0, h1⟩ := hsc
      have hlt : n.toNat < s.size := by omega
      have hg : s[n.toNat]? = some s[n.toNat] := by simp [hlt]
      have he : s.data.toList.getD n.toNat 0 = s[n.toNat] := by
        have : n.toNat < s.data.toList.length := by simpa using hlt
        simp [List.getD, List.getElem?_eq_getElem this]; rfl
      rw [he]
      simp [Instr.index, asIntOf, run_underlying (und_str hk), h0, hg]
    · cases h
  · cases h

theorem aNil_sound {x : AV} {p : Value} {sc : Prop} {v : AV} {o : Oper} {ox : Operand} (ho : o.op = .nilCheck ox) (h : aNil x = some (sc, v)) (hx : AV.den w φ I x p) (hp : a.eval ox = p) :
    (execOp a.eval o).run P w = .ok (.value p) w ∧ AV.den w φ I v p := by
  unfold aNil at h
  split at h
  · simp only [Option.some.injEq, Prod.mk.injEq] at h
    obtain ⟨_, rfl⟩ := h
    refine ⟨?_, hx⟩
    simp only [AV.den, IV.den] at hx
    obtain ⟨g, off, us, rfl, _⟩ := hx
    simp [execOp, ho, hp]
  · simp only [Option.some.injEq, Prod.mk.injEq] at h
    obtain ⟨_, rfl⟩ := h
    refine ⟨?_, hx⟩
    simp only [AV.den] at hx
    obtain ⟨g, _, rfl⟩ := hx
    simp [execOp, ho, hp]
  · simp only [Option.some.injEq, Prod.mk.injEq] at h
    obtain ⟨_, rfl⟩ := h
    refine ⟨?_, hx⟩
    simp only [AV.den] at hx
    obtain ⟨g, _, rfl⟩ := hx
    simp [execOp, ho, hp]
  · cases h

theorem fieldOff_run {t : TypeId} {f off : Nat} (h : fieldOff P t f = some off) (g o : Nat) (w : World) : (Instr.fieldAt t (.pointer (some ⟨g, o, none⟩)) f).run P w = .ok (.pointer (some ⟨g, o + off, none⟩)) w := by
  unfold fieldOff at h
  split at h
  · rename_i fs ht
    obtain ⟨F, hF, hmap⟩ := und_struct ht
    split at h
    · rename_i off' ty hf
      split at h
      · rename_i n hn
        simp only [Option.some.injEq] at h
        subst h
        have hF' : ∃ fd : Field, F[f]? = some fd ∧ fd.offset = off' ∧ fd.type = ty := by
          rw [← hmap, List.getElem?_map] at hf
          simp at hf
          obtain ⟨fd, h1, h2, h3⟩ := hf
          exact ⟨fd, h1, h2, h3⟩
        obtain ⟨fd, h1, h2, h3⟩ := hF'
        subst h3
        simp [Instr.fieldAt, run_underlying hF, h1, Instr.sureAddr, fieldPlace, run_sizeOf hn, h2, addr_add]
      · cases h
    · cases h
  · cases h

theorem aFieldAddr_sound {t : TypeId} {f : Nat} {x : AV} {p : Value} {sc : Prop} {v : AV} (h : aFieldAddr P t f x = some (sc, v)) (hx : AV.den w φ I x p) : Yields1 P w (Instr.fieldAt t p f) φ I v := by
  unfold aFieldAddr at h
  split at h
  · rename_i cs
    split at h
    · rename_i off hoff
      simp only [Option.some.injEq, Prod.mk.injEq] at h
      obtain ⟨_, rfl⟩ := h
      simp only [AV.den, IV.den] at hx
      obtain ⟨g, o, us, rfl, hg, hd, hc⟩ := hx
      refine ⟨_, fieldOff_run hoff g o w, ?_⟩
      simp only [AV.den, IV.den]
      refine ⟨g, o + off, us.drop off, rfl, hg, idens_drop off cs us hd, fun j u hu => ?_⟩
      rw [Nat.add_assoc]
      exact hc (off + j) u (by simpa [List.getElem?_drop] using hu)
    · cases h
  · rename_i b o
    split at h
    · rename_i off hoff
      simp only [Option.some.injEq, Prod.mk.injEq] at h
      obtain ⟨_, rfl⟩ := h
      simp only [AV.den] at hx
      obtain ⟨g, hg, rfl⟩ := hx
      exact ⟨_, fieldOff_run hoff g o w, by simp only [AV.den]; exact ⟨g, hg, rfl⟩⟩
    · cases h
  · rename_i b es i j
    split at h
    · rename_i off hoff
      simp only [Option.some.injEq, Prod.mk.injEq] at h
      obtain ⟨_, rfl⟩ := h
      simp only [AV.den] at hx
      obtain ⟨g, hg, rfl⟩ := hx
      exact ⟨_, fieldOff_run hoff g _ w, by simp only [AV.den]; exact ⟨g, hg, by rw [Nat.add_assoc]⟩⟩
    · cases h
  · cases h

theorem aIndexAddr_sound {t : TypeId} {x i : AV} {p q : Value} {sc : Prop} {v : AV} (h : aIndexAddr P t x i = some (sc, v)) (hsc : sc) (hx : AV.den w φ I x p) (hi : AV.den w φ I i q) : Yields1 P w (Instr.indexAt t p q) φ I v := by
  unfold aIndexAddr at h
  split at h
  · rename_i es rows k n
    rw [den_i] at hi
    subst hi
    split at h
    · rename_i e ht
      cases hd : decide (sz P e = some es) with
      | false => rw [hd] at h; simp at h
      | true =>
        rw [hd] at h
        simp only [cond_true, Option.some.injEq, Prod.mk.injEq] at h
        obtain ⟨rfl, rfl⟩ := h
        have hsz := of_decide_eq_true hd
        obtain ⟨h0, h1⟩ := hsc
        simp only [AV.den, IV.den] at hx
        obtain ⟨pp, c, vss, rfl, hc, hr, hl, ha⟩ := hx
        have hlt : n.toNat < rows.length := by omega
        obtain ⟨g, off, rfl, hg, hcell⟩ := ha (by intro e; rw [e] at hlt; simp at hlt)
        obtain ⟨vs, hvs, hdv⟩ := denss_get rows vss n.toNat _ hr (List.getElem?_eq_getElem hlt)
        have e1 : rows.getD n.toNat [] = rows[n.toNat] := by simp [List.getD, hlt]
        refine ⟨.pointer (some ⟨g, off + n.toNat * es, none⟩), ?_, ?_⟩
        · simp [Instr.indexAt, asIntOf, run_underlying (und_slice ht), h0, h1, run_sizeOf hsz, addr_add]
        · simp only [AV.den, IV.den, e1]
          refine ⟨g, _, vs, rfl, hg, hdv, fun j u hu => ?_⟩
          rw [Nat.add_assoc]
          exact hcell _ u (flat_get vss es n.toNat j vs u hl hvs hu)
    · cases h
  · rename_i b es i0 m k n
    rw [den_i] at hi
    subst hi
    split at h
    · rename_i e ht
      cases hd : decide (sz P e = some es) with
      | false => rw [hd] at h; simp at h
      | true =>
        rw [hd] at h
        simp only [cond_true, Option.some.injEq, Prod.mk.injEq] at h
        obtain ⟨rfl, rfl⟩ := h
        have hsz := of_decide_eq_true hd
        obtain ⟨h0, h1⟩ := hsc
        simp only [AV.den] at hx
        rcases hx with ⟨_, _, rfl, _⟩ | ⟨g, c, hg, rfl, _⟩
        · omega
        · refine ⟨.pointer (some ⟨g, i0 * es + n.toNat * es, none⟩), ?_, ?_⟩
          · simp [Instr.indexAt, asIntOf, run_underlying (und_slice ht), h0, h1, run_sizeOf hsz, addr_add]
          · simp only [AV.den]
            exact ⟨g, hg, by rw [Nat.add_mul]; rfl⟩
    · cases h
  · rename_i b off k n
    rw [den_i] at hi
    subst hi
    split at h
    · rename_i m e ht
      cases hm : decide (2 ≤ m) with
      | false => rw [hm] at h; simp at h
      | true =>
        rw [hm] at h
        have hm2 := of_decide_eq_true hm
        simp only [cond_true] at h
        split at h
        · rename_i es hsz
          cases hd : decide (off = 0) with
          | false => rw [hd] at h; simp at h
          | true =>
            rw [hd] at h
            simp only [cond_true, Option.some.injEq, Prod.mk.injEq] at h
            obtain ⟨rfl, rfl⟩ := h
            have ho := of_decide_eq_true hd
            subst ho
            obtain ⟨h0, h1⟩ := hsc
            simp only [AV.den] at hx
            obtain ⟨g, hg, rfl⟩ := hx
            refine ⟨.pointer (some ⟨g, n.toNat * es, none⟩), ?_, ?_⟩
            · simp [Instr.indexAt, asIntOf, run_underlying (und_arr ht), h0, h1, run_sizeOf hsz, addr_add, Instr.sureAddr]
            · simp only [AV.den]
              exact ⟨g, hg, by simp⟩
        · cases h
    · cases h
  · cases h

theorem run_loadVar_cells {t : TypeId} {n : Nat} {u : TypeDesc} {g o : Nat} {us : List Value} (hu : P.underlying t = some u) (hn : sz P t = some n) (hl : us.length = n) (hc : cellsAt w g o us)
    (hagg : (TK.of u).agg = false → n = 1) : (Instr.loadAt t (.pointer (some ⟨g, o, none⟩))).run P w = .ok (if (TK.of u).agg then .agg us.toArray else us.getD 0 undef) w := by
  have hcell : ∀ j v, us[j]? = some v → w.cell? ((⟨g, o, none⟩ : Addr).add j) = some v := fun j v hv => by rw [addr_add]; exact hc j v hv
  cases hb : (TK.of u).agg with
  | true =>
    have h1 := run_isAgg hu w
    rw [hb] at h1
    have h2 := run_loadCells_list (P := P) (w := w) ⟨g, o, none⟩ us hcell
    rw [hl] at h2
    simp [Instr.loadAt, Instr.sureAddr, loadVar, h1, run_sizeOf hn, h2]
  | false =>
    have h1 := run_isAgg hu w
    rw [hb] at h1
    have hn1 := hagg hb
    subst hn1
    match us, hl with
    | [x], _ =>
      have := hc 0 x (by simp)
      simp only [Nat.add_zero] at this
      simp [Instr.loadAt, Instr.sureAddr, loadVar, h1, load, Sem.run, this]

theorem mkVal_den {t : TypeId} {cs : List AV} {us : List Value} {u : TypeDesc} {v : AV} (hu : P.underlying t = some u) (h : mkVal P t cs = some v) (hd : AV.dens w φ I cs us) (h1 : ∀ x ∈ us, x.oneCell' = true) :
    AV.den w φ I v (if (TK.of u).agg then .agg us.toArray else us.getD 0 undef) ∧ ((TK.of u).agg = false → us.length = 1) := by
  have htk : tk P t = TK.of u := by simp [tk, hu]
  unfold mkVal at h
  rw [htk] at h
  cases hb : (TK.of u).agg with
  | true =>
    rw [hb] at h
    simp only [cond_true, Option.some.injEq] at h
    subst h
    simp only [if_true, AV.den]
    exact ⟨⟨us, hd, rfl, h1⟩, by simp⟩
  | false =>
    rw [hb] at h
    simp only [cond_false] at h
    split at h
    · simp only [Option.some.injEq] at h
      subst h
      simp only [AV.dens] at hd
      obtain ⟨x, us', rfl, hx, rfl⟩ := hd
      simpa using hx
    · cases h

theorem mkValI_den {t : TypeId} {cs : List IV} {us : List Value} {u : TypeDesc} {v : AV} (hu : P.underlying t = some u) (h : mkValI P t cs = some v) (hd : IV.dens w I cs us) :
    AV.den w φ I v (if (TK.of u).agg then .agg us.toArray else us.getD 0 undef) ∧ ((TK.of u).agg = false → us.length = 1) := by
  have htk : tk P t = TK.of u := by simp [tk, hu]
  unfold mkValI at h
  split at h
  · rename_i n e ht
    rw [htk] at ht
    simp only [Option.some.injEq] at h
    subst h
    rw [ht]
    simp only [TK.agg, if_true, AV.den]
    exact ⟨⟨us, hd, rfl⟩, by simp⟩
  · exact mkVal_den hu h (dens_im cs us hd) (idens_one cs us hd)
end
end Go.AL
