import Derived.Test.YtilbfhldohibhaaAl8
set_option linter.unusedSimpArgs false
set_option linter.unusedVariables false
set_option linter.unnecessarySimpa false
namespace Go.AL
open Go

def ownB (φ : Phi) (g : Nat) : Prop := ∃ b, φ b = some (some g)
def enters (P : Program) (f : FuncId) : Bool :=
  match P.funcs[f]? with
  | some fn => fn.name != "runtime.NumGoroutine" && fn.body.isSome
  | none => false

/-- A call: handed the arguments and the own blocks H, the function comes back with a result and own blocks as R says. -/
structure ACall (P : Program) (f : FuncId) (args : List AV) (H : Heap) (R : AV → Heap → Prop) : Prop where
  ent : enters P f = true
  run : ∀ (w : World) (φ : Phi) (I : Nat → Prop) (vs : List Value), AV.dens w φ I args vs → Real w φ I H → Calls P f vs.toArray w (CPost ⟨w, ownB φ, I, φ, nid H⟩ R)

theorem ACall.mono {P : Program} {f : FuncId} {args : List AV} {H : Heap} {R R' : AV → Heap → Prop} (h : ACall P f args H R) (hr : ∀ r H', R r H' → R' r H') : ACall P f args H R' :=
  ⟨h.ent, fun w φ I vs hd hR => (h.run w φ I vs hd hR).mono fun _ _ ⟨r, H', φ', I', v, h1, h2⟩ => ⟨r, H', φ', I', v, hr _ _ h1, h2⟩⟩

def enum : Nat → List AV → Env
  | _, [] => []
  | i, x :: r => (i, x) :: enum (i + 1) r

theorem enum_lk : ∀ (l : List AV) (k i : Nat) (x : AV), lk (enum k l) i = some x → ∃ j, i = k + j ∧ l[j]? = some x
  | [], _, _, _, h => by simp [enum, lk] at h
  | y :: l, k, i, x, h => by
    simp only [enum, lk] at h
    cases hb : Nat.beq k i with
    | true =>
      rw [hb] at h
      have := Nat.eq_of_beq_eq_true hb
      subst this
      exact ⟨0, rfl, by simpa using h⟩
    | false =>
      rw [hb] at h
      obtain ⟨j, hj, hx⟩ := enum_lk l (k + 1) i x h
      exact ⟨j + 1, by omega, by simpa using hx⟩

theorem real_st {w : World} {φ : Phi} {I : Nat → Prop} {H : Heap} (h : Real w φ I H) (nb : Nat) : St ⟨w, ownB φ, I, φ, nb⟩ φ I H w :=
  ⟨h, Ext.refl _ w, fun b g hg => .inl ⟨b, hg⟩, fun g hg => .inl hg, fun g hg => hg, fun b g _ _ _ h0 _ => h0⟩

theorem ACall.intro {P : Program} {f : FuncId} {fn : Func} {c : Code} {n nb : Nat} {args : List AV} {H : Heap} {R : AV → Heap → Prop} (kp ob : List Nat) (hf : P.funcs[f]? = some fn) (hb : fn.body = some c) (hn : fn.ntmps = n)
    (hname : enters P f = true) (hargs : Nat.ble args.length n = true) (hnb : nid H = nb)
    (h : ∀ (w : World) (own I0 : Nat → Prop) (φ0 : Phi), AR ⟨P, fn, n, ⟨w, own, I0, φ0, nb⟩, kp, ob, R⟩ c [] (enum 0 args) H) : ACall P f args H R := by
  refine ⟨hname, fun w φ I vs hd hR => ?_⟩
  subst hnb
  have hl := adens_len args vs hd
  have hal := Nat.le_of_ble_eq_true hargs
  refine calls_of_wp hf hb (h w (ownB φ) I φ φ I _ w ⟨rfl, ?_, fun i x hx => ?_, real_st hR _⟩)
  · simp only [Array.size_append, List.size_toArray, Array.size_replicate, hn]; omega
  · obtain ⟨j, rfl, hj⟩ := enum_lk args 0 i x hx
    obtain ⟨u, hu, hdu⟩ := adens_get args vs j x hd hj
    refine ⟨u, ?_, hdu⟩
    have hlt : j < vs.length := by
      rcases Nat.lt_or_ge j vs.length with h | h
      · exact h
      · rw [List.getElem?_eq_none h] at hu; cases hu
    rw [Nat.zero_add, Array.getElem?_append_left (by simpa using hlt)]
    simpa using hu

/-! ## The end of a function -/
def resAV (P : Program) (E : Env) (H : Heap) : List ResultVar → Option (Prop × List AV)
  | [] => some (True, [])
  | .tmp t :: r => match lk E t, resAV P E H r with
    | some x, some (sc, xs) => some (x.g = true ∧ sc, x.st :: xs)
    | _, _ => none
  | .cell t T :: r => match lk E t with
    | some x => match un (aLoad P H T) (some x), resAV P E H r with
      | some (sc', v), some (sc, xs) => some (sc' ∧ sc, v :: xs)
      | _, _ => none
    | none => none

def tupOf : List AV → AV
  | [x] => x
  | xs => .tup xs

section
variable {C : Cx} {K : List KI} {E : Env} {H : Heap}

theorem loadAt_ptr {P : Program} {t : TypeId} {p u : Value} {w : World} (h : (Instr.loadAt t p).run P w = .ok u w) : ∃ ad, p = .pointer (some ad) ∧ (loadVar t ad).run P w = .ok u w := by
  cases p with
  | pointer ad =>
    cases ad with
    | some ad => exact ⟨ad, rfl, by simpa [Instr.loadAt, Instr.sureAddr] using h⟩
    | none => simp [Instr.loadAt, Instr.sureAddr, stuck] at h
  | _ => simp [Instr.loadAt, Instr.sureAddr, stuck] at h

def rf (tmps : Array Value) : ResultVar → Sem Value
  | .tmp t => pure (tmps.getD t undef)
  | .cell c t => do loadVar t (← asAddr (tmps.getD c undef))
theorem results_rf (fn : Func) (tmps : Array Value) : results fn tmps = (do
  let vs ← fn.results.mapM (rf tmps)
  pure (if h : vs.size = 1 then vs[0] else .tuple vs)) := by
  unfold results
  congr 2

theorem resAV_sound {φ : Phi} {I : Nat → Prop} {a : Act} {w : World} (hE : EnvOk w φ I E a) (hR : Real w φ I H) : ∀ (rs : List ResultVar) (sc : Prop) (xs : List AV), resAV C.P E H rs = some (sc, xs) → sc →
    ∃ us : List Value, (rs.mapM (rf a.tmps)).run C.P w = .ok us w ∧ AV.dens w φ I xs us
  | [], sc, xs, h, _ => by
    simp only [resAV, Option.some.injEq, Prod.mk.injEq] at h
    obtain ⟨_, rfl⟩ := h
    exact ⟨[], by simp, by simp [AV.dens]⟩
  | .tmp t :: r, sc, xs, h, hsc => by
    simp only [resAV] at h
    split at h
    · rename_i x sc' xs' hx hr
      simp only [Option.some.injEq, Prod.mk.injEq] at h
      obtain ⟨rfl, rfl⟩ := h
      obtain ⟨us, h1, h2⟩ := resAV_sound hE hR r sc' xs' hr hsc.2
      obtain ⟨u, hu, hd⟩ := hE t x hx
      have e : a.tmps.getD t undef = u := by rw [Array.getD_eq_getD_getElem?, hu]; rfl
      refine ⟨u :: us, ?_, by simp only [AV.dens]; exact ⟨u, us, rfl, st_den hd hsc.1, h2⟩⟩
      have e1 : (rf a.tmps (.tmp t)).run C.P w = .ok u w := by simp only [rf, e, Sem.run_pure]
      simp only [List.mapM_cons, Sem.run_bind, e1, Result.andThen_ok, h1, Sem.run_pure]
    · cases h
  | .cell t T :: r, sc, xs, h, hsc => by
    simp only [resAV] at h
    split at h
    · rename_i x hx
      split at h
      · rename_i sc1 v sc2 xs' hv hr
        simp only [Option.some.injEq, Prod.mk.injEq] at h
        obtain ⟨rfl, rfl⟩ := h
        obtain ⟨us, h1, h2⟩ := resAV_sound hE hR r sc2 xs' hr hsc.2
        obtain ⟨xa, sc', hxa, hf, hsc', hg⟩ := un_sound hv hsc.1
        cases hxa
        obtain ⟨p, hp, hd⟩ := hE t x hx
        have e : a.tmps.getD t undef = p := by rw [Array.getD_eq_getD_getElem?, hp]; rfl
        obtain ⟨u, hu, hdu⟩ := aLoad_sound hR hf hsc' (st_den hd hg)
        obtain ⟨ad, rfl, hl⟩ := loadAt_ptr hu
        refine ⟨u :: us, ?_, by simp only [AV.dens]; exact ⟨u, us, rfl, hdu, h2⟩⟩
        have e1 : (rf a.tmps (.cell t T)).run C.P w = .ok u w := by simp only [rf, e, asAddr, Sem.run_bind, Sem.run_pure, Result.andThen_ok, hl]
        simp only [List.mapM_cons, Sem.run_bind, e1, Result.andThen_ok, h1, Sem.run_pure]
      · cases h
    · cases h

theorem results_run {φ : Phi} {I : Nat → Prop} {a : Act} {w : World} (hE : EnvOk w φ I E a) (hR : Real w φ I H) {sc : Prop} {xs : List AV} (h : resAV C.P E H C.fn.results.toList = some (sc, xs)) (hsc : sc) :
    ∃ v, (results C.fn a.tmps).run C.P w = .ok v w ∧ AV.den w φ I (tupOf xs) v := by
  obtain ⟨us, h1, h2⟩ := resAV_sound (C := C) hE hR _ _ _ h hsc
  have hl := adens_len xs us h2
  rw [results_rf, Array.mapM_eq_mapM_toList]
  match xs, us, h2, hl with
  | [x], [u], h2, _ =>
    refine ⟨u, by simp only [Sem.run_bind, Sem.run_map, h1, Result.andThen_ok, Sem.run_pure]; rfl, ?_⟩
    simp only [AV.dens] at h2
    obtain ⟨u', us', e, hx, _⟩ := h2
    cases e
    exact hx
  | [], [], h2, _ =>
    refine ⟨.tuple #[], by simp only [Sem.run_bind, Sem.run_map, h1, Result.andThen_ok, Sem.run_pure]; rfl, ?_⟩
    simp only [tupOf, AV.den]
    exact ⟨[], h2, rfl⟩
  | x :: y :: xs, u1 :: u2 :: us, h2, _ =>
    refine ⟨.tuple (u1 :: u2 :: us).toArray, by simp only [Sem.run_bind, Sem.run_map, h1, Result.andThen_ok, Sem.run_pure]; rfl, ?_⟩
    simp only [tupOf, AV.den]
    exact ⟨_, h2, rfl⟩

theorem AX.ret {sc : Prop} {xs : List AV} (h : resAV C.P E H C.fn.results.toList = some (sc, xs)) (hsc : sc) (hR : C.R (tupOf xs) H) : AX C .ret [] E H := fun φ I a w hs => by
  obtain ⟨v, hv, hd⟩ := results_run hs.env hs.st.real h hsc
  exact ⟨hs.dfr, v, hv, tupOf xs, H, φ, I, v, hR, rfl, hd, hs.st⟩
theorem AX.fall {sc : Prop} {xs : List AV} (h : resAV C.P E H C.fn.results.toList = some (sc, xs)) (hsc : sc) (hR : C.R (tupOf xs) H) : AX C .normal [] E H := fun φ I a w hs => by
  obtain ⟨v, hv, hd⟩ := results_run hs.env hs.st.real h hsc
  exact ⟨hs.dfr, v, hv, tupOf xs, H, φ, I, v, hR, rfl, hd, hs.st⟩
end
end Go.AL
