import Derived.Test.YtilbfhldohibhaaAl15
set_option linter.unusedSimpArgs false
set_option linter.unusedVariables false
set_option linter.unnecessarySimpa false
namespace Go.AL
open Go Go.ChangeShapes Go.WideShapes

section
variable {H : Type} {enc : TypeId × Value → H} {P : Program}

def argAV (P : Program) (t : TypeId) (xs : List IV) : AV := match P.underlying t, xs with
  | some (.struct _), xs => .ar xs
  | some (.array _ _), xs => .ar xs
  | _, [x] => .im x
  | _, _ => .top
def argAVs (P : Program) : List TypeId → List (List IV) → List AV
  | t :: ts, xs :: xss => argAV P t xs :: argAVs P ts xss
  | _, _ => []
def TypedAll (P : Program) : List TypeId → List (List IV) → Prop
  | t :: ts, xs :: xss => (∃ n, Typed P n t xs) ∧ TypedAll P ts xss
  | [], [] => True
  | _, _ => False

theorem den_one {w : World} {φ : Phi} {I : Nat → Prop} {xs : List IV} {v : Value} (h : IV.dens w I xs v.cells.toList) (hv : v.oneCell' = true) : ∃ x, xs = [x] ∧ AV.den w φ I (.im x) v := by
  have e : v.cells.toList = [v] := by cases v <;> simp_all [Value.cells, Value.oneCell']
  rw [e] at h
  match xs, h with
  | [], h => simp [IV.dens] at h
  | [x], h =>
    simp only [IV.dens] at h
    obtain ⟨u, us, he, h1, h2⟩ := h
    simp only [List.cons.injEq] at he
    refine ⟨x, rfl, ?_⟩
    simp only [AV.den]
    rw [he.1]; exact h1
  | x :: y :: l, h =>
    simp only [IV.dens] at h
    obtain ⟨u, us, he, h1, u', us', he', _⟩ := h
    simp [he'] at he

theorem opens_arg {T : List TypeId} (hT : T.all (kidOk P T) = true) {w : World} {r : Reach} {b : Nat} {t : TypeId} {v : Value} {d : DataW H} {p : List MemPlace} (ht : T.contains t = true)
    (hval : Value.okWide P w r b t v) (h : DataW.Trod enc P w 0 (fun _ => true) true t v d p) (φ : Phi) :
    ∃ xs, (∃ n, Typed P n t xs) ∧ AV.den w φ (fun g => g < w.heap.size) (argAV P t xs) v := by
  obtain ⟨n, h⟩ := h
  obtain ⟨_, xs, hd, hty⟩ := opens hT n t _ _ ht h
  refine ⟨xs, ⟨n, hty⟩, ?_⟩
  have hagg : ∀ cs : Array Value, v = .agg cs → AV.den w φ (fun g => g < w.heap.size) (.ar xs) v := by
    rintro cs rfl
    simp only [AV.den]
    exact ⟨cs.toList, hd, by simp⟩
  unfold Value.okWide at hval
  split at hval
  · rename_i hu
    obtain ⟨cs, rfl, _⟩ := hval
    simp only [argAV, hu]
    exact hagg cs rfl
  · rename_i hu
    obtain ⟨cs, rfl, _⟩ := hval
    simp only [argAV, hu]
    exact hagg cs rfl
  · rename_i hs ha
    have hv : v.oneCell' = true := by
      cases v <;> simp only [Value.oneCell'] <;> (unfold Cell.okWide at hval; split at hval <;> simp_all [Cell.ok])
    obtain ⟨x, rfl, hx⟩ := den_one (φ := φ) hd hv
    have e : argAV P t [x] = .im x := by
      unfold argAV
      split
      · rename_i fs hu; exact absurd hu (hs _)
      · rename_i m e hu; exact absurd hu (ha _ _)
      · rename_i he _ _; injection he with he; rw [he]
      · rename_i hn; exact (hn x rfl).elim
    rw [e]; exact hx

theorem opens_args {T : List TypeId} (hT : T.all (kidOk P T) = true) {w : World} {r : Reach} {b : Nat} (φ : Phi) : ∀ (ts : List TypeId) (vs : List Value) (ds : List (DataW H)) (p : List MemPlace), ts.all T.contains = true →
    (∀ (j : Nat) t v, ts[j]? = some t → vs[j]? = some v → Value.okWide P w r b t v) → DataW.TrodAll enc P w 0 (fun _ => true) true ts vs ds p →
    ∃ xss, TypedAll P ts xss ∧ AV.dens w φ (fun g => g < w.heap.size) (argAVs P ts xss) vs ∧ ds.length = ts.length
  | [], vs, ds, p, _, _, h => by
    obtain ⟨rfl, rfl, rfl⟩ := trodAll_nil h
    exact ⟨[], trivial, rfl, rfl⟩
  | t :: ts, vs, ds, p, hc, hval, h => by
    obtain ⟨v, vs', d, ds', p', q, rfl, rfl, rfl, h1, h2⟩ := trodAll_cons h
    simp only [List.all_cons, Bool.and_eq_true] at hc
    obtain ⟨xs, hxs, hd⟩ := opens_arg hT hc.1 (hval 0 t v rfl rfl) h1 φ
    obtain ⟨xss, h3, h4, h5⟩ := opens_args hT φ ts vs' ds' q hc.2 (fun j t v => hval (j + 1) t v) h2
    refine ⟨xs :: xss, ⟨hxs, h3⟩, ?_, by simp [h5]⟩
    simp only [argAVs, AV.dens]
    exact ⟨v, vs', rfl, hd, h4⟩

theorem stays_all (hl : laidOutB P = true) {W W' : World} {sp : Nat → Bool} : ∀ (ts : List TypeId) (vs : List Value) (ds : List (DataW H)) (p : List MemPlace),
    ts.all (fun t => P.readableRec t && decide (t < P.types.size)) = true → DataW.TrodAll enc P W 0 (fun _ => true) true ts vs ds p → (∀ q ∈ p, W.sameAt W' q) → (∀ q ∈ p, sp q.block = true) →
    DataW.TrodAll enc P W' 0 sp true ts vs ds p
  | [], vs, ds, p, _, h, _, _ => by
    obtain ⟨rfl, rfl, rfl⟩ := trodAll_nil h
    exact trodAll_mk0
  | t :: ts, vs, ds, p, hr, h, hs, hp => by
    obtain ⟨v, vs', d, ds', p', q, rfl, rfl, rfl, h1, h2⟩ := trodAll_cons h
    simp only [List.all_cons, Bool.and_eq_true, decide_eq_true_eq] at hr
    exact trodAll_cons_mk (WideElems.Trod_stays hl hr.1.1 hr.1.2 h1 (fun x hx => hs x (List.mem_append_left _ hx)) (fun x hx => hp x (List.mem_append_left _ hx)))
      (stays_all hl ts vs' ds' q hr.2 h2 (fun x hx => hs x (List.mem_append_right _ hx)) (fun x hx => hp x (List.mem_append_right _ hx)))

/-- What a law's walk gives: true, and each block that was there is as it was. -/
def LawRun (P : Program) (f : FuncId) (args : Array Value) (W : World) : Prop :=
  Calls P f args W fun e W' => e = .returned (.bool true) ∧ W.heap.size ≤ W'.heap.size ∧ (∀ g, g < W.heap.size → W'.heap[g]? = W.heap[g]?) ∧ W'.os = W.os ∧ W'.output = W.output

theorem law_run {f : FuncId} {avs : List AV} (h : PFn P f avs (.im (.v (.bool true)))) {W : World} {vs : List Value} (hd : AV.dens W (fun _ => none) (fun g => g < W.heap.size) avs vs) :
    LawRun P f vs.toArray W := by
  have hR : Real W (fun _ => none) (fun g => g < W.heap.size) [] := by
    refine ⟨fun b => rfl, fun b o p hb => ?_, fun b g hg => ?_, fun b b' g hg => ?_, fun g hg => hg⟩
    · simp [lk] at hb
    · cases hg
    · cases hg
  refine (h.run W _ _ vs hd hR).mono fun e W' hq => ?_
  obtain ⟨r, H', φ', I', v, ⟨rfl, rfl⟩, rfl, hv, hst⟩ := hq
  simp only [AV.den, IV.den] at hv
  obtain ⟨rfl, _⟩ := hv
  exact ⟨rfl, hst.ext.size, fun g hg => hst.ext.keep g hg (fun ⟨b, hb⟩ => by cases hb), hst.ext.os, hst.ext.output⟩

theorem law_post {fn : Func} {s : ChangeSpec} {again : Bool} {W W' : World} {args : Array Value} {ds gs : List (DataW H)} {before : List MemPlace} {tb : TypeId}
    (hW : DataW.Whole enc P fn.params.toList s.vars false W args.toList ds gs before) (hvars : s.vars = [])
    (hfn : s.fn H ds = { results := [.lit (.bool true)], args := ds }) (hl : laidOutB P = true) (hr : fn.params.toList.all (fun t => P.readableRec t && decide (t < P.types.size)) = true)
    (hres : fn.resultTypes = #[tb]) (htb : P.underlying tb = some .bool)
    (hsz : W.heap.size ≤ W'.heap.size) (hk : ∀ g, g < W.heap.size → W'.heap[g]? = W.heap[g]?) (hos : W'.os = W.os) (hout : W'.output = W.output) :
    s.post enc P fn false true false again W args (.bool true) W' := by
  have hW' := hW
  obtain ⟨p, q, hA, hV, rfl, hz, hn⟩ := hW
  rw [hvars] at hV
  obtain ⟨rfl, rfl⟩ := trodVars_none hV
  have hlt := hW'.lt
  simp only [List.append_nil] at hz hn hlt hW'
  have hsame : ∀ x ∈ p, W.sameAt W' x := fun x hx => by
    have := hk x.block (hlt x hx)
    cases x with
    | cell b off => exact cell_same this off
    | map b => exact this
  have hargs : ∀ sp : Nat → Bool, (∀ x ∈ p, sp x.block = true) → DataW.TrodAll enc P W' 0 sp true fn.params.toList args.toList ds p := fun sp hsp => stays_all hl _ _ _ _ hr hA hsame hsp
  have hresu : ∀ (b : Nat) (sp : Nat → Bool) (hd : Bool), DataW.TrodAll enc P W' b sp hd fn.resultTypes.toList ((Value.bool true).resultList fn.resultTypes.size) [.lit (.bool true)] [] := fun b sp hd => by
    rw [hres]
    exact trodAll_cons_mk (Go.RowKit.shut_bool htb true) trodAll_mk0
  have hv : ∀ sp : Nat → Bool, DataW.TrodVars enc P W' sp s.vars [] [] := fun sp => by rw [hvars]; rfl
  have hfn' : s.fn H (ds ++ []) = { results := [.lit (.bool true)], args := ds } := by rw [List.append_nil]; exact hfn
  refine ⟨ds, [], p, [], p, [], hW', by rw [hfn']; exact hresu _ _ _, by rw [hfn']; exact hargs _ (fun x hx => by simpa using hlt x hx), by rw [hfn']; exact hv _, ?_, fun _ => ?_⟩
  · refine ⟨hos, hout, fun i hi => ?_⟩
    rw [hk i hi]
    cases hh : W.heap[i]? with
    | none => rfl
    | some o =>
      cases o with
      | cells c t fr => exact ⟨rfl, rfl, rfl, fun _ _ => rfl⟩
      | map es clock => exact .inr ⟨rfl, rfl⟩
      | _ => rfl
  · refine ⟨Go.RowKit.ok_one hres rfl (Go.RowKit.okWide_bool_mk htb true), _, _, ([] ++ p) ++ [], ⟨[] ++ p, [], trodAll_append (hargs _ (fun _ _ => rfl)) (hresu _ _ _), hv _, rfl, ?_, fun h => by cases h⟩, ?_⟩
    · intro b off hp
      have hp' : MemPlace.cell b off ∈ p := by simpa using hp
      have := hk b (hlt _ hp')
      have hz' := hz b off hp'
      simp only [World.frozen?, this] at hz' ⊢
      exact hz'
    · intro x hx _
      simpa using hx

/-- THE CONTRACT OF A LAW from its walk. -/
theorem law {f : FuncId} {fn : Func} {s : ChangeSpec} {W : World} {base : Nat} {args : Array Value} {ds gs : List (DataW H)} {before : List MemPlace} (tb : TypeId) (T : List TypeId)
    (hvars : s.vars = []) (hfn : ∀ ds : List (DataW H), ds.length = fn.params.size → s.fn H ds = { results := [.lit (.bool true)], args := ds }) (hl : laidOutB P = true)
    (hr : fn.params.toList.all (fun t => P.readableRec t && decide (t < P.types.size)) = true) (hres : fn.resultTypes = #[tb]) (htb : P.underlying tb = some .bool)
    (hT : T.all (kidOk P T) = true) (hTp : fn.params.toList.all T.contains = true)
    (hwalk : ∀ xss, TypedAll P fn.params.toList xss → PFn P f (argAVs P fn.params.toList xss) (.im (.v (.bool true))))
    (hval : ∀ (j : Nat) t v, fn.params[j]? = some t → args[j]? = some v → Value.okWide P W .any base t v)
    (hW : DataW.Whole enc P fn.params.toList s.vars false W args.toList ds gs before) :
    Calls P f args W fun e W' => ∃ v, e = .returned v ∧ s.post enc P fn false true false false W args v W' := by
  have hW' := hW
  obtain ⟨p, q, hA, hV, rfl, hz, hn⟩ := hW
  obtain ⟨xss, h1, h2, h3⟩ := opens_args hT (r := .any) (b := base) (fun _ => none) _ _ _ _ hTp (fun j t v ht hv => hval j t v (by simpa using ht) (by simpa using hv)) hA
  have := law_run (hwalk xss h1) h2
  simp only [Array.toArray_toList] at this
  refine this.mono fun e W' ⟨he, hsz, hk, hos, hout⟩ => ?_
  subst he
  exact ⟨_, rfl, law_post hW' hvars (hfn ds (by simpa using h3)) hl hr hres htb hsz hk hos hout⟩

end
end Go.AL
