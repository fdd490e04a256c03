import Derived.Test.YtfgffpkdjmeaoaaAl2
import Derived.RangeFuncRecord
import Derived.MapKept
set_option linter.unusedSimpArgs false
set_option linter.unusedVariables false
set_option linter.unnecessarySimpa false
section
namespace Go.AL
open Go
/-- a stage: what is evaluated again; what is new; the effects that may come next, with what follows each -/
inductive Tree where
  | node (R P es : List Nat) (ts : List Tree)
def bindTo (ops : List Oper) (i j : Nat) : Bool := match ops[i]? with
  | some o => o.after.any fun e => Region.binds .any e && e.on == j
  | none => false
def depsIn (ops : List Oper) (i : Nat) (S : List Nat) : Bool := match ops[i]? with
  | some o => o.after.all fun e => !Region.binds .any e || inL S e.on
  | none => false
def noSel (o : Oper) : Bool := match o.op with
  | .select _ _ => false
  | _ => true
def ascB : List Nat → Bool
  | [] => true
  | i :: r => r.all (fun j => decide (i < j)) && ascB r
mutual
/-- the plan fits the region's edges; effs: the effects so far -/
def treeB (ops : List Oper) (n : Nat) (prev effs : List Nat) : Tree → Bool
  | .node R P es ts =>
    ascB R && ascB P && R.all (inL prev) && P.all (fun i => decide (i < n) && !inL prev i && !inL effs i) &&
    (prev.all fun i => inL R i || (List.range n).any fun x => decide (i < x) && (inL effs x || (inL prev x && !inL R x)) && bindTo ops x i) &&
    P.all (fun i => depsIn ops i (prev ++ P ++ effs)) &&
    ((List.range n).all fun i => inL (prev ++ P) i || inL effs i || inL es i || (List.range n).any fun j => bindTo ops i j && !inL (prev ++ P) j && !inL effs j) &&
    (!es.isEmpty || (List.range n).all fun i => inL (prev ++ P) i || inL effs i) && treesB ops n (prev ++ P) effs es ts
def treesB (ops : List Oper) (n : Nat) (prev effs : List Nat) : List Nat → List Tree → Bool
  | [], [] => true
  | x :: es, t :: ts => decide (x < n) && !inL prev x && !inL effs x && depsIn ops x (prev ++ effs) && treeB ops n prev (x :: effs) t && treesB ops n prev effs es ts
  | _, _ => false
end
def drawB (ops : List Oper) (n : Nat) (t : Tree) : Bool := headB ops n && (ops.take n).all noSel && treeB ops n [] [] t
theorem inL_mem : ∀ (l : List Nat) (i : Nat), inL l i = true ↔ i ∈ l
  | [], i => by simp [inL]
  | j :: l, i => by
    simp only [inL, List.mem_cons]
    cases hb : Nat.beq j i with
    | true => have := Nat.eq_of_beq_eq_true hb; simp [this]
    | false =>
      have hne : i ≠ j := fun e => by subst e; simp at hb
      have := inL_mem l i
      simp [hne, this]
def sameE (d : Option Nat) (x : AV) (E : Env) : Prop := match d with
  | none => True
  | some d => match lk E d with
    | none => True
    | some .top => True
    | some y => y = x
def avalG (P : Program) (E : Env) (H : Heap) (op : Op) (G : Bool) : Option (Prop × AV) := match aval P E H op with
  | some r => some r
  | none => match G with
    | false => some (True, .top)
    | true => none
def vR (C : Cx) (ops : List Oper) (H : Heap) : List Nat → List (Nat × Nat) → Env → Prop
  | [], _, _ => True
  | i :: r, ds, E => (match ops[i]? with
    | none => False
    | some o => match gd ds E o.guard with
      | none => False
      | some G => match avalG C.P E H o.op G with
        | none => False
        | some (sc, v) => (G = true → sc) ∧ sameE o.dst (wrap o.guard G v) E) ∧ vR C ops H r ds E
def vP (C : Cx) (ops : List Oper) (H : Heap) (k : List (Nat × Nat) → Env → Prop) : List Nat → List (Nat × Nat) → Env → Prop
  | [], ds, E => k ds E
  | i :: r, ds, E => match ops[i]? with
    | none => False
    | some o => match gd ds E o.guard with
      | none => False
      | some G => match avalG C.P E H o.op G with
        | none => False
        | some (sc, v) => (G = true → sc) ∧ vP C ops H k r (dsPut o.dst i ds) (putE o.dst (wrap o.guard G v) E)
def Cx.nr (C : Cx) : Cx := { C with R := fun _ _ => False, X := fun _ _ => False }
def noExit : Exit → Act → World → Prop := fun _ _ _ => False
def SJv (C : Cx) (V : Env → Heap → Prop) (a : Act) (w : World) : Prop := ∃ E1 H1 φ I, Sim C φ I E1 H1 a w ∧ V E1 H1
mutual
/-- the walk of a plan -/
def vd (C : Cx) (K : List PK) (ops : List Oper) (n : Nat) : Tree → List (Nat × Nat) → Env → Heap → Prop
  | .node R P es ts, ds, E, H => vR C ops H R ds E ∧ vP C ops H (fun ds E => match es with
    | [] => vq C K (ops.drop n) [] n E H
    | _ :: _ => vds C K ops n es ts ds E H) P ds E
def vds (C : Cx) (K : List PK) (ops : List Oper) (n : Nat) : List Nat → List Tree → List (Nat × Nat) → Env → Heap → Prop
  | x :: es, t :: ts, ds, E, H => (match ops[x]? with
      | none => False
      | some o => AQ C.nr ds x [o] [.lp (SJv C (vd C K ops n t (dsPut o.dst x ds))), .bot noExit] E H) ∧ vds C K ops n es ts ds E H
  | _, _, _, _, _ => True
end
theorem AQ.next {C : Cx} {K : List PK} {ops : List Oper} {n : Nat} {t : Tree} {ds ds' : List (Nat × Nat)} {i : Nat} {E : Env} {H : Heap} (h : vd C K ops n t ds' E H) :
    AQ C.nr ds i [] [.lp (SJv C (vd C K ops n t ds')), .bot noExit] E H := by
  unfold AQ AO
  intro _ _ _ φ I a w hs
  exact ⟨E, H, φ, I, ⟨hs.dfr, hs.siz, hs.env, hs.st⟩, h⟩
def unl (L : Array Bool) (i : Nat) : Prop := L.getD i true = false
def lst (L : Array Bool) (i : Nat) : Prop := L.getD i false = true
structure Agree (ops : List Oper) (S : List Nat) (L : Array Bool) (a g : Act) : Prop where
  dfr : a.defers = g.defers
  siz : a.tmps.size = g.tmps.size
  at' : ∀ t, (∀ i ∈ S, unl L i → (ops[i]?).bind (·.dst) ≠ some t) → a.tmps[t]? = g.tmps[t]?
def PVal (P : Program) (ops : List Oper) (g : Act) (w : World) (o : Oper) (u : Value) : Prop :=
  if Region.wanted o (yielded ops.toArray g.tmps) = true then (execOp g.eval o).run P w = .ok (.value u) w else u = undef
def Pend (P : Program) (ops : List Oper) (g : Act) (w : World) (i : Nat) : Prop :=
  ∀ o, ops[i]? = some o → ∃ u, PVal P ops g w o u ∧ ∀ d, o.dst = some d → g.tmps[d]? = some u
theorem look_same {ops : List Oper} {o : Oper} (hs : noSel o = true) {a g : Act} (h : ∀ t ∈ looks ops o, a.tmps[t]? = g.tmps[t]?) :
    execOp a.eval o = execOp g.eval o ∧ Region.wanted o (yielded ops.toArray a.tmps) = Region.wanted o (yielded ops.toArray g.tmps) := by
  constructor
  · refine execOp_congr o (fun cs b hc => by simp [noSel, hc] at hs) fun x hx => ?_
    cases x with
    | tmp t =>
      have := h t (by simp only [looks]; exact List.mem_append.2 (.inl (mem_tmpsOf _ (by simpa using hx))))
      simp only [Act.eval, Array.getD_eq_getD_getElem?, this]
    | _ => rfl
  · unfold Region.wanted
    cases hg : o.guard with
    | none => rfl
    | some p =>
      obtain ⟨j, want⟩ := p
      simp only
      have : yielded ops.toArray a.tmps j = yielded ops.toArray g.tmps j := by
        unfold yielded
        cases hd : (ops.toArray[j]?).bind (·.dst) with
        | none => rfl
        | some d =>
          have hd' : (ops[j]?).bind (·.dst) = some d := by simpa using hd
          have := h d (by simp only [looks, hg, hd']; simp)
          simp only [Option.bind_some, this]
      rw [this]
theorem pval_of {C : Cx} {φ : Phi} {I : Nat → Prop} {E : Env} {H : Heap} {g : Act} {w : World} (hs : Sim C φ I E H g w) {ops : List Oper} {ds : List (Nat × Nat)} (hds : ∀ j d, lk ds j = some d → (ops[j]?).bind (·.dst) = some d)
    {o : Oper} {G : Bool} {sc : Prop} {v : AV} (hG : gd ds E o.guard = some G) (hv : avalG C.P E H o.op G = some (sc, v)) (hsc : G = true → sc) : ∃ u, PVal C.P ops g w o u ∧ AV.den w φ I (wrap o.guard G v) u := by
  have hw := gd_sound (ops := ops.toArray) hs.env (fun j d hj => by simpa using hds j d hj) hG
  unfold PVal
  rw [hw]
  cases G with
  | true =>
    have hv' : aval C.P E H o.op = some (sc, v) := by
      unfold avalG at hv
      cases hq : aval C.P E H o.op with
      | some r => rw [hq] at hv; exact hv
      | none => rw [hq] at hv; cases hv
    obtain ⟨u, hu, hden⟩ := aval_sound hs.env hs.st.real hv' (hsc rfl)
    exact ⟨u, by rw [if_pos rfl]; exact hu, wrap_den hden⟩
  | false =>
    refine ⟨undef, by simp, ?_⟩
    cases hg : o.guard with
    | none => rw [hg] at hG; simp [gd] at hG
    | some p => exact wrap_undef
theorem Act.put_get_ne {a : Act} {d : Option Tmp} {u : Value} {t : Nat} (h : d ≠ some t) : (a.put d u).tmps[t]? = a.tmps[t]? := by
  cases d with
  | none => rfl
  | some d => simp only [Act.put]; rw [Array.getElem?_setIfInBounds_ne (fun e => h (by rw [e]))]
theorem Act.put_siz {a : Act} {d : Option Tmp} {u : Value} : (a.put d u).tmps.size = a.tmps.size := by cases d <;> simp [Act.put]
theorem Act.put_dfr {a : Act} {d : Option Tmp} {u : Value} : (a.put d u).defers = a.defers := by cases d <;> rfl
theorem Pend.put {P : Program} {ops : List Oper} {n : Nat} (hok : HeadOk ops n) (hsel : ∀ i o, i < n → ops[i]? = some o → noSel o = true) {g : Act} {w : World} {i j : Nat} {o : Oper} {u : Value} (hi : i < n) (hj : j < n) (hne : i ≠ j)
    (ho : ops[j]? = some o) (hsep : ∀ oi d, ops[i]? = some oi → o.dst = some d → d ∉ looks ops oi) (h : Pend P ops g w i) : Pend P ops (g.put o.dst u) w i := fun oi hoi => by
  obtain ⟨v, hv, hd⟩ := h oi hoi
  have hl : ∀ t ∈ looks ops oi, (g.put o.dst u).tmps[t]? = g.tmps[t]? := fun t ht => Act.put_get_ne fun e => hsep oi t hoi e ht
  obtain ⟨h1, h2⟩ := look_same (ops := ops) (hsel i oi hi hoi) hl
  refine ⟨v, by unfold PVal at hv ⊢; rw [h1, h2]; exact hv, fun d hdd => ?_⟩
  rw [Act.put_get_ne fun e => ?_]
  · exact hd d hdd
  · exact hne (hok.dist j i d hj hi (by rw [ho]; exact e) (by rw [hoi]; exact hdd))
theorem EnvOk.same {w : World} {φ : Phi} {I : Nat → Prop} {E : Env} {g : Act} {d : Option Nat} {x : AV} {u : Value} (hp : EnvOk w φ I (putE d x E) (g.put d u)) (hE : EnvOk w φ I E g) (hs : sameE d x E) (hlt : ∀ t, d = some t → t < g.tmps.size) : EnvOk w φ I E (g.put d u) := fun t y hy => by
  by_cases hd : d = some t
  · subst hd
    simp only [sameE, hy] at hs
    obtain ⟨v, hv, hden⟩ := hp t x (by simp [putE, lk])
    refine ⟨v, hv, ?_⟩
    split at hs
    · rename_i h; cases h
    · rename_i h; cases h; simp only [AV.den]
    · rename_i z _ h; cases h; rw [hs]; exact hden
  · obtain ⟨v, hv, hden⟩ := hE t y hy
    exact ⟨v, by rw [Act.put_get_ne hd]; exact hv, hden⟩
theorem run_R {C : Cx} {ops : List Oper} {n : Nat} (hok : HeadOk ops n) (hdst : dstOk C.n ops = true) (hsel : ∀ i o, i < n → ops[i]? = some o → noSel o = true) {H : Heap} {w : World} {φ : Phi} {I : Nat → Prop} {ds : List (Nat × Nat)} {E : Env} {S : List Nat} {L : Array Bool} {a : Act}
    (hds : ∀ j d, lk ds j = some d → (ops[j]?).bind (·.dst) = some d) : ∀ (R D : List Nat) (g : Act), (∀ i ∈ R, i < n ∧ i ∈ S) → (∀ i ∈ D, i < n) → (∀ i ∈ D, ∀ j ∈ R, i < j) → ascB R = true → vR C ops H R ds E → Sim C φ I E H g w → Agree ops S L a g →
      (∀ i ∈ D, unl L i → Pend C.P ops g w i) → ∃ g', Sim C φ I E H g' w ∧ Agree ops S L a g' ∧ ∀ i, (i ∈ D ∨ i ∈ R) → unl L i → Pend C.P ops g' w i
  | [], D, g, _, _, _, _, _, hs, ha, hp => ⟨g, hs, ha, fun i hi => hp i (hi.resolve_right (by simp))⟩
  | j :: R, D, g, hR, hD, hDR, hasc, hv, hs, ha, hp => by
    obtain ⟨hjn, hjS⟩ := hR j (by simp)
    simp only [ascB, Bool.and_eq_true, List.all_eq_true, decide_eq_true_eq] at hasc
    simp only [vR] at hv
    obtain ⟨hv1, hv2⟩ := hv
    have fin : ∀ g', Sim C φ I E H g' w → Agree ops S L a g' → (∀ i ∈ D ++ [j], unl L i → Pend C.P ops g' w i) → ∃ g', Sim C φ I E H g' w ∧ Agree ops S L a g' ∧ ∀ i, (i ∈ D ∨ i ∈ j :: R) → unl L i → Pend C.P ops g' w i := fun g' hs' ha' hp' => by
      obtain ⟨g2, h1, h2, h3⟩ := run_R hok hdst hsel hds R (D ++ [j]) g' (fun i hi => hR i (by simp [hi])) (fun i hi => by
        rcases List.mem_append.1 hi with hi | hi
        · exact hD i hi
        · simp at hi; subst hi; exact hjn) (fun i hi k hk => by
        rcases List.mem_append.1 hi with hi | hi
        · exact hDR i hi k (by simp [hk])
        · simp at hi; subst hi; exact hasc.1 k hk) hasc.2 hv2 hs' ha' hp'
      refine ⟨g2, h1, h2, fun i hi => h3 i ?_⟩
      rcases hi with hi | hi
      · exact .inl (by simp [hi])
      · rcases List.mem_cons.1 hi with rfl | hi
        · exact .inl (by simp)
        · exact .inr hi
    split at hv1
    · exact hv1.elim
    · rename_i o ho
      split at hv1
      · exact hv1.elim
      · rename_i G hG
        split at hv1
        · exact hv1.elim
        · rename_i sc v hav
          obtain ⟨hsc, hsame⟩ := hv1
          by_cases hu : unl L j
          · obtain ⟨u, hpu, hden⟩ := pval_of hs hds hG hav hsc
            have hput := hs.put (d := o.dst) (v := wrap o.guard G v) (u := u) hs.st (Keeps.refl w φ I) (fun x hx => dstOk_mem hdst (List.mem_of_getElem? ho) x hx) hden
            have hsj : ∀ t ∈ looks ops o, (g.put o.dst u).tmps[t]? = g.tmps[t]? := fun t ht => Act.put_get_ne fun e => by
              have := (hok.need j o hjn ho t ht j t hjn (by rw [ho]; exact e) rfl).1
              omega
            refine fin (g.put o.dst u) ⟨hput.dfr, hput.siz, EnvOk.same hput.env hs.env hsame (fun t ht => by rw [hs.siz]; exact dstOk_mem hdst (List.mem_of_getElem? ho) t ht), hs.st⟩
              ⟨by rw [Act.put_dfr]; exact ha.dfr, by rw [Act.put_siz]; exact ha.siz, fun t ht => ?_⟩ (fun i hi hui => ?_)
            · rw [Act.put_get_ne fun e => ht j hjS hu (by rw [ho]; exact e)]
              exact ha.at' t ht
            · rcases List.mem_append.1 hi with hi | hi
              · refine Pend.put hok hsel (hD i hi) hjn (by have := hDR i hi j (by simp); omega) ho (fun oi d hoi hd hmem => ?_) (hp i hi hui)
                have := (hok.need i oi (hD i hi) hoi d hmem j d hjn (by rw [ho]; exact hd) rfl).1
                have := hDR i hi j (by simp)
                omega
              · simp at hi
                subst hi
                intro o' ho'
                rw [ho] at ho'
                cases ho'
                obtain ⟨h1, h2⟩ := look_same (ops := ops) (hsel i o hjn ho) hsj
                refine ⟨u, by unfold PVal at hpu ⊢; rw [h1, h2]; exact hpu, fun d hd => ?_⟩
                have hlt : d < g.tmps.size := by rw [hs.siz]; exact dstOk_mem hdst (List.mem_of_getElem? ho) d hd
                rw [hd]; simp [Act.put, hlt]
          · refine fin g hs ha (fun i hi hui => ?_)
            rcases List.mem_append.1 hi with hi | hi
            · exact hp i hi hui
            · simp at hi; subst hi; exact absurd hui hu
def Sep (ops : List Oper) (i j : Nat) : Prop := ∀ oi oj d, ops[i]? = some oi → ops[j]? = some oj → oj.dst = some d → d ∉ looks ops oi
theorem dsPut_ok {ops : List Oper} {ds : List (Nat × Nat)} {i : Nat} {o : Oper} (ho : ops[i]? = some o) (hds : ∀ j d, lk ds j = some d → (ops[j]?).bind (·.dst) = some d) : ∀ j d, lk (dsPut o.dst i ds) j = some d → (ops[j]?).bind (·.dst) = some d := fun j d hj => by
  unfold dsPut at hj
  split at hj
  · rename_i d' hd'
    simp only [lk] at hj
    cases hb : Nat.beq i j with
    | true =>
      rw [hb] at hj
      have := Nat.eq_of_beq_eq_true hb
      subst this
      simp only [cond_true, Option.some.injEq] at hj
      subst hj
      rw [ho]; exact hd'
    | false => rw [hb] at hj; exact hds j d hj
  · exact hds j d hj
theorem run_P {C : Cx} {ops : List Oper} {n : Nat} (hok : HeadOk ops n) (hdst : dstOk C.n ops = true) (hsel : ∀ i o, i < n → ops[i]? = some o → noSel o = true) {H : Heap} {w : World} {φ : Phi} {I : Nat → Prop} {L : Array Bool} {a : Act} {k : List (Nat × Nat) → Env → Prop} :
    ∀ (P D S : List Nat) (g : Act) (ds : List (Nat × Nat)) (E : Env), (∀ j d, lk ds j = some d → (ops[j]?).bind (·.dst) = some d) → (∀ i ∈ P, i < n ∧ unl L i) → (∀ i ∈ D, i < n) → (∀ i ∈ D, ∀ j ∈ P, i ≠ j ∧ Sep ops i j) → ascB P = true →
      vP C ops H k P ds E → Sim C φ I E H g w → Agree ops S L a g → (∀ i ∈ D, unl L i → Pend C.P ops g w i) →
      ∃ ds' E' g', k ds' E' ∧ (∀ j d, lk ds' j = some d → (ops[j]?).bind (·.dst) = some d) ∧ Sim C φ I E' H g' w ∧ Agree ops (S ++ P) L a g' ∧ ∀ i, (i ∈ D ∨ i ∈ P) → unl L i → Pend C.P ops g' w i
  | [], D, S, g, ds, E, hds, _, _, _, _, hv, hs, ha, hp => ⟨ds, E, g, hv, hds, hs, by simpa using ha, fun i hi => hp i (hi.resolve_right (by simp))⟩
  | j :: P, D, S, g, ds, E, hds, hP, hD, hDP, hasc, hv, hs, ha, hp => by
    obtain ⟨hjn, hju⟩ := hP j (by simp)
    simp only [ascB, Bool.and_eq_true, List.all_eq_true, decide_eq_true_eq] at hasc
    simp only [vP] at hv
    split at hv
    · exact hv.elim
    · rename_i o ho
      split at hv
      · exact hv.elim
      · rename_i G hG
        split at hv
        · exact hv.elim
        · rename_i sc v hav
          obtain ⟨hsc, hnext⟩ := hv
          obtain ⟨u, hpu, hden⟩ := pval_of hs hds hG hav hsc
          have hput := hs.put (d := o.dst) (v := wrap o.guard G v) (u := u) hs.st (Keeps.refl w φ I) (fun x hx => dstOk_mem hdst (List.mem_of_getElem? ho) x hx) hden
          have hsj : ∀ t ∈ looks ops o, (g.put o.dst u).tmps[t]? = g.tmps[t]? := fun t ht => Act.put_get_ne fun e => by
            have := (hok.need j o hjn ho t ht j t hjn (by rw [ho]; exact e) rfl).1
            omega
          have hself : ∀ i ∈ D ++ [j], i < n := fun i hi => by
            rcases List.mem_append.1 hi with hi | hi
            · exact hD i hi
            · simp at hi; subst hi; exact hjn
          obtain ⟨ds', E', g', h1, h2, h3, h4, h5⟩ := run_P (a := a) hok hdst hsel P (D ++ [j]) (S ++ [j]) (g.put o.dst u) _ _ (dsPut_ok ho hds) (fun i hi => hP i (by simp [hi])) hself (fun i hi x hx => by
              rcases List.mem_append.1 hi with hi | hi
              · exact hDP i hi x (by simp [hx])
              · simp at hi; subst hi
                refine ⟨by have := hasc.1 x hx; omega, fun oi ox d hoi hox hd hmem => ?_⟩
                have h1 := (hok.need i oi hjn hoi d hmem x d (hP x (by simp [hx])).1 (by rw [hox]; exact hd) rfl).1
                have := hasc.1 x hx
                omega) hasc.2 hnext hput
            ⟨by rw [Act.put_dfr]; exact ha.dfr, by rw [Act.put_siz]; exact ha.siz, fun t ht => by
              rw [Act.put_get_ne fun e => ht j (by simp) hju (by rw [ho]; exact e)]
              exact ha.at' t fun i hi => ht i (by simp [hi])⟩
            (fun i hi hui => by
              rcases List.mem_append.1 hi with hi | hi
              · exact Pend.put hok hsel (hD i hi) hjn (hDP i hi j (by simp)).1 ho (fun oi d hoi hd hmem => (hDP i hi j (by simp)).2 oi o d hoi ho hd hmem) (hp i hi hui)
              · simp at hi
                subst hi
                intro o' ho'
                rw [ho] at ho'
                cases ho'
                obtain ⟨h1, h2⟩ := look_same (ops := ops) (hsel i o hjn ho) hsj
                refine ⟨u, by unfold PVal at hpu ⊢; rw [h1, h2]; exact hpu, fun d hd => ?_⟩
                have hlt : d < g.tmps.size := by rw [hs.siz]; exact dstOk_mem hdst (List.mem_of_getElem? ho) d hd
                rw [hd]; simp [Act.put, hlt])
          refine ⟨ds', E', g', h1, h2, h3, by simpa using h4, fun i hi => h5 i ?_⟩
          rcases hi with hi | hi
          · exact .inl (by simp [hi])
          · rcases List.mem_cons.1 hi with rfl | hi
            · exact .inl (by simp)
            · exact .inr hi
theorem oper_frame {C : Cx} {ops : List Oper} {o : Oper} (hs : noSel o = true) {a g : Act} {w : World} (hl : ∀ t ∈ looks ops o, a.tmps[t]? = g.tmps[t]?) (hdf : a.defers = g.defers) {J J' : Act → World → Prop} {Q Q' : Exit → Act → World → Prop}
    (hq : ∀ c a w, ¬ Q (.panic c) a w) (ho : ¬ LetsOut Q) (hn : ∀ dd v w', J (({ g with defers := dd } : Act).put o.dst v) w' → J' (({ a with defers := dd } : Act).put o.dst v) w') (h : o.wp C.P g w J Q) : o.wp C.P a w J' Q' := by
  have hn' : ∀ v w', J (g.put o.dst v) w' → J' (a.put o.dst v) w' := fun v w' hj => by
    have := hn g.defers v w' hj
    rw [← hdf] at this
    exact this
  unfold Oper.wp at h ⊢
  rw [(look_same hs hl).1]
  generalize (execOp g.eval o).run C.P w = q at *
  cases q with
  | ok x w' =>
    cases x <;> simp only [Oper.upon] at h ⊢ <;> first
      | exact hn' _ _ h
      | (rw [hdf]; exact hn _ _ _ h)
      | exact h.elim
      | exact h.mono fun v w'' he => hn' _ _ he
      | (refine h.mono fun e w'' he => ?_
         cases e with
         | returned v => exact hn' _ _ he
         | panicked c => exact (hq _ _ _ he).elim
         | outgrown => exact (ho he).elim)
  | halt x w' => cases x <;> simp only [Oper.upon] at h ⊢ <;> first | exact (hq _ _ _ h).elim | exact h.elim
theorem oper_frameO {C : Cx} {ops : List Oper} {o : Oper} (hs : noSel o = true) {a g : Act} {w : World} (hl : ∀ t ∈ looks ops o, a.tmps[t]? = g.tmps[t]?) (hdf : a.defers = g.defers) {J J' : Act → World → Prop} {Q Q' : Exit → Act → World → Prop}
    (hq : ∀ c a w, ¬ Q (.panic c) a w) (ho : ¬ LetsOut Q) (hn : ∀ dd v w', J (({ g with defers := dd } : Act).put o.dst v) w' → J' (({ a with defers := dd } : Act).put o.dst v) w') (h : oStep C.P o g w J Q) : oStep C.P o a w J' Q' := by
  have hn' : ∀ v w', J (g.put o.dst v) w' → J' (a.put o.dst v) w' := fun v w' hj => by
    have := hn g.defers v w' hj
    rw [← hdf] at this
    exact this
  rcases h with h | ⟨l, f, tmps, as, bd, hr, h⟩
  · exact .inl (oper_frame hs hl hdf hq ho hn h)
  · refine .inr ⟨l, f, tmps, as, bd, by rw [(look_same hs hl).1]; exact hr, h.mono fun e w'' he => ?_⟩
    cases e with
    | returned v => exact hn' _ _ he
    | panicked c => exact (hq _ _ _ he).elim
    | outgrown => exact (ho he).elim
theorem lst_unl {L : Array Bool} {i : Nat} (h : lst L i) (h' : unl L i) : False := by
  unfold lst at h
  unfold unl at h'
  rcases Nat.lt_or_ge i L.size with hl | hl
  · simp [hl] at h h'; rw [h] at h'; cases h'
  · simp [Array.getElem?_eq_none hl] at h
theorem unl_set {L : Array Bool} {i j : Nat} (h : unl (L.setIfInBounds i true) j) : unl L j := by
  unfold unl at h ⊢
  by_cases hij : i = j
  · subst hij
    rcases Nat.lt_or_ge i L.size with hl | hl
    · simp [hl] at h
    · simp [Array.getElem?_eq_none hl] at h
  · rwa [getD_set_ne true hij] at h
theorem unl_ne {L : Array Bool} {i j : Nat} (hij : i ≠ j) (h : unl L j) : unl (L.setIfInBounds i true) j := by
  unfold unl at h ⊢
  rwa [getD_set_ne true hij]
theorem lst_set {L : Array Bool} {i j : Nat} (h : lst L j) : lst (L.setIfInBounds i true) j := getD_set_true h
theorem bindTo_spec {ops : List Oper} {i j : Nat} : bindTo ops i j = true ↔ ∃ o, ops[i]? = some o ∧ ∃ e ∈ o.after, Region.binds .any e = true ∧ e.on = j := by
  unfold bindTo
  cases ho : ops[i]? with
  | none => simp
  | some o =>
    constructor
    · intro h
      obtain ⟨e, he, hb⟩ := Array.any_eq_true'.1 h
      simp only [Bool.and_eq_true, beq_iff_eq] at hb
      exact ⟨o, rfl, e, he, hb⟩
    · rintro ⟨o', ho', e, he, hb⟩
      cases ho'
      exact Array.any_eq_true'.2 ⟨e, he, by simpa using hb⟩
theorem depsIn_spec {ops : List Oper} {i : Nat} {S : List Nat} (h : depsIn ops i S = true) {j : Nat} (hb : bindTo ops i j = true) : j ∈ S := by
  obtain ⟨o, ho, e, he, hb1, rfl⟩ := bindTo_spec.1 hb
  unfold depsIn at h
  rw [ho] at h
  have := Array.all_eq_true'.1 h e he
  rw [hb1] at this
  simpa [inL_mem] using this
theorem treeB_node {ops : List Oper} {n : Nat} {prev effs R P es : List Nat} {ts : List Tree} (h : treeB ops n prev effs (.node R P es ts) = true) :
    ascB R = true ∧ ascB P = true ∧ (∀ i ∈ R, i ∈ prev) ∧ (∀ i ∈ P, i < n ∧ i ∉ prev ∧ i ∉ effs) ∧
    (∀ i ∈ prev, i ∉ R → ∃ x, i < x ∧ x < n ∧ (x ∈ effs ∨ (x ∈ prev ∧ x ∉ R)) ∧ bindTo ops x i = true) ∧
    (∀ i ∈ P, ∀ j, bindTo ops i j = true → j ∈ prev ++ P ++ effs) ∧
    (∀ i, i < n → i ∈ prev ++ P ∨ i ∈ effs ∨ i ∈ es ∨ ∃ j, j < n ∧ bindTo ops i j = true ∧ j ∉ prev ++ P ∧ j ∉ effs) ∧
    (es = [] → ∀ i, i < n → i ∈ prev ++ P ∨ i ∈ effs) ∧ treesB ops n (prev ++ P) effs es ts = true := by
  have hno : ∀ (l : List Nat) (i : Nat), (!inL l i) = true → i ∉ l := fun l i h hm => by rw [(inL_mem _ _).2 hm] at h; cases h
  simp only [treeB, Bool.and_eq_true] at h
  obtain ⟨⟨⟨⟨⟨⟨⟨⟨h1, h2⟩, h3⟩, h4⟩, h5⟩, h6⟩, h7⟩, h8⟩, h9⟩ := h
  refine ⟨h1, h2, fun i hi => (inL_mem _ _).1 (List.all_eq_true.1 h3 i hi), fun i hi => ?_, fun i hi hR => ?_, fun i hi j hj => depsIn_spec (List.all_eq_true.1 h6 i hi) hj, fun i hi => ?_, fun he i hi => ?_, h9⟩
  · have := List.all_eq_true.1 h4 i hi
    simp only [Bool.and_eq_true, decide_eq_true_eq] at this
    exact ⟨this.1.1, hno _ _ this.1.2, hno _ _ this.2⟩
  · have := List.all_eq_true.1 h5 i hi
    simp only [Bool.or_eq_true, List.any_eq_true, List.mem_range, Bool.and_eq_true, decide_eq_true_eq] at this
    rcases this with h | ⟨x, hx, ⟨hix, hor⟩, hb⟩
    · exact absurd ((inL_mem _ _).1 h) hR
    · refine ⟨x, hix, hx, ?_, hb⟩
      rcases hor with h | h
      · exact .inl ((inL_mem _ _).1 h)
      · exact .inr ⟨(inL_mem _ _).1 h.1, hno _ _ h.2⟩
  · have := List.all_eq_true.1 h7 i (List.mem_range.2 hi)
    simp only [Bool.or_eq_true, List.any_eq_true, List.mem_range, Bool.and_eq_true] at this
    rcases this with ((h | h) | h) | ⟨j, hj, ⟨hb, h1⟩, h2⟩
    · exact .inl ((inL_mem _ _).1 h)
    · exact .inr (.inl ((inL_mem _ _).1 h))
    · exact .inr (.inr (.inl ((inL_mem _ _).1 h)))
    · exact .inr (.inr (.inr ⟨j, hj, hb, hno _ _ h1, hno _ _ h2⟩))
  · subst he
    simp only [List.isEmpty_nil, Bool.not_true, Bool.false_or, List.all_eq_true, List.mem_range, Bool.or_eq_true] at h8
    exact (h8 i hi).imp (inL_mem _ _).1 (inL_mem _ _).1
theorem treesB_mem {ops : List Oper} {n : Nat} {prev effs : List Nat} {C : Cx} {K : List PK} {ds : List (Nat × Nat)} {E : Env} {H : Heap} : ∀ (es : List Nat) (ts : List Tree), treesB ops n prev effs es ts = true → vds C K ops n es ts ds E H → ∀ x ∈ es, ∃ t ∈ ts,
    x < n ∧ x ∉ prev ∧ x ∉ effs ∧ (∀ j, bindTo ops x j = true → j ∈ prev ++ effs) ∧ treeB ops n prev (x :: effs) t = true ∧
      match ops[x]? with
      | none => False
      | some o => AQ C.nr ds x [o] [.lp (SJv C (vd C K ops n t (dsPut o.dst x ds))), .bot noExit] E H
  | [], _, _, _, x, hx => by simp at hx
  | y :: es, [], h, _, x, hx => by simp [treesB] at h
  | y :: es, t :: ts, h, hv, x, hx => by
    have hno : ∀ (l : List Nat) (i : Nat), (!inL l i) = true → i ∉ l := fun l i h hm => by rw [(inL_mem _ _).2 hm] at h; cases h
    simp only [treesB, Bool.and_eq_true, decide_eq_true_eq] at h
    obtain ⟨⟨⟨⟨⟨h1, h2⟩, h3⟩, h4⟩, h5⟩, h6⟩ := h
    simp only [vds] at hv
    rcases List.mem_cons.1 hx with rfl | hx
    · exact ⟨t, by simp, h1, hno _ _ h2, hno _ _ h3, fun j hj => depsIn_spec h4 hj, h5, hv.1⟩
    · obtain ⟨t', ht', r⟩ := treesB_mem es ts h6 hv.2 x hx
      exact ⟨t', by simp [ht'], r⟩
end Go.AL
end

section
namespace Go.AL
open Go
theorem getD_set_true' {L : Array Bool} {i : Nat} (h : L.getD i true = false) : lst (L.setIfInBounds i true) i := by
  unfold lst
  rcases Nat.lt_or_ge i L.size with hl | hl
  · simp [hl]
  · simp [Array.getElem?_eq_none hl] at h
theorem plan_run {C : Cx} {K : List PK} {ops : List Oper} {n : Nat} (hok : HeadOk ops n) (hdst : dstOk C.n ops = true) (hsel : ∀ i o, i < n → ops[i]? = some o → noSel o = true) :
    ∀ (t : Tree) (prev effs : List Nat) (ds : List (Nat × Nat)) (E : Env) (H : Heap), treeB ops n prev effs t = true → (∀ j d, lk ds j = some d → (ops[j]?).bind (·.dst) = some d) → vd C K ops n t ds E H →
    (∀ i ∈ prev, i < n) → (∀ i ∈ effs, i < n) → (∀ i, (i ∈ prev ∨ i ∈ effs) → ∀ j, bindTo ops i j = true → j ∈ prev ∨ j ∈ effs) →
    ∀ (L : Array Bool) (a : Act) (w : World), HeadInv .any ops.toArray n L → (∀ i ∈ effs, lst L i) → (∀ i, i < n → i ∉ prev → i ∉ effs → unl L i) → (∃ g φ I, Sim C φ I E H g w ∧ Agree ops prev L a g) →
      wpA C.P .any ops.toArray (denK C (K.map (PK.ki C.fn))) (cntTo L n + (ops.length - n)) L a w
  | .node R P es ts, prev, effs, ds, E, H, hB, hds, hv, hprev, heffs, hcl, L, a, w, inv, hle, hlu, ⟨g, φ, I, hs, hag⟩ => by
    obtain ⟨hR, hP, hRp, hPf, hforce, hPd, hexi, hend, hB'⟩ := treeB_node hB
    simp only [vd] at hv
    obtain ⟨hvR, hvP⟩ := hv
    -- what is not evaluated again is listed
    have hlisted : ∀ (d i : Nat), n - i = d → i ∈ prev → i ∉ R → lst L i := by
      intro d
      induction d using Nat.strongRecOn with
      | _ d ih =>
        intro i hd hi hiR
        obtain ⟨x, hix, hxn, hx, hb⟩ := hforce i hi hiR
        have hlx : lst L x := by
          rcases hx with hx | ⟨hx1, hx2⟩
          · exact hle x hx
          · exact ih (n - x) (by omega) x rfl hx1 hx2
        obtain ⟨o, ho, ed, hed, hbd, rfl⟩ := bindTo_spec.1 hb
        exact inv.closed x o (by simpa using ho) hlx ed hed hbd
    obtain ⟨g1, hs1, hag1, hp1⟩ := run_R hok hdst hsel hds (S := prev) (L := L) (a := a) R [] g (fun i hi => ⟨hprev i (hRp i hi), hRp i hi⟩) (fun i hi => by simp at hi) (fun i hi => by simp at hi) hR hvR hs hag (fun i hi => by simp at hi)
    have hp1' : ∀ i ∈ prev, unl L i → Pend C.P ops g1 w i := fun i hi hu => by
      by_cases hiR : i ∈ R
      · exact hp1 i (.inr hiR) hu
      · exact (lst_unl (hlisted _ i rfl hi hiR) hu).elim
    have hPn : ∀ i ∈ P, i < n ∧ unl L i := fun i hi => ⟨(hPf i hi).1, hlu i (hPf i hi).1 (hPf i hi).2.1 (hPf i hi).2.2⟩
    obtain ⟨ds', E', g', hk, hds', hs2, hag2, hp2⟩ := run_P (a := a) hok hdst hsel P prev prev g1 ds E hds hPn hprev (fun i hi j hj => ⟨fun e => (hPf j hj).2.1 (e ▸ hi), fun oi oj d hoi hoj hd hmem => by
        obtain ⟨_, ed, hed, hbd, hon⟩ := hok.need i oi (hprev i hi) hoi d hmem j d (hPn j hj).1 (by rw [hoj]; exact hd) rfl
        rcases hcl i (.inl hi) j (bindTo_spec.2 ⟨oi, hoi, ed, hed, hbd, hon⟩) with h | h
        · exact (hPf j hj).2.1 h
        · exact (hPf j hj).2.2 h⟩) hP hvP hs1 hag1 hp1'
    have hSn : ∀ i ∈ prev ++ P, i < n := fun i hi => by
      rcases List.mem_append.1 hi with hi | hi
      · exact hprev i hi
      · exact (hPn i hi).1
    -- the stage's pure operations, in any order; then the effect
    have inner : ∀ (c : Nat) (L : Array Bool) (a : Act), cntTo L n = c → HeadInv .any ops.toArray n L → (∀ i ∈ effs, lst L i) → (∀ i, i < n → i ∉ prev ++ P → i ∉ effs → unl L i) → Agree ops (prev ++ P) L a g' →
        (∀ i ∈ prev ++ P, unl L i → Pend C.P ops g' w i) → wpA C.P .any ops.toArray (denK C (K.map (PK.ki C.fn))) (c + (ops.length - n)) L a w := by
      intro c
      induction c with
      | zero =>
        intro L a hc inv hle hlu hag hp
        have hall := cntTo_zero L n hc
        have hsz : L.size = ops.length := by simpa using inv.size
        have hlst : ∀ i, i < n → lst L i := fun i hi => by
          have h1 := hall i hi
          have hlt : i < L.size := by rw [hsz]; have := hok.le; omega
          unfold lst
          simp [hlt] at h1 ⊢; exact h1
        cases es with
        | cons x es' =>
          simp only at hk
          obtain ⟨t', _, hxn, hxS, hxe, _⟩ := treesB_mem _ _ hB' hk x (by simp)
          exact (lst_unl (hlst x hxn) (hlu x hxn hxS hxe)).elim
        | nil =>
          simp only at hk
          have hcan : L = canon n ops.length := by
            apply Array.ext
            · simp [canon, hsz]
            · intro i h1 h2
              simp only [canon, List.getElem_toArray, List.getElem_map, List.getElem_range]
              by_cases hi : i < n
              · have := hall i hi
                simp [h1] at this
                simp [hi, this]
              · have := inv.tail i (by omega) (by simpa using (by omega : i < ops.length))
                simp [h1] at this
                simp [hi, this]
          have hag' : a = g' := by
            have ht : a.tmps = g'.tmps := by
              apply Array.ext_getElem?
              intro t
              exact hag.at' t fun i hi hu => (lst_unl (hlst i (hSn i hi)) hu).elim
            have hd := hag.dfr
            cases a; cases g'
            simp only at ht hd
            subst ht; subst hd; rfl
          subst hag'
          rw [Nat.zero_add]
          have hseq := hok.seq
          rw [← hcan] at hseq
          have hdrop : dstOk C.n (ops.drop n) = true := by
            rw [dstOk, List.all_eq_true]
            exact fun o ho => List.all_eq_true.1 hdst o (List.mem_of_mem_drop ho)
          have hao := vc_sound (C := C) (K := K.map (PK.ki C.fn)) (ops.drop n) [] n E' H hdrop (vq_eq C K _ _ _ _ _ hk)
          have h1 := wpA_seq (P := C.P) (md := .any) (ops := ops.toArray) (Q := denK C (K.map (PK.ki C.fn))) (ops.drop n) n L a w (fun j => by simp [List.getElem?_drop]) (by simpa using hseq)
            (hao ops.toArray (fun j d hj => by simp [lk] at hj) (fun j o hj => by rw [List.getElem?_drop] at hj; simp [hj]) φ I a w hs2)
          simpa using h1
      | succ c ih =>
        intro L a hc inv hle hlu hag hp
        obtain ⟨i0, hi0, hun0, hmin⟩ := cntTo_pos L n (by omega)
        have hsz : L.size = ops.length := by simpa using inv.size
        have hnle := hok.le
        have hready0 : i0 ∈ Region.ready .any ops.toArray L := by
          rw [mem_ready]
          have hlt : i0 < ops.length := by omega
          refine ⟨hun0, ops[i0], by simp [hlt], fun e he hb => ?_⟩
          have hlt2 := hok.back i0 ops[i0] hi0 (List.getElem?_eq_getElem hlt) e he hb
          have h1 := hmin e.on hlt2
          have hlt3 : e.on < L.size := by omega
          simp [hlt3] at h1 ⊢; exact h1
        rw [show c + 1 + (ops.length - n) = (c + (ops.length - n)) + 1 by omega]
        refine ⟨fun h => (by rw [h] at hready0; cases hready0), fun i hi => ?_⟩
        have hin := ready_lt hok inv hi0 hun0 i hi
        obtain ⟨hun, o, ho, hall⟩ := mem_ready.1 hi
        have hol : ops[i]? = some o := by simpa using ho
        have inv' := inv.set hi hin
        have hcnt : cntTo (L.setIfInBounds i true) n = c := by have := cntTo_set L i hun n hin; omega
        have hdep : ∀ j, bindTo ops i j = true → lst L j := fun j hb => by
          obtain ⟨o', ho', ed, hed, hbd, rfl⟩ := bindTo_spec.1 hb
          rw [hol] at ho'
          cases ho'
          exact hall ed hed hbd
        have hlook : ∀ t ∈ looks ops o, a.tmps[t]? = g'.tmps[t]? := fun t ht => hag.at' t fun j hj hju hjt => by
          obtain ⟨_, ed, hed, hbd, hon⟩ := hok.need i o hin hol t ht j t (hSn j hj) hjt rfl
          exact lst_unl (hdep j (bindTo_spec.2 ⟨o, hol, ed, hed, hbd, hon⟩)) hju
        obtain ⟨hex, hwa⟩ := look_same (ops := ops) (hsel i o hin hol) hlook
        have hagp : ∀ u, (∀ d, o.dst = some d → d < a.tmps.size → g'.tmps[d]? = some u) → Agree ops (prev ++ P) (L.setIfInBounds i true) (a.put o.dst u) g' := fun u hu => by
          refine ⟨by rw [Act.put_dfr]; exact hag.dfr, by rw [Act.put_siz]; exact hag.siz, fun t ht => ?_⟩
          by_cases hd : o.dst = some t
          · by_cases hlt : t < a.tmps.size
            · rw [hu t hd hlt, hd]; simp [Act.put, hlt]
            · rw [Array.getElem?_eq_none (by rw [Act.put_siz]; exact Nat.not_lt.1 hlt), Array.getElem?_eq_none (by rw [← hag.siz]; exact Nat.not_lt.1 hlt)]
          · rw [Act.put_get_ne hd]
            refine hag.at' t fun j hj hju hjt => ?_
            by_cases hij : i = j
            · subst hij; rw [hol] at hjt; exact hd hjt
            · exact ht j hj (unl_ne hij hju) hjt
        have pure : i ∈ prev ++ P → opA C.P ops.toArray (denK C (K.map (PK.ki C.fn))) i (wpA C.P .any ops.toArray (denK C (K.map (PK.ki C.fn))) (c + (ops.length - n)) (L.setIfInBounds i true)) a w := fun hiS => by
          obtain ⟨u, hpv, hpd⟩ := hp i hiS hun o hol
          have hgo := ih (L.setIfInBounds i true) (a.put o.dst u) hcnt inv' (fun j hj => lst_set (hle j hj)) (fun j hjn hj1 hj2 => unl_ne (fun e => hj1 (e ▸ hiS)) (hlu j hjn hj1 hj2)) (hagp u fun d hd _ => hpd d hd) (fun j hj hju => hp j hj (unl_set hju))
          unfold opA
          rw [ho]
          simp only
          rw [hwa]
          unfold PVal at hpv
          split
          · rename_i hw
            rw [if_pos hw] at hpv
            refine Or.inl ?_
            unfold Oper.wp
            rw [hex, hpv, Oper.upon_value]
            exact hgo
          · rename_i hw
            rw [if_neg hw] at hpv
            rw [← hpv]; exact hgo
        rcases hexi i hin with h | h | h | ⟨j, hjn, hb, hj1, hj2⟩
        · exact pure h
        · exact (lst_unl (hle i h) hun).elim
        · -- an effect
          cases es with
          | nil => simp at h
          | cons x0 es' =>
              simp only at hk
              obtain ⟨t', ht', hxn, hxS, hxe, hxd, hBr, hk⟩ := treesB_mem _ _ hB' hk i h
              rw [hol] at hk
              simp only at hk
              have hrun := hk
              unfold AQ AO at hrun
              have hrun := hrun ops.toArray (fun j d hj => by simpa using hds' j d hj) (fun j o' hj => by
                cases j with
                | zero => simp at hj; subst hj; rw [Nat.add_zero, ho]; rfl
                | succ j => simp at hj) φ I g' w ⟨hs2.dfr, hs2.siz, hs2.env, hs2.st⟩
              simp only [wpL] at hrun
              have hfin : ∀ dd v w', (∃ E1 H1 φ I, Sim C φ I E1 H1 (({ g' with defers := dd } : Act).put o.dst v) w' ∧ vd C K ops n t' (dsPut o.dst i ds') E1 H1) →
                  wpA C.P .any ops.toArray (denK C (K.map (PK.ki C.fn))) (c + (ops.length - n)) (L.setIfInBounds i true) (({ a with defers := dd } : Act).put o.dst v) w' := fun dd v w' ⟨E1, H1, φ1, I1, hs3, hv3⟩ => by
                rw [← hcnt]
                refine plan_run hok hdst hsel t' (prev ++ P) (i :: effs) _ E1 H1 hBr (dsPut_ok hol hds') hv3 hSn (fun j hj => by
                    rcases List.mem_cons.1 hj with rfl | hj
                    · exact hxn
                    · exact heffs j hj) (fun j hj k hb => by
                    have : k ∈ prev ++ P ++ effs := by
                      rcases hj with hj | hj
                      · rcases List.mem_append.1 hj with hj | hj
                        · rcases hcl j (.inl hj) k hb with h | h <;> simp [h]
                        · exact hPd j hj k hb
                      · rcases List.mem_cons.1 hj with rfl | hj
                        · exact hxd k hb
                        · rcases hcl j (.inr hj) k hb with h | h <;> simp [h]
                    rcases List.mem_append.1 this with h | h
                    · exact .inl h
                    · exact .inr (List.mem_cons_of_mem _ h)) _ _ w' inv' (fun j hj => by
                    rcases List.mem_cons.1 hj with rfl | hj
                    · exact getD_set_true' hun
                    · exact lst_set (hle j hj)) (fun j hjn hj1 hj2 => unl_ne (fun e => hj2 (by simp [e])) (hlu j hjn hj1 fun hm => hj2 (List.mem_cons_of_mem _ hm))) ⟨_, φ1, I1, hs3, ?_⟩
                refine ⟨by rw [Act.put_dfr, Act.put_dfr], by rw [Act.put_siz, Act.put_siz]; exact hag.siz, fun t ht => ?_⟩
                by_cases hd : o.dst = some t
                · by_cases hlt : t < a.tmps.size
                  · rw [hd]; simp [Act.put, hlt, ← hag.siz]
                  · rw [Array.getElem?_eq_none (by rw [Act.put_siz]; exact Nat.not_lt.1 hlt), Array.getElem?_eq_none (by rw [Act.put_siz, ← hag.siz]; exact Nat.not_lt.1 hlt)]
                · rw [Act.put_get_ne hd, Act.put_get_ne hd]
                  exact hag.at' t fun j hj hju => ht j hj (unl_ne (fun e => by subst e; exact hxS hj) hju)
              unfold opA
              rw [ho]
              simp only
              rw [hwa]
              split
              · rename_i hw
                rw [if_pos hw] at hrun
                exact oper_frameO (ops := ops) (hsel i o hin hol) hlook hag.dfr (fun c a w hq => hq) (fun ⟨a, w, hq⟩ => hq) hfin hrun
              · rename_i hw
                rw [if_neg hw] at hrun
                have := hfin g'.defers undef w hrun
                rw [← hag.dfr] at this
                exact this
        · -- a later one is not ready
          exact (lst_unl (hdep j hb) (hlu j hjn hj1 hj2)).elim
    refine inner _ L a rfl inv hle (fun i hin h1 h2 => hlu i hin (fun hm => h1 (List.mem_append_left _ hm)) h2) hag2 (fun i hi hu => hp2 i (by
      rcases List.mem_append.1 hi with hi | hi
      · exact .inl hi
      · exact .inr hi) hu)
termination_by t => SizeOf.sizeOf t
decreasing_by
  have := List.sizeOf_lt_of_mem ht'
  simp only [Tree.node.sizeOf_spec]
  omega
end Go.AL
end

section
namespace Go.AL
open Go
section
variable {C : Cx} {K : List PK} {E : Env} {H : Heap} {p : List Nat}
theorem AP.drawE {id : Nat} {ops : List Oper} (n : Nat) (t : Tree) (hm : C.P.follows .mixedOrders = true) (hc : codeAt C.fn p = .region id ops.toArray true) (hok : dstOk C.n ops = true) (hB : drawB ops n t = true)
    (h : vd C K ops n t [] E H) : AP C p K E H := by
  simp only [drawB, Bool.and_eq_true] at hB
  obtain ⟨⟨hB1, hB2⟩, hB3⟩ := hB
  have hok' := headB_spec hB1
  have hle := hok'.le
  have hsel : ∀ i o, i < n → ops[i]? = some o → noSel o = true := fun i o hi ho => List.all_eq_true.1 hB2 o (by
    rw [List.mem_take_iff_getElem]
    obtain ⟨hl, he⟩ := List.getElem?_eq_some_iff.1 ho
    exact ⟨i, by omega, he⟩)
  unfold AP
  rw [hc]
  intro φ I a w hs
  refine wpR_draw hm (dstOk_nd hok) ?_
  have hcnt : ∀ k, cntTo (Array.replicate ops.length false) k = min k ops.length := by
    intro k
    induction k with
    | zero => simp [cntTo]
    | succ k ih =>
      simp only [cntTo, ih]
      by_cases hk : k < ops.length
      · simp [hk]; omega
      · simp [hk]; omega
  have inv0 : HeadInv .any ops.toArray n (Array.replicate ops.length false) :=
    ⟨by simp, fun j oj _ hl => (by rw [getD_replicate_false] at hl; cases hl), fun t _ ht => getD_in (by simpa using ht) (getD_replicate_false _ _)⟩
  have := plan_run (K := K) hok' hok hsel t [] [] [] E H hB3 (fun j d hj => by simp [lk] at hj) h (fun i hi => by simp at hi) (fun i hi => by simp at hi) (fun i hi => by simp at hi) (Array.replicate ops.length false) a { w with drawn := w.drawn + 1 } inv0
    (fun i hi => by simp at hi) (fun i hi _ _ => getD_in (by simp; omega) (getD_replicate_false _ _)) ⟨a, φ, I, ⟨hs.dfr, hs.siz, fun t x hx => ?_, hs.st.drew1⟩, ⟨rfl, rfl, fun t _ => rfl⟩⟩
  · rw [hcnt, show min n ops.length + (ops.length - n) = ops.length by omega] at this
    simpa using this
  · obtain ⟨u, hu, hd⟩ := hs.env t x hx
    exact ⟨u, hu, (Keeps.drew1 w φ I).den hd⟩
end
theorem vd_node {C : Cx} {K : List PK} {ops : List Oper} {n : Nat} {R P es : List Nat} {ts : List Tree} {ds : List (Nat × Nat)} {E : Env} {H : Heap}
    (h : vR C ops H R ds E ∧ vP C ops H (fun ds E => match es with
    | [] => vq C K (ops.drop n) [] n E H
    | _ :: _ => vds C K ops n es ts ds E H) P ds E) : vd C K ops n (.node R P es ts) ds E H := by
  simp only [vd]; exact h
theorem vds_cons {C : Cx} {K : List PK} {ops : List Oper} {n x : Nat} {es : List Nat} {t : Tree} {ts : List Tree} {ds : List (Nat × Nat)} {E : Env} {H : Heap} :
    vds C K ops n (x :: es) (t :: ts) ds E H = ((match ops[x]? with
      | none => False
      | some o => AQ C.nr ds x [o] [.lp (SJv C (vd C K ops n t (dsPut o.dst x ds))), .bot noExit] E H) ∧ vds C K ops n es ts ds E H) := by first | (simp only [vds]; done) | (simp only [vds]; rfl)
theorem vds_nil {C : Cx} {K : List PK} {ops : List Oper} {n : Nat} {ts : List Tree} {ds : List (Nat × Nat)} {E : Env} {H : Heap} : vds C K ops n [] ts ds E H = True := by cases ts <;> simp only [vds]
theorem nr_P (C : Cx) : C.nr.P = C.P := rfl
theorem nr_fn (C : Cx) : C.nr.fn = C.fn := rfl
theorem nr_n (C : Cx) : C.nr.n = C.n := rfl
theorem nr_B (C : Cx) : C.nr.B = C.B := rfl
theorem nr_kp (C : Cx) : C.nr.kp = C.kp := rfl
theorem nr_ob (C : Cx) : C.nr.ob = C.ob := rfl
attribute [go_sem] vds_cons vds_nil vR vP avalG sameE nr_P nr_fn nr_n nr_B nr_kp nr_ob
end Go.AL
end

section
namespace Go.AL
open Go
section
variable {C : Cx} {K : List PK} {E : Env} {H : Heap}
theorem AQ.callI_g {ds : List (Nat × Nat)} {i : Nat} {d : Option Nat} {ty : TypeId} {pos : String} {af : Array Edge} {os : List Oper} {cal : Operand} {f : FuncId} {fs caps : List AV} {xs : List Operand} {ats : Array TypeId} {l : List AV} {r : AV} {gu : Option (Nat × Bool)} {G : Bool}
    (hok : dstOk C.n ({ dst := d, op := .call { callee := .value cal, args := xs.toArray, argTypes := ats }, type := ty, pos := pos, after := af, guard := gu } :: os) = true)
    (hG : gd ds E gu = some G) (hcal : ev E cal = some (.fn f fs caps)) (hl : evs E xs = some l) (hgs : G = true → gs l = true)
    (hc : G = true → ACall C.P f (fs ++ l.map AV.st ++ caps) H (fun r' H' => H' = H ∧ r' = r))
    (h : vq C K os (dsPut d i ds) (i + 1) (putE d (.opt G r) E) H) :
    AQ C ds i ({ dst := d, op := .call { callee := .value cal, args := xs.toArray, argTypes := ats }, type := ty, pos := pos, after := af, guard := gu } :: os) K E H := by
  obtain ⟨hd, hok'⟩ := dstOk_cons hok
  have hgo := AQ.go hok' h
  cases G with
  | true =>
    refine AQ.guard_yes hG ?_
    have hn : vq C [] [] (dsPut d i ds) (i + 1) (putE d r E) H = AQ C (dsPut d i ds) (i + 1) [] [] (putE d r E) H := rfl
    have key : ∀ os' : List Oper, AQ C (dsPut d i ds) (i + 1) os' K (putE d r E) H → dstOk C.n ({ dst := d, op := .call { callee := .value cal, args := xs.toArray, argTypes := ats }, type := ty, pos := pos, after := af, guard := none } :: os') = true →
        AQ C ds i ({ dst := d, op := .call { callee := .value cal, args := xs.toArray, argTypes := ats }, type := ty, pos := pos, after := af, guard := none } :: os') K E H := fun os' h' hok'' => AQ.callIA hok'' hcal hl (hgs rfl) (hc rfl) h'
    refine key os (AQ.imp (fun w φ I a => putE_imp fun u hu => ?_) hgo) ?_
    · simp only [AV.den]; exact ⟨fun _ => hu, fun h => by cases h⟩
    · simp only [dstOk, List.all_cons, Bool.and_eq_true] at hok ⊢
      exact hok
  | false =>
    refine AQ.guard_no hd hG ?_
    exact AQ.imp (fun w φ I a => putE_imp fun u hu => by simp only [AV.den] at hu ⊢; exact ⟨fun h => (by cases h), hu.2⟩) hgo
end
end Go.AL
end

section
namespace Go.AL
open Go
structure ACallN (P : Program) (nb : Nat) (f : FuncId) (args : List AV) (H : Heap) (R : AV → Heap → Prop) : Prop where
  ent : enters P f = true
  run : ∀ (w : World) (φ : Phi) (I : Nat → Prop) (vs : List Value), AV.dens w φ I args vs → Real w φ I H → Calls P f vs.toArray w (CPost ⟨w, ownB φ, I, φ, nb⟩ R)
structure YCallN (P : Program) (nb l : Nat) (args : List AV) (H : Heap) (R : AV → Heap → Prop) : Prop where
  run : ∀ (w : World) (φ : Phi) (I : Nat → Prop) (vs : List Value), AV.dens w φ I args vs → Real w φ I H →
    ∃ (fid : FuncId) (T : Array Value) (as bd : Code), (Instr.yield l vs.toArray).run P w = .ok (.round l fid T as bd) w ∧ RoundIn Fence.wide 3 P l fid T as bd w (CPost ⟨w, ownB φ, I, φ, nb⟩ R)
theorem ACallN.mono {P : Program} {nb : Nat} {f : FuncId} {args : List AV} {H : Heap} {R R' : AV → Heap → Prop} (h : ACallN P nb f args H R) (hr : ∀ r H', R r H' → R' r H') : ACallN P nb f args H R' :=
  ⟨h.ent, fun w φ I vs hd hR => (h.run w φ I vs hd hR).mono fun _ _ ⟨r, H', φ', I', v, h1, h2⟩ => ⟨r, H', φ', I', v, hr _ _ h1, h2⟩⟩
theorem YCallN.mono {P : Program} {nb l : Nat} {args : List AV} {H : Heap} {R R' : AV → Heap → Prop} (h : YCallN P nb l args H R) (hr : ∀ r H', R r H' → R' r H') : YCallN P nb l args H R' :=
  ⟨fun w φ I vs hd hR => let ⟨fid, T, as, bd, h1, h2⟩ := h.run w φ I vs hd hR; ⟨fid, T, as, bd, h1, h2.mono fun _ _ ⟨r, H', φ', I', v, h1, h2⟩ => ⟨r, H', φ', I', v, hr _ _ h1, h2⟩⟩⟩
mutual
/-- an id from nb on is named -/
def AV.ge (nb : Nat) : AV → Bool
  | .ob b _ => Nat.ble nb b
  | .oe b _ _ _ => Nat.ble nb b
  | .os b _ _ _ => Nat.ble nb b
  | .fn _ fs caps => AV.ges nb fs || AV.ges nb caps
  | .agg cs => AV.ges nb cs
  | .tup cs => AV.ges nb cs
  | .opt _ x => AV.ge nb x
  | .im _ => false
  | .ar _ => false
  | .top => false
  | .mp b => Nat.ble nb b
  | .wr _ x => AV.ge nb x
def AV.ges (nb : Nat) : List AV → Bool
  | [] => false
  | x :: xs => AV.ge nb x || AV.ges nb xs
end
theorem ble_false {a b : Nat} (h : Nat.ble a b = false) : b < a := by
  rcases Nat.lt_or_ge b a with h' | h'
  · exact h'
  · rw [Nat.ble_eq_true_of_le h'] at h; cases h
mutual
theorem AV.ge_den {w : World} {φ φ' : Phi} {I : Nat → Prop} {nb : Nat} (hφ : ∀ b', b' < nb → φ' b' = φ b') : ∀ (x : AV) (u : Value), x.ge nb = false → AV.den w φ I x u → AV.den w φ' I x u
  | .ob b' _, u, h, hd => by simp only [AV.ge] at h; simp only [AV.den] at hd ⊢; rw [hφ b' (ble_false h)]; exact hd
  | .oe b' _ _ _, u, h, hd => by simp only [AV.ge] at h; simp only [AV.den] at hd ⊢; rw [hφ b' (ble_false h)]; exact hd
  | .os b' _ _ _, u, h, hd => by simp only [AV.ge] at h; simp only [AV.den] at hd ⊢; rw [hφ b' (ble_false h)]; exact hd
  | .fn f fs caps, u, h, hd => by simp only [AV.ge, Bool.or_eq_false_iff] at h; simp only [AV.den] at hd ⊢; obtain ⟨us, vs, h1, h2, h3⟩ := hd; exact ⟨us, vs, AV.ges_dens hφ fs us h.1 h1, AV.ges_dens hφ caps vs h.2 h2, h3⟩
  | .agg cs, u, h, hd => by simp only [AV.ge] at h; simp only [AV.den] at hd ⊢; obtain ⟨us, h1, h2⟩ := hd; exact ⟨us, AV.ges_dens hφ cs us h h1, h2⟩
  | .tup cs, u, h, hd => by simp only [AV.ge] at h; simp only [AV.den] at hd ⊢; obtain ⟨us, h1, h2⟩ := hd; exact ⟨us, AV.ges_dens hφ cs us h h1, h2⟩
  | .opt g x, u, h, hd => by simp only [AV.ge] at h; simp only [AV.den] at hd ⊢; exact ⟨fun hg => AV.ge_den hφ x u h (hd.1 hg), hd.2⟩
  | .im x, u, _, hd => by simpa only [AV.den] using hd
  | .ar x, u, _, hd => by simpa only [AV.den] using hd
  | .top, _, _, _ => by simp only [AV.den]
  | .mp b', u, h, hd => by simp only [AV.ge] at h; simp only [AV.den] at hd ⊢; rw [hφ b' (ble_false h)]; exact hd
  | .wr k x, u, h, hd => by simp only [AV.ge] at h; simp only [AV.den] at hd ⊢; obtain ⟨v, h1, h2⟩ := hd; exact ⟨v, h1, AV.ge_den hφ x v h h2⟩
theorem AV.ges_dens {w : World} {φ φ' : Phi} {I : Nat → Prop} {nb : Nat} (hφ : ∀ b', b' < nb → φ' b' = φ b') : ∀ (xs : List AV) (us : List Value), AV.ges nb xs = false → AV.dens w φ I xs us → AV.dens w φ' I xs us
  | [], us, _, h => by simpa only [AV.dens] using h
  | x :: xs, us, h, hd => by
    simp only [AV.ges, Bool.or_eq_false_iff] at h
    simp only [AV.dens] at hd ⊢
    obtain ⟨u, us', e, h1, h2⟩ := hd
    exact ⟨u, us', e, AV.ge_den hφ x u h.1 h1, AV.ges_dens hφ xs us' h.2 h2⟩
end
def killGE (nb : Nat) : Env → Env
  | [] => []
  | (i, x) :: r => bif x.ge nb then (i, .top) :: killGE nb r else (i, x) :: killGE nb r
theorem killGE_lk {w w' : World} {φ φ' : Phi} {I I' : Nat → Prop} {nb : Nat} (hφ : ∀ b', b' < nb → φ' b' = φ b') (hw : ∀ g, I g → w'.heap[g]? = w.heap[g]?) (hI : ∀ g, I g → I' g)
    (hs : ∀ b g n, b < nb → φ b = some (some g) → shaped w g n → shaped w' g n) : ∀ (E : Env) (i : Nat) (x : AV), lk (killGE nb E) i = some x → ∃ y, lk E i = some y ∧ ∀ u, AV.den w φ I y u → AV.den w' φ' I' x u
  | [], i, x, h => by simp [killGE, lk] at h
  | (j, y) :: r, i, x, h => by
    simp only [killGE] at h
    cases hm : y.ge nb with
    | true =>
      rw [hm] at h
      simp only [cond_true, lk] at h ⊢
      cases hb : Nat.beq j i with
      | true =>
        rw [hb] at h
        simp only [cond_true, Option.some.injEq] at h ⊢
        subst h
        exact ⟨y, rfl, fun u _ => by simp only [AV.den]⟩
      | false => rw [hb] at h; exact killGE_lk hφ hw hI hs r i x h
    | false =>
      rw [hm] at h
      simp only [cond_false, lk] at h ⊢
      cases hb : Nat.beq j i with
      | true =>
        rw [hb] at h
        simp only [cond_true, Option.some.injEq] at h ⊢
        subst h
        refine ⟨y, rfl, fun u hu => ?_⟩
        have h1 := AV.ge_den (φ' := fun b => if b < nb then φ b else none) (fun b' hb' => by simp [hb']) y u hm hu
        refine AV.den_mono hw hI (fun b p hb => ?_) (fun b g n hb hsh => ?_) y u h1
        · by_cases hlt : b < nb
          · rw [hφ b hlt]; simpa [hlt] using hb
          · simp [hlt] at hb
        · by_cases hlt : b < nb
          · exact hs b g n hlt (by simpa [hlt] using hb) hsh
          · simp [hlt] at hb
      | false => rw [hb] at h; exact killGE_lk hφ hw hI hs r i x h
def lowSame (nb : Nat) (H H' : Heap) : Prop := ∀ b, b < nb → (lk H' b).isSome = (lk H b).isSome
theorem lowSame.refl (nb : Nat) (H : Heap) : lowSame nb H H := fun _ _ => rfl
theorem St.afterN {B : Bs} {φ φ1 : Phi} {I I1 : Nat → Prop} {H H1 : Heap} {w w1 : World} {nb : Nat} (h : St B φ I H w) (hnb : B.nb ≤ nb) (h1 : St ⟨w, ownB φ, I, φ, nb⟩ φ1 I1 H1 w1) (hlow : lowSame nb H H1) :
    St B φ1 I1 H1 w1 ∧ (∀ b, b < nb → φ1 b = φ b) ∧ (∀ g, I g → w1.heap[g]? = w.heap[g]?) ∧ (∀ g, I g → I1 g) ∧ ∀ b g n, b < nb → φ b = some (some g) → shaped w g n → shaped w1 g n := by
  have hφ : ∀ b, b < nb → φ1 b = φ b := fun b hb => by
    have d1 := h1.real.dom b
    have d0 := h.real.dom b
    have hl := hlow b hb
    cases hl1 : lk H1 b with
    | none =>
      rw [hl1] at hl d1
      cases hp : φ1 b with
      | some _ => rw [hp] at d1; cases d1
      | none =>
        rw [← hl] at d0
        cases h0 : φ b with
        | some _ => rw [h0] at d0; cases d0
        | none => rfl
    | some o =>
      rw [hl1] at hl
      rw [← hl] at d0
      cases h0 : φ b with
      | none => rw [h0] at d0; cases d0
      | some p => exact h1.phx b p o hb h0 hl1
  have hkI : ∀ g, I g → w1.heap[g]? = w.heap[g]? := fun g hg => h1.ext.keep g (h.real.imm g hg) (fun ⟨b, hb⟩ => (h.real.off b g hb).1 hg)
  refine ⟨⟨h1.real, h.ext.trans h1.ext (fun g ⟨b, hb⟩ => h.ownx b g hb), fun b g hb => ?_, fun g hg => ?_, fun g hg => h1.immo g (h.immo g hg), fun b p o hb h0 hl => ?_⟩, hφ, hkI, h1.immo, fun b g n hb hp hsh => ?_⟩
  · rcases h1.ownx b g hb with ⟨b', hb'⟩ | h2
    · exact h.ownx b' g hb'
    · exact .inr (Nat.le_trans h.ext.size h2)
  · rcases h1.immx g hg with h2 | ⟨b', hb'⟩ | h2
    · exact h.immx g h2
    · exact .inr (h.ownx _ g hb')
    · exact .inr (.inr (Nat.le_trans h.ext.size h2))
  · have hb' : b < nb := by omega
    rw [hφ b hb']
    have hl2 := hlow b hb'
    rw [hl] at hl2
    cases hl3 : lk H b with
    | none => rw [hl3] at hl2; cases hl2
    | some o' => exact h.phx b p o' hb h0 hl3
  · obtain ⟨cc, ee, hcc, hn⟩ := hsh
    obtain ⟨c', fz', h2, h3⟩ := h1.ext.form g cc ee _ hcc
    have hp1 : φ1 b = some (some g) := (hφ b hb).trans hp
    have hd1 := h1.real.dom b
    rw [hp1] at hd1
    cases hl : lk H1 b with
    | none => rw [hl] at hd1; cases hd1
    | some o =>
      have hat := h1.real.own b o _ hl hp1
      have hfz : fz' = (0, 0) := by
        cases o with
        | var e cs =>
          simp only [Ob.at] at hat
          obtain ⟨g', us, hg', h4, _⟩ := hat
          cases hg'
          exact h4.fz h2
        | vec e es rows =>
          simp only [Ob.at] at hat
          rcases hat with ⟨h5, _⟩ | ⟨g', vss, rest, hg', h4, _⟩
          · cases h5
          · cases hg'; rw [h2] at h4; cases h4; rfl
        | lp l n st fn q ps E =>
          simp only [Ob.at] at hat
          obtain ⟨h0, T, D, fid, _, h4, _⟩ := hat
          cases h0; rw [h2] at h4; cases h4
      subst hfz
      exact ⟨c', ee, h2, by rw [h3]; exact hn⟩
theorem Sim.afterN {C : Cx} {φ φ1 : Phi} {I I1 : Nat → Prop} {E : Env} {H H1 : Heap} {a : Act} {w w1 : World} {nb : Nat} (h : Sim C φ I E H a w) (hnb : C.B.nb ≤ nb) (h1 : St ⟨w, ownB φ, I, φ, nb⟩ φ1 I1 H1 w1) (hlow : lowSame nb H H1) :
    Sim C φ1 I1 (killGE nb E) H1 a w1 := by
  obtain ⟨hS, hφ, hkI, hI, hsh⟩ := h.st.afterN hnb h1 hlow
  refine ⟨h.dfr.mono hkI hI, h.siz, fun i x hx => ?_, hS⟩
  obtain ⟨y, hy, hyd⟩ := killGE_lk hφ hkI hI hsh E i x hx
  obtain ⟨u, hu, hd⟩ := h.env i y hy
  exact ⟨u, hu, hyd u hd⟩
section
variable {C : Cx} {K : List PK} {E : Env} {H : Heap}
abbrev Yl (l : Nat) : AV := .im (.v (.func (.yield l) #[] #[]))
end
theorem ACallN.walk {P : Program} {f : FuncId} {fn : Func} {c : Code} {n nb : Nat} {args : List AV} {H : Heap} {R : AV → Heap → Prop} (kp ob : List Nat) (hf : P.funcs[f]? = some fn) (hb : fn.body = some c) (hn : fn.ntmps = n)
    (hname : enters P f = true) (hargs : Nat.ble args.length n = true)
    (h : ∀ (w : World) (own I0 : Nat → Prop) (φ0 : Phi), AP ⟨P, fn, n, ⟨w, own, I0, φ0, nb⟩, kp, ob, R, none, fun _ _ => False, []⟩ [] [] (enum 0 args) H) : ACallN P nb f args H R := by
  refine ⟨hname, fun w φ I vs hd hR => ?_⟩
  have hl := adens_len args vs hd
  have hal := Nat.le_of_ble_eq_true hargs
  have h0 := h w (ownB φ) I φ
  unfold AP at h0
  simp only [codeAt, hb, Option.getD_some] at h0
  refine Calls.mono ?_ fun e w' he => CPostX.only (C := ⟨P, fn, n, ⟨w, ownB φ, I, φ, nb⟩, kp, ob, R, none, fun _ _ => False, []⟩) (fun _ _ h => h) he
  refine calls_of_bot (C := ⟨P, fn, n, ⟨w, ownB φ, I, φ, nb⟩, kp, ob, R, none, fun _ _ => False, []⟩) hf hb rfl (h0 φ I _ w ⟨Marks.nil, ?_, fun i x hx => ?_, real_st hR _⟩)
  · simp only [Array.size_append, List.size_toArray, Array.size_replicate, hn]; omega
  · obtain ⟨j, rfl, hj⟩ := enum_lk args 0 i x hx
    obtain ⟨u, hu, hdu⟩ := adens_get args vs j x hd hj
    refine ⟨u, ?_, hdu⟩
    have hlt : j < vs.length := by
      rcases Nat.lt_or_ge j vs.length with h | h
      · exact h
      · rw [List.getElem?_eq_none h] at hu; cases hu
    rw [Nat.zero_add, Array.getElem?_append_left (by simpa using hlt)]
    simpa using hu
attribute [go_sem] AV.ge AV.ges killGE
end Go.AL
end

section
namespace Go.AL
open Go
section
variable {w : World} {φ : Phi} {I : Nat → Prop} {l : Nat} {r : Loop} {o' : Obj}
theorem shaped_putL (hl : w.heap[l]? = some (.loop r)) (g n : Nat) (h : shaped w g n) : shaped (w.putObj l o') g n := by
  obtain ⟨c, e, hc, hn⟩ := h
  have hg : g ≠ l := fun h => by subst h; rw [hl] at hc; cases hc
  exact ⟨c, e, (World.putObj_heap_other hg).trans hc, hn⟩
theorem keeps_putL (hl : w.heap[l]? = some (.loop r)) (hI : ¬ I l) : Keeps w φ I (w.putObj l o') φ I :=
  ⟨fun g hg => World.putObj_heap_other (fun e => hI (e ▸ hg)), fun _ h => h, fun _ _ h => h, fun _ g n _ => shaped_putL hl g n⟩
theorem ext_putL {own : Nat → Prop} (hl : w.heap[l]? = some (.loop r)) (ho : own l) : Ext own w (w.putObj l o') :=
  ⟨by simp, fun g _ hn => World.putObj_heap_other (fun e => hn (e ▸ ho)), fun g c e fz hc => ⟨c, fz, (World.putObj_heap_other (fun e => by subst e; rw [hl] at hc; cases hc)).trans hc, rfl⟩, rfl, rfl, rfl⟩
end
/-- the slots of a round: the parameters ahead of the record's own -/
def zipP : List Tmp → List AV → Env → Env
  | t :: ts, x :: xs, E => zipP ts xs ((t, x) :: E)
  | _, _, E => E
theorem zipP_env {w : World} {φ : Phi} {I : Nat → Prop} : ∀ (ps : List Tmp) (args : List AV) (vs : List Value) (E : Env) (T : Array Value), AV.dens w φ I args vs → ps.length = args.length → (∀ t ∈ ps, t < T.size) →
    (∀ i x, lk E i = some x → ∃ u, T[i]? = some u ∧ AV.den w φ I x u) →
    ((ps.zip vs).foldl (fun tmps (p : Tmp × Value) => tmps.setIfInBounds p.1 p.2) T).size = T.size ∧
    ∀ i x, lk (zipP ps args E) i = some x → ∃ u, ((ps.zip vs).foldl (fun tmps (p : Tmp × Value) => tmps.setIfInBounds p.1 p.2) T)[i]? = some u ∧ AV.den w φ I x u
  | [], [], vs, E, T, h, _, _, hE => by simp only [AV.dens] at h; subst h; exact ⟨rfl, hE⟩
  | [], _ :: _, _, _, _, _, h, _, _ => by simp at h
  | _ :: _, [], _, _, _, _, h, _, _ => by simp at h
  | t :: ts, x :: xs, vs, E, T, h, hlen, hlt, hE => by
    simp only [AV.dens] at h
    obtain ⟨u, us, rfl, h1, h2⟩ := h
    simp only [List.zip_cons_cons, List.foldl_cons, zipP]
    have := zipP_env ts xs us ((t, x) :: E) (T.setIfInBounds t u) h2 (by simpa using hlen) (fun t' ht' => by simpa using hlt t' (by simp [ht'])) (fun i y hy => by
      simp only [lk] at hy
      cases hb : Nat.beq t i with
      | true =>
        rw [hb] at hy
        have := Nat.eq_of_beq_eq_true hb
        subst this
        simp only [cond_true, Option.some.injEq] at hy
        subst hy
        exact ⟨u, by rw [Array.getElem?_setIfInBounds_self_of_lt (hlt t (by simp))], h1⟩
      | false =>
        rw [hb] at hy
        have hne : t ≠ i := fun e => by subst e; simp at hb
        obtain ⟨v, hv, hd⟩ := hE i y hy
        exact ⟨v, by rw [Array.getElem?_setIfInBounds_ne hne]; exact hv, hd⟩)
    refine ⟨?_, this.2⟩
    rw [this.1]; simp
theorem foldl_zip (ps : List Tmp) (vs : List Value) (T : Array Value) :
    (ps.toArray.zip vs.toArray).foldl (fun tmps (t, a) => tmps.setIfInBounds t a) T = (ps.zip vs).foldl (fun tmps (p : Tmp × Value) => tmps.setIfInBounds p.1 p.2) T := by
  simp
def begQ (C : Cx) (l : Nat) (p : List Nat) : Exit → Act → World → Prop :=
  Exit.then (fun a₁ w₁ => ∃ w₂, (Instr.beginRound l).run C.P w₁ = .ok () w₂ ∧ wpR (some l) C.P (codeAt C.fn (1 :: p)) (roundPost C.P l (CPost C.B C.R)) a₁ w₂) (fun _ _ _ => False)
section
variable {C : Cx} {K : List PK} {E : Env} {H : Heap}
end
theorem YCallN.walk {P : Program} {fn : Func} {n nb l b : Nat} {p : List Nat} {ps : List Tmp} {EL : Env} {args : List AV} {H : Heap} {R : AV → Heap → Prop} (kp ob : List Nat)
    (hl : lk H b = some (.lp l n .ready fn p ps EL)) (hps : Nat.beq ps.length args.length = true) (hlt : (ps.all fun t => Nat.blt t n) = true)
    (h : ∀ (w : World) (own I0 : Nat → Prop) (φ0 : Phi), AP ⟨P, fn, n, ⟨w, own, I0, φ0, nb⟩, kp, ob, R, some l, fun _ _ => False, []⟩ (0 :: p) [.bot (begQ ⟨P, fn, n, ⟨w, own, I0, φ0, nb⟩, kp, ob, R, some l, fun _ _ => False, []⟩ l p)] (zipP ps args EL) H) : YCallN P nb l args H R := by
  refine ⟨fun w φ I vs hd hR => ?_⟩
  have hdm := hR.dom b
  rw [hl] at hdm
  cases hp : φ b with
  | none => rw [hp] at hdm; cases hdm
  | some p0 =>
    have hat := hR.own b _ p0 hl hp
    simp only [Ob.at] at hat
    obtain ⟨rfl, T, D, fid, h1, h2, h3⟩ := hat
    have hvl := adens_len args vs hd
    have hpl := Nat.eq_of_beq_eq_true hps
    refine ⟨fid, _, _, _, run_yield h2 (by simp [hvl, hpl]), ?_⟩
    have h0 := h w (ownB φ) I φ
    unfold AP at h0
    have hz := zipP_env ps args vs EL T hd hpl (fun t ht => by
      have := List.all_eq_true.1 hlt t ht
      rw [Nat.blt_eq] at this
      rw [h1]; exact this) h3
    have h4 := h0 φ I { tmps := (ps.zip vs).foldl (fun tmps (p : Tmp × Value) => tmps.setIfInBounds p.1 p.2) T, defers := [] } w ⟨Marks.nil, by rw [hz.1]; exact h1, hz.2, real_st hR _⟩
    have hF : ∀ (c : Code) (Q : Exit → Act → World → Prop) (a : Act) (w : World), wpR (some l) P c Q a w → c.wpIn (Fence.wide.inRound l) 3 P Q a w := fun _ _ _ _ h => h
    refine roundIn_of_wpIn (F := Fence.wide) (n := 3) trivial (hF _ _ _ _ ?_)
    rw [foldl_zip]
    exact h4
end Go.AL
end

section
namespace Go.AL
open Go
mutual
theorem AV.ge_men {nb b : Nat} (h : nb ≤ b) : ∀ (x : AV), x.ge nb = false → x.men b = false
  | .ob b' _, hx => by simp only [AV.ge, AV.men] at hx ⊢; exact beq_ne (by have := ble_false hx; omega)
  | .oe b' _ _ _, hx => by simp only [AV.ge, AV.men] at hx ⊢; exact beq_ne (by have := ble_false hx; omega)
  | .os b' _ _ _, hx => by simp only [AV.ge, AV.men] at hx ⊢; exact beq_ne (by have := ble_false hx; omega)
  | .fn f fs caps, hx => by simp only [AV.ge, AV.men, Bool.or_eq_false_iff] at hx ⊢; exact ⟨AV.ges_mens h fs hx.1, AV.ges_mens h caps hx.2⟩
  | .agg cs, hx => by simp only [AV.ge, AV.men] at hx ⊢; exact AV.ges_mens h cs hx
  | .tup cs, hx => by simp only [AV.ge, AV.men] at hx ⊢; exact AV.ges_mens h cs hx
  | .opt g x, hx => by simp only [AV.ge, AV.men] at hx ⊢; exact AV.ge_men h x hx
  | .im x, _ => rfl
  | .ar x, _ => rfl
  | .top, _ => rfl
  | .mp b', hx => by simp only [AV.ge, AV.men] at hx ⊢; exact beq_ne (by have := ble_false hx; omega)
  | .wr k x, hx => by simp only [AV.ge, AV.men] at hx ⊢; exact AV.ge_men h x hx
theorem AV.ges_mens {nb b : Nat} (h : nb ≤ b) : ∀ (xs : List AV), AV.ges nb xs = false → AV.mens b xs = false
  | [], _ => rfl
  | x :: xs, hx => by simp only [AV.ges, AV.mens, Bool.or_eq_false_iff] at hx ⊢; exact ⟨AV.ge_men h x hx.1, AV.ges_mens h xs hx.2⟩
end
theorem killGE_men {nb b : Nat} (h : nb ≤ b) : ∀ (E : Env) (i : Nat) (x : AV), lk (killGE nb E) i = some x → x.men b = false
  | [], i, x, hx => by simp [killGE, lk] at hx
  | (j, y) :: r, i, x, hx => by
    simp only [killGE] at hx
    cases hm : y.ge nb with
    | true =>
      rw [hm] at hx
      simp only [cond_true, lk] at hx
      cases hb : Nat.beq j i with
      | true => rw [hb] at hx; simp only [cond_true, Option.some.injEq] at hx; subst hx; rfl
      | false => rw [hb] at hx; exact killGE_men h r i x hx
    | false =>
      rw [hm] at hx
      simp only [cond_false, lk] at hx
      cases hb : Nat.beq j i with
      | true => rw [hb] at hx; simp only [cond_true, Option.some.injEq] at hx; subst hx; exact AV.ge_men h y hm
      | false => rw [hb] at hx; exact killGE_men h r i x hx
theorem St.putOut {B : Bs} {φ : Phi} {I : Nat → Prop} {H : Heap} {w : World} {l : Nat} {r : Loop} {o' : Obj} (h : St B φ I H w) (hl : w.heap[l]? = some (.loop r)) (hI : ¬ I l) (hφ : ∀ b, φ b ≠ some (some l)) (ho : B.own l ∨ B.w0.heap.size ≤ l) :
    St B φ I H (w.putObj l o') ∧ Keeps w φ I (w.putObj l o') φ I := by
  have k : Keeps w φ I (w.putObj l o') φ I := keeps_putL hl hI
  refine ⟨⟨⟨h.real.dom, fun b' o p hl' hp => ?_, fun b' g hp => ?_, h.real.inj, fun g hg => ?_⟩, h.ext.trans (ext_putL (own := fun g => g = l) hl rfl) (fun g hg => by subst hg; exact ho), h.ownx, h.immx, h.immo, h.phx⟩, k⟩
  · exact Ob.at_mono k.im k.I k.phi k.sh (fun g hg => World.putObj_heap_other (fun e => by subst e; subst hg; exact hφ b' hp)) (h.real.own b' o p hl' hp)
  · have := h.real.off b' g hp
    exact ⟨this.1, by simpa using this.2⟩
  · have := h.real.imm g hg
    simpa using this
def rangeEnd (C : Cx) (K : List PK) (E : Env) (H : Heap) : LpSt → Prop
  | .ready => AE C .normal K E H
  | .done .ret => AE C .ret K E H
  | .done (.exit id) => AE C (.exit id) K E H
  | _ => False
def rdOk (C : Cx) (H : Heap) (b0 : Nat) : Prop := match C.rd with
  | none => True
  | some l0 => match lk H b0 with
    | some (.lp l1 _ _ _ _ _ _) => l1 = l0
    | _ => False
section
variable {C : Cx} {K : List PK} {E : Env} {H : Heap}
theorem AP.range (nb b0 : Nat) {p : List Nat} {t : Tmp} {ps : List Tmp} {as bd : Code} {f : FuncId} {fs caps : List AV} (EL : Env) {R : Nat → AV → Heap → Prop}
    (hc : codeAt C.fn p = .rangeFunc (.tmp t) ps.toArray as bd) (hcal : lk E t = some (.fn f fs caps)) (hnb : Nat.ble C.B.nb nb = true) (hEL : Sub E EL) (hrd : rdOk C H b0)
    (hcall : ∀ l, ACallN C.P nb f (fs ++ [Yl l] ++ caps) ((nidx nb H, .lp l C.n .ready C.fn p ps EL) :: H) (R l))
    (hlow : ∀ l r H', R l r H' → lowSame nb ((nidx nb H, .lp l C.n .ready C.fn p ps EL) :: H) H')
    (hend : ∀ l r H', R l r H' → ∃ st E', lk H' (nidx nb H) = some (.lp l C.n st C.fn p ps E') ∧ noMen (nidx nb H) (hdel (nidx nb H) H') = true ∧ rangeEnd C K (killGE nb E) (hdel (nidx nb H) H') st) : AP C p K E H := by
  unfold AP
  rw [hc]
  intro φ I a w hs
  have hnb' := Nat.le_of_ble_eq_true hnb
  obtain ⟨b, hb⟩ : ∃ b, nidx nb H = b := ⟨_, rfl⟩
  rw [hb] at hcall hlow hend
  have hbf : lk H b = none := hb ▸ nid_fresh nb H
  have hbn : nb ≤ b := hb ▸ (nidx_ge nb H).1
  refine wpIn_rangeFunc (F := Fw C.rd) fun fid _ => ?_
  obtain ⟨wD, ID, markl, D, e1, hSD, kD, hM⟩ : ∃ (wD : World) (ID : Nat → Prop) (markl : List Deferred) (D : Nat),
      (Instr.enterLoop fid a.tmps ps.toArray as bd C.rd).run C.P w = .ok (wD.heap.size, markl) (wD.alloc (.loop { state := .ready, pending := none, fn := fid, tmps := a.tmps, params := ps.toArray, assign := as, body := bd, defers := D })) ∧
      St C.B φ ID H wD ∧ Keeps w φ I wD φ ID ∧ Marks C.ds C.B.w0.heap.size wD ID (markl ++ a.defers) := by
    unfold rdOk at hrd
    cases hr : C.rd with
    | none =>
      obtain ⟨hS, k⟩ := hs.st.new_im (w' := w.alloc (.deferred (some []))) (by simp) (fun g hg => heap_alloc_old w _ hg) rfl rfl rfl
      refine ⟨w.alloc (.deferred (some [])), _, [markOf w.heap.size], w.heap.size, ?_, hS, k, ?_⟩
      · rw [run_enterLoop_outer]; simp [markOf]
      · obtain ⟨ms, h1, h2, h3⟩ := hs.dfr
        refine ⟨w.heap.size :: ms, by rw [h1]; rfl, List.nodup_cons.2 ⟨fun hm => ?_, h2⟩, fun D' hD' => ?_⟩
        · have := hs.st.real.imm _ (h3 _ hm).1
          omega
        · rcases List.mem_cons.1 hD' with rfl | hD'
          · exact ⟨.inr rfl, hs.st.ext.size, World.alloc_heap_new w _⟩
          · obtain ⟨h4, h5, h6⟩ := h3 D' hD'
            exact ⟨.inl h4, h5, (k.im D' h4).trans h6⟩
    | some l0 =>
      rw [hr] at hrd
      simp only at hrd
      split at hrd
      · rename_i l1 n1 st1 fn1 p1 ps1 E1 hl1
        subst hrd
        have hd := hs.st.real.dom b0
        rw [hl1] at hd
        cases hp : φ b0 with
        | none => rw [hp] at hd; cases hd
        | some p0 =>
          have hat := hs.st.real.own b0 _ p0 hl1 hp
          simp only [Ob.at] at hat
          obtain ⟨rfl, T, D, fid', h1, h2, h3⟩ := hat
          refine ⟨w, I, [], D, ?_, hs.st, Keeps.refl _ _ _, by simpa using hs.dfr⟩
          unfold Instr.enterLoop
          simp only [Sem.run_bind, run_newObj_alloc, Result.andThen, Sem.run_pure, run_getLoop h2]
      · exact hrd.elim
  have hcv := ev_sound hs.env (x := .tmp t) hcal
  simp only [AV.den] at hcv
  obtain ⟨fus, us, hfus, hus, hcalv⟩ := hcv
  obtain ⟨rec, hrec⟩ : ∃ rec : Loop, rec = { state := .ready, pending := none, fn := fid, tmps := a.tmps, params := ps.toArray, assign := as, body := bd, defers := D } := ⟨_, rfl⟩
  have hS2k := hSD.alloc_ob (b := b) hbf (by omega) (ob := .loop rec) (o := .lp wD.heap.size C.n .ready C.fn p ps EL) (by
    simp only [Ob.at]
    refine ⟨trivial, a.tmps, D, fid, hs.siz, ?_, fun i x hx => ?_⟩
    · rw [World.alloc_heap_new, hrec, hc]; rfl
    · obtain ⟨u, hu, hd⟩ := hs.env i x (hEL i x hx)
      refine ⟨u, hu, ?_⟩
      have hd2 := kD.den hd
      refine AV.den_mono (fun g hg => heap_alloc_old wD _ (hSD.real.imm g hg)) (fun _ h => h) (fun b' p' hp' => ?_) (fun _ g n _ hsh => (ext_alloc (fun _ => False) wD _).shaped (fun h => h) hsh) x u hd2
      unfold upd
      rw [if_neg (fun e => by subst e; rw [hSD.lkφ hbf] at hp'; cases hp')]
      exact hp')
  obtain ⟨hS2, k2⟩ := hS2k
  have hs2 : Sim C (upd φ b (some wD.heap.size)) ID E ((b, .lp wD.heap.size C.n .ready C.fn p ps EL) :: H) { a with defers := markl ++ a.defers } (wD.alloc (.loop rec)) :=
    ⟨hM.mono k2.im k2.I, hs.siz, fun i x hx => let ⟨u, hu, hd⟩ := hs.env i x hx; ⟨u, hu, k2.den (kD.den hd)⟩, hS2⟩
  have hent := (hcall wD.heap.size).ent
  rw [← hrec] at e1
  refine ⟨wD.heap.size, markl, wD.alloc (.loop rec), { target := .fn (.func f) us.toArray, args := fus.toArray ++ #[Value.func (.yield wD.heap.size) #[] #[]] }, wD.alloc (.loop rec), f, (fus ++ [Value.func (.yield wD.heap.size) #[] #[]] ++ us).toArray, wD.alloc (.loop rec), e1, ?_, fun _ _ => trivial, ?_, fun h => (by cases h), ?_⟩
  · have : (resolve a.eval (rangeCall (.tmp t) wD.heap.size) 0) = Deferred.ofValue (a.eval (.tmp t)) #[Value.func (.yield wD.heap.size) #[] #[]] := by
      simp [resolve, Act.eval]
    rw [this, hcalv]
    simp only [Deferred.ofValue, Sem.run_pure]
  · simp only [invoke]
    rw [run_callFunc hent]
    simp
  · have hden : AV.dens (wD.alloc (.loop rec)) (upd φ b (some wD.heap.size)) ID (fs ++ [Yl wD.heap.size] ++ caps) (fus ++ [Value.func (.yield wD.heap.size) #[] #[]] ++ us) := by
      refine AQ.callHA.adens_append _ _ _ _ (AQ.callHA.adens_append _ _ _ _ (AV.dens_mono k2.im k2.I k2.phi k2.sh _ _ (AV.dens_mono kD.im kD.I kD.phi kD.sh _ _ hfus)) ?_) (AV.dens_mono k2.im k2.I k2.phi k2.sh _ _ (AV.dens_mono kD.im kD.I kD.phi kD.sh _ _ hus))
      simp only [AV.dens, AV.den, IV.den]
      exact ⟨_, _, rfl, ⟨rfl, rfl⟩, rfl⟩
    refine (callsR ((hcall wD.heap.size).run _ _ ID _ hden hS2.real)).mono fun e w3 ⟨r, H3, φ3, I3, v, hr, he, hdv, hS3⟩ => ?_
    subst he
    obtain ⟨st, E', hlb, hno, hcont⟩ := hend _ r H3 hr
    have hs3 := hs2.afterN hnb' hS3 (hlow _ r H3 hr)
    have hd := hS3.real.dom b
    rw [hlb] at hd
    cases hp : φ3 b with
    | none => rw [hp] at hd; cases hd
    | some p0 =>
      have hat := hS3.real.own b _ p0 hlb hp
      simp only [Ob.at] at hat
      obtain ⟨rfl, T, D', fid', h1, h2, h3⟩ := hat
      have hnbusy : st.state ≠ .busy := by
        cases st with
        | busy => exact hcont.elim
        | ready => simp [LpSt.state]
        | done c => simp [LpSt.state]
      refine ⟨_, _, run_endLoop h2 hnbusy, ?_⟩
      have hoff := hS3.real.off b _ hp
      have hSf := hs3.st.forget b hno
      obtain ⟨hSo, ko⟩ := hSf.putOut (o' := .loop { state := .exhausted, pending := st.pend, fn := fid', tmps := T, params := ps.toArray, assign := child 0 (codeAt C.fn p), body := child 1 (codeAt C.fn p), defers := D' }) h2 hoff.1 (fun b' hb' => by
        simp only [updn] at hb'
        by_cases e : b' = b
        · simp [e] at hb'
        · rw [if_neg e] at hb'
          exact e (hS3.real.inj b' b _ hb' hp)) (.inr hSD.ext.size)
      have hs4 : Sim C (updn φ3 b) I3 (killGE nb E) (hdel b H3) { a with defers := markl ++ a.defers } (w3.putObj wD.heap.size (.loop { state := .exhausted, pending := st.pend, fn := fid', tmps := T, params := ps.toArray, assign := child 0 (codeAt C.fn p), body := child 1 (codeAt C.fn p), defers := D' })) :=
        ⟨hs3.dfr.mono ko.im ko.I, hs3.siz, fun i x hx => by
          obtain ⟨u, hu, hdu⟩ := hs3.env i x hx
          exact ⟨u, hu, ko.den (AV.men_den (fun b' hb' => by simp [updn, hb']) x u (killGE_men hbn E i x hx) hdu)⟩, hSo⟩
      cases st with
      | busy => exact hcont.elim
      | ready =>
        simp only [rangeEnd] at hcont
        unfold AE at hcont
        exact hcont _ _ _ _ hs4
      | done c =>
        simp only [LpSt.pend]
        cases c with
        | ret =>
          simp only [rangeEnd] at hcont
          unfold AE at hcont
          exact wpIn_ret (hcont _ _ _ _ hs4)
        | exit id =>
          simp only [rangeEnd] at hcont
          unfold AE at hcont
          exact wpIn_exit (hcont _ _ _ _ hs4)
        | _ => exact hcont.elim
def lowB (nb : Nat) (H H' : Heap) : Bool := (List.range nb).all fun b => (lk H' b).isSome == (lk H b).isSome
theorem lowSame.of (nb : Nat) (H H' : Heap) (h : lowB nb H H' = true) : lowSame nb H H' := fun b hb => by
  have := List.all_eq_true.1 h b (List.mem_range.2 hb)
  simpa using this
end
attribute [go_sem] rangeEnd
end Go.AL
end

section
namespace Go.AL
open Go
section
variable {C : Cx} {K : List PK} {E : Env} {H : Heap}
theorem AQ.skip {ds : List (Nat × Nat)} {i : Nat} {o : Oper} {os : List Oper} (hok : dstOk C.n (o :: os) = true) (hG : gd ds E o.guard = some false) (h : vq C K os (dsPut o.dst i ds) (i + 1) (putE o.dst (.opt false .top) E) H) : AQ C ds i (o :: os) K E H :=
  AQ.guard_no (dstOk_cons hok).1 hG (AQ.go (dstOk_cons hok).2 h)
end
attribute [go_sem] Bool.bne_false Bool.bne_true
end Go.AL
end

section
namespace Go.AL
open Go
def stepE : Exit → List PK → Option (Sum (List Nat) Exit × List PK)
  | .normal, .seq q :: K => some (.inl q, K)
  | .normal, .blk _ :: K => some (.inr .normal, K)
  | .normal, .sc :: K => some (.inr .normal, K)
  | .exit id, .seq _ :: K => some (.inr (.exit id), K)
  | .exit id, .blk id' :: K => bif id == id' then some (.inr .normal, K) else some (.inr (.exit id), K)
  | .exit id, .sc :: K => some (.inr (.exit id), K)
  | .exit id, .lp _ :: K => some (.inr (.exit id), K)
  | .ret, .seq _ :: K => some (.inr .ret, K)
  | .ret, .blk _ :: K => some (.inr .ret, K)
  | .ret, .sc :: K => some (.inr .ret, K)
  | .ret, .lp _ :: K => some (.inr .ret, K)
  | _, _ => none
def stepP (fn : Func) (p : List Nat) (K : List PK) : Option (Sum (List Nat) Exit × List PK) :=
  match codeAt fn p with
  | .seq _ _ => some (.inl (0 :: p), .seq (1 :: p) :: K)
  | .block id _ => some (.inl (0 :: p), .blk id :: K)
  | .scope _ => some (.inl (0 :: p), .sc :: K)
  | .skip => some (.inr .normal, K)
  | .ret => some (.inr .ret, K)
  | .exit id => some (.inr (.exit id), K)
  | .label _ => some (.inr .normal, K)
  | _ => none
def nrm (fn : Func) : Nat → Sum (List Nat) Exit → List PK → Sum (List Nat) Exit × List PK
  | 0, s, K => (s, K)
  | n + 1, .inl p, K => match stepP fn p K with
    | some (s, K') => nrm fn n s K'
    | none => (.inl p, K)
  | n + 1, .inr e, K => match stepE e K with
    | some (s, K') => nrm fn n s K'
    | none => (.inr e, K)
def nrmP (fn : Func) (p : List Nat) (K : List PK) : Option (Sum (List Nat) Exit × List PK) :=
  match stepP fn p K with
  | some (s, K') => some (nrm fn 99 s K')
  | none => none
def nrmE (fn : Func) (e : Exit) (K : List PK) : Option (Sum (List Nat) Exit × List PK) :=
  match stepE e K with
  | some (s, K') => some (nrm fn 99 s K')
  | none => none
def AS (C : Cx) (s : Sum (List Nat) Exit) (K : List PK) (E : Env) (H : Heap) : Prop := match s with
  | .inl p => AP C p K E H
  | .inr e => AE C e K E H
section
variable {C : Cx} {K K' : List PK} {E : Env} {H : Heap}
theorem stepE_sound {e : Exit} {s : Sum (List Nat) Exit} (hs : stepE e K = some (s, K')) (h : AS C s K' E H) : AE C e K E H := by
  unfold stepE at hs
  split at hs
  all_goals first
    | (cases hs; done)
    | (cases hs; first | exact AE.seq h | exact AE.blk h | exact AE.sc h | exact AE.seq_exit h | exact AE.sc_exit h | exact AE.lp_exit h | exact AE.seq_ret h | exact AE.blk_ret h | exact AE.sc_ret h | exact AE.lp_ret h)
    | skip
  rename_i id id' K0
  cases hb : (id == id') with
  | true =>
    rw [hb] at hs
    cases hs
    have : id = id' := by simpa using hb
    subst this
    exact AE.blk_exit h
  | false =>
    rw [hb] at hs
    cases hs
    exact AE.blk_exit_ne hb h
theorem stepP_sound {p : List Nat} {s : Sum (List Nat) Exit} (hs : stepP C.fn p K = some (s, K')) (h : AS C s K' E H) : AP C p K E H := by
  unfold stepP at hs
  split at hs
  all_goals first
    | (cases hs; done)
    | (cases hs; rename_i hc; first | exact AP.seq hc h | exact AP.block hc h | exact AP.scope hc h | exact AP.skip hc h | exact AP.ret hc h | exact AP.exit hc h | exact AP.label hc h)
theorem nrm_sound : ∀ (n : Nat) (s s' : Sum (List Nat) Exit) (K K' : List PK), nrm C.fn n s K = (s', K') → AS C s' K' E H → AS C s K E H
  | 0, s, s', K, K', hs, h => by cases hs; exact h
  | n + 1, .inl p, s', K, K', hs, h => by
    simp only [nrm] at hs
    cases h1 : stepP C.fn p K with
    | none => rw [h1] at hs; cases hs; exact h
    | some q =>
      obtain ⟨s1, K1⟩ := q
      rw [h1] at hs
      exact stepP_sound h1 (nrm_sound n s1 s' K1 K' hs h)
  | n + 1, .inr e, s', K, K', hs, h => by
    simp only [nrm] at hs
    cases h1 : stepE e K with
    | none => rw [h1] at hs; cases hs; exact h
    | some q =>
      obtain ⟨s1, K1⟩ := q
      rw [h1] at hs
      exact stepE_sound h1 (nrm_sound n s1 s' K1 K' hs h)
theorem nrmP_sound {p : List Nat} {s : Sum (List Nat) Exit} (hs : nrmP C.fn p K = some (s, K')) (h : AS C s K' E H) : AP C p K E H := by
  unfold nrmP at hs
  cases h1 : stepP C.fn p K with
  | none => rw [h1] at hs; cases hs
  | some q =>
    obtain ⟨s1, K1⟩ := q
    rw [h1] at hs
    exact stepP_sound h1 (nrm_sound 99 s1 s K1 K' (Option.some.inj hs) h)
theorem nrmE_sound {e : Exit} {s : Sum (List Nat) Exit} (hs : nrmE C.fn e K = some (s, K')) (h : AS C s K' E H) : AE C e K E H := by
  unfold nrmE at hs
  cases h1 : stepE e K with
  | none => rw [h1] at hs; cases hs
  | some q =>
    obtain ⟨s1, K1⟩ := q
    rw [h1] at hs
    exact stepE_sound h1 (nrm_sound 99 s1 s K1 K' (Option.some.inj hs) h)
theorem xPP {p p' : List Nat} (hs : nrmP C.fn p K = some (.inl p', K')) (h : AP C p' K' E H) : AP C p K E H := nrmP_sound hs h
theorem xPE {p : List Nat} {e : Exit} (hs : nrmP C.fn p K = some (.inr e, K')) (h : AE C e K' E H) : AP C p K E H := nrmP_sound hs h
theorem xEP {p' : List Nat} {e : Exit} (hs : nrmE C.fn e K = some (.inl p', K')) (h : AP C p' K' E H) : AE C e K E H := nrmE_sound hs h
theorem xEE {e e' : Exit} (hs : nrmE C.fn e K = some (.inr e', K')) (h : AE C e' K' E H) : AE C e K E H := nrmE_sound hs h
end
attribute [go_sem] List.all_cons List.all_nil Value.oneCell'
end Go.AL
end

section
namespace Go.AL
open Go
def quietOp (o : Oper) : Bool := match o.op with
  | .move _ | .assign _ | .pick _ _ _ | .build _ _ | .load _ _ | .nilCheck _ | .binOp _ _ _ _ _ | .unOp _ _ _ | .convert _ _ _ | .slice _ _ _ _ _ | .fieldAddr _ _ _ | .field _ _ _ | .indexAddr _ _ _ | .index _ _ _ | .extract _ _ => true
  | .call { callee := .builtin b, .. } => match b with
    | .len | .min | .max => true
    | _ => false
  | _ => false
section
variable {C : Cx} {K : List PK} {E : Env} {H : Heap} {p : List Nat}
end
end Go.AL
end

section
namespace Go.AL
open Go
def hdels : List Nat → Heap → Heap
  | [], H => H
  | b :: l, H => hdels l (hdel b H)
def dropOk : List Nat → AV → Heap → Bool
  | [], _, _ => true
  | b :: l, r, H => noMen b (hdel b H) && !(AV.men b r) && dropOk l r (hdel b H)
theorem den_drop {B : Bs} {I : Nat → Prop} {w : World} {r : AV} {v : Value} : ∀ (l : List Nat) (φ : Phi) (H : Heap), dropOk l r H = true → AV.den w φ I r v → St B φ I H w → ∃ φ', AV.den w φ' I r v ∧ St B φ' I (hdels l H) w
  | [], φ, H, _, hd, hS => ⟨φ, hd, hS⟩
  | b :: l, φ, H, hk, hd, hS => by
    simp only [dropOk, Bool.and_eq_true, Bool.not_eq_true'] at hk
    exact den_drop l (updn φ b) (hdel b H) hk.2 (AV.men_den (fun b' hb => by simp [updn, hb]) r v hk.1.2 hd) (hS.forget b hk.1.1)
section
variable {C : Cx} {E : Env} {H : Heap}
theorem AE.retD (l : List Nat) {sc : Prop} {xs : List AV} (h : resAV C.P E H C.fn.results.toList = some (sc, xs)) (hsc : sc) (hk : dropOk l (tupOf xs) H = true) (hR : C.R (tupOf xs) (hdels l H)) : AE C .ret [] E H := by
  unfold AE
  intro φ I a w hs
  refine hs.leave fun w' hS hE => ?_
  obtain ⟨v, hv, hd⟩ := results_run hE hS.real h hsc
  obtain ⟨φ', hd', hS'⟩ := den_drop l φ H hk hd hS
  exact ⟨v, hv, tupOf xs, hdels l H, φ', I, v, hR, rfl, hd', hS'⟩
theorem AE.forgets {e : Exit} {K : List PK} : ∀ (l : List Nat) {E : Env} {H : Heap}, dropOk l .top H = true → AE C e K (l.foldl (fun E b => killE b E) E) (hdels l H) → AE C e K E H
  | [], _, _, _, h => h
  | b :: l, E, H, hk, h => by
    simp only [dropOk, Bool.and_eq_true, Bool.not_eq_true'] at hk
    exact AE.forget b hk.1.1 (AE.forgets l hk.2 h)
end
attribute [go_sem] hdels dropOk List.foldl_cons List.foldl_nil
end Go.AL
end

section
namespace Go.AL
open Go
theorem AQ.nx {C Cn : Cx} {K : List PK} {ops : List Oper} {n : Nat} {R P es : List Nat} {ts : List Tree} {ds ds' : List (Nat × Nat)} {i : Nat} {E : Env} {H : Heap} (hC : Cn = C.nr)
    (h : vR C ops H R ds' E ∧ vP C ops H (fun ds E => match es with
      | [] => vq C K (ops.drop n) [] n E H
      | _ :: _ => vds C K ops n es ts ds E H) P ds' E) :
    AQ Cn ds i [] [.lp (SJv C (vd C K ops n (.node R P es ts) ds')), .bot noExit] E H := by
  subst hC
  exact AQ.next (vd_node h)
end Go.AL
end

section
namespace Go.AL
open Go
section
variable {C : Cx} {K : List PK} {E : Env} {H : Heap}
end
theorem nil_sl {w : World} {I : Nat → Prop} {es : Nat} {u : Value} (h : IV.den w I (.v (.slice none 0 0)) u) : IV.den w I (.sl es []) u := by
  simp only [IV.den] at h ⊢
  obtain ⟨rfl, _⟩ := h
  exact ⟨none, 0, [], rfl, Nat.le_refl _, by simp [IV.denss], (fun vs h => absurd h (List.not_mem_nil)), fun h => absurd rfl h⟩
end Go.AL
end

section
namespace Go.AL
open Go
def vg (C : Cx) (H : Heap) (k : List (Nat × Nat) → Env → Prop) : List Oper → List (Nat × Nat) → Nat → Env → Prop
  | [], ds, _, E => k ds E
  | o :: os, ds, i, E => match gd ds E o.guard with
    | none => False
    | some G => match avalG C.P E H o.op G with
      | none => False
      | some (sc, v) => (G = true → sc) ∧ vg C H k os (dsPut o.dst i ds) (i + 1) (putE o.dst (wrap o.guard G v) E)
theorem vg_vP {C : Cx} {ops : List Oper} {H : Heap} {k : List (Nat × Nat) → Env → Prop} : ∀ (rest : List Oper) (ds : List (Nat × Nat)) (i : Nat) (E : Env), (∀ j, rest[j]? = ops[i + j]?) → vg C H k rest ds i E → vP C ops H k (List.range' i rest.length) ds E
  | [], ds, i, E, _, h => by simpa [vP, vg] using h
  | o :: os, ds, i, E, hr, h => by
    have h0 : ops[i]? = some o := by have := hr 0; simpa using this.symm
    simp only [List.length_cons, List.range'_succ, vP, h0]
    simp only [vg] at h
    revert h
    cases gd ds E o.guard with
    | none => exact fun h => h
    | some G =>
      simp only
      cases avalG C.P E H o.op G with
      | none => exact fun h => h
      | some q =>
        obtain ⟨sc, v⟩ := q
        simp only
        exact fun h => ⟨h.1, vg_vP os _ _ _ (fun j => by have := hr (j + 1); rw [show i + 1 + j = i + (j + 1) by omega]; simpa using this) h.2⟩
def drawT (n : Nat) : Tree := .node [] (List.range' 0 n) [] []
section
variable {C : Cx} {K : List PK} {E : Env} {H : Heap} {p : List Nat}
theorem AP.drawQ {id : Nat} {ops : List Oper} (hc : codeAt C.fn p = .region id ops.toArray true) (hq0 : ops.all quietOp = true) (hq : (dstOk C.n ops && drawB ops ops.length (drawT ops.length) && C.P.follows .mixedOrders) = true)
    (h : vg C H (fun _ En => AQ C [] ops.length [] K En H) ops [] 0 E) : AP C p K E H := by
  simp only [Bool.and_eq_true] at hq
  refine AP.drawE ops.length (drawT ops.length) hq.2 hc hq.1.1 hq.1.2 ?_
  refine vd_node ⟨trivial, ?_⟩
  refine vg_vP ops [] 0 E (fun j => by rw [Nat.zero_add]) ?_
  simp only [List.drop_length, vq]
  exact h
end
attribute [go_sem] vg
end Go.AL
end

section
namespace Go.AL
open Go
section
variable {C : Cx} {E : Env} {H : Heap}
theorem AO.appendN {K : List KI} {ds : List (Nat × Nat)} {i : Nat} {o : Oper} {os : List Oper} {x y : Operand} {t e : TypeId} {es bytes d : Nat} {xs : List (List IV)}
    (hop : o.op = .call { callee := .builtin .append, args := #[x, y], argTypes := #[t, t] }) (hg : o.guard = none) (hd : o.dst = some d) (hdn : Nat.blt d C.n = true)
    (hx : ev E x = some (.im (.v (.slice none 0 0)))) (hy : ∀ φ I a w, Sim C φ I E H a w → Src w I (es + 1) xs (a.eval y))
    (hno : noMen (nidx C.B.nb H) ((nidx C.B.nb H, .vec e (es + 1) []) :: H) = true)
    (ht : tk C.P t = .slice e) (hes : sz C.P e = some (es + 1)) (hz : (zro C.P e).map List.length = some (es + 1)) (hby : by' C.P e = some bytes)
    (hb1 : xs.length * bytes ≤ 140737488355328) (hb2 : xs.length ≤ 70368744177664)
    (h : AO C ((i, d) :: ds) (i + 1) os K ((d, .os (nidx C.B.nb H) (es + 1) 0 xs.length) :: killE (nidx C.B.nb H) E) ((nidx C.B.nb H, .vec e (es + 1) xs) :: H)) : AO C ds i (o :: os) K E H :=
  AO.step fun ops φ I a w hds _ hs Kn hKn => by
    have hw : Region.wanted o (yielded ops a.tmps) = true := by simp [Region.wanted, hg]
    rw [if_pos hw]
    have hnx := nidx_ge C.B.nb H
    obtain ⟨hS, hk⟩ := hs.st.own_nil (nid_fresh C.B.nb H) hnx.1 e (es + 1)
    have hs' : Sim C (upd φ (nidx C.B.nb H) none) I E ((nidx C.B.nb H, .vec e (es + 1) []) :: H) a w := ⟨hs.dfr, hs.siz, fun j y hj => let ⟨u, hu, hd⟩ := hs.env j y hj; ⟨u, hu, hk.den hd⟩, hS⟩
    have hxv := ev_sound hs.env hx
    simp only [AV.den, IV.den] at hxv
    have hxs : AV.den w (upd φ (nidx C.B.nb H) none) I (.os (nidx C.B.nb H) (es + 1) 0 0) (a.eval x) := by
      simp only [AV.den]
      exact .inl ⟨by simp [upd], trivial, trivial, hxv.1⟩
    refine append_wp (rows := []) hs' hKn (Nat.ble_eq_true_of_le hnx.1) hop hd hdn hxs (hy φ I a w hs) (by simp [lk]) hno ht hes hz hby rfl (by simpa using hb1) (by simpa using hb2) ?_
    simp only [List.length_nil, Nat.zero_add, List.nil_append, hset, Nat.beq_refl, cond_true]
    exact h
section
variable {K : List PK}
theorem AQ.appendN {ds : List (Nat × Nat)} {i : Nat} {d : Nat} {ty : TypeId} {pos : String} {af : Array Edge} {os : List Oper} {x y : Operand} {t e : TypeId} {es bytes : Nat} {xs : List (List IV)}
    (hok : dstOk C.n ({ dst := some d, op := .call { callee := .builtin .append, args := #[x, y], argTypes := #[t, t] }, type := ty, pos := pos, after := af, guard := none } :: os) = true)
    (hx : ev E x = some (.im (.v (.slice none 0 0)))) (hy : ev E y = some (.im (.sl (es + 1) xs)))
    (hno : noMen (nidx C.B.nb H) ((nidx C.B.nb H, .vec e (es + 1) []) :: H) = true)
    (ht : tk C.P t = .slice e) (hes : sz C.P e = some (es + 1)) (hz : (zro C.P e).map List.length = some (es + 1)) (hby : by' C.P e = some bytes)
    (hb1 : xs.length * bytes ≤ 140737488355328) (hb2 : xs.length ≤ 70368744177664)
    (h : vq C K os ((i, d) :: ds) (i + 1) ((d, .os (nidx C.B.nb H) (es + 1) 0 xs.length) :: killE (nidx C.B.nb H) E) ((nidx C.B.nb H, .vec e (es + 1) xs) :: H)) :
    AQ C ds i ({ dst := some d, op := .call { callee := .builtin .append, args := #[x, y], argTypes := #[t, t] }, type := ty, pos := pos, after := af, guard := none } :: os) K E H := by
  obtain ⟨hd, hok'⟩ := dstOk_cons hok
  have hgo := AQ.go hok' h
  unfold AQ at hgo ⊢
  exact AO.appendN rfl rfl rfl (by rw [Nat.blt_eq]; exact hd d rfl) hx (fun φ I a w hs => Src.im (by have := ev_sound hs.env hy; simpa only [AV.den] using this)) hno ht hes hz hby hb1 hb2 hgo
end
end
end Go.AL
end

section
namespace Go.AL
open Go
def reorder : List Nat → Heap → Heap
  | [], _ => []
  | b :: l, H => match lk H b with
    | some o => (b, o) :: reorder l H
    | none => reorder l H
def covers (ids : List Nat) : Heap → Bool
  | [] => true
  | (b, _) :: r => inL ids b && covers ids r
theorem inL_lk : ∀ (l : List Nat) (b : Nat), inL l b = true → ∀ H : Heap, lk (reorder l H) b = lk H b
  | [], b, h, H => by simp [inL] at h
  | c :: l, b, h, H => by
    simp only [inL] at h
    simp only [reorder]
    cases hb : Nat.beq c b with
    | true =>
      have := Nat.eq_of_beq_eq_true hb
      subst this
      cases hl : lk H c with
      | some o => simp [lk]
      | none =>
        simp only
        cases hi : inL l c with
        | true => rw [inL_lk l c hi H, hl]
        | false => exact lk_reorder_none l c hi H
    | false =>
      rw [hb] at h
      simp only [cond_false] at h
      cases hl : lk H c with
      | some o => simp only [lk, hb, cond_false]; exact inL_lk l b h H
      | none => simp only; exact inL_lk l b h H
where
  lk_reorder_none : ∀ (l : List Nat) (b : Nat), inL l b = false → ∀ H : Heap, lk (reorder l H) b = none
    | [], b, _, H => rfl
    | c :: l, b, h, H => by
      simp only [inL] at h
      cases hb : Nat.beq c b with
      | true => rw [hb] at h; simp at h
      | false =>
        rw [hb] at h
        simp only [cond_false] at h
        simp only [reorder]
        cases hl : lk H c with
        | some o => simp only [lk, hb, cond_false]; exact lk_reorder_none l b h H
        | none => simp only; exact lk_reorder_none l b h H
theorem covers_lk (ids : List Nat) : ∀ (H : Heap) (b : Nat), covers ids H = true → inL ids b = false → lk H b = none
  | [], b, _, _ => rfl
  | (c, o) :: r, b, h, hb => by
    simp only [covers, Bool.and_eq_true] at h
    simp only [lk]
    cases hc : Nat.beq c b with
    | true =>
      have := Nat.eq_of_beq_eq_true hc
      subst this
      rw [h.1] at hb; cases hb
    | false => simp only [cond_false]; exact covers_lk ids r b h.2 hb
theorem reorder_lk {ids : List Nat} {H : Heap} (h : covers ids H = true) (b : Nat) : lk H b = lk (reorder ids H) b := by
  cases hb : inL ids b with
  | true => exact (inL_lk ids b hb H).symm
  | false => rw [covers_lk ids H b h hb, inL_lk.lk_reorder_none ids b hb H]
section
variable {C : Cx} {K : List PK} {E : Env} {H : Heap}
theorem AE.order {e : Exit} (ids : List Nat) (hc : covers ids H = true) (h : AE C e K E (reorder ids H)) : AE C e K E H := AE.perm _ (reorder_lk hc) h
theorem AP.order {p : List Nat} (ids : List Nat) (hc : covers ids H = true) (h : AP C p K E (reorder ids H)) : AP C p K E H := AP.perm _ (reorder_lk hc) h
theorem AQ.order {ds : List (Nat × Nat)} {i : Nat} {rest : List Oper} (ids : List Nat) (hc : covers ids H = true) (h : AQ C ds i rest K E (reorder ids H)) : AQ C ds i rest K E H := AQ.perm _ (reorder_lk hc) h
end
attribute [go_sem] reorder Sh.lit
end Go.AL
end

section
namespace Go.AL
open Go Go.MapKept
/-- the keys are all of a kind that the model compares at once -/
def KeysOk (d : TypeDesc) (ks : List Value) : Prop := ∀ k ∈ ks, IsKey d k
theorem adens_len' {w : World} {φ : Phi} {I : Nat → Prop} {cs : List AV} {us : List Value} (h : AV.dens w φ I cs us) : us.length = cs.length := adens_len cs us h
section
variable {P : Program} {w : World} {φ : Phi} {I : Nat → Prop} {H : Heap} {b : Nat} {ks : List Value} {cs : List AV}
theorem map_open (hR : Real w φ I H) (hH : lk H b = some (.var (.map ks) cs)) {u : Value} (hu : AV.den w φ I (.mp b) u) :
    ∃ g es clock, u = .map (some g) ∧ φ b = some (some g) ∧ w.heap[g]? = some (.map es clock) ∧ es.toList.map (·.key) = ks ∧ AV.dens w φ I cs (es.toList.map (·.val)) := by
  simp only [AV.den] at hu
  obtain ⟨g, hg, rfl⟩ := hu
  have := hR.own b _ _ hH hg
  simp only [Ob.at, Sh.has] at this
  obtain ⟨g', us, hgg, ⟨es, clock, h1, h2, h3⟩, h4, _⟩ := this
  cases hgg
  subst h3
  exact ⟨g, es, clock, rfl, hg, h1, h2, h4⟩
end
section
variable {C : Cx} {K : List PK} {E : Env} {H : Heap}
theorem map_find {d : TypeDesc} {es : Array MapEntry} {ks : List Value} {kv : Value} (hes : es.toList.map (·.key) = ks) (hks : KeysOk d ks) (hk : IsKey d kv) :
    (Instr.findNow d kv es.toList 0 = some none ∧ kv ∉ ks) ∨ ∃ j e, Instr.findNow d kv es.toList 0 = some (some (j, e.val)) ∧ es.toList[j]? = some e ∧ e.key = kv ∧ ks[j]? = some kv := by
  subst hes
  rcases findNow_spec hk es.toList 0 (fun x hx => hks _ (List.mem_map.2 ⟨x, hx, rfl⟩)) with ⟨h1, h2⟩ | ⟨j, e, h1, h2, h3⟩
  · exact .inl ⟨h1, fun h => by obtain ⟨x, hx, e⟩ := List.mem_map.1 h; exact h2 x hx e⟩
  · exact .inr ⟨j, e, by rw [Nat.zero_add] at h1; exact h1, h2, h3, by rw [List.getElem?_map, h2, ← h3]; rfl⟩
theorem AQ.lookF (j : Nat) {ds : List (Nat × Nat)} {i : Nat} {d : Option Nat} {ty t kt et : TypeId} {pos : String} {af : Array Edge} {os : List Oper} {m k : Operand} {ok : Bool} {b : Nat} {ks : List Value} {cs : List AV} {kv : Value} {x : AV} {dk : TypeDesc}
    (hok : dstOk C.n ({ dst := d, op := .lookup t m k ok, type := ty, pos := pos, after := af, guard := none } :: os) = true)
    (hm : ev E m = some (.mp b)) (hk : ev E k = some (.im (.v kv))) (hH : lk H b = some (.var (.map ks) cs)) (ht : C.P.underlying t = some (.map kt et)) (hd : C.P.underlying kt = some dk)
    (hks : KeysOk dk ks) (hkk : IsKey dk kv) (hin : kv ∈ ks) (hj : ∀ i, ks[i]? = some kv → i = j) (hx : cs[j]? = some x)
    (h : vq C K os (dsPut d i ds) (i + 1) (putE d (bif ok then .tup [x, .im (.v (.bool true))] else x) E) H) :
    AQ C ds i ({ dst := d, op := .lookup t m k ok, type := ty, pos := pos, after := af, guard := none } :: os) K E H := by
  refine AQ.val (bif ok then .tup [x, .im (.v (.bool true))] else x) hok rfl (fun φ I a w hs => ?_) h
  obtain ⟨g, es, clock, hme, hg, hh, hke, hde⟩ := map_open hs.st.real hH (ev_sound hs.env hm)
  have hkv := ev_sound hs.env hk
  simp only [AV.den, IV.den] at hkv
  rcases map_find hke hks hkk with ⟨_, h2⟩ | ⟨j', e, h1, h2, h3, h4⟩
  · exact absurd hin h2
  · have := hj j' h4
    subst this
    obtain ⟨v, hv, hdv⟩ := adens_get cs _ j' x hde hx
    have hve : v = e.val := by rw [List.getElem?_map, h2] at hv; cases hv; rfl
    subst hve
    have hrun : (Instr.lookup t (a.eval m) (a.eval k) ok).run C.P w = .ok (if ok then .tuple #[e.val, .bool true] else e.val) w := by
      rw [hme, hkv.1]
      cases ok <;> simp [Instr.lookup, run_underlying ht, MapKept.run_getObj_map hh, run_checkKey hd hkk, run_findKey hd h1, Result.andThen]
    refine ⟨if ok then .tuple #[e.val, .bool true] else e.val, by simp only [execOp, Sem.run_bind, Sem.run_map, hrun, Result.andThen_ok, Sem.run_pure], ?_⟩
    cases ok with
    | true => simp only [cond_true, if_true, AV.den, AV.dens]; exact ⟨_, ⟨_, _, rfl, hdv, _, _, rfl, by simp only [IV.den]; exact ⟨trivial, rfl⟩, rfl⟩, rfl⟩
    | false => simpa using hdv
theorem AQ.lookN {ds : List (Nat × Nat)} {i : Nat} {d : Option Nat} {ty t kt et : TypeId} {pos : String} {af : Array Edge} {os : List Oper} {m k : Operand} {ok : Bool} {b : Nat} {ks : List Value} {cs : List AV} {kv z : Value} {dk : TypeDesc}
    (hok : dstOk C.n ({ dst := d, op := .lookup t m k ok, type := ty, pos := pos, after := af, guard := none } :: os) = true)
    (hm : ev E m = some (.mp b)) (hk : ev E k = some (.im (.v kv))) (hH : lk H b = some (.var (.map ks) cs)) (ht : C.P.underlying t = some (.map kt et)) (hd : C.P.underlying kt = some dk)
    (hks : KeysOk dk ks) (hkk : IsKey dk kv) (hin : kv ∉ ks) (hz : (C.P.info? et).bind (·.zero) = some z) (hz1 : z.oneCell' = true)
    (h : vq C K os (dsPut d i ds) (i + 1) (putE d (bif ok then .tup [.im (.v z), .im (.v (.bool false))] else .im (.v z)) E) H) :
    AQ C ds i ({ dst := d, op := .lookup t m k ok, type := ty, pos := pos, after := af, guard := none } :: os) K E H := by
  refine AQ.val (bif ok then .tup [.im (.v z), .im (.v (.bool false))] else .im (.v z)) hok rfl (fun φ I a w hs => ?_) h
  obtain ⟨g, es, clock, hme, hg, hh, hke, hde⟩ := map_open hs.st.real hH (ev_sound hs.env hm)
  have hkv := ev_sound hs.env hk
  simp only [AV.den, IV.den] at hkv
  rcases map_find hke hks hkk with ⟨h1, _⟩ | ⟨j', e, h1, h2, h3, h4⟩
  · have hzr : (zeroValue et).run C.P w = .ok z w := by
      cases hi : C.P.info? et with
      | none => rw [hi] at hz; cases hz
      | some inf =>
        rw [hi] at hz
        simp only [Option.bind_some] at hz
        simp [zeroValue, typeInfo, hi, hz]
    have hrun : (Instr.lookup t (a.eval m) (a.eval k) ok).run C.P w = .ok (if ok then .tuple #[z, .bool false] else z) w := by
      rw [hme, hkv.1]
      cases ok <;> simp [Instr.lookup, run_underlying ht, MapKept.run_getObj_map hh, run_checkKey hd hkk, run_findKey hd h1, hzr, Result.andThen]
    refine ⟨if ok then .tuple #[z, .bool false] else z, by simp only [execOp, Sem.run_bind, Sem.run_map, hrun, Result.andThen_ok, Sem.run_pure], ?_⟩
    cases ok with
    | true => simp only [cond_true, if_true, AV.den, AV.dens, IV.den]; exact ⟨_, ⟨_, _, rfl, ⟨rfl, hz1⟩, _, _, rfl, ⟨rfl, rfl⟩, rfl⟩, rfl⟩
    | false => simp only [cond_false, Bool.false_eq_true, if_false, AV.den, IV.den]; exact ⟨trivial, hz1⟩
  · exact absurd (List.mem_of_getElem? h4) hin
end
section
variable {w : World} {φ : Phi} {I : Nat → Prop} {l : Nat} {es : Array MapEntry} {clock : Nat} {o' : Obj}
theorem shaped_putM (hl : w.heap[l]? = some (.map es clock)) (g n : Nat) (h : shaped w g n) : shaped (w.putObj l o') g n := by
  obtain ⟨c, e, hc, hn⟩ := h
  have hg : g ≠ l := fun h => by subst h; rw [hl] at hc; cases hc
  exact ⟨c, e, (World.putObj_heap_other hg).trans hc, hn⟩
theorem keeps_putM (hl : w.heap[l]? = some (.map es clock)) (hI : ¬ I l) : Keeps w φ I (w.putObj l o') φ I :=
  ⟨fun g hg => World.putObj_heap_other (fun e => hI (e ▸ hg)), fun _ h => h, fun _ _ h => h, fun _ g n _ => shaped_putM hl g n⟩
theorem ext_putM {own : Nat → Prop} (hl : w.heap[l]? = some (.map es clock)) (ho : own l) : Ext own w (w.putObj l o') :=
  ⟨by simp, fun g _ hn => World.putObj_heap_other (fun e => hn (e ▸ ho)), fun g c e fz hc => ⟨c, fz, (World.putObj_heap_other (fun e => by subst e; rw [hl] at hc; cases hc)).trans hc, rfl⟩, rfl, rfl, rfl⟩
theorem St.putM {B : Bs} {H : Heap} (h : St B φ I H w) {b : Nat} (hb : φ b = some (some l)) (hl : w.heap[l]? = some (.map es clock)) {ob0 ob : Ob} (hlb : lk H b = some ob0) (hat : ob.at (w.putObj l o') φ I (some l)) :
    St B φ I (hset H b ob) (w.putObj l o') ∧ Keeps w φ I (w.putObj l o') φ I := by
  have hI : ¬ I l := (h.real.off b l hb).1
  have k : Keeps w φ I (w.putObj l o') φ I := keeps_putM hl hI
  refine ⟨⟨⟨fun b' => ?_, fun b' o p hl' hp => ?_, fun b' g hp => ?_, h.real.inj, fun g hg => ?_⟩, h.ext.trans (ext_putM (own := fun g => g = l) hl rfl) (fun g hg => by subst hg; exact h.ownx b _ hb), h.ownx, h.immx, h.immo, fun b' p o hlt h0 hl' => ?_⟩, k⟩
  · by_cases hbb : b' = b
    · subst hbb; rw [lk_hset_same H b' _ hlb, hb]; rfl
    · rw [lk_hset_other H b b' _ hbb]; exact h.real.dom b'
  · by_cases hbb : b' = b
    · subst hbb
      rw [lk_hset_same H b' _ hlb] at hl'; cases hl'
      rw [hb] at hp; cases hp
      exact hat
    · rw [lk_hset_other H b b' _ hbb] at hl'
      exact Ob.at_mono k.im k.I k.phi k.sh (fun g hg => World.putObj_heap_other (fun e => by subst e; subst hg; exact hbb (h.real.inj b' b g hp hb))) (h.real.own b' o p hl' hp)
  · have := h.real.off b' g hp
    exact ⟨this.1, by simpa using this.2⟩
  · have := h.real.imm g hg
    simpa using this
  · by_cases hbb : b' = b
    · subst hbb; exact h.phx b' p ob0 hlt h0 hlb
    · rw [lk_hset_other H b b' _ hbb] at hl'; exact h.phx b' p o hlt h0 hl'
end
theorem dens_snoc {w : World} {φ : Phi} {I : Nat → Prop} {x : AV} {u : Value} (hx : AV.den w φ I x u) : ∀ (cs : List AV) (us : List Value), AV.dens w φ I cs us → AV.dens w φ I (cs ++ [x]) (us ++ [u])
  | [], us, h => by simp only [AV.dens] at h; subst h; simp only [List.nil_append, AV.dens]; exact ⟨u, [], rfl, hx, rfl⟩
  | y :: cs, us, h => by
    simp only [AV.dens] at h
    obtain ⟨v, vs, rfl, h1, h2⟩ := h
    simp only [List.cons_append, AV.dens]
    exact ⟨v, _, rfl, h1, dens_snoc hx cs vs h2⟩
theorem dens_setAt {w : World} {φ : Phi} {I : Nat → Prop} {x : AV} {u : Value} (hx : AV.den w φ I x u) : ∀ (cs : List AV) (us : List Value) (j : Nat), AV.dens w φ I cs us → AV.dens w φ I (cs.set j x) (us.set j u)
  | [], us, j, h => by simp only [AV.dens] at h; subst h; simp [AV.dens]
  | y :: cs, us, 0, h => by
    simp only [AV.dens] at h
    obtain ⟨v, vs, rfl, h1, h2⟩ := h
    simp only [List.set_cons_zero, AV.dens]
    exact ⟨u, vs, rfl, hx, h2⟩
  | y :: cs, us, j + 1, h => by
    simp only [AV.dens] at h
    obtain ⟨v, vs, rfl, h1, h2⟩ := h
    simp only [List.set_cons_succ, AV.dens]
    exact ⟨v, _, rfl, h1, dens_setAt hx cs vs j h2⟩
section
variable {C : Cx} {K : List PK} {E : Env} {H : Heap}
theorem AQ.mmake {ds : List (Nat × Nat)} {i : Nat} {d : Option Nat} {ty t : TypeId} {pos : String} {af : Array Edge} {os : List Oper}
    (hok : dstOk C.n ({ dst := d, op := .makeMap t none, type := ty, pos := pos, after := af, guard := none } :: os) = true)
    (h : vq C K os (dsPut d i ds) (i + 1) (putE d (.mp (nidx C.B.nb H)) E) ((nidx C.B.nb H, .var (.map []) []) :: H)) :
    AQ C ds i ({ dst := d, op := .makeMap t none, type := ty, pos := pos, after := af, guard := none } :: os) K E H := by
  obtain ⟨hd, hok'⟩ := dstOk_cons hok
  have hgo := AQ.go hok' h
  unfold AQ at hgo ⊢
  refine AO.step fun ops φ I a w hds _ hs Kn hKn => ?_
  have hnx := nidx_ge C.B.nb H
  obtain ⟨h1, h2⟩ := hs.st.alloc_ob (ob := .map #[] 0) (o := .var (.map []) []) (nid_fresh C.B.nb H) hnx.1 (by
    simp only [Ob.at, Sh.has, Sh.one, AV.dens]
    exact ⟨_, [], rfl, ⟨#[], 0, by simpa using al_new w _, rfl, rfl⟩, rfl, trivial⟩)
  rw [if_pos (by simp [Region.wanted])]
  unfold Oper.wp
  have hrun : (execOp a.eval { dst := d, op := .makeMap t none, type := ty, pos := pos, after := af, guard := none }).run C.P w = .ok (.value (.map (some w.heap.size))) (w.alloc (.map #[] 0)) := by
    have hmm : (Instr.makeMap t none).run C.P w = .ok (.map (some w.heap.size)) (w.alloc (.map #[] 0)) := rfl
    simp only [execOp, Option.map_none, Sem.run_bind, Sem.run_map, hmm, Result.andThen_ok, Sem.run_pure]
  rw [hrun, Oper.upon_value]
  exact hKn _ _ _ I _ _ hgo (hs.put h1 h2 hd (by simp only [AV.den, upd]; exact ⟨_, by simp, rfl⟩))
theorem AQ.msetN {ds : List (Nat × Nat)} {i : Nat} {ty t kt et : TypeId} {pos : String} {af : Array Edge} {os : List Oper} {m k x : Operand} {b : Nat} {ks : List Value} {cs : List AV} {kv : Value} {xv : AV} {dk : TypeDesc}
    (hok : dstOk C.n ({ dst := none, op := .mapUpdate t m k x, type := ty, pos := pos, after := af, guard := none } :: os) = true)
    (hm : ev E m = some (.mp b)) (hk : ev E k = some (.im (.v kv))) (hx : ev E x = some xv) (hH : lk H b = some (.var (.map ks) cs)) (ht : C.P.underlying t = some (.map kt et)) (hd : C.P.underlying kt = some dk)
    (hks : KeysOk dk ks) (hkk : IsKey dk kv) (hin : kv ∉ ks)
    (h : vq C K os ds (i + 1) E (hset H b (.var (.map (ks ++ [kv])) (cs ++ [xv])))) :
    AQ C ds i ({ dst := none, op := .mapUpdate t m k x, type := ty, pos := pos, after := af, guard := none } :: os) K E H := by
  obtain ⟨hdst, hok'⟩ := dstOk_cons hok
  have hgo := AQ.go hok' h
  unfold AQ at hgo ⊢
  refine AO.step fun ops φ I a w hds _ hs Kn hKn => ?_
  obtain ⟨g, es, clock, hme, hg, hh, hke, hde⟩ := map_open hs.st.real hH (ev_sound hs.env hm)
  have hkv := ev_sound hs.env hk
  simp only [AV.den, IV.den] at hkv
  have hxv := ev_sound hs.env hx
  rcases map_find hke hks hkk with ⟨h1, _⟩ | ⟨j', e, h1, h2, h3, h4⟩
  · rw [if_pos (by simp [Region.wanted])]
    unfold Oper.wp
    have hlt : g < w.heap.size := (hs.st.real.off b g hg).2
    have hrun : (Instr.mapUpdate t (a.eval m) (a.eval k) (a.eval x)).run C.P w = .ok () (w.putObj g (.map (es.push { key := kv, val := a.eval x, born := clock }) (clock + 1))) := by
      rw [hme, hkv.1]
      simp [Instr.mapUpdate, run_underlying ht, MapKept.run_getObj_map hh, run_checkKey hd hkk, run_findKey hd h1, MapKept.run_setObj_map _ hh, Result.andThen, World.putObj]
    have hrun2 : (execOp a.eval { dst := none, op := .mapUpdate t m k x, type := ty, pos := pos, after := af, guard := none }).run C.P w = .ok .skip (w.putObj g (.map (es.push { key := kv, val := a.eval x, born := clock }) (clock + 1))) := by
      simp only [execOp, Sem.run_bind, Sem.run_map, hrun, Result.andThen_ok, Sem.run_pure]
    rw [hrun2, Oper.upon_skip]
    obtain ⟨hS, hkp⟩ := hs.st.putM (o' := .map (es.push { key := kv, val := a.eval x, born := clock }) (clock + 1)) (ob := .var (.map (ks ++ [kv])) (cs ++ [xv])) hg hh hH (by
      simp only [Ob.at, Sh.has, Sh.one]
      refine ⟨g, es.toList.map (·.val) ++ [a.eval x], rfl, ⟨_, _, World.putObj_heap_same hlt, by simp [hke], by simp⟩, ?_, trivial⟩
      have hK := keeps_putM (φ := φ) (o' := .map (es.push { key := kv, val := a.eval x, born := clock }) (clock + 1)) hh (hs.st.real.off b g hg).1
      exact AV.dens_mono hK.im hK.I hK.phi hK.sh _ _ (dens_snoc hxv cs _ hde))
    exact hKn _ _ φ I _ _ hgo (hs.put hS hkp hdst (v := .top) (by simp only [AV.den]))
  · exact absurd (List.mem_of_getElem? h4) hin
end
end Go.AL
end

section
namespace Go.AL
open Go Go.MapKept
section
variable {C : Cx} {K : List PK} {E : Env} {H : Heap}
end
end Go.AL
end

section
namespace Go.AL
open Go
/-- the own heap told in another form -/
theorem St.reob {B : Bs} {φ : Phi} {I : Nat → Prop} {H : Heap} {w : World} (h : St B φ I H w) {b : Nat} {o o' : Ob} (hl : lk H b = some o) (hd : ∀ p, φ b = some p → o.at w φ I p → o'.at w φ I p) :
    St B φ I (hset H b o') w := by
  refine ⟨⟨fun b' => ?_, fun b' o2 p hl' hp => ?_, h.real.off, h.real.inj, h.real.imm⟩, h.ext, h.ownx, h.immx, h.immo, fun b' p o2 hlt h0 hl' => ?_⟩
  · by_cases hbb : b' = b
    · subst hbb; rw [lk_hset_same H b' _ hl, h.real.dom b', hl]; rfl
    · rw [lk_hset_other H b b' _ hbb]; exact h.real.dom b'
  · by_cases hbb : b' = b
    · subst hbb
      rw [lk_hset_same H b' _ hl] at hl'
      cases hl'
      exact hd p hp (h.real.own b' _ p hl hp)
    · rw [lk_hset_other H b b' _ hbb] at hl'; exact h.real.own b' o2 p hl' hp
  · by_cases hbb : b' = b
    · subst hbb; exact h.phx b' p _ hlt h0 hl
    · rw [lk_hset_other H b b' _ hbb] at hl'; exact h.phx b' p o2 hlt h0 hl'
theorem St.hext {B : Bs} {φ : Phi} {I : Nat → Prop} {H H' : Heap} {w : World} (h : St B φ I H w) (he : ∀ b, lk H b = lk H' b) : St B φ I H' w :=
  ⟨⟨fun b => by rw [h.real.dom b, he b], fun b o p hl hp => h.real.own b o p ((he b).trans hl) hp, h.real.off, h.real.inj, h.real.imm⟩, h.ext, h.ownx, h.immx, h.immo, fun b p o hlt h0 hl => h.phx b p o hlt h0 ((he b).trans hl)⟩
def lits (us : List Value) : List (List IV) := us.map fun c => [.v c]
theorem lits_len (us : List Value) : (lits us).length = us.length := by simp [lits]
theorem St.rowVec {B : Bs} {φ : Phi} {I : Nat → Prop} {H : Heap} {w : World} (h : St B φ I H w) {b : Nat} {e : TypeId} {cs : List AV} (hl : lk H b = some (.var (.row e) cs)) :
    ∃ us, AV.dens w φ I cs us ∧ us.length = cs.length ∧ St B φ I (hset H b (.vec e 1 (lits us))) w := by
  have hd := h.real.dom b
  rw [hl] at hd
  obtain ⟨p, hp⟩ := Option.isSome_iff_exists.1 hd
  have ho := h.real.own b _ p hl hp
  simp only [Ob.at, Sh.has, Sh.one] at ho
  obtain ⟨g, us, rfl, ⟨rest, hg⟩, hden, h1⟩ := ho
  refine ⟨us, hden, adens_len' hden, h.reob hl fun p' hp' _ => ?_⟩
  rw [hp] at hp'
  cases hp'
  simp only [Ob.at]
  exact .inr ⟨g, us.map fun c => [c], rest, rfl, by rw [flat1]; exact hg, rows1_dens us (List.all_eq_true.2 h1), fun vs hv => by obtain ⟨c, _, rfl⟩ := List.mem_map.1 hv; rfl⟩
theorem St.vecRow {B : Bs} {φ : Phi} {I : Nat → Prop} {H : Heap} {w : World} (h : St B φ I H w) {b : Nat} {e : TypeId} {rows : List (List IV)} {cs : List AV} (hl : lk H b = some (.vec e 1 rows)) (hne : rows ≠ [])
    (hd : ∀ vss, IV.denss w I rows vss → AV.dens w φ I cs vss.flatten) : St B φ I (hset H b (.var (.row e) cs)) w := by
  refine h.reob hl fun p _ ho => ?_
  simp only [Ob.at] at ho
  rcases ho with ⟨_, h0⟩ | ⟨g, vss, rest, rfl, hg, hden, _⟩
  · exact absurd h0 hne
  · simp only [Ob.at, Sh.has, Sh.one]
    exact ⟨g, vss.flatten, rfl, ⟨rest, hg⟩, hd vss hden, idens_one _ _ (denss_flat _ _ hden)⟩
theorem dens_ims {w : World} {φ : Phi} {I : Nat → Prop} : ∀ (xs : List IV) (us : List Value), AV.dens w φ I (xs.map .im) us ↔ IV.dens w I xs us
  | [], us => by simp [AV.dens, IV.dens]
  | x :: xs, us => by
    simp only [List.map_cons, AV.dens, IV.dens, AV.den]
    exact ⟨fun ⟨u, us', h0, h1, h2⟩ => ⟨u, us', h0, h1, (dens_ims xs us').1 h2⟩, fun ⟨u, us', h0, h1, h2⟩ => ⟨u, us', h0, h1, (dens_ims xs us').2 h2⟩⟩
theorem denss_ones {w : World} {I : Nat → Prop} : ∀ (xs : List IV) (vss : List (List Value)), IV.denss w I (xs.map fun x => [x]) vss → IV.dens w I xs vss.flatten
  | [], vss, h => by simp only [List.map_nil, IV.denss] at h; subst h; simp [IV.dens]
  | x :: xs, vss, h => by
    simp only [List.map_cons, IV.denss, IV.dens] at h
    obtain ⟨vs, vss', rfl, ⟨v, vs', rfl, h1, rfl⟩, h2⟩ := h
    simp only [List.flatten_cons, List.singleton_append, IV.dens]
    exact ⟨v, _, rfl, h1, denss_ones xs vss' h2⟩
theorem dens_ones {w : World} {I : Nat → Prop} : ∀ (xs : List IV) (us : List Value), IV.dens w I xs us → IV.denss w I (xs.map fun x => [x]) (us.map fun u => [u])
  | [], us, h => by simp only [IV.dens] at h; subst h; simp [IV.denss]
  | x :: xs, us, h => by
    simp only [IV.dens] at h
    obtain ⟨u, us', rfl, h1, h2⟩ := h
    simp only [List.map_cons, IV.denss, IV.dens]
    exact ⟨_, _, rfl, ⟨u, [], rfl, h1, rfl⟩, dens_ones xs us' h2⟩
theorem St.asRow {B : Bs} {φ : Phi} {I : Nat → Prop} {H : Heap} {w : World} (h : St B φ I H w) {b : Nat} {e : TypeId} {xs : List IV} (hl : lk H b = some (.vec e 1 (xs.map fun x => [x]))) (hne : xs ≠ []) :
    St B φ I (hset H b (.var (.row e) (xs.map .im))) w :=
  h.vecRow hl (by simpa using hne) fun vss hd => (dens_ims xs _).2 (denss_ones xs vss hd)
theorem St.unRow {B : Bs} {φ : Phi} {I : Nat → Prop} {H : Heap} {w : World} (h : St B φ I H w) {b : Nat} {e : TypeId} {xs : List IV} (hl : lk H b = some (.var (.row e) (xs.map .im))) :
    St B φ I (hset H b (.vec e 1 (xs.map fun x => [x]))) w := by
  refine h.reob hl fun p _ ho => ?_
  simp only [Ob.at, Sh.has, Sh.one] at ho
  obtain ⟨g, us, rfl, ⟨rest, hg⟩, hden, h1⟩ := ho
  simp only [Ob.at]
  exact .inr ⟨g, us.map fun c => [c], rest, rfl, by rw [flat1]; exact hg, dens_ones xs us ((dens_ims xs us).1 hden), fun vs hv => by obtain ⟨c, _, rfl⟩ := List.mem_map.1 hv; rfl⟩
theorem hset_hset : ∀ (H : Heap) (b : Nat) (o o' : Ob), hset (hset H b o) b o' = hset H b o'
  | [], _, _, _ => rfl
  | (j, x) :: r, b, o, o' => by
    simp only [hset]
    cases hb : Nat.beq j b with
    | true => simp only [cond_true, hset, hb]
    | false => simp only [cond_false, hset, hb]; rw [hset_hset r b o o']
section
variable {C : Cx} {K : List PK} {E : Env} {H : Heap}
theorem AE.hext {e : Exit} (H' : Heap) (he : ∀ b, lk H b = lk H' b) (h : AE C e K E H') : AE C e K E H := by
  unfold AE at h ⊢
  exact fun φ I a w hs => h _ _ _ _ ⟨hs.dfr, hs.siz, hs.env, hs.st.hext he⟩
theorem AP.hext {p : List Nat} (H' : Heap) (he : ∀ b, lk H b = lk H' b) (h : AP C p K E H') : AP C p K E H := by
  unfold AP at h ⊢
  exact fun φ I a w hs => h _ _ _ _ ⟨hs.dfr, hs.siz, hs.env, hs.st.hext he⟩
theorem AQ.hext {ds : List (Nat × Nat)} {i : Nat} {rest : List Oper} (H' : Heap) (he : ∀ b, lk H b = lk H' b) (h : AQ C ds i rest K E H') : AQ C ds i rest K E H := by
  unfold AQ at h ⊢
  exact fun ops h1 h2 φ I a w hs => h ops h1 h2 _ _ _ _ ⟨hs.dfr, hs.siz, hs.env, hs.st.hext he⟩
theorem AQ.asRow {ds : List (Nat × Nat)} {i : Nat} {rest : List Oper} (b : Nat) {e : TypeId} {xs : List IV} (hl : lk H b = some (.vec e 1 (xs.map fun x => [x]))) (hne : xs ≠ [])
    (h : AQ C ds i rest K E (hset H b (.var (.row e) (xs.map .im)))) : AQ C ds i rest K E H := by
  unfold AQ at h ⊢
  exact fun ops h1 h2 φ I a w hs => h ops h1 h2 _ _ _ _ ⟨hs.dfr, hs.siz, hs.env, hs.st.asRow hl hne⟩
theorem AE.asRow {x : Exit} (b : Nat) {e : TypeId} {xs : List IV} (hl : lk H b = some (.vec e 1 (xs.map fun x => [x]))) (hne : xs ≠ [])
    (h : AE C x K E (hset H b (.var (.row e) (xs.map .im)))) : AE C x K E H := by
  unfold AE at h ⊢
  exact fun φ I a w hs => h _ _ _ _ ⟨hs.dfr, hs.siz, hs.env, hs.st.asRow hl hne⟩
theorem AE.unRow {x : Exit} (b : Nat) {e : TypeId} {xs : List IV} (hl : lk H b = some (.var (.row e) (xs.map .im)))
    (h : AE C x K E (hset H b (.vec e 1 (xs.map fun x => [x])))) : AE C x K E H := by
  unfold AE at h ⊢
  exact fun φ I a w hs => h _ _ _ _ ⟨hs.dfr, hs.siz, hs.env, hs.st.unRow hl⟩
end
end Go.AL
end

section
namespace Go.AL
open Go
theorem noMen_hset {b c : Nat} {e : TypeId} {es : Nat} {rows : List (List IV)} : ∀ H : Heap, noMen b H = true → noMen b (hset H c (.vec e es rows)) = true
  | [], _ => rfl
  | (j, o) :: r, h => by
    have hr : noMen b r = true := by
      cases o with
      | var _ _ => simp only [noMen, Bool.and_eq_true] at h; exact h.2
      | vec _ _ _ => simpa only [noMen] using h
      | lp _ _ _ _ _ _ _ => simp only [noMen, Bool.and_eq_true] at h; exact h.2
    simp only [hset]
    cases Nat.beq j c with
    | true => simp only [cond_true, noMen]; exact hr
    | false =>
      simp only [cond_false]
      have ih := noMen_hset (c := c) (e := e) (es := es) (rows := rows) r hr
      cases o with
      | var _ _ => simp only [noMen, Bool.and_eq_true] at h ⊢; exact ⟨h.1, ih⟩
      | vec _ _ _ => simpa only [noMen] using ih
      | lp _ _ _ _ _ _ _ => simp only [noMen, Bool.and_eq_true] at h ⊢; exact ⟨h.1, ih⟩
theorem lits_snoc {w : World} {I : Nat → Prop} {z : IV} : ∀ (us : List Value) (vss : List (List Value)), IV.denss w I (lits us ++ [[z]]) vss → ∃ v, vss.flatten = us ++ [v] ∧ IV.den w I z v
  | [], vss, h => by
    simp only [lits, List.map_nil, List.nil_append, IV.denss, IV.dens] at h
    obtain ⟨vs, vss', rfl, ⟨v, vs', rfl, h1, rfl⟩, rfl⟩ := h
    exact ⟨v, rfl, h1⟩
  | u :: us, vss, h => by
    simp only [lits, List.map_cons, List.cons_append, IV.denss, IV.dens, IV.den] at h
    obtain ⟨vs, vss', rfl, ⟨v, vs', rfl, ⟨rfl, _⟩, rfl⟩, h2⟩ := h
    obtain ⟨x, hx, hd⟩ := lits_snoc us vss' h2
    exact ⟨x, by simp [hx], hd⟩
theorem lits_get {us : List Value} {j : Nat} {u : Value} (h : us[j]? = some u) : (lits us).getD j [] = [.v u] := by
  simp [lits, List.getD, h]
section
variable {C : Cx} {K : List PK} {E : Env} {H : Heap}
theorem AQ.rappend {ds : List (Nat × Nat)} {i : Nat} {d : Nat} {ty : TypeId} {pos : String} {af : Array Edge} {os : List Oper} {x y : Operand} {t e : TypeId} {b n bytes : Nat} {cs : List AV} {z : IV} (hnb : Nat.ble C.B.nb b = true)
    (hok : dstOk C.n ({ dst := some d, op := .call { callee := .builtin .append, args := #[x, y], argTypes := #[t, t] }, type := ty, pos := pos, after := af, guard := none } :: os) = true)
    (hx : ev E x = some (.os b 1 0 n)) (hy : ev E y = some (.im (.sl 1 [[z]]))) (hH : lk H b = some (.var (.row e) cs)) (hno : noMen b H = true)
    (ht : tk C.P t = .slice e) (hes : sz C.P e = some 1) (hz : (zro C.P e).map List.length = some 1) (hby : by' C.P e = some bytes)
    (hn : n = cs.length) (hb1 : (cs.length + 1) * bytes ≤ 140737488355328) (hb2 : cs.length + 1 ≤ 70368744177664)
    (h : vq C K os ((i, d) :: ds) (i + 1) ((d, .os b 1 0 (cs.length + 1)) :: killE b E) (hset H b (.var (.row e) (cs ++ [.im z])))) :
    AQ C ds i ({ dst := some d, op := .call { callee := .builtin .append, args := #[x, y], argTypes := #[t, t] }, type := ty, pos := pos, after := af, guard := none } :: os) K E H := by
  obtain ⟨hd, hok'⟩ := dstOk_cons hok
  have hgo := AQ.go hok' h
  unfold AQ at hgo ⊢
  refine AO.step fun ops φ I a w hds _ hs Kn hKn => ?_
  rw [if_pos (by simp [Region.wanted])]
  obtain ⟨us, hcs, hlen, hS0⟩ := hs.st.rowVec hH
  have hlk' : lk (hset H b (.vec e 1 (lits us))) b = some (.vec e 1 (lits us)) := lk_hset_same H b _ hH
  have hno' : noMen b (hset H b (.vec e 1 (lits us))) = true := noMen_hset H hno
  have hyv : Src w I 1 [[z]] (a.eval y) := Src.im (by have := ev_sound hs.env hy; simpa only [AV.den] using this)
  obtain ⟨u, w', p', hrun, hext, hob, hp1, hp2, hden⟩ := append_own (P := C.P) (ty := ty) (es := 0) hS0 (ev_sound hs.env hx) hyv hlk' (by rw [lits_len, hlen]; exact hn) ht hes hz hby (by rw [lits_len, hlen]; simpa using hb1) (by rw [lits_len, hlen]; unfold maxLen; simp; omega)
  have hS := hS0.move (Nat.le_of_ble_eq_true hnb) hlk' hno' (fun g hg hne => hext.keep g hg hne) hext hob hp1 hp2
  rw [hset_hset] at hS
  have hI : ∀ g, I g → w'.heap[g]? = w.heap[g]? := fun g hg => hext.keep g (hs.st.real.imm g hg) (fun e => (hs.st.real.off b g e).1 hg)
  have hmv : ∀ {c : Nat} {p : Option Nat}, (if c = b then none else φ c) = some p → upd φ b p' c = some p := fun {c p} hc => by
    by_cases e1 : c = b
    · simp [e1] at hc
    · simpa [upd, e1] using hc
  have hsh : ∀ (c g1 m : Nat), (if c = b then none else φ c) = some (some g1) → shaped w g1 m → shaped w' g1 m := fun c g1 m hc hs' => by
    by_cases e1 : c = b
    · simp [e1] at hc
    · exact hext.shaped (fun ho => e1 (hs.st.real.inj c b g1 (by simpa [e1] using hc) ho)) hs'
  have hcs' : AV.dens w' (upd φ b p') I cs us :=
    AV.dens_mono hI (fun _ h => h) (fun c p hc => hmv hc) (fun c g1 m hc hs' => hsh c g1 m hc hs') _ _ (AV.mens_dens (φ' := fun c => if c = b then none else φ c) (fun b1 hb1 => by simp [hb1]) cs us (noMen_lk H hno b _ cs hH) hcs)
  have hS2 := hS.vecRow (cs := cs ++ [.im z]) (lk_hset_same H b _ hH) (by simp) (fun vss hdv => by
    obtain ⟨v, e1, hv⟩ := lits_snoc us vss hdv
    rw [e1]
    exact dens_snoc (by simpa only [AV.den] using hv) cs us hcs')
  rw [hset_hset] at hS2
  have hdlt : d < C.n := hd d rfl
  have hex : (execOp a.eval { dst := some d, op := .call { callee := .builtin .append, args := #[x, y], argTypes := #[t, t] }, type := ty, pos := pos, after := af, guard := none }).run C.P w = .ok (.value u) w' := by
    simp only [execOp, resolve, invoke, builtin, Sem.run_bind, Sem.run_pure, Result.andThen_ok, List.map_toArray, List.map_cons, List.map_nil, hrun]
  unfold Oper.wp
  rw [hex, Oper.upon_value]
  refine hKn _ _ _ I _ _ hgo ⟨hs.dfr.mono hI (fun _ h => h), by simpa [Act.put] using hs.siz, fun j y hj => ?_, hS2⟩
  simp only [lk] at hj
  cases hb : Nat.beq d j with
  | true =>
    rw [hb] at hj
    have := Nat.eq_of_beq_eq_true hb
    subst this
    simp only [cond_true, Option.some.injEq] at hj
    subst hj
    refine ⟨u, by simp only [Act.put]; rw [Array.getElem?_setIfInBounds_self_of_lt (by rw [hs.siz]; exact hdlt)], ?_⟩
    rw [lits_len, hlen] at hden
    exact hden
  | false =>
    rw [hb] at hj
    simp only [cond_false] at hj
    obtain ⟨y', hy', hyd⟩ := killE_lk (w := w) (φ := φ) (φ' := fun c => if c = b then none else φ c) (I := I) (b := b) (fun b' hb' => by simp [hb']) E j y hj
    obtain ⟨v, hv, hdv⟩ := hs.env j y' hy'
    refine ⟨v, ?_, AV.den_mono hI (fun _ h => h) (fun c p hc => hmv hc) (fun c g1 m hc hs' => hsh c g1 m hc hs') _ _ (hyd v hdv)⟩
    simp only [Act.put]
    rw [Array.getElem?_setIfInBounds_ne (by intro e; subst e; simp at hb)]
    exact hv
theorem AQ.rload {ds : List (Nat × Nat)} {i : Nat} {d : Option Nat} {ty t e e' : TypeId} {pos : String} {af : Array Edge} {os : List Oper} {p : Operand} {b j : Nat} {cs : List AV} {y : AV}
    (hok : dstOk C.n ({ dst := d, op := .load t p, type := ty, pos := pos, after := af, guard := none } :: os) = true)
    (hp : ev E p = some (.oe b 1 j 0)) (hH : lk H b = some (.var (.row e) cs)) (hy : cs[j]? = some y) (ht : tk C.P t = .slice e') (hsz : sz C.P t = some 1)
    (h : vq C K os (dsPut d i ds) (i + 1) (putE d y E) H) :
    AQ C ds i ({ dst := d, op := .load t p, type := ty, pos := pos, after := af, guard := none } :: os) K E H := by
  refine AQ.val y hok rfl (fun φ I a w hs => ?_) h
  obtain ⟨us, hcs, hlen, hS0⟩ := hs.st.rowVec hH
  obtain ⟨v, hv, hdv⟩ := adens_get cs us j y hcs hy
  have hlk' : lk (hset H b (.vec e 1 (lits us))) b = some (.vec e 1 (lits us)) := lk_hset_same H b _ hH
  have hjl : j < us.length := by rw [hlen]; exact (List.getElem?_eq_some_iff.1 hy).1
  have hl : aLoad C.P (hset H b (.vec e 1 (lits us))) t (.oe b 1 j 0) = some ((j < (lits us).length ∧ 0 + 1 ≤ 1), .im (.v v)) := by
    unfold aLoad
    simp only [hlk', hsz, Nat.beq_refl, cond_true, lits_get hv, List.drop_zero, List.take_succ_cons, List.take_zero, mkValI, ht, mkVal, TK.agg, cond_false, List.map_cons, List.map_nil]
  obtain ⟨u, hrun, hden⟩ := aLoad_sound hS0.real hl ⟨by rw [lits_len]; exact hjl, Nat.le_refl _⟩ (ev_sound hs.env hp)
  simp only [AV.den, IV.den] at hden
  obtain ⟨rfl, _⟩ := hden
  exact ⟨u, by simp only [execOp, Sem.run_bind, Sem.run_map, hrun, Result.andThen_ok, Sem.run_pure], hdv⟩
theorem AQ.rstore {ds : List (Nat × Nat)} {i : Nat} {ty t e : TypeId} {pos : String} {af : Array Edge} {os : List Oper} {p x : Operand} {b j : Nat} {cs : List AV} {y : AV}
    (hok : dstOk C.n ({ dst := none, op := .store t p x, type := ty, pos := pos, after := af, guard := none } :: os) = true)
    (hp : ev E p = some (.oe b 1 j 0)) (hx : ev E x = some y) (hc : cellsOfAV y = some [y]) (hH : lk H b = some (.var (.row e) cs)) (hj : j < cs.length) (hsz : sz C.P t = some 1)
    (h : vq C K os ds (i + 1) E (hset H b (.var (.row e) (cs.set j y)))) :
    AQ C ds i ({ dst := none, op := .store t p x, type := ty, pos := pos, after := af, guard := none } :: os) K E H := by
  obtain ⟨hdst, hok'⟩ := dstOk_cons hok
  have hgo := AQ.go hok' h
  unfold AQ at hgo ⊢
  refine AO.step fun ops φ I a w hds _ hs Kn hKn => ?_
  rw [if_pos (by simp [Region.wanted])]
  have hdp := ev_sound hs.env hp
  simp only [AV.den] at hdp
  obtain ⟨g, hg, hpv⟩ := hdp
  have hown := hs.st.real.own b _ _ hH hg
  simp only [Ob.at, Sh.has, Sh.one] at hown
  obtain ⟨g', us, hgg, ⟨rest, hheap⟩, hd, h1⟩ := hown
  cases hgg
  have hul := adens_len' hd
  obtain ⟨ws, hw, hdw, hw1⟩ := cellsOfAV_den hc (ev_sound hs.env hx)
  simp only [AV.dens] at hdw
  obtain ⟨v, ws', rfl, hdv, rfl⟩ := hdw
  have hju : j < us.length := by rw [hul]; exact hj
  have hrun := run_storeAt (P := C.P) (w := w) (o := j * 1 + 0) hsz hw rfl hw1 hheap (by simp; omega)
  have e1 : ((us ++ rest).toArray.toList.take (j * 1 + 0) ++ [v] ++ (us ++ rest).toArray.toList.drop (j * 1 + 0 + 1)) = us.set j v ++ rest := by
    simp only [Nat.mul_one, Nat.add_zero]
    rw [List.take_append_of_le_length (by omega), List.drop_append_of_le_length (by omega), List.set_eq_take_append_cons_drop, if_pos hju]
    simp
  rw [e1] at hrun
  obtain ⟨h2, h3⟩ := hs.st.write (o' := .var (.row e) (cs.set j y)) hH hg hheap (cs := (us.set j v ++ rest).toArray) (by simp) (fun _ _ _ => ⟨_, _, rfl⟩) (by
    simp only [Ob.at, Sh.has, Sh.one]
    refine ⟨g, us.set j v, rfl, ⟨rest, setRow_heap w g _ _ e (0, 0) hheap⟩, ?_, fun z hz => ?_⟩
    · refine AV.dens_mono (fun g' hg' => setRow_other w g g' _ (fun e => by subst e; exact (hs.st.real.off b g' hg).1 hg')) (fun _ h => h) (fun _ _ h => h) (fun _ g' n' _ hs' => ?_) _ _ (dens_setAt hdv cs us j hd)
      obtain ⟨c, e2, hc', hcn⟩ := hs'
      by_cases hgg : g' = g
      · subst hgg
        rw [hheap] at hc'
        cases hc'
        exact ⟨_, e, setRow_heap w g' _ _ e (0, 0) hheap, by simpa using hcn⟩
      · exact ⟨c, e2, (setRow_other w g g' _ hgg).trans hc', hcn⟩
    · rcases List.mem_or_eq_of_mem_set hz with h' | rfl
      · exact h1 z h'
      · exact hw1 z (by simp))
  have hrun2 : (execOp a.eval { dst := none, op := .store t p x, type := ty, pos := pos, after := af, guard := none }).run C.P w = .ok .skip (w.setRow g (us.set j v ++ rest).toArray) := by
    simp only [execOp, hpv, Sem.run_bind, hrun, Result.andThen_ok, Sem.run_pure]
  unfold Oper.wp
  rw [hrun2, Oper.upon_skip]
  exact hKn _ _ φ I _ _ hgo (hs.put h2 h3 hdst (v := .top) (by simp only [AV.den]))
end
end Go.AL
end

section
namespace Go.AL
open Go
def famC (es : Nat) : Nat → List (List (List IV)) → List AV
  | _, [] => []
  | b, r :: rs => .os b es 0 r.length :: famC es (b + 1) rs
def famH (el : TypeId) (es : Nat) : Nat → List (List (List IV)) → Heap
  | _, [] => []
  | b, r :: rs => (b, .vec el es r) :: famH el es (b + 1) rs
theorem beq_lt {a b : Nat} (h : a < b) : Nat.beq a b = false := beq_ne (Nat.ne_of_lt h)
theorem beq_gt {a b : Nat} (h : b < a) : Nat.beq a b = false := beq_ne (Nat.ne_of_gt h)
variable {es : Nat} {el : TypeId}
theorem famC_len : ∀ (b : Nat) (rs : List (List (List IV))), (famC es b rs).length = rs.length
  | _, [] => rfl
  | b, _ :: rs => by simp [famC, famC_len (b + 1) rs]
theorem famC_get : ∀ (b : Nat) (rs : List (List (List IV))) (k : Nat) (r : List (List IV)), rs[k]? = some r → (famC es b rs)[k]? = some (.os (b + k) es 0 r.length)
  | _, [], _, _, h => by simp at h
  | b, x :: rs, 0, r, h => by simp only [List.getElem?_cons_zero, Option.some.injEq] at h; subst h; rfl
  | b, x :: rs, k + 1, r, h => by
    simp only [List.getElem?_cons_succ, famC] at h ⊢
    rw [famC_get (b + 1) rs k r h, show b + 1 + k = b + (k + 1) by omega]
theorem famC_set : ∀ (b : Nat) (rs : List (List (List IV))) (k : Nat) (r : List (List IV)), (famC es b rs).set k (.os (b + k) es 0 r.length) = famC es b (rs.set k r)
  | _, [], _, _ => rfl
  | b, x :: rs, 0, r => rfl
  | b, x :: rs, k + 1, r => by
    simp only [famC, List.set_cons_succ]
    rw [← famC_set (b + 1) rs k r, show b + 1 + k = b + (k + 1) by omega]
theorem famC_snoc : ∀ (b : Nat) (rs : List (List (List IV))) (r : List (List IV)), famC es b (rs ++ [r]) = famC es b rs ++ [.os (b + rs.length) es 0 r.length]
  | b, [], r => rfl
  | b, x :: rs, r => by
    simp only [famC, List.cons_append, List.length_cons]
    rw [famC_snoc (b + 1) rs r, show b + 1 + rs.length = b + (rs.length + 1) by omega]
theorem famC_kill : ∀ (b : Nat) (rs : List (List (List IV))) (k : Nat), killC (b + k) (famC es b rs) = (famC es b rs).set k .top
  | _, [], _ => rfl
  | b, x :: rs, 0 => by
    have : ∀ (c : Nat) (l : List (List (List IV))), b < c → killC b (famC es c l) = famC es c l := by
      intro c l
      induction l generalizing c with
      | nil => intro _; rfl
      | cons y l ih => intro h; simp only [famC, killC, AV.men, beq_gt h, cond_false]; rw [ih (c + 1) (by omega)]
    simp only [famC, killC, AV.men, Nat.add_zero, Nat.beq_refl, cond_true, List.set_cons_zero]
    rw [this (b + 1) rs (by omega)]
  | b, x :: rs, k + 1 => by
    simp only [famC, killC, AV.men, beq_lt (show b < b + (k + 1) by omega), cond_false, List.set_cons_succ]
    rw [← famC_kill (b + 1) rs k, show b + 1 + k = b + (k + 1) by omega]
theorem famC_mens (c b : Nat) (rs : List (List (List IV))) (h : c < b ∨ b + rs.length ≤ c) : AV.mens c (famC es b rs) = false := by
  induction rs generalizing b with
  | nil => rfl
  | cons y l ih =>
    simp only [List.length_cons] at h
    simp only [famC, AV.mens, AV.men, beq_ne (show b ≠ c by omega), Bool.false_or]
    exact ih (b + 1) (by omega)
theorem famC_mens_set : ∀ (b : Nat) (rs : List (List (List IV))) (k : Nat), AV.mens (b + k) ((famC es b rs).set k .top) = false
  | _, [], _ => rfl
  | b, x :: rs, 0 => by
    simp only [famC, List.set_cons_zero, AV.mens, AV.men, Bool.false_or, Nat.add_zero]
    exact famC_mens b (b + 1) rs (by omega)
  | b, x :: rs, k + 1 => by
    simp only [famC, List.set_cons_succ, AV.mens, AV.men, beq_lt (show b < b + (k + 1) by omega), Bool.false_or]
    rw [show b + (k + 1) = b + 1 + k by omega]
    exact famC_mens_set (b + 1) rs k
theorem famH_get : ∀ (b : Nat) (rs : List (List (List IV))) (k : Nat), lk (famH el es b rs) (b + k) = (rs[k]?).map (.vec el es)
  | _, [], _ => rfl
  | b, x :: rs, 0 => by simp [famH, lk]
  | b, x :: rs, k + 1 => by
    simp only [famH, lk, beq_lt (show b < b + (k + 1) by omega), cond_false, List.getElem?_cons_succ]
    rw [← famH_get (b + 1) rs k, show b + 1 + k = b + (k + 1) by omega]
theorem famH_none (c b : Nat) (rs : List (List (List IV))) (h : c < b ∨ b + rs.length ≤ c) : lk (famH el es b rs) c = none := by
  rcases h with h | h
  · induction rs generalizing b with
    | nil => rfl
    | cons y l ih => simp only [famH, lk, beq_gt h, cond_false]; exact ih (b + 1) (by omega)
  · obtain ⟨k, rfl⟩ := Nat.exists_eq_add_of_le (show b ≤ c by omega)
    rw [famH_get, List.getElem?_eq_none (by omega)]; rfl
theorem famH_kill (c : Nat) : ∀ (b : Nat) (rs : List (List (List IV))), killH c (famH el es b rs) = famH el es b rs
  | _, [] => rfl
  | b, x :: rs => by simp only [famH, killH, killO, famH_kill c (b + 1) rs]
theorem famH_noMen (c : Nat) : ∀ (b : Nat) (rs : List (List (List IV))), noMen c (famH el es b rs) = true
  | _, [] => rfl
  | b, x :: rs => by simp only [famH, noMen, famH_noMen c (b + 1) rs]
theorem famH_set (b : Nat) (rs : List (List (List IV))) (k : Nat) (r : List (List IV)) (hk : k < rs.length) (c : Nat) : lk (hset (famH el es b rs) (b + k) (.vec el es r)) c = lk (famH el es b (rs.set k r)) c := by
  have h0 : lk (famH el es b rs) (b + k) = some (.vec el es rs[k]) := by rw [famH_get, List.getElem?_eq_getElem hk]; rfl
  by_cases hc : c = b + k
  · subst hc
    rw [lk_hset_same _ _ _ h0, famH_get, List.getElem?_set_self hk]; rfl
  · rw [lk_hset_other _ _ _ _ hc]
    rcases Nat.lt_or_ge c b with h | h
    · rw [famH_none c b rs (.inl h), famH_none c b _ (.inl h)]
    · obtain ⟨j, rfl⟩ := Nat.exists_eq_add_of_le h
      rw [famH_get, famH_get, List.getElem?_set_ne (by omega)]
theorem famH_snoc : ∀ (b : Nat) (rs : List (List (List IV))) (r : List (List IV)), famH el es b (rs ++ [r]) = famH el es b rs ++ [(b + rs.length, .vec el es r)]
  | b, [], r => rfl
  | b, x :: rs, r => by
    simp only [famH, List.cons_append, List.length_cons]
    rw [famH_snoc (b + 1) rs r, show b + 1 + rs.length = b + (rs.length + 1) by omega]
theorem famH_nid (b : Nat) (rs : List (List (List IV))) (h : rs ≠ []) : nid (famH el es b rs) = b + rs.length := by
  induction rs generalizing b with
  | nil => exact absurd rfl h
  | cons x rs ih =>
    simp only [famH, nid, List.length_cons]
    cases rs with
    | nil => simp [famH, nid, Nat.ble_eq_true_of_le (Nat.zero_le b)]
    | cons y rs =>
      rw [ih (b + 1) (by simp)]
      have : Nat.ble (b + 1 + (y :: rs).length) b = false := by
        cases hq : Nat.ble (b + 1 + (y :: rs).length) b with
        | false => rfl
        | true => have := Nat.le_of_ble_eq_true hq; omega
      rw [this]
      simp only [cond_false]; omega
theorem frz_men {b : Nat} {rows : List (List IV)} : ∀ (x : AV), x.men b = false → frz b es rows x = x ∧ frzC b rows x := by
  intro x
  refine AV.rec (motive_1 := fun x => x.men b = false → frz b es rows x = x ∧ frzC b rows x) (motive_2 := fun xs => AV.mens b xs = false → frzs b es rows xs = xs ∧ frzCs b rows xs) ?_ ?_ ?_ ?_ ?_ ?_ ?_ ?_ ?_ ?_ ?_ ?_ ?_ ?_ x
  all_goals intros
  all_goals simp_all [AV.men, AV.mens, frz, frzs, frzC, frzCs]
theorem frzE_men {b : Nat} {rows : List (List IV)} : ∀ (E : Env), menE b E = false → frzE b es rows E = E ∧ frzEC b rows E
  | [], _ => ⟨rfl, trivial⟩
  | (i, x) :: r, h => by
    simp only [menE, Bool.or_eq_false_iff] at h
    obtain ⟨h1, h2⟩ := frz_men (es := es) (rows := rows) x h.1
    obtain ⟨h3, h4⟩ := frzE_men (rows := rows) r h.2
    exact ⟨by simp only [frzE, h1, h3], h2, h4⟩
theorem frzs_men {b : Nat} {rows : List (List IV)} : ∀ (xs : List AV), AV.mens b xs = false → frzs b es rows xs = xs ∧ frzCs b rows xs
  | [], _ => ⟨rfl, trivial⟩
  | x :: xs, h => by
    simp only [AV.mens, Bool.or_eq_false_iff] at h
    obtain ⟨h1, h2⟩ := frz_men (es := es) (rows := rows) x h.1
    obtain ⟨h3, h4⟩ := frzs_men (rows := rows) xs h.2
    exact ⟨by simp only [frzs, h1, h3], h2, h4⟩
theorem frzH_men {b : Nat} {rows : List (List IV)} : ∀ (H : Heap), noMen b H = true → lk H b = none → frzH b es rows H = H ∧ frzHC b rows H
  | [], _, _ => ⟨rfl, trivial⟩
  | (j, o) :: r, h, hl => by
    simp only [lk] at hl
    cases hb : Nat.beq j b with
    | true => rw [hb] at hl; simp at hl
    | false =>
      rw [hb] at hl
      simp only [cond_false] at hl
      cases o with
      | var e cs =>
        simp only [noMen, Bool.and_eq_true, Bool.not_eq_true'] at h
        obtain ⟨h1, h2⟩ := frzs_men (es := es) (rows := rows) cs h.1
        obtain ⟨h3, h4⟩ := frzH_men (rows := rows) r h.2 hl
        exact ⟨by simp only [frzH, hb, cond_false, h1, h3], h2, h4⟩
      | vec e es' rs =>
        simp only [noMen] at h
        obtain ⟨h3, h4⟩ := frzH_men (rows := rows) r h hl
        exact ⟨by simp only [frzH, hb, cond_false, h3], h4⟩
      | lp l n st fn q ps E =>
        simp only [noMen, Bool.and_eq_true, Bool.not_eq_true'] at h
        obtain ⟨h1, h2⟩ := frzE_men (es := es) (rows := rows) E h.1
        obtain ⟨h3, h4⟩ := frzH_men (rows := rows) r h.2 hl
        exact ⟨by simp only [frzH, hb, cond_false, h1, h3], h2, h4⟩
theorem frzH_app {b : Nat} {rows : List (List IV)} : ∀ (A B : Heap), frzH b es rows (A ++ B) = frzH b es rows A ++ frzH b es rows B
  | [], _ => rfl
  | (j, .var e cs) :: A, B => by simp only [List.cons_append, frzH, frzH_app A B]; cases Nat.beq j b <;> rfl
  | (j, .vec e es' rs) :: A, B => by simp only [List.cons_append, frzH, frzH_app A B]; cases Nat.beq j b <;> rfl
  | (j, .lp l n st fn q ps E) :: A, B => by simp only [List.cons_append, frzH, frzH_app A B]; cases Nat.beq j b <;> rfl
theorem frzHC_app {b : Nat} {rows : List (List IV)} : ∀ (A B : Heap), frzHC b rows A → frzHC b rows B → frzHC b rows (A ++ B)
  | [], _, _, h => h
  | (j, .var e cs) :: A, B, h, h' => by simp only [List.cons_append, frzHC] at h ⊢; exact ⟨h.1, frzHC_app A B h.2 h'⟩
  | (j, .vec e es' rs) :: A, B, h, h' => by simp only [List.cons_append, frzHC] at h ⊢; exact frzHC_app A B h h'
  | (j, .lp l n st fn q ps E) :: A, B, h, h' => by simp only [List.cons_append, frzHC] at h ⊢; exact ⟨h.1, frzHC_app A B h.2 h'⟩
theorem frzs_app {b : Nat} {rows : List (List IV)} : ∀ (A B : List AV), frzs b es rows (A ++ B) = frzs b es rows A ++ frzs b es rows B
  | [], _ => rfl
  | x :: A, B => by simp only [List.cons_append, frzs, frzs_app A B]
theorem frzCs_app {b : Nat} {rows : List (List IV)} : ∀ (A B : List AV), frzCs b rows A → frzCs b rows B → frzCs b rows (A ++ B)
  | [], _, _, h => h
  | x :: A, B, h, h' => by simp only [List.cons_append, frzCs] at h ⊢; exact ⟨h.1, frzCs_app A B h.2 h'⟩
theorem mens_ims (b : Nat) : ∀ (xs : List IV), AV.mens b (xs.map .im) = false
  | [] => rfl
  | x :: xs => by simp only [List.map_cons, AV.mens, AV.men, Bool.false_or, mens_ims b xs]
section
variable {C : Cx} {K : List PK} {E : Env}
theorem AE.fzFam {x : Exit} (r : Nat) {e : TypeId} (Hs : Heap) (rs : List (List (List IV))) : ∀ (base : Nat) (ims : List IV), r < base → (∀ b, base ≤ b → noMen b Hs = true ∧ menE b E = false ∧ lk Hs b = none) →
    AE C x K E ((r, .var (.row e) ((ims ++ rs.map (IV.sl es)).map .im)) :: Hs) → AE C x K E ((r, .var (.row e) (ims.map .im ++ famC es base rs)) :: (Hs ++ famH el es base rs)) := by
  induction rs with
  | nil => intro base ims _ _ h; simpa [famC, famH] using h
  | cons r0 rs ih =>
    intro base ims hr hin h
    obtain ⟨h1, h2, h3⟩ := hin base (Nat.le_refl _)
    obtain ⟨e1, c1⟩ := frzH_men (es := es) (rows := r0) Hs h1 h3
    obtain ⟨e2, c2⟩ := frzE_men (es := es) (rows := r0) E h2
    have hb := beq_lt hr
    have m1 := mens_ims base ims
    obtain ⟨e3, c3⟩ := frzs_men (es := es) (rows := r0) _ m1
    have m2 := famC_mens (es := es) base (base + 1) rs (.inl (Nat.lt_succ_self _))
    obtain ⟨e4, c4⟩ := frzs_men (es := es) (rows := r0) _ m2
    obtain ⟨e5, c5⟩ := frzH_men (es := es) (rows := r0) _ (famH_noMen (el := el) (es := es) base (base + 1) rs) (famH_none base (base + 1) rs (.inl (Nat.lt_succ_self _)))
    refine AE.freeze base (el := el) (es := es) (rows := r0) ?_ ?_ (by exact c2) ?_
    · simp only [lk, hb, cond_false, famH]
      rw [lk_append, h3]
      simp [lk]
    · refine ⟨frzCs_app _ _ c3 ?_, frzHC_app _ _ c1 ?_⟩
      · simp only [famC, frzCs, frzC, Nat.beq_refl, cond_true]; exact ⟨by omega, c4⟩
      · simp only [famH, frzHC]; exact c5
    · rw [e2]
      simp only [frzH, hb, cond_false, frzH_app, e1, famH, Nat.beq_refl, cond_true, e5, frzs_app, e3, famC, frzs, frz, e4, List.drop_zero, List.take_length]
      have := ih (base + 1) (ims ++ [.sl es r0]) (by omega) (fun b hb => hin b (by omega)) (by simpa using h)
      simpa using this
end
end Go.AL
end

section
namespace Go.AL
open Go
section
variable {C : Cx} {K : List PK} {E : Env} {H : Heap}
theorem deadOf_nil {Hc : Heap} : ∀ (m : List (Nat × Nat)), (∀ b c, (b, c) ∈ m → (lk Hc b).isSome = true) → deadOf Hc m = []
  | [], _ => rfl
  | (b, c) :: r, h => by
    have h1 := h b c (by simp)
    obtain ⟨o, ho⟩ := Option.isSome_iff_exists.1 h1
    simp only [deadOf, ho]
    exact deadOf_nil r fun b' c' hb => h b' c' (by simp [hb])
theorem lk_is_mem : ∀ (m : List (Nat × Nat)) (b c : Nat), (b, c) ∈ m → (lk m b).isSome = true
  | [], _, _, h => by cases h
  | (b', c') :: r, b, c, h => by
    simp only [lk]
    cases hb : Nat.beq b' b with
    | true => rfl
    | false =>
      rcases List.mem_cons.1 h with h | h
      · cases h; simp at hb
      · simpa using lk_is_mem r b c h
theorem AQ.callF (m : List (Nat × Nat)) {ds : List (Nat × Nat)} {i : Nat} {d : Option Nat} {ty : TypeId} {pos : String} {af : Array Edge} {os : List Oper} {cal : Operand} {f : FuncId} {fs caps : List AV} {xs : List Operand} {ats : Array TypeId} {l argsc : List AV} {Hc : Heap} {r : AV}
    (hok : dstOk C.n ({ dst := d, op := .call { callee := .value cal, args := xs.toArray, argTypes := ats }, type := ty, pos := pos, after := af, guard := none } :: os) = true)
    (hcal : ev E cal = some (.fn f fs caps)) (hl : evs E xs = some l) (hgs : gs l = true)
    (hkeys : keysM m = keysH Hc) (hnk : nodupB (keysM m) = true) (hnv : nodupB (valsM m) = true) (hpass : ∀ k, passes (rho m k) H Hc)
    (hargs : ∀ k, AV.rns (rho m k) argsc = fs ++ l.map AV.st ++ caps) (hr : ∀ k, AV.rn (rho m k) r = r) (hc : ACall C.P f argsc Hc (fun r' H' => H' = Hc ∧ r' = r))
    (h : vq C K os (dsPut d i ds) (i + 1) (putE d r E) H) :
    AQ C ds i ({ dst := d, op := .call { callee := .value cal, args := xs.toArray, argTypes := ats }, type := ty, pos := pos, after := af, guard := none } :: os) K E H := by
  have hH : Hand m (nidx C.B.nb H) H Hc := ⟨hkeys, hnk, hnv, hpass _, fun b o hb => by have := nid_gt H b o hb; have := (nidx_ge C.B.nb H).2; omega⟩
  refine AQ.callHA m hok hcal hl hgs hkeys hnk hnv (hpass _) (hargs _) hc fun r' H1 ⟨e1, e2⟩ => ?_
  subst e1; subst e2
  have hdead : deadOf H1 m = [] := deadOf_nil m fun b c hb => by rw [← hH.dom]; exact lk_is_mem m b c hb
  rw [hdead, hr]
  refine ⟨rfl, AQ.hext H (fun c => ?_) (AQ.go (dstOk_cons hok).2 h)⟩
  rcases Nat.lt_or_ge c (nidx C.B.nb H) with hlt | hge
  · rw [hH.lk_old hlt]
    cases hi : invm m c with
    | none => rfl
    | some b =>
      obtain ⟨o, h1, h2⟩ := hH.get (hH.in_inv hi)
      simp only [h1, h2, Option.map_some]
  · obtain ⟨b, rfl⟩ := Nat.exists_eq_add_of_le hge
    rw [hH.lk_new b]
    have hn : lk H (nidx C.B.nb H + b) = none := by
      cases hq : lk H (nidx C.B.nb H + b) with
      | none => rfl
      | some o => have := hH.fresh _ _ hq; omega
    rw [hn]
    cases hm : lk m b with
    | some c => rfl
    | none =>
      have := hH.dom b
      rw [hm] at this
      cases hq : lk H1 b with
      | none => rfl
      | some o => rw [hq] at this; cases this
theorem AQ.appendNb (b : Nat) {ds : List (Nat × Nat)} {i : Nat} {d : Nat} {ty : TypeId} {pos : String} {af : Array Edge} {os : List Oper} {x y : Operand} {t e : TypeId} {es bytes : Nat} {xs : List (List IV)}
    (hb : nidx C.B.nb H = b)
    (hok : dstOk C.n ({ dst := some d, op := .call { callee := .builtin .append, args := #[x, y], argTypes := #[t, t] }, type := ty, pos := pos, after := af, guard := none } :: os) = true)
    (hx : ev E x = some (.im (.v (.slice none 0 0)))) (hy : ev E y = some (.im (.sl (es + 1) xs)))
    (hno : noMen b H = true)
    (ht : tk C.P t = .slice e) (hes : sz C.P e = some (es + 1)) (hz : (zro C.P e).map List.length = some (es + 1)) (hby : by' C.P e = some bytes)
    (hb1 : xs.length * bytes ≤ 140737488355328) (hb2 : xs.length ≤ 70368744177664)
    (h : vq C K os ((i, d) :: ds) (i + 1) ((d, .os b (es + 1) 0 xs.length) :: killE b E) ((b, .vec e (es + 1) xs) :: H)) :
    AQ C ds i ({ dst := some d, op := .call { callee := .builtin .append, args := #[x, y], argTypes := #[t, t] }, type := ty, pos := pos, after := af, guard := none } :: os) K E H := by
  subst hb
  exact AQ.appendN hok hx hy (by simpa only [noMen] using hno) ht hes hz hby hb1 hb2 h
end
end Go.AL
end

section
namespace Go.AL
open Go
section
variable {C : Cx} {K : List PK} {E : Env} {H : Heap}
theorem AP.cut {p : List Nat} {α : Type} (LE : α → Env) (LH : α → Heap) (ok : α → Prop) (h : AP C p (.lp (LInv C LE LH ok (fun _ => 0) 1) :: K) E H) (h' : ∀ q, ok q → AE C .normal K (LE q) (LH q)) : AP C p K E H := by
  unfold AP at h ⊢
  unfold AE at h'
  intro φ I a w hs
  refine wpIn_mono (h φ I a w hs) (fun e a w hq => ?_)
  cases e with
  | normal =>
    obtain ⟨q, h1, _, φ1, I1, h2⟩ := hq
    exact h' q h1 φ1 I1 a w h2
  | _ => exact hq
theorem AE.meet {α : Type} {LE : α → Env} {LH : α → Heap} {ok : α → Prop} (q : α) (hok : ok q) (hE : Sub E (LE q)) (hH : H = LH q) :
    AE C .normal (.lp (LInv C LE LH ok (fun _ => 0) 1) :: K) E H := AE.round q hok (Nat.lt_succ_self 0) hE hH
def cellsLe (cs cs' : List AV) : Prop := ∀ (w : World) (φ : Phi) (I : Nat → Prop) (us : List Value), AV.dens w φ I cs us → AV.dens w φ I cs' us
theorem cellsLe.refl (cs : List AV) : cellsLe cs cs := fun _ _ _ _ h => h
theorem cellsLe.cons {x : AV} {cs cs' : List AV} (h : cellsLe cs cs') : cellsLe (x :: cs) (x :: cs') := fun w φ I us hd => by
  simp only [AV.dens] at hd ⊢
  obtain ⟨u, us', e, h1, h2⟩ := hd
  exact ⟨u, us', e, h1, h w φ I us' h2⟩
theorem cellsLe.nil {es : Nat} {cs cs' : List AV} (h : cellsLe cs cs') : cellsLe (.im (.v (.slice none 0 0)) :: cs) (.im (.sl es []) :: cs') := fun w φ I us hd => by
  simp only [AV.dens] at hd ⊢
  obtain ⟨u, us', e, h1, h2⟩ := hd
  exact ⟨u, us', e, by simp only [AV.den] at h1 ⊢; exact nil_sl h1, h w φ I us' h2⟩
theorem St.cellsW {B : Bs} {φ : Phi} {I : Nat → Prop} {H : Heap} {w : World} (h : St B φ I H w) {b : Nat} {e : Sh} {cs cs' : List AV} (hl : lk H b = some (.var e cs)) (hc : cellsLe cs cs') : St B φ I (hset H b (.var e cs')) w :=
  h.reob hl fun p _ ho => by
    simp only [Ob.at] at ho ⊢
    obtain ⟨g, us, h1, h2, h3, h4⟩ := ho
    exact ⟨g, us, h1, h2, hc w φ I us h3, h4⟩
theorem AE.cellsW {e : Exit} (b : Nat) (cs' : List AV) {s : Sh} {cs : List AV} (hl : lk H b = some (.var s cs)) (hc : cellsLe cs cs') (h : AE C e K E (hset H b (.var s cs'))) : AE C e K E H := by
  unfold AE at h ⊢
  exact fun φ I a w hs => h _ _ _ _ ⟨hs.dfr, hs.siz, hs.env, hs.st.cellsW hl hc⟩
theorem AP.cellsW {p : List Nat} (b : Nat) (cs' : List AV) {s : Sh} {cs : List AV} (hl : lk H b = some (.var s cs)) (hc : cellsLe cs cs') (h : AP C p K E (hset H b (.var s cs'))) : AP C p K E H := by
  unfold AP at h ⊢
  exact fun φ I a w hs => h _ _ _ _ ⟨hs.dfr, hs.siz, hs.env, hs.st.cellsW hl hc⟩
end
end Go.AL
end
