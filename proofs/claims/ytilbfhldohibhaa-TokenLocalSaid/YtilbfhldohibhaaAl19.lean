import Derived.Test.YtilbfhldohibhaaAl18
set_option linter.unusedSimpArgs false
set_option linter.unusedVariables false
set_option linter.unnecessarySimpa false
namespace Go.AL
open Go

/-! ## A call that hands back blocks of its own making -/
mutual
def AV.sh (k : Nat) : AV → AV
  | .ob b o => .ob (k + b) o
  | .oe b es i j => .oe (k + b) es i j
  | .os b es i n => .os (k + b) es i n
  | .fn f caps => .fn f (AV.shs k caps)
  | .agg cs => .agg (AV.shs k cs)
  | .tup cs => .tup (AV.shs k cs)
  | .opt g x => .opt g (AV.sh k x)
  | .im x => .im x
  | .ar x => .ar x
  | .top => .top
def AV.shs (k : Nat) : List AV → List AV
  | [] => []
  | x :: xs => AV.sh k x :: AV.shs k xs
end
def shH (k : Nat) : Heap → Heap
  | [] => []
  | (j, .var e cs) :: r => (k + j, .var e (AV.shs k cs)) :: shH k r
  | (j, .vec e es rows) :: r => (k + j, .vec e es rows) :: shH k r
def shO (k : Nat) : Ob → Ob
  | .var e cs => .var e (AV.shs k cs)
  | .vec e es rows => .vec e es rows

mutual
theorem AV.sh_den {w : World} {φ φ' : Phi} {I : Nat → Prop} {k : Nat} (h : ∀ b p, φ b = some p → φ' (k + b) = some p) : ∀ (x : AV) (u : Value), AV.den w φ I x u → AV.den w φ' I (AV.sh k x) u
  | .ob b o, u, hd => by simp only [AV.sh, AV.den] at hd ⊢; obtain ⟨g, h1, h2⟩ := hd; exact ⟨g, h _ _ h1, h2⟩
  | .oe b es i j, u, hd => by simp only [AV.sh, AV.den] at hd ⊢; obtain ⟨g, h1, h2⟩ := hd; exact ⟨g, h _ _ h1, h2⟩
  | .os b es i n, u, hd => by
    simp only [AV.sh, AV.den] at hd ⊢
    rcases hd with ⟨h1, h2⟩ | ⟨g, c, h1, h2⟩
    · exact .inl ⟨h _ _ h1, h2⟩
    · exact .inr ⟨g, c, h _ _ h1, h2⟩
  | .fn f caps, u, hd => by simp only [AV.sh, AV.den] at hd ⊢; obtain ⟨us, h1, h2⟩ := hd; exact ⟨us, AV.shs_dens h caps us h1, h2⟩
  | .agg cs, u, hd => by simp only [AV.sh, AV.den] at hd ⊢; obtain ⟨us, h1, h2⟩ := hd; exact ⟨us, AV.shs_dens h cs us h1, h2⟩
  | .tup cs, u, hd => by simp only [AV.sh, AV.den] at hd ⊢; obtain ⟨us, h1, h2⟩ := hd; exact ⟨us, AV.shs_dens h cs us h1, h2⟩
  | .opt g x, u, hd => by simp only [AV.sh, AV.den] at hd ⊢; exact ⟨fun hg => AV.sh_den h x u (hd.1 hg), hd.2⟩
  | .im x, u, hd => by simpa only [AV.sh, AV.den] using hd
  | .ar x, u, hd => by simpa only [AV.sh, AV.den] using hd
  | .top, _, _ => by simp only [AV.sh, AV.den]
theorem AV.shs_dens {w : World} {φ φ' : Phi} {I : Nat → Prop} {k : Nat} (h : ∀ b p, φ b = some p → φ' (k + b) = some p) : ∀ (xs : List AV) (us : List Value), AV.dens w φ I xs us → AV.dens w φ' I (AV.shs k xs) us
  | [], us, hd => by simpa only [AV.shs, AV.dens] using hd
  | x :: xs, us, hd => by
    simp only [AV.shs, AV.dens] at hd ⊢
    obtain ⟨u, us', e, h1, h2⟩ := hd
    exact ⟨u, us', e, AV.sh_den h x u h1, AV.shs_dens h xs us' h2⟩
end

theorem lk_shH_lt (k : Nat) : ∀ (H : Heap) (b : Nat), b < k → lk (shH k H) b = none
  | [], _, _ => rfl
  | (j, .var e cs) :: r, b, h => by
    have : Nat.beq (k + j) b = false := by
      cases hq : Nat.beq (k + j) b with
      | false => rfl
      | true => have := Nat.eq_of_beq_eq_true hq; omega
    simp only [shH, lk, this, cond_false]; exact lk_shH_lt k r b h
  | (j, .vec e es rows) :: r, b, h => by
    have : Nat.beq (k + j) b = false := by
      cases hq : Nat.beq (k + j) b with
      | false => rfl
      | true => have := Nat.eq_of_beq_eq_true hq; omega
    simp only [shH, lk, this, cond_false]; exact lk_shH_lt k r b h
theorem beq_add (k j b : Nat) : Nat.beq (k + j) (k + b) = Nat.beq j b := by
  cases h : Nat.beq j b with
  | true => have := Nat.eq_of_beq_eq_true h; subst this; exact Nat.beq_refl _
  | false =>
    cases hq : Nat.beq (k + j) (k + b) with
    | false => rfl
    | true =>
      have h1 := Nat.eq_of_beq_eq_true hq
      have : j = b := by omega
      subst this
      rw [Nat.beq_refl] at h; cases h
theorem lk_shH (k : Nat) : ∀ (H : Heap) (b : Nat), lk (shH k H) (k + b) = (lk H b).map (shO k)
  | [], _ => rfl
  | (j, .var e cs) :: r, b => by
    simp only [shH, lk, beq_add]
    cases Nat.beq j b with
    | true => rfl
    | false => simpa using lk_shH k r b
  | (j, .vec e es rows) :: r, b => by
    simp only [shH, lk, beq_add]
    cases Nat.beq j b with
    | true => rfl
    | false => simpa using lk_shH k r b
theorem lk_append : ∀ (H H' : Heap) (b : Nat), lk (H ++ H') b = match lk H b with | some o => some o | none => lk H' b
  | [], _, _ => rfl
  | (j, o) :: r, H', b => by
    simp only [List.cons_append, lk]
    cases Nat.beq j b with
    | true => rfl
    | false => simpa using lk_append r H' b

def joinφ (k : Nat) (φ φ1 : Phi) : Phi := fun b => if b < k then φ b else φ1 (b - k)

theorem shO_at {w : World} {φ φ' : Phi} {I : Nat → Prop} {k : Nat} (h : ∀ b p, φ b = some p → φ' (k + b) = some p) {o : Ob} {p : Option Nat} (ho : o.at w φ I p) : (shO k o).at w φ' I p := by
  cases o with
  | var e cs =>
    simp only [shO, Ob.at] at ho ⊢
    obtain ⟨g, us, h1, h2, h3, h4⟩ := ho
    exact ⟨g, us, h1, h2, AV.shs_dens h cs us h3, h4⟩
  | vec e es rows => exact ho

theorem St.after_own {B : Bs} {φ φ1 : Phi} {I I1 : Nat → Prop} {H H1 : Heap} {w w1 : World} (h : St B φ I H w) (h1 : St ⟨w, ownB (fun _ => none), I, fun _ => none, 0⟩ φ1 I1 H1 w1) :
    St B (joinφ (nidx B.nb H) φ φ1) I1 (shH (nidx B.nb H) H1 ++ H) w1 ∧ Keeps w φ I w1 (joinφ (nidx B.nb H) φ φ1) I1 ∧ ∀ b p, φ1 b = some p → joinφ (nidx B.nb H) φ φ1 (nidx B.nb H + b) = some p := by
  have hnb := nidx_ge B.nb H
  have hfr : ∀ b, nidx B.nb H ≤ b → lk H b = none := fun b hb => by
    cases hl : lk H b with
    | none => rfl
    | some o => have := nid_gt H b o hl; omega
  generalize hk : nidx B.nb H = k at *
  have hφn : ∀ b, k ≤ b → φ b = none := fun b hb => by
    have := h.real.dom b
    rw [hfr b hb] at this
    cases hq : φ b with
    | none => rfl
    | some x => rw [hq] at this; cases this
  have jl : ∀ b, b < k → joinφ k φ φ1 b = φ b := fun b hb => by simp [joinφ, hb]
  have jr : ∀ b, joinφ k φ φ1 (k + b) = φ1 b := fun b => by
    have : ¬ k + b < k := by omega
    simp [joinφ, this]
  have hlt : ∀ b p, φ b = some p → b < k := fun b p hp => by
    rcases Nat.lt_or_ge b k with h' | h'
    · exact h'
    · rw [hφn b h'] at hp; cases hp
  have hno : ∀ g, ¬ ownB (fun _ => none) g := fun g ⟨b, hb⟩ => by cases hb
  have hkeep : ∀ g, g < w.heap.size → w1.heap[g]? = w.heap[g]? := fun g hg => h1.ext.keep g hg (hno g)
  have hnew : ∀ b g, φ1 b = some (some g) → w.heap.size ≤ g := fun b g hb => (h1.ownx b g hb).resolve_left (hno g)
  have himm : ∀ g, I1 g → I g ∨ w.heap.size ≤ g := fun g hg => by
    rcases h1.immx g hg with h | h | h
    · exact .inl h
    · exact absurd h (hno g)
    · exact .inr h
  have kp : Keeps w φ I w1 (joinφ k φ φ1) I1 := ⟨fun g hg => hkeep g (h.real.imm g hg), h1.immo, fun b p hp => by rw [jl b (hlt b p hp)]; exact hp, fun g n hs => h1.ext.shaped hs⟩
  have split : ∀ b, b < k ∨ ∃ c, b = k + c := fun b => by
    rcases Nat.lt_or_ge b k with h' | h'
    · exact .inl h'
    · exact .inr ⟨b - k, by omega⟩
  have lkl : ∀ b, b < k → lk (shH k H1 ++ H) b = lk H b := fun b hb => by rw [lk_append, lk_shH_lt k H1 b hb]
  have lkr : ∀ c, lk (shH k H1 ++ H) (k + c) = (lk H1 c).map (shO k) := fun c => by
    rw [lk_append, lk_shH k H1 c]
    cases hl : lk H1 c with
    | none => simpa using hfr (k + c) (by omega)
    | some o => rfl
  refine ⟨⟨⟨fun b => ?_, fun b o p hl hp => ?_, fun b g hp => ?_, fun b1 b2 g hp1 hp2 => ?_, h1.real.imm⟩, h.ext.trans h1.ext (fun g hg => absurd hg (hno g)), fun b g hp => ?_, fun g hg => ?_, fun g hg => h1.immo g (h.immo g hg), fun b g el cs hb h0 hl => ?_⟩, kp, fun b p hb => by rw [jr]; exact hb⟩
  · rcases split b with hb | ⟨c, rfl⟩
    · rw [jl b hb, lkl b hb]; exact h.real.dom b
    · rw [jr, lkr]
      have := h1.real.dom c
      rw [this]; cases lk H1 c <;> rfl
  · rcases split b with hb | ⟨c, rfl⟩
    · rw [jl b hb] at hp; rw [lkl b hb] at hl
      refine Ob.at_mono kp.im kp.I kp.phi kp.sh (fun g hg => ?_) (h.real.own b o p hl hp)
      subst hg
      exact hkeep g (h.real.off b g hp).2
    · rw [jr] at hp; rw [lkr] at hl
      cases hl1 : lk H1 c with
      | none => rw [hl1] at hl; cases hl
      | some o1 =>
        rw [hl1] at hl
        cases hl
        exact shO_at (fun b p hb => by rw [jr]; exact hb) (h1.real.own c o1 p hl1 hp)
  · rcases split b with hb | ⟨c, rfl⟩
    · rw [jl b hb] at hp
      have := h.real.off b g hp
      exact ⟨fun hi => (himm g hi).elim this.1 (by omega), Nat.lt_of_lt_of_le this.2 h1.ext.size⟩
    · rw [jr] at hp; exact h1.real.off c g hp
  · rcases split b1 with e1 | ⟨c1, rfl⟩ <;> rcases split b2 with e2 | ⟨c2, rfl⟩
    · rw [jl b1 e1] at hp1; rw [jl b2 e2] at hp2; exact h.real.inj b1 b2 g hp1 hp2
    · rw [jl b1 e1] at hp1; rw [jr] at hp2
      have := (h.real.off b1 g hp1).2; have := hnew c2 g hp2; omega
    · rw [jr] at hp1; rw [jl b2 e2] at hp2
      have := (h.real.off b2 g hp2).2; have := hnew c1 g hp1; omega
    · rw [jr] at hp1 hp2; rw [h1.real.inj c1 c2 g hp1 hp2]
  · rcases split b with hb | ⟨c, rfl⟩
    · rw [jl b hb] at hp; exact h.ownx b g hp
    · rw [jr] at hp; exact .inr (Nat.le_trans h.ext.size (hnew c g hp))
  · rcases himm g hg with hg | hg
    · exact h.immx g hg
    · exact .inr (.inr (Nat.le_trans h.ext.size hg))
  · have hb' : b < k := by omega
    rw [jl b hb']; rw [lkl b hb'] at hl
    exact h.phx b g el cs hb h0 hl

section
variable {C : Cx} {K : List PK} {E : Env} {H : Heap}
theorem AQ.callv {ds : List (Nat × Nat)} {i : Nat} {d : Option Nat} {ty : TypeId} {pos : String} {af : Array Edge} {os : List Oper} {f : FuncId} {xs : List Operand} {ats : Array TypeId} {l : List AV} {R : AV → Heap → Prop}
    (hok : dstOk C.n ({ dst := d, op := .call { callee := .value (.func f), args := xs.toArray, argTypes := ats }, type := ty, pos := pos, after := af, guard := none } :: os) = true)
    (hl : evs E xs = some l) (hgs : gs l = true) (hfr : AV.frees (l.map AV.st) = true) (hc : ACall C.P f (l.map AV.st) [] R)
    (h : ∀ r H', R r H' → vq C K os (dsPut d i ds) (i + 1) (putE d (AV.sh (nidx C.B.nb H) r) E) (shH (nidx C.B.nb H) H' ++ H)) :
    AQ C ds i ({ dst := d, op := .call { callee := .value (.func f), args := xs.toArray, argTypes := ats }, type := ty, pos := pos, after := af, guard := none } :: os) K E H := by
  obtain ⟨hd, hok'⟩ := dstOk_cons hok
  have hgo : ∀ r H', R r H' → AQ C (dsPut d i ds) (i + 1) os K (putE d (AV.sh (nidx C.B.nb H) r) E) (shH (nidx C.B.nb H) H' ++ H) := fun r H' hr => AQ.go hok' (h r H' hr)
  unfold AQ at hgo ⊢
  refine AO.step (o := { dst := d, op := .call { callee := .value (.func f), args := xs.toArray, argTypes := ats }, type := ty, pos := pos, after := af, guard := none }) fun ops φ I a w hds _ hs Kn hKn => ?_
  have hw : Region.wanted { dst := d, op := .call { callee := .value (.func f), args := xs.toArray, argTypes := ats }, type := ty, pos := pos, after := af, guard := none } (yielded ops a.tmps) = true := by simp [Region.wanted]
  rw [if_pos hw]
  have hden := AV.frees_dens (φ' := fun _ => none) _ _ hfr (evs_sound hs.env _ _ hl hgs)
  have hrun : (execOp a.eval { dst := d, op := .call { callee := .value (.func f), args := xs.toArray, argTypes := ats }, type := ty, pos := pos, after := af, guard := none }).run C.P w = .ok (.enter f (xs.map a.eval).toArray) w := by
    have : execOp a.eval { dst := d, op := .call { callee := .value (.func f), args := xs.toArray, argTypes := ats }, type := ty, pos := pos, after := af, guard := none } = callFunc f (#[] ++ xs.toArray.map a.eval ++ #[]) := by simp only [execOp]; rfl
    rw [this, run_callFunc hc.ent]
    simp
  unfold Oper.wp
  rw [hrun, Oper.upon_enter]
  refine (hc.run w (fun _ => none) I _ hden (real_none hs.st.real)).mono fun e w' ⟨r, H', φ', I', v, hr, he, hdv, hS⟩ => ?_
  subst he
  obtain ⟨hS1, hk, hj⟩ := hs.st.after_own hS
  exact hKn _ _ _ I' _ _ (hgo r H' hr) (hs.put hS1 hk hd (AV.sh_den hj r v hdv))
end

/-- what a function hands over as its own may be taken as a thing that nobody changes -/
theorem PFn.of_own {P : Program} {f : FuncId} {args : List AV} {el : TypeId} {es b : Nat} {rows : List (List IV)} {r : AV} (h : ACall P f args [] (fun r' H' => H' = [(b, .vec el es rows)] ∧ r' = r)) (hC : frzC b rows r) :
    PFn P f args (frz b es rows r) := by
  refine ⟨h.ent, fun w φ I vs hd hR => (h.run w φ I vs hd hR).mono fun e w' ⟨r', H', φ', I', v, ⟨h1, h2⟩, he, hdv, hS⟩ => ?_⟩
  subst h1; subst h2
  obtain ⟨φ2, I2, hS2, hd2⟩ := hS.freeze (b := b) (el := el) (es := es) (rows := rows) (by simp [lk]) (by simp [frzHC])
  exact ⟨_, _, φ2, I2, v, ⟨rfl, rfl⟩, he, hd2 _ _ hC hdv, by simpa [frzH] using hS2⟩
attribute [go_sem] AV.sh AV.shs shH shO
end Go.AL
