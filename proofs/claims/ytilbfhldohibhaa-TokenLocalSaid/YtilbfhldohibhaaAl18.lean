import Derived.Test.YtilbfhldohibhaaAl17
set_option linter.unusedSimpArgs false
set_option linter.unusedVariables false
set_option linter.unnecessarySimpa false
namespace Go.AL
open Go

section
variable {C : Cx} {K : List PK} {E : Env} {H : Heap}

theorem AQ.imp {ds : List (Nat × Nat)} {i : Nat} {os : List Oper} {E' : Env} (hE : ∀ w φ I a, EnvOk w φ I E a → EnvOk w φ I E' a) (h : AQ C ds i os K E' H) : AQ C ds i os K E H := by
  unfold AQ at h ⊢
  intro ops h1 h2 φ I a w hs
  exact h ops h1 h2 φ I a w ⟨hs.dfr, hs.siz, hE w φ I a hs.env, hs.st⟩

theorem putE_imp {w : World} {φ : Phi} {I : Nat → Prop} {a : Act} {d : Option Nat} {x y : AV} (hxy : ∀ u, AV.den w φ I x u → AV.den w φ I y u) (h : EnvOk w φ I (putE d x E) a) : EnvOk w φ I (putE d y E) a := by
  cases d with
  | none => exact h
  | some d =>
    intro i z hz
    simp only [putE, lk] at hz
    cases hb : Nat.beq d i with
    | true =>
      rw [hb] at hz
      simp only [cond_true, Option.some.injEq] at hz
      subst hz
      obtain ⟨u, hu, hd⟩ := h i x (by simp [putE, lk, hb])
      exact ⟨u, hu, hxy u hd⟩
    | false =>
      rw [hb] at hz
      exact h i z (by simpa [putE, lk, hb] using hz)

/-- a call under a guard -/
theorem AQ.fn_g {ds : List (Nat × Nat)} {i : Nat} {d : Option Nat} {ty : TypeId} {pos : String} {af : Array Edge} {os : List Oper} {f : FuncId} {xs : List Operand} {ats : Array TypeId} {l : List AV} {r : AV} {gu : Option (Nat × Bool)} {G : Bool}
    (hok : dstOk C.n ({ dst := d, op := .call { callee := .value (.func f), args := xs.toArray, argTypes := ats }, type := ty, pos := pos, after := af, guard := gu } :: os) = true)
    (hG : gd ds E gu = some G)
    (hl : evs E xs = some l) (hgs : G = true → gs l = true) (hfr : AV.frees (l.map AV.st) = true) (hc : G = true → ACall C.P f (l.map AV.st) [] (fun r' H' => H' = [] ∧ r' = r)) (hr : r.free = true)
    (h : vq C K os (dsPut d i ds) (i + 1) (putE d (.opt G r) E) H) :
    AQ C ds i ({ dst := d, op := .call { callee := .value (.func f), args := xs.toArray, argTypes := ats }, type := ty, pos := pos, after := af, guard := gu } :: os) K E H := by
  obtain ⟨hd, hok'⟩ := dstOk_cons hok
  have hgo := AQ.go hok' h
  cases G with
  | true =>
    refine AQ.guard_yes hG ?_
    unfold AQ
    refine AO.call (o := { dst := d, op := .call { callee := .value (.func f), args := xs.toArray, argTypes := ats }, type := ty, pos := pos, after := af, guard := none }) rfl rfl hd (by simpa using hl) (hgs rfl) hfr (hc rfl) (fun r' H' ⟨h1, h2⟩ => ⟨h1, by rw [h2]; exact hr⟩) fun r' ⟨_, h2⟩ => ?_
    subst h2
    have := AQ.imp (fun w φ I a => putE_imp (x := r') (y := .opt true r') fun u hu => by simp only [AV.den]; exact ⟨fun _ => hu, fun h => by cases h⟩) hgo
    unfold AQ at this
    exact this
  | false =>
    refine AQ.guard_no hd hG ?_
    exact AQ.imp (fun w φ I a => putE_imp fun u hu => by simp only [AV.den] at hu ⊢; exact ⟨fun h => (by cases h), hu.2⟩) hgo

/-! ## An own block is forgotten -/
def hdel (b : Nat) : Heap → Heap
  | [] => []
  | (j, o) :: r => bif Nat.beq j b then hdel b r else (j, o) :: hdel b r
theorem hdel_same (b : Nat) : ∀ H : Heap, lk (hdel b H) b = none
  | [] => rfl
  | (j, o) :: r => by
    simp only [hdel]
    cases hb : Nat.beq j b with
    | true => simpa using hdel_same b r
    | false => simp only [cond_false, lk, hb]; exact hdel_same b r
theorem hdel_other (b : Nat) : ∀ (H : Heap) (b' : Nat), b' ≠ b → lk (hdel b H) b' = lk H b'
  | [], _, _ => rfl
  | (j, o) :: r, b', hne => by
    simp only [hdel]
    cases hb : Nat.beq j b with
    | true =>
      have hj := Nat.eq_of_beq_eq_true hb
      have : Nat.beq j b' = false := by
        cases hq : Nat.beq j b' with
        | false => rfl
        | true => have := Nat.eq_of_beq_eq_true hq; omega
      simp only [cond_true, lk, this, cond_false]
      exact hdel_other b r b' hne
    | false =>
      simp only [cond_false, lk]
      cases hq : Nat.beq j b' with
      | true => rfl
      | false => simpa using hdel_other b r b' hne

def updn (φ : Phi) (b : Nat) : Phi := fun b' => if b' = b then none else φ b'

theorem St.forget {B : Bs} {φ : Phi} {I : Nat → Prop} {w : World} (h : St B φ I H w) (b : Nat) (hn : noMen b (hdel b H) = true) : St B (updn φ b) I (hdel b H) w := by
  have hφ : ∀ b', b' ≠ b → updn φ b b' = φ b' := fun b' hb => by simp [updn, hb]
  have hb0 : updn φ b b = none := by simp [updn]
  refine ⟨⟨fun b' => ?_, fun b' o p hl hp => ?_, fun b' g hp => ?_, fun b1 b2 g h1 h2 => ?_, h.real.imm⟩, h.ext, fun b' g hp => ?_, h.immx, h.immo, fun b' g el cs hlt h0 hl => ?_⟩
  · by_cases hbb : b' = b
    · subst hbb; rw [hb0, hdel_same]; rfl
    · rw [hφ b' hbb, hdel_other b H b' hbb]; exact h.real.dom b'
  · by_cases hbb : b' = b
    · subst hbb; rw [hb0] at hp; cases hp
    · have hlo := hl
      rw [hdel_other b H b' hbb] at hl
      rw [hφ b' hbb] at hp
      have hown := h.real.own b' o p hl hp
      cases o with
      | var e cs =>
        simp only [Ob.at] at hown ⊢
        obtain ⟨g, us, rfl, h2, h3, h4⟩ := hown
        exact ⟨g, us, rfl, h2, AV.mens_dens hφ cs us (noMen_lk _ hn b' e cs hlo) h3, h4⟩
      | vec e es0 rows0 => exact hown
  · by_cases hbb : b' = b
    · subst hbb; rw [hb0] at hp; cases hp
    · rw [hφ b' hbb] at hp; exact h.real.off b' g hp
  · by_cases e1 : b1 = b
    · subst e1; rw [hb0] at h1; cases h1
    · by_cases e2 : b2 = b
      · subst e2; rw [hb0] at h2; cases h2
      · rw [hφ b1 e1] at h1; rw [hφ b2 e2] at h2; exact h.real.inj b1 b2 g h1 h2
  · by_cases hbb : b' = b
    · subst hbb; rw [hb0] at hp; cases hp
    · rw [hφ b' hbb] at hp; exact h.ownx b' g hp
  · by_cases hbb : b' = b
    · subst hbb; rw [hdel_same] at hl; cases hl
    · rw [hdel_other b H b' hbb] at hl
      rw [hφ b' hbb]; exact h.phx b' g el cs hlt h0 hl

theorem Sim.forget {φ : Phi} {I : Nat → Prop} {a : Act} {w : World} (h : Sim C φ I E H a w) (b : Nat) (hn : noMen b (hdel b H) = true) : Sim C (updn φ b) I (killE b E) (hdel b H) a w := by
  refine ⟨h.dfr, h.siz, fun i x hx => ?_, h.st.forget b hn⟩
  obtain ⟨y, hy, hd⟩ := killE_lk (w := w) (φ := φ) (φ' := updn φ b) (I := I) (b := b) (fun b' hb => by simp [updn, hb]) E i x hx
  obtain ⟨u, hu, hdu⟩ := h.env i y hy
  exact ⟨u, hu, hd u hdu⟩

theorem AE.forget {e : Exit} (b : Nat) (hn : noMen b (hdel b H) = true) (h : AE C e K (killE b E) (hdel b H)) : AE C e K E H := by
  unfold AE at h ⊢
  exact fun φ I a w hs => h _ I a w (hs.forget b hn)
theorem AP.forget {p : List Nat} (b : Nat) (hn : noMen b (hdel b H) = true) (h : AP C p K (killE b E) (hdel b H)) : AP C p K E H := by
  unfold AP at h ⊢
  exact fun φ I a w hs => h _ I a w (hs.forget b hn)
end
attribute [go_sem] hdel List.map_cons List.map_nil List.getElem?_cons_zero List.getElem?_cons_succ
end Go.AL
