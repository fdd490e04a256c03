import Derived.Test.YtilbfhldohibhaaAl19
set_option linter.unusedSimpArgs false
set_option linter.unusedVariables false
set_option linter.unnecessarySimpa false
namespace Go.AL
open Go
section
variable {C : Cx} {K : List PK} {E : Env} {H : Heap}
def stV : AV → AV
  | .opt true x => x
  | x => x
def stE : Env → Env
  | [] => []
  | (i, x) :: r => (i, stV x) :: stE r
theorem stV_den {w : World} {φ : Phi} {I : Nat → Prop} {x : AV} {u : Value} (h : AV.den w φ I x u) : AV.den w φ I (stV x) u := by
  unfold stV
  split
  · simp only [AV.den] at h; exact h.1 trivial
  · exact h
theorem stE_lk : ∀ (E : Env) (i : Nat) (x : AV), lk (stE E) i = some x → ∃ y, lk E i = some y ∧ x = stV y
  | [], i, x, h => by simp [stE, lk] at h
  | (j, y) :: r, i, x, h => by
    simp only [stE, lk] at h ⊢
    cases hb : Nat.beq j i with
    | true => rw [hb] at h; simp at h ⊢; exact h.symm
    | false => rw [hb] at h; simpa using stE_lk r i x h
theorem AQ.strip {ds : List (Nat × Nat)} {i : Nat} {os : List Oper} (h : AQ C ds i os K (stE E) H) : AQ C ds i os K E H :=
  AQ.imp (fun w φ I a he j x hx => by
    obtain ⟨y, hy, rfl⟩ := stE_lk E j x hx
    obtain ⟨u, hu, hd⟩ := he j y hy
    exact ⟨u, hu, stV_den hd⟩) h
end
attribute [go_sem] stV stE
end Go.AL
