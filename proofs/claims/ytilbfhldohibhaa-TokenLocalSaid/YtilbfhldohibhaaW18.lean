import Derived.Test.YtilbfhldohibhaaW16
set_option linter.unusedSimpArgs false
set_option linter.unusedVariables false
set_option linter.unnecessarySimpa false
namespace Go.Proofs.Ytilbfhldohibhaa
open Go Go.AL Go.RowKit
theorem toks_ne : ∀ (l : List UInt8) (c : UInt8) (o : Nat), sp c = false → ∃ y r, toks (c :: l) o = y :: r
  | [], c, o, h => ⟨_, _, toks_last h⟩
  | d :: l, c, o, h => by
    cases hd : sp d with
    | true => exact ⟨_, _, toks_end h hd⟩
    | false =>
      obtain ⟨⟨x, i⟩, r, e⟩ := toks_ne l d (o + 1) hd
      exact ⟨_, _, toks_more h hd e⟩
theorem toks_app (s : UInt8) (b : List UInt8) (hs : sp s = true) : ∀ (a : List UInt8) (o : Nat), toks (a ++ s :: b) o = toks a o ++ toks b (o + a.length + 1)
  | [], o => by rw [List.nil_append, toks_sp hs]; rfl
  | x :: a, o => by
    have ih := toks_app s b hs a (o + 1)
    rw [show o + 1 + a.length + 1 = o + (x :: a).length + 1 by simp; omega] at ih
    rw [List.cons_append]
    cases hx : sp x with
    | true => rw [toks_sp hx, toks_sp hx, ih]
    | false =>
      cases a with
      | nil => rw [List.nil_append] at ih ⊢; rw [toks_end hx hs, toks_last hx, ih]; rfl
      | cons c a =>
        rw [List.cons_append] at ih ⊢
        cases hc : sp c with
        | true => rw [toks_end hx hc, toks_end hx hc, ih]; rfl
        | false =>
          obtain ⟨⟨y, i⟩, r, e⟩ := toks_ne a c (o + 1) hc
          rw [e] at ih
          rw [toks_more hx hc ih, toks_more hx hc e]; rfl
def shTok (d : Nat) (k : Tok) : Tok := (k.1, k.2 + d)
theorem toks_shift (d : Nat) : ∀ (b : List UInt8) (o : Nat), toks b (o + d) = (toks b o).map (shTok d)
  | [], _ => rfl
  | x :: b, o => by
    have ih := toks_shift d b (o + 1)
    rw [show o + 1 + d = o + d + 1 by omega] at ih
    rw [toks, toks, ih]
    split
    · rfl
    · cases b with
      | nil => rfl
      | cons c b =>
        simp only [push]
        split
        · rfl
        · cases toks (c :: b) (o + 1) with
          | nil => rfl
          | cons y r => rfl
theorem okT_app (a b : List UInt8) : okT (a ++ b) = (okT a && okT b) := by simp [okT]
end Go.Proofs.Ytilbfhldohibhaa
