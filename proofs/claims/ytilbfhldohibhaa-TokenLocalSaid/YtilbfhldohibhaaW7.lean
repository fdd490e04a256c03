import Derived.Test.YtilbfhldohibhaaW6
set_option linter.unusedSimpArgs false
set_option linter.unusedVariables false
set_option linter.unnecessarySimpa false
namespace Go.Proofs.Ytilbfhldohibhaa
open Go Go.AL Go.RowKit
set_option maxRecDepth 10000
abbrev Tok := List UInt8 × Nat
def sp (b : UInt8) : Bool := cls b.toNat == 1
/-- a byte ahead of a text with tokens r -/
def push (b : UInt8) (o : Nat) : List UInt8 → List Tok → List Tok
  | [], _ => [([b], o)]
  | c :: _, r => if sp c then ([b], o) :: r else match r with
    | (x, _) :: r => (b :: x, o) :: r
    | [] => []
/-- the tokens of a text that begins at an offset -/
def toks : List UInt8 → Nat → List Tok
  | [], _ => []
  | b :: l, o => if sp b then toks l (o + 1) else push b o l (toks l (o + 1))
theorem toks_sp {b : UInt8} {l : List UInt8} {o : Nat} (h : sp b = true) : toks (b :: l) o = toks l (o + 1) := by simp only [toks, h, if_true]
theorem toks_last {b : UInt8} {o : Nat} (h : sp b = false) : toks [b] o = [([b], o)] := by simp [toks, h, push]
theorem toks_end {b c : UInt8} {l : List UInt8} {o : Nat} (h : sp b = false) (h' : sp c = true) : toks (b :: c :: l) o = ([b], o) :: toks (c :: l) (o + 1) := by
  rw [toks, h]; simp [h', push]
theorem toks_more {b c : UInt8} {l : List UInt8} {o : Nat} (h : sp b = false) (h' : sp c = false) {x : List UInt8} {o' : Nat} {r : List Tok} (e : toks (c :: l) (o + 1) = (x, o') :: r) : toks (b :: c :: l) o = (b :: x, o) :: r := by
  rw [toks, h, e]; simp [h', push]
/-- a word, and what stands behind it -/
theorem toks_word : ∀ (x : List UInt8) (l : List UInt8) (o : Nat), x ≠ [] → (∀ b ∈ x, sp b = false) → (∀ c l', l = c :: l' → sp c = true) → toks (x ++ l) o = (x, o) :: toks l (o + x.length)
  | [], _, _, h, _, _ => absurd rfl h
  | [b], [], o, _, hx, _ => by rw [List.append_nil, toks_last (hx b (by simp))]; rfl
  | [b], c :: l, o, _, hx, hl => by exact toks_end (hx b (by simp)) (hl c l rfl)
  | b :: c :: x, l, o, _, hx, hl => by
    have := toks_word (c :: x) l (o + 1) (by simp) (fun d hd => hx d (List.mem_cons_of_mem _ hd)) hl
    rw [List.cons_append] at this
    rw [List.cons_append, List.cons_append, toks_more (hx b (by simp)) (hx c (by simp)) this]
    rw [show o + 1 + (c :: x).length = o + (b :: c :: x).length by simp; omega]
def okT (t : List UInt8) : Bool := t.all fun b => !(cls b.toNat == 0)
def badAt (t : List UInt8) : Nat := t.findIdx fun b => cls b.toNat == 0
def tokRow (k : Tok) : List IV := [Si k.1, Ii k.2]
def tokRows (l : List Tok) : List (List IV) := l.map tokRow
theorem tokRows_len (l : List Tok) : (tokRows l).length = l.length := by simp [tokRows]
attribute [go_sem] tokRows_len
def scanOf (t : List UInt8) : AV := if okT t then .tup [.im (.sl 2 (tokRows (toks t 0))), Iv 0, Iv 0] else .tup [.im (.sl 2 []), Iv (badAt t), Iv 30]
theorem drop_cons (t : List UInt8) (i : Nat) (h : i < t.length) : t.drop i = t.getD i 0 :: t.drop (i + 1) := by
  rw [List.drop_eq_getElem_cons h, List.getD_eq_getElem?_getD, List.getElem?_eq_getElem h]; rfl
theorem bad_at (t : List UInt8) (k : Nat) (hk : k < t.length) (h : ((t.take k).all fun b => !(cls b.toNat == 0)) = true) (h' : (cls (t.getD k 0).toNat == 0) = true) : badAt t = k := by
  unfold badAt
  rw [List.findIdx_eq hk]
  rw [List.getD_eq_getElem?_getD, List.getElem?_eq_getElem hk] at h'
  refine ⟨h', fun j hj => ?_⟩
  rw [List.all_eq_true] at h
  have := h t[j] (by rw [List.mem_take_iff_getElem]; exact ⟨j, by omega, rfl⟩)
  simpa using this
end Go.Proofs.Ytilbfhldohibhaa
