import Derived.Test.YtilbfhldohibhaaW18
set_option linter.unusedSimpArgs false
set_option linter.unusedVariables false
set_option linter.unnecessarySimpa false
namespace Go.Proofs.Ytilbfhldohibhaa
open Go Go.AL Go.RowKit
/-- the first k tokens are moved -/
def partT (d k : Nat) (l : List Tok) : List Tok := (l.take k).map (shTok d) ++ l.drop k
theorem partT_len (d k : Nat) (l : List Tok) : (partT d k l).length = l.length := by
  simp only [partT, List.length_append, List.length_map, List.length_take, List.length_drop]; omega
theorem partT_get (d k : Nat) (l : List Tok) (h : k < l.length) : (tokRows (partT d k l)).getD k [] = [Si (l.getD k ([], 0)).1, Ii (l.getD k ([], 0)).2] := by
  have hl : ((l.take k).map (shTok d)).length = k := by rw [List.length_map, List.length_take]; omega
  have e : (partT d k l)[k]? = some (l[k]) := by
    unfold partT
    rw [List.getElem?_append_right (by omega), hl, Nat.sub_self, List.getElem?_drop, Nat.add_zero, List.getElem?_eq_getElem h]
  rw [tokRows, List.getD_eq_getElem?_getD, List.getElem?_map, e, List.getD_eq_getElem?_getD, List.getElem?_eq_getElem h]
  rfl
theorem partT_set (d k : Nat) (l : List Tok) (h : k < l.length) : (tokRows (partT d k l)).set k [Si (l.getD k ([], 0)).1, Ii (((l.getD k ([], 0)).2 : Int) + d)] = tokRows (partT d (k + 1) l) := by
  have e0 : l.getD k ([], 0) = l[k] := by rw [List.getD_eq_getElem?_getD, List.getElem?_eq_getElem h]; rfl
  have hl : ((l.take k).map (shTok d)).length = k := by rw [List.length_map, List.length_take]; omega
  rw [e0]
  unfold partT tokRows
  rw [List.map_append, List.map_append, List.set_append_right _ _ (by rw [List.length_map, hl]; omega), List.length_map, hl, Nat.sub_self, List.drop_eq_getElem_cons h, List.map_cons, List.set_cons_zero, List.take_add_one, List.getElem?_eq_getElem h, Option.toList_some, List.map_append, List.map_append, List.append_assoc]
  rfl
theorem partT_zero (d : Nat) (l : List Tok) : partT d 0 l = l := by simp [partT]
theorem partT_all (d : Nat) (l : List Tok) : partT d l.length l = l.map (shTok d) := by simp [partT]
theorem toks_off : ∀ (l : List UInt8) (o : Nat), ∀ y ∈ toks l o, y.2 ≤ o + l.length
  | [], o, y, h => by simp [toks] at h
  | b :: l, o, y, h => by
    have ih := toks_off l (o + 1)
    rw [toks] at h
    simp only [List.length_cons]
    split at h
    · have := ih y h; omega
    · unfold push at h
      split at h
      · simp at h; subst h; simp
      · split at h
        · rcases List.mem_cons.1 h with rfl | h
          · simp
          · have := ih y h; simp only [List.length_cons] at this ⊢; omega
        · split at h
          · rename_i e
            rcases List.mem_cons.1 h with rfl | h
            · simp
            · have := ih y (by rw [e]; exact List.mem_cons_of_mem _ h); simp only [List.length_cons] at this ⊢; omega
          · simp at h
end Go.Proofs.Ytilbfhldohibhaa
