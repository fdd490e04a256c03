import Derived.Test.YtilbfhldohibhaaAl12
import Derived.StillTail
set_option linter.unusedSimpArgs false
set_option linter.unusedVariables false
set_option linter.unnecessarySimpa false
namespace Go.AL
open Go

/-! ## Strings as lists of bytes -/
def BA (l : List UInt8) : ByteArray := ⟨l.toArray⟩
theorem BA_mk (l : List UInt8) : ByteArray.mk (List.toArray l) = BA l := rfl
theorem BA_of (s : ByteArray) : s = BA s.data.toList := by cases s; simp [BA]
theorem BA_size (l : List UInt8) : (BA l).size = l.length := rfl
theorem BA_data (l : List UInt8) : (BA l).data.toList = l := by simp [BA]
theorem BA_toList (l : List UInt8) : (BA l).toList = l := by rw [ByteArray.toList_eq, BA_data]
theorem BA_extract (l : List UInt8) (a b : Nat) : (BA l).extract a b = BA ((l.drop a).take (b - a)) := ByteArray.extract_mk l a b
theorem BA_append (l m : List UInt8) : BA l ++ BA m = BA (l ++ m) := ByteArray.mk_append_mk l m
theorem BA_inj {l m : List UInt8} (h : BA l = BA m) : l = m := by rw [← BA_data l, ← BA_data m, h]
theorem BA_empty : ByteArray.empty = BA [] := rfl

/-- the string value of a list of bytes; the int value -/
abbrev Sv (l : List UInt8) : AV := .im (.v (.string (BA l)))
abbrev Iv (n : Int) : AV := .im (.v (.int .i64 n))
abbrev Bv (b : Bool) : AV := .im (.v (.bool b))
abbrev Si (l : List UInt8) : IV := .v (.string (BA l))
abbrev Ii (n : Int) : IV := .v (.int .i64 n)

attribute [go_sem] BA_mk BA_size BA_data BA_toList BA_extract BA_append

/-! ## An own row is given up: from here on nobody changes it -/
mutual
/-- what names row b of the own heap becomes an immutable slice -/
def frz (b es0 : Nat) (rows : List (List IV)) : AV → AV
  | .os b' es i n => bif Nat.beq b' b then bif Nat.beq es es0 then .im (.sl es ((rows.drop i).take n)) else .top else .os b' es i n
  | .oe b' es i j => bif Nat.beq b' b then .top else .oe b' es i j
  | .ob b' o => bif Nat.beq b' b then .top else .ob b' o
  | .fn f caps => .fn f (frzs b es0 rows caps)
  | .agg cs => .agg (frzs b es0 rows cs)
  | .tup cs => .tup (frzs b es0 rows cs)
  | .opt g x => .opt g (frz b es0 rows x)
  | .im x => .im x
  | .ar x => .ar x
  | .top => .top
def frzs (b es0 : Nat) (rows : List (List IV)) : List AV → List AV
  | [] => []
  | x :: xs => frz b es0 rows x :: frzs b es0 rows xs
end
mutual
/-- and this is owed: its rows are there -/
def frzC (b : Nat) (rows : List (List IV)) : AV → Prop
  | .os b' _ i n => bif Nat.beq b' b then i + n ≤ rows.length else True
  | .fn _ caps => frzCs b rows caps
  | .agg cs => frzCs b rows cs
  | .tup cs => frzCs b rows cs
  | .opt _ x => frzC b rows x
  | _ => True
def frzCs (b : Nat) (rows : List (List IV)) : List AV → Prop
  | [] => True
  | x :: xs => frzC b rows x ∧ frzCs b rows xs
end

def frzE (b es0 : Nat) (rows : List (List IV)) : Env → Env
  | [] => []
  | (i, x) :: r => (i, frz b es0 rows x) :: frzE b es0 rows r
def frzEC (b : Nat) (rows : List (List IV)) : Env → Prop
  | [] => True
  | (_, x) :: r => frzC b rows x ∧ frzEC b rows r
def frzH (b es0 : Nat) (rows : List (List IV)) : Heap → Heap
  | [] => []
  | (j, .var e cs) :: r => bif Nat.beq j b then frzH b es0 rows r else (j, .var e (frzs b es0 rows cs)) :: frzH b es0 rows r
  | (j, .vec e es rs) :: r => bif Nat.beq j b then frzH b es0 rows r else (j, .vec e es rs) :: frzH b es0 rows r
def frzHC (b : Nat) (rows : List (List IV)) : Heap → Prop
  | [] => True
  | (_, .var _ cs) :: r => frzCs b rows cs ∧ frzHC b rows r
  | (_, .vec _ _ _) :: r => frzHC b rows r

section
variable {w : World} {φ φ' : Phi} {I I' : Nat → Prop} {b : Nat} {es : Nat} {rows : List (List IV)}

mutual
theorem frz_den (hφ : ∀ b', b' ≠ b → φ' b' = φ b') (hI : ∀ g, I g → I' g) (hb : (φ b = some none ∧ rows = []) ∨ ∃ g vss, φ b = some (some g) ∧ I' g ∧ IV.denss w I rows vss ∧ (∀ vs ∈ vss, vs.length = es) ∧ cellsAt w g 0 vss.flatten) : ∀ (x : AV) (u : Value), frzC b rows x → AV.den w φ I x u → AV.den w φ' I' (frz b es rows x) u
  | .os b' es' i n, u, h, hx => by
    simp only [frz, frzC] at h ⊢
    cases hq : Nat.beq b' b with
    | true =>
      rw [hq] at h
      have := Nat.eq_of_beq_eq_true hq
      subst this
      cases hqe : Nat.beq es' es with
      | false => simp only [cond_true, cond_false, AV.den]
      | true =>
        have hese := Nat.eq_of_beq_eq_true hqe
        subst hese
        simp only [cond_true] at h ⊢
        simp only [AV.den] at hx
        have hln : ((rows.drop i).take n).length = n := by rw [List.length_take, List.length_drop]; omega
        rcases hx with ⟨h1, rfl, rfl, rfl⟩ | ⟨g', c, h1, rfl, h2, h3, h4⟩
        · simp only [AV.den, IV.den, List.take_zero]
          exact ⟨none, 0, [], rfl, by simp, by simp only [IV.denss], by simp, fun e => absurd rfl e⟩
        · rcases hb with ⟨hb, _⟩ | ⟨g, vss, hb, hg, hd, hl, hc⟩
          · rw [hb] at h1; cases h1
          rw [hb] at h1
          cases h1
          have hvl := denss_len rows vss hd
          simp only [AV.den, IV.den]
          refine ⟨_, c, (vss.drop i).take n, by rw [hln], by rw [hln]; exact h2, ?_, fun vs hv => hl vs (List.mem_of_mem_drop (List.mem_of_mem_take hv)), fun _ => ⟨g', i * es', rfl, hg, ?_⟩⟩
          · exact IV.denss_mono (fun _ _ => rfl) hI _ _ (denss_take n _ _ (denss_drop i _ _ hd))
          · rw [flat_take n _ es' (fun vs hv => hl vs (List.mem_of_mem_drop hv)) (by rw [List.length_drop]; omega), flat_drop i vss es' hl (by omega)]
            have := (hc.drop (i * es')).take (n * es')
            rw [Nat.zero_add] at this
            exact this
    | false =>
      simp only [cond_false]
      simp only [AV.den] at hx ⊢
      rw [hφ b' (by intro e; subst e; simp at hq)]
      exact hx
  | .oe b' es' i j, u, _, hx => by
    simp only [frz]
    cases hq : Nat.beq b' b with
    | true => simp only [cond_true, AV.den]
    | false =>
      simp only [cond_false]
      simp only [AV.den] at hx ⊢
      rw [hφ b' (by intro e; subst e; simp at hq)]
      exact hx
  | .ob b' o, u, _, hx => by
    simp only [frz]
    cases hq : Nat.beq b' b with
    | true => simp only [cond_true, AV.den]
    | false =>
      simp only [cond_false]
      simp only [AV.den] at hx ⊢
      rw [hφ b' (by intro e; subst e; simp at hq)]
      exact hx
  | .fn f caps, u, h, hx => by simp only [frz, frzC] at h ⊢; simp only [AV.den] at hx ⊢; obtain ⟨us, h1, h2⟩ := hx; exact ⟨us, frzs_den hφ hI hb caps us h h1, h2⟩
  | .agg cs, u, h, hx => by simp only [frz, frzC] at h ⊢; simp only [AV.den] at hx ⊢; obtain ⟨us, h1, h2⟩ := hx; exact ⟨us, frzs_den hφ hI hb cs us h h1, h2⟩
  | .tup cs, u, h, hx => by simp only [frz, frzC] at h ⊢; simp only [AV.den] at hx ⊢; obtain ⟨us, h1, h2⟩ := hx; exact ⟨us, frzs_den hφ hI hb cs us h h1, h2⟩
  | .opt q x, u, h, hx => by simp only [frz, frzC] at h ⊢; simp only [AV.den] at hx ⊢; exact ⟨fun hq => frz_den hφ hI hb x u h (hx.1 hq), hx.2⟩
  | .im x, u, _, hx => by simp only [frz]; simp only [AV.den] at hx ⊢; exact IV.den_mono (fun _ _ => rfl) hI x u hx
  | .ar x, u, _, hx => by simp only [frz]; simp only [AV.den] at hx ⊢; obtain ⟨us, h1, h2⟩ := hx; exact ⟨us, IV.dens_mono (fun _ _ => rfl) hI x us h1, h2⟩
  | .top, _, _, _ => by simp only [frz, AV.den]
theorem frzs_den (hφ : ∀ b', b' ≠ b → φ' b' = φ b') (hI : ∀ g, I g → I' g) (hb : (φ b = some none ∧ rows = []) ∨ ∃ g vss, φ b = some (some g) ∧ I' g ∧ IV.denss w I rows vss ∧ (∀ vs ∈ vss, vs.length = es) ∧ cellsAt w g 0 vss.flatten) : ∀ (xs : List AV) (us : List Value), frzCs b rows xs → AV.dens w φ I xs us → AV.dens w φ' I' (frzs b es rows xs) us
  | [], us, _, h => by simpa only [frzs, AV.dens] using h
  | x :: xs, us, h, hx => by
    simp only [frzs, frzCs] at h ⊢
    simp only [AV.dens] at hx ⊢
    obtain ⟨u, us', e, h1, h2⟩ := hx
    exact ⟨u, us', e, frz_den hφ hI hb x u h.1 h1, frzs_den hφ hI hb xs us' h.2 h2⟩
end

theorem lk_frzH_same : ∀ (H : Heap), lk (frzH b es rows H) b = none
  | [] => rfl
  | (j, .var e cs) :: r => by
    simp only [frzH]
    cases hq : Nat.beq j b with
    | true => simpa using lk_frzH_same r
    | false => simpa [lk, hq] using lk_frzH_same r
  | (j, .vec e es' rs) :: r => by
    simp only [frzH]
    cases hq : Nat.beq j b with
    | true => simpa using lk_frzH_same r
    | false => simpa [lk, hq] using lk_frzH_same r
def frzO (b es0 : Nat) (rows : List (List IV)) : Ob → Ob
  | .var e cs => .var e (frzs b es0 rows cs)
  | .vec e es rs => .vec e es rs
theorem lk_frzH_other : ∀ (H : Heap) (b' : Nat), b' ≠ b → lk (frzH b es rows H) b' = (lk H b').map (frzO b es rows)
  | [], _, _ => rfl
  | (j, .var e cs) :: r, b', hne => by
    simp only [frzH]
    cases hq : Nat.beq j b with
    | true =>
      have hjb := Nat.eq_of_beq_eq_true hq
      have hq2 : Nat.beq j b' = false := by
        cases hq2 : Nat.beq j b' with
        | false => rfl
        | true => exact absurd ((Nat.eq_of_beq_eq_true hq2).symm.trans hjb) hne
      simp only [cond_true, lk, hq2, cond_false]
      exact lk_frzH_other r b' hne
    | false =>
      simp only [cond_false, lk]
      cases hq2 : Nat.beq j b' with
      | true => simp [frzO]
      | false => simpa using lk_frzH_other r b' hne
  | (j, .vec e es' rs) :: r, b', hne => by
    simp only [frzH]
    cases hq : Nat.beq j b with
    | true =>
      have hjb := Nat.eq_of_beq_eq_true hq
      have hq2 : Nat.beq j b' = false := by
        cases hq2 : Nat.beq j b' with
        | false => rfl
        | true => exact absurd ((Nat.eq_of_beq_eq_true hq2).symm.trans hjb) hne
      simp only [cond_true, lk, hq2, cond_false]
      exact lk_frzH_other r b' hne
    | false =>
      simp only [cond_false, lk]
      cases hq2 : Nat.beq j b' with
      | true => simp [frzO]
      | false => simpa using lk_frzH_other r b' hne
theorem frzHC_lk : ∀ (H : Heap), frzHC b rows H → ∀ b' e cs, lk H b' = some (.var e cs) → frzCs b rows cs
  | [], _, _, _, _, h => by simp [lk] at h
  | (j, .var e0 cs0) :: r, hc, b', e, cs, h => by
    simp only [frzHC] at hc
    simp only [lk] at h
    cases hq : Nat.beq j b' with
    | true => rw [hq] at h; simp at h; obtain ⟨_, rfl⟩ := h; exact hc.1
    | false => rw [hq] at h; exact frzHC_lk r hc.2 b' e cs h
  | (j, .vec _ _ _) :: r, hc, b', e, cs, h => by
    simp only [frzHC] at hc
    simp only [lk] at h
    cases hq : Nat.beq j b' with
    | true => rw [hq] at h; simp at h
    | false => rw [hq] at h; exact frzHC_lk r hc b' e cs h

theorem St.freeze {B : Bs} {H : Heap} {el : TypeId} (h : St B φ I H w) (hl : lk H b = some (.vec el es rows)) (hC : frzHC b rows H) :
    ∃ φ' I', St B φ' I' (frzH b es rows H) w ∧ ∀ (x : AV) (u : Value), frzC b rows x → AV.den w φ I x u → AV.den w φ' I' (frz b es rows x) u := by
  obtain ⟨p, hp⟩ : ∃ p, φ b = some p := by
    have := h.real.dom b
    rw [hl] at this
    cases hq : φ b with
    | none => rw [hq] at this; cases this
    | some p => exact ⟨p, rfl⟩
  have hat := h.real.own b _ p hl hp
  simp only [Ob.at] at hat
  let φ' : Phi := fun i => if i = b then none else φ i
  let I' : Nat → Prop := fun g => I g ∨ φ b = some (some g)
  have hφ : ∀ b', b' ≠ b → φ' b' = φ b' := fun b' hb => by simp [φ', hb]
  have hI : ∀ g, I g → I' g := fun g hg => .inl hg
  have hb : (φ b = some none ∧ rows = []) ∨ ∃ g vss, φ b = some (some g) ∧ I' g ∧ IV.denss w I rows vss ∧ (∀ vs ∈ vss, vs.length = es) ∧ cellsAt w g 0 vss.flatten := by
    rcases hat with ⟨rfl, hr⟩ | ⟨g, vss, rest, rfl, hheap, hd, hlv⟩
    · exact .inl ⟨hp, hr⟩
    · refine .inr ⟨g, vss, hp, .inr hp, hd, hlv, fun j u hu => ?_⟩
      have hlt : j < vss.flatten.length := by
        rcases Nat.lt_or_ge j vss.flatten.length with h | h
        · exact h
        · rw [List.getElem?_eq_none h] at hu; cases hu
      simp only [World.cell?, hheap, Option.isSome_none, Bool.false_eq_true, if_false, List.getElem?_toArray, Nat.zero_add]
      rw [List.getElem?_append_left hlt]; exact hu
  refine ⟨φ', I', ⟨⟨fun b' => ?_, fun b' o p' hl' hp' => ?_, fun b' g hp' => ?_, fun b1 b2 g h1 h2 => ?_, fun g hg => ?_⟩, h.ext, fun b' g hp' => ?_, fun g hg => ?_, fun g hg => .inl (h.immo g hg), fun b' g el' cs' hlt h0 hl' => ?_⟩, fun x u hc hx => frz_den hφ hI hb x u hc hx⟩
  · by_cases hbb : b' = b
    · subst hbb; rw [lk_frzH_same]; simp [φ']
    · rw [hφ b' hbb, lk_frzH_other H b' hbb, Option.isSome_map]; exact h.real.dom b'
  · by_cases hbb : b' = b
    · subst hbb; rw [lk_frzH_same] at hl'; cases hl'
    · rw [hφ b' hbb] at hp'
      rw [lk_frzH_other H b' hbb] at hl'
      cases hq : lk H b' with
      | none => rw [hq] at hl'; cases hl'
      | some o1 =>
        rw [hq] at hl'
        simp only [Option.map_some, Option.some.injEq] at hl'
        subst hl'
        have hown := h.real.own b' o1 p' hq hp'
        cases o1 with
        | var e cs =>
          simp only [Ob.at, frzO] at hown ⊢
          obtain ⟨g, us, h1, h2, h3, h4⟩ := hown
          exact ⟨g, us, h1, h2, frzs_den hφ hI hb cs us (frzHC_lk H hC b' e cs hq) h3, h4⟩
        | vec e es' rs =>
          simp only [Ob.at, frzO] at hown ⊢
          rcases hown with h' | ⟨g, vss, rest, h1, h2, h3, h4⟩
          · exact .inl h'
          · exact .inr ⟨g, vss, rest, h1, h2, IV.denss_mono (fun _ _ => rfl) hI rs vss h3, h4⟩
  · by_cases hbb : b' = b
    · subst hbb; simp [φ'] at hp'
    · rw [hφ b' hbb] at hp'
      have := h.real.off b' g hp'
      refine ⟨fun hg => hg.elim this.1 (fun e => hbb (h.real.inj b' b g hp' e)), this.2⟩
  · by_cases e1 : b1 = b
    · subst e1; simp [φ'] at h1
    · by_cases e2 : b2 = b
      · subst e2; simp [φ'] at h2
      · rw [hφ b1 e1] at h1
        rw [hφ b2 e2] at h2
        exact h.real.inj b1 b2 g h1 h2
  · rcases hg with hg | hg
    · exact h.real.imm g hg
    · exact (h.real.off b g hg).2
  · by_cases hbb : b' = b
    · subst hbb; simp [φ'] at hp'
    · rw [hφ b' hbb] at hp'; exact h.ownx b' g hp'
  · rcases hg with hg | hg
    · exact h.immx g hg
    · exact .inr (h.ownx b g hg)
  · by_cases hbb : b' = b
    · subst hbb; rw [lk_frzH_same] at hl'; cases hl'
    · rw [lk_frzH_other H b' hbb] at hl'
      rw [hφ b' hbb]
      cases hq : lk H b' with
      | none => rw [hq] at hl'; cases hl'
      | some o1 =>
        rw [hq] at hl'
        cases o1 with
        | var e cs => exact h.phx b' g e cs hlt h0 hq
        | vec e es' rs => simp [frzO] at hl'

theorem frzE_lk : ∀ (E : Env), frzEC b rows E → ∀ i x, lk (frzE b es rows E) i = some x → ∃ y, lk E i = some y ∧ frzC b rows y ∧ x = frz b es rows y
  | [], _, i, x, h => by simp [frzE, lk] at h
  | (j, y) :: r, hc, i, x, h => by
    simp only [frzEC] at hc
    simp only [frzE, lk] at h ⊢
    cases hq : Nat.beq j i with
    | true => rw [hq] at h; simp at h ⊢; exact ⟨hc.1, h.symm⟩
    | false => rw [hq] at h; simpa using frzE_lk r hc.2 i x h

theorem Sim.freeze {C : Cx} {E : Env} {H : Heap} {a : Act} {el : TypeId} (h : Sim C φ I E H a w) (hl : lk H b = some (.vec el es rows)) (hEC : frzEC b rows E) (hC : frzHC b rows H) :
    ∃ φ' I', Sim C φ' I' (frzE b es rows E) (frzH b es rows H) a w := by
  obtain ⟨φ', I', hS, hd⟩ := h.st.freeze hl hC
  refine ⟨φ', I', h.dfr, h.siz, fun i x hx => ?_, hS⟩
  obtain ⟨y, hy, hyc, rfl⟩ := frzE_lk E hEC i x hx
  obtain ⟨u, hu, hdu⟩ := h.env i y hy
  exact ⟨u, hu, hd y u hyc hdu⟩
end

section
variable {C : Cx} {K : List PK} {E : Env} {H : Heap}
theorem AE.freeze {e : Exit} (b : Nat) {el : TypeId} {es : Nat} {rows : List (List IV)} (hl : lk H b = some (.vec el es rows)) (hC : frzHC b rows H) (hEC : frzEC b rows E) (h : AE C e K (frzE b es rows E) (frzH b es rows H)) : AE C e K E H := by
  unfold AE at h ⊢
  intro φ I a w hs
  obtain ⟨φ', I', hs'⟩ := hs.freeze hl hEC hC
  exact h φ' I' a w hs'
theorem AQ.freeze {ds : List (Nat × Nat)} {i : Nat} {rest : List Oper} (b : Nat) {el : TypeId} {es : Nat} {rows : List (List IV)} (hl : lk H b = some (.vec el es rows)) (hC : frzHC b rows H) (hEC : frzEC b rows E) (h : AQ C ds i rest K (frzE b es rows E) (frzH b es rows H)) : AQ C ds i rest K E H := by
  unfold AQ at h ⊢
  intro ops h1 h2 φ I a w hs
  obtain ⟨φ', I', hs'⟩ := hs.freeze hl hEC hC
  exact h ops h1 h2 φ' I' a w hs'
end
attribute [go_sem] frz frzs frzC frzCs frzE frzEC frzH frzHC
end Go.AL
