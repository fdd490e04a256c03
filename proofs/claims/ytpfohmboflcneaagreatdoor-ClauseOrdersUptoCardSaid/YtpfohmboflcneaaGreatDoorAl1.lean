import Derived.WalkKit
import Derived.Scope
import Derived.StillTail
import Derived.TacticsIn
import Derived.OrdersIn
import Derived.RangeFuncCalls
import Derived.RangeFuncRecord
import Derived.ChangeKeysEq
import Derived.Laws.StructEq
import Derived.Laws.BytesString
import Derived.Great.BuildSlice
set_option linter.unusedSimpArgs false
set_option linter.unusedVariables false
set_option linter.unnecessarySimpa false
section
namespace Go.AL
open Go
abbrev Fw (r : Option Nat) : Fence := { Fence.wide with round := r }
abbrev wpR (r : Option Nat) (P : Program) (c : Code) (Q : Exit → Act → World → Prop) (a : Act) (w : World) : Prop := c.wpIn (Fw r) 3 P Q a w
section
variable {r : Option Nat} {P : Program} {Q : Exit → Act → World → Prop} {a : Act} {w : World}
theorem callsR {n : Nat} {f : FuncId} {args : Array Value} {R : Ending → World → Prop} (h : Calls P f args w R) : CallsIn (Fw r) n P f args w R := by
  have h1 : CallsIn Fence.wide n P f args w R := callsIn_wide.2 h
  exact h1
theorem rowsR {n : Nat} {row : String} {args : Array Value} {R : Value → World → Prop} (h : Rows P row args w R) : RowsIn (Fw r) n P row args w R := by
  intro c cs _
  obtain ⟨v, w', h1, h2⟩ := h c cs
  exact ⟨v, w', h1, stepsIn_wide.2 h2⟩
def noDefer (o : Oper) : Bool := match o.op with
  | .defer _ => false
  | _ => true
theorem oper_wpR {o : Oper} {K : Act → World → Prop} (hd : noDefer o = true) (h : o.wp P a w K Q) : o.wpIn (Fw r) 3 P a w K Q := by
  refine ⟨fun _ _ => trivial, ?_⟩
  have hs : o.semAt (Fw r).round a.eval = execOp a.eval o := Oper.semAt_eq _ _ _ fun c hc => by simp [noDefer, hc] at hd
  rw [hs]
  unfold Oper.wp at h
  generalize (execOp a.eval o).run P w = q at *
  cases q with
  | ok x w' =>
    cases x <;> simp only [Oper.upon, Oper.uponIn] at h ⊢ <;> first
      | exact h
      | exact ⟨fun h => (by cases h), callsR h⟩
      | exact ⟨fun h => (by cases h), rowsR h⟩
      | exact h.elim
  | halt x w' => cases x <;> simp only [Oper.upon, Oper.uponIn] at h ⊢ <;> first | exact h | exact h.elim
def oStep (P : Program) (o : Oper) (a : Act) (w : World) (K : Act → World → Prop) (Q : Exit → Act → World → Prop) : Prop :=
  o.wp P a w K Q ∨ ∃ (l : Nat) (f : FuncId) (tmps : Array Value) (as bd : Code), (execOp a.eval o).run P w = .ok (.round l f tmps as bd) w ∧
    RoundIn Fence.wide 3 P l f tmps as bd w fun
      | .returned v, w'' => K (a.put o.dst v) w''
      | .panicked c, w'' => Q (.panic c) a w''
      | .outgrown, _ => LetsOut Q
theorem roundsR {n m : Nat} {l : Nat} {f : FuncId} {tmps : Array Value} {as bd : Code} {R : Ending → World → Prop} (h : RoundIn Fence.wide n P l f tmps as bd w R) : RoundIn (Fw r) m P l f tmps as bd w R :=
  ⟨trivial, fun c cs _ => h.2 c cs (fun d hd => by cases hd)⟩
theorem oStep_in {o : Oper} {K : Act → World → Prop} (hd : noDefer o = true) (h : oStep P o a w K Q) : o.wpIn (Fw r) 3 P a w K Q := by
  rcases h with h | ⟨l, f, tmps, as, bd, hr, h⟩
  · exact oper_wpR hd h
  · refine ⟨fun _ _ => trivial, ?_⟩
    have hs : o.semAt (Fw r).round a.eval = execOp a.eval o := Oper.semAt_eq _ _ _ fun c hc => by simp [noDefer, hc] at hd
    rw [hs, hr, Oper.uponIn_round]
    exact ⟨fun h => (by cases h), roundsR h⟩
theorem oStep_mono {o : Oper} {K K' : Act → World → Prop} (h : ∀ a w, K a w → K' a w) (hh : oStep P o a w K Q) : oStep P o a w K' Q := by
  rcases hh with hh | ⟨l, f, tmps, as, bd, hr, hh⟩
  · exact .inl (Oper.wp_mono h hh)
  · refine .inr ⟨l, f, tmps, as, bd, hr, hh.mono fun e w' he => ?_⟩
    cases e with
    | returned v => exact h _ _ he
    | panicked c => exact he
    | outgrown => exact he
def wpL (P : Program) (ops : Array Oper) (Q : Exit → Act → World → Prop) : List Oper → Act → World → Prop
  | [], a, w => Q .normal a w
  | o :: rest, a, w => if Region.wanted o (yielded ops a.tmps) then oStep P o a w (wpL P ops Q rest) Q else wpL P ops Q rest (a.put o.dst undef) w
theorem wpL_nil {ops : Array Oper} (h : Q .normal a w) : wpL P ops Q [] a w := h
theorem wpL_step {ops : Array Oper} {o : Oper} {rest : List Oper}
    (h : ∀ K : Act → World → Prop, (∀ a w, wpL P ops Q rest a w → K a w) → if Region.wanted o (yielded ops a.tmps) then o.wp P a w K Q else K (a.put o.dst undef) w) : wpL P ops Q (o :: rest) a w := by
  have := h _ (fun _ _ h => h)
  simp only [wpL]
  split
  · rename_i hw; rw [if_pos hw] at this; exact .inl this
  · rename_i hw; rw [if_neg hw] at this; exact this
theorem wpL_stepO {ops : Array Oper} {o : Oper} {rest : List Oper}
    (h : ∀ K : Act → World → Prop, (∀ a w, wpL P ops Q rest a w → K a w) → if Region.wanted o (yielded ops a.tmps) then oStep P o a w K Q else K (a.put o.dst undef) w) : wpL P ops Q (o :: rest) a w := h _ (fun _ _ h => h)
theorem wpL_ops {ops : Array Oper} : ∀ (l : List Oper) (k : Nat), (∀ j, l[j]? = ops[k + j]?) → l.all noDefer = true → ∀ (a : Act) (w : World), wpL P ops Q l a w → wpOpsIn (Fw r) 3 P ops Q (List.range' k l.length) a w
  | [], _, _, _, _, _, h => h
  | o :: l, k, hl, hd, a, w, h => by
    have h0 : ops[k]? = some o := by simpa using (hl 0).symm
    simp only [List.all_cons, Bool.and_eq_true] at hd
    have ih := wpL_ops l (k + 1) (fun j => by have := hl (j + 1); simpa [Nat.add_assoc, Nat.add_comm 1 j] using this) hd.2
    rw [List.length_cons, List.range'_succ]
    simp only [wpOpsIn, h0]
    simp only [wpL] at h
    split
    · rename_i hw
      rw [if_pos hw] at h
      exact Oper.wpIn_mono (fun a' w' h' => ih a' w' h') (oStep_in hd.1 h)
    · rename_i hw
      rw [if_neg hw] at h
      exact ⟨fun _ _ => trivial, ih _ _ h⟩
theorem wpR_region {id : Nat} {ops : Array Oper} (hd : ops.toList.all noDefer = true) (h : wpL P ops Q ops.toList a w) : wpR r P (.region id ops false) Q a w := by
  refine wpIn_region ?_
  have := wpL_ops (r := r) (ops := ops) ops.toList 0 (by simp) hd a w h
  rwa [Array.length_toList, ← List.range_eq_range'] at this
def opA (P : Program) (ops : Array Oper) (Q : Exit → Act → World → Prop) (i : Nat) (K : Act → World → Prop) (a : Act) (w : World) : Prop :=
  match ops[i]? with
  | none => K a w
  | some o => if Region.wanted o (yielded ops a.tmps) then oStep P o a w K Q else K (a.put o.dst undef) w
theorem opA_mono {ops : Array Oper} {i : Nat} {K K' : Act → World → Prop} (h : ∀ a w, K a w → K' a w) (hh : opA P ops Q i K a w) : opA P ops Q i K' a w := by
  unfold opA at *
  split
  · exact h _ _ (by simpa [*] using hh)
  · rename_i o ho
    simp only [ho] at hh
    split
    · rename_i hw; simp only [hw, if_true] at hh; exact oStep_mono h hh
    · rename_i hw; simp only [hw] at hh; exact h _ _ hh
def wpA (P : Program) (md : Region.Mode) (ops : Array Oper) (Q : Exit → Act → World → Prop) : Nat → Array Bool → Act → World → Prop
  | 0, listed, a, w => Region.ready md ops listed = [] ∧ Q .normal a w
  | fuel + 1, listed, a, w => (Region.ready md ops listed = [] → Q .normal a w) ∧ ∀ i ∈ Region.ready md ops listed, opA P ops Q i (wpA P md ops Q fuel (listed.setIfInBounds i true)) a w
theorem wpA_in {md : Region.Mode} {ops : Array Oper} (hd : ops.toList.all noDefer = true) : ∀ (fuel : Nat) (listed : Array Bool) (a : Act) (w : World), wpA P md ops Q fuel listed a w → wpAnyIn (Fw r) 3 P md ops Q fuel listed a w
  | 0, _, _, _, h => h
  | fuel + 1, listed, a, w, h => by
    refine ⟨h.1, fun i hi => ?_⟩
    have hi := h.2 i hi
    unfold opA at hi
    unfold wpOpIn
    split
    · rename_i hn; simp only [hn] at hi; exact wpA_in hd fuel _ _ _ hi
    · rename_i o ho
      simp only [ho] at hi
      have hdo : noDefer o = true := List.all_eq_true.1 hd o (by rw [Array.mem_toList_iff]; exact Array.mem_of_getElem? ho)
      split
      · rename_i hw; rw [if_pos hw] at hi; exact Oper.wpIn_mono (fun a' w' h' => wpA_in hd fuel _ _ _ h') (oStep_in hdo hi)
      · rename_i hw; rw [if_neg hw] at hi; exact ⟨fun _ _ => trivial, wpA_in hd fuel _ _ _ hi⟩
theorem wpR_draw {id : Nat} {ops : Array Oper} (hm : P.follows .mixedOrders = true) (hd : ops.toList.all noDefer = true)
    (h : wpA P .any ops Q ops.size (Array.replicate ops.size false) a { w with drawn := w.drawn + 1 }) : wpR r P (.region id ops true) Q a w := wpIn_region_any hm (wpA_in hd _ _ _ _ h)
theorem wpA_seq {md : Region.Mode} {ops : Array Oper} : ∀ (l : List Oper) (k : Nat) (listed : Array Bool) (a : Act) (w : World), (∀ j, l[j]? = ops[k + j]?) →
    Region.seqB md ops l.length k listed = true → wpL P ops Q l a w → wpA P md ops Q l.length listed a w
  | [], _, _, _, _, _, hB, h => ⟨by simpa [Region.seqB] using hB, h⟩
  | o :: l, k, listed, a, w, hl, hB, h => by
    have h0 : ops[k]? = some o := by simpa using (hl 0).symm
    simp only [List.length_cons, Region.seqB, Bool.and_eq_true, decide_eq_true_eq] at hB
    refine ⟨fun h1 => (by rw [hB.1] at h1; cases h1), fun i hi => ?_⟩
    rw [hB.1] at hi
    have hik : i = k := by simpa using hi
    subst hik
    have hw : opA P ops Q i (wpL P ops Q l) a w := by unfold opA; simp only [h0]; exact h
    exact opA_mono (fun a' w' h' => wpA_seq l (i + 1) _ a' w' (fun j => by have := hl (j + 1); simpa [Nat.add_assoc, Nat.add_comm 1 j] using this) hB.2 h') hw
theorem stepR_scope {b : Frame} {k : List Item} {cs : List Frame} {c : Code} : step P (lone (b.atR a (.code (.scope c) :: k)) cs w) = .next (lone (b.atR a (.code c :: .inScope c :: k)) cs w) :=
  step_lone_go (by simp [stepG, stepG.exec, Frame.atR])
theorem stepR_inScope {b : Frame} {k : List Item} {cs : List Frame} {c : Code} : step P (lone (b.atR a (.inScope c :: k)) cs w) = .next (lone (b.atR a k) cs w) :=
  step_lone_go (by simp [stepG, stepG.exec, Frame.atR])
theorem wpR_scope {c : Code} (h : wpR r P c (Exit.noGoto Q) a w) : wpR r P (.scope c) Q a w := by
  intro b k cs hro hb hr
  have h0 : (lone (b.atR a (.code (.scope c) :: k)) cs w).fenced P (Fw r) := fenced_calm hb hr rfl
  obtain ⟨e, a₁, w₁, hq, harr⟩ := h b (.inScope c :: k) cs hro hb hr
  have hx : ∀ id, exitTo id (.inScope c :: k) = exitTo id k := fun id => by simp [exitTo]
  cases e with
  | normal => exact ⟨.normal, a₁, w₁, hq, .head h0 stepR_scope (StepsIn.trans harr (.one (fenced_calm hb hr rfl) stepR_inScope))⟩
  | exit id =>
    exact ⟨.exit id, a₁, w₁, hq, fun k' hk => .head h0 stepR_scope (harr.1 k' (by rw [hx]; exact hk)), fun hr' hk => let ⟨k₁, h1, h2⟩ := harr.2 hr' (by rw [hx]; exact hk); ⟨k₁, h1, .head h0 stepR_scope h2⟩⟩
  | goto l => exact hq.elim
  | ret => exact ⟨_, a₁, w₁, hq, .of_steps (.one h0 stepR_scope) harr⟩
  | panic ch => exact ⟨_, a₁, w₁, hq, .of_steps (.one h0 stepR_scope) harr⟩
  | outgrown => exact ⟨_, a₁, w₁, hq, .of_steps (.one h0 stepR_scope) harr⟩
theorem wpR_loop {c : Code} {α : Type} (J : α → Act → World → Prop) (μ : α → Nat)
    (round : ∀ p a w, J p a w → wpR r P c (Exit.then (fun a' w' => ∃ p', μ p' < μ p ∧ J p' a' w') Q) a w) (p0 : α) (a : Act) (w : World) (h0 : J p0 a w) : wpR r P (.loop c) Q a w := by
  intro b k cs hro hb hr
  have key : ∀ n p a w, μ p = n → J p a w → ∃ e a' w', Q e a' w' ∧ ArrivesIn (Machine.fenced P (Fw r)) P (lone (b.atR a (.code c :: .inLoop c :: k)) cs w) b k cs e a' w' := by
    intro n
    induction n using Nat.strongRecOn with
    | _ n ih =>
      intro p a w hn hI
      obtain ⟨e, a₁, w₁, hq, harr⟩ := round p a w hI b (.inLoop c :: k) cs hro hb hr
      cases e with
      | normal =>
        obtain ⟨p', hlt, hI₁⟩ := hq
        obtain ⟨e₂, a₂, w₂, hq₂, harr₂⟩ := ih (μ p') (hn ▸ hlt) p' a₁ w₁ rfl hI₁
        exact ⟨e₂, a₂, w₂, hq₂, .of_steps (StepsIn.trans harr (.one (fenced_calm hb hr rfl) stepR_inLoop)) harr₂⟩
      | exit id => exact ⟨_, a₁, w₁, hq, .pass (x := .inLoop c) rfl (fun _ _ => .inl (by simp)) harr⟩
      | goto l => exact ⟨_, a₁, w₁, hq, .pass (x := .inLoop c) rfl (fun _ _ => .inl (by simp)) harr⟩
      | ret => exact ⟨_, a₁, w₁, hq, .pass (x := .inLoop c) rfl (fun _ _ => .inl (by simp)) harr⟩
      | panic ch => exact ⟨_, a₁, w₁, hq, .pass (x := .inLoop c) rfl (fun _ _ => .inl (by simp)) harr⟩
      | outgrown => exact ⟨_, a₁, w₁, hq, .pass (x := .inLoop c) rfl (fun _ _ => .inl (by simp)) harr⟩
  obtain ⟨e, a', w', hq, harr⟩ := key _ p0 a w rfl h0
  exact ⟨e, a', w', hq, .of_steps (.one (fenced_calm hb hr rfl) stepR_loop) harr⟩
end
end Go.AL
end

section
namespace Go.AL
open Go
inductive IV where
  | v (x : Value)
  | sl (es : Nat) (rows : List (List IV))
  | pt (cs : List IV)
  | fn (f : FuncId) (fs caps : List IV)
def cellsAt (w : World) (g off : Nat) (us : List Value) : Prop := ∀ j u, us[j]? = some u → w.cell? ⟨g, off + j, none⟩ = some u
mutual
def IV.den (w : World) (I : Nat → Prop) : IV → Value → Prop
  | .v x, u => u = x ∧ x.oneCell' = true
  | .sl es rows, u => ∃ p c vss, u = .slice p rows.length c ∧ rows.length ≤ c ∧ IV.denss w I rows vss ∧ (∀ vs ∈ vss, vs.length = es) ∧
      (rows ≠ [] → ∃ g off, p = some ⟨g, off, none⟩ ∧ I g ∧ cellsAt w g off vss.flatten)
  | .pt cs, u => ∃ g off us, u = .pointer (some ⟨g, off, none⟩) ∧ I g ∧ IV.dens w I cs us ∧ cellsAt w g off us
  | .fn f fs caps, u => ∃ us vs, IV.dens w I fs us ∧ IV.dens w I caps vs ∧ u = .func (.func f) us.toArray vs.toArray
def IV.dens (w : World) (I : Nat → Prop) : List IV → List Value → Prop
  | [], us => us = []
  | x :: xs, us => ∃ u us', us = u :: us' ∧ IV.den w I x u ∧ IV.dens w I xs us'
def IV.denss (w : World) (I : Nat → Prop) : List (List IV) → List (List Value) → Prop
  | [], us => us = []
  | x :: xs, us => ∃ u us', us = u :: us' ∧ IV.dens w I x u ∧ IV.denss w I xs us'
end
inductive Sh where
  | cell (t : TypeId)
  | map (ks : List Value)
  | row (t : TypeId)
  | raw (o : List Value → Obj)
instance (n : Nat) : OfNat Sh n := ⟨.cell n⟩
instance : Coe TypeId Sh := ⟨.cell⟩
theorem Sh.lit (n : Nat) : (OfNat.ofNat n : Sh) = .cell n := rfl
def Mappy (o : Obj) : Prop := (∃ es c, o = .map es c) ∨ ∃ m s seen c, o = .mapIter m s seen c
def Births (es : Array MapEntry) (clock : Nat) : Prop := (es.toList.map (·.born)).Nodup ∧ ∀ e ∈ es.toList, e.born < clock
def Sh.has (w : World) (g : Nat) (us : List Value) : Sh → Prop
  | .cell e => w.heap[g]? = some (.cells us.toArray e (0, 0))
  | .map ks => ∃ es clock, w.heap[g]? = some (.map es clock) ∧ es.toList.map (·.key) = ks ∧ es.toList.map (·.val) = us ∧ Births es clock
  | .row e => ∃ rest : List Value, w.heap[g]? = some (.cells (us ++ rest).toArray e (0, 0))
  | .raw o => w.heap[g]? = some (o us) ∧ Mappy (o us)
def Sh.one (us : List Value) : Sh → Prop
  | .cell _ => ∀ x ∈ us, x.oneCell' = true
  | .map _ => True
  | .row _ => ∀ x ∈ us, x.oneCell' = true
  | .raw _ => True
theorem Sh.has.keep {w w' : World} {g : Nat} {us : List Value} {s : Sh} (h : s.has w g us) (hg : w'.heap[g]? = w.heap[g]?) : s.has w' g us := by
  cases s with
  | cell e => exact hg.trans h
  | map ks => obtain ⟨es, c, h1, h2⟩ := h; exact ⟨es, c, hg.trans h1, h2⟩
  | row e => obtain ⟨r, h1⟩ := h; exact ⟨r, hg.trans h1⟩
  | raw o => exact ⟨hg.trans h.1, h.2⟩
theorem Sh.has.ndef {w : World} {g : Nat} {us : List Value} {s : Sh} (h : s.has w g us) {x : Option (List Deferred)} (hd : w.heap[g]? = some (.deferred x)) : False := by
  cases s with
  | cell e => simp only [Sh.has] at h; rw [h] at hd; cases hd
  | map ks => obtain ⟨es, c, h1, _⟩ := h; rw [h1] at hd; cases hd
  | row e => obtain ⟨r, h1⟩ := h; rw [h1] at hd; cases hd
  | raw o =>
    obtain ⟨h1, h2⟩ := h
    rw [h1] at hd
    rcases h2 with ⟨_, _, h2⟩ | ⟨_, _, _, _, h2⟩ <;> rw [h2] at hd <;> cases hd
theorem Sh.has.fz {w : World} {g : Nat} {us : List Value} {s : Sh} (h : s.has w g us) {c : Array Value} {e : TypeId} {fz : Nat × Nat} (hd : w.heap[g]? = some (.cells c e fz)) : fz = (0, 0) := by
  cases s with
  | cell e => simp only [Sh.has] at h; rw [h] at hd; cases hd; rfl
  | map ks => obtain ⟨es, c, h1, _⟩ := h; rw [h1] at hd; cases hd
  | row e => obtain ⟨r, h1⟩ := h; rw [h1] at hd; cases hd; rfl
  | raw o =>
    obtain ⟨h1, h2⟩ := h
    rw [h1] at hd
    rcases h2 with ⟨_, _, h2⟩ | ⟨_, _, _, _, h2⟩ <;> rw [h2] at hd <;> cases hd
inductive WK where
  | iface (t : TypeId)
  | exact (u : Value)
def WK.rel : WK → Value → Value → Prop
  | .iface t, v, u => u = .iface t v
  | .exact u0, v, u => u = u0 ∧ v = u
inductive AV where
  | im (x : IV)
  | mp (b : Nat)
  | wr (k : WK) (x : AV)
  | ob (b off : Nat)
  | oe (b es i j : Nat)
  | os (b es i n : Nat)
  | fn (f : FuncId) (fs caps : List AV)
  | agg (cs : List AV)
  | ar (cs : List IV)
  | tup (vs : List AV)
  | opt (g : Bool) (x : AV)
  | top
abbrev Phi := Nat → Option (Option Nat)
def shaped (w : World) (g n : Nat) : Prop := ∃ c e, w.heap[g]? = some (.cells c e (0, 0)) ∧ n ≤ c.size
mutual
def AV.den (w : World) (φ : Phi) (I : Nat → Prop) : AV → Value → Prop
  | .im x, u => IV.den w I x u
  | .ob b off, u => ∃ g, φ b = some (some g) ∧ u = .pointer (some ⟨g, off, none⟩)
  | .oe b es i j, u => ∃ g, φ b = some (some g) ∧ u = .pointer (some ⟨g, i * es + j, none⟩)
  | .os b es i n, u => (φ b = some none ∧ i = 0 ∧ n = 0 ∧ u = .slice none 0 0) ∨
      ∃ g c, φ b = some (some g) ∧ u = .slice (some ⟨g, i * es, none⟩) n c ∧ n ≤ c ∧ c ≤ maxLen ∧ shaped w g ((i + c) * es)
  | .fn f fs caps, u => ∃ us vs, AV.dens w φ I fs us ∧ AV.dens w φ I caps vs ∧ u = .func (.func f) us.toArray vs.toArray
  | .agg cs, u => ∃ us, AV.dens w φ I cs us ∧ u = .agg us.toArray ∧ ∀ x ∈ us, x.oneCell' = true
  | .ar cs, u => ∃ us, IV.dens w I cs us ∧ u = .agg us.toArray
  | .tup vs, u => ∃ us, AV.dens w φ I vs us ∧ u = .tuple us.toArray
  | .opt g x, u => (g = true → AV.den w φ I x u) ∧ (g = false → u = undef)
  | .top, _ => True
  | .mp b, u => ∃ g, φ b = some (some g) ∧ u = .map (some g)
  | .wr k x, u => ∃ v, k.rel v u ∧ AV.den w φ I x v
def AV.dens (w : World) (φ : Phi) (I : Nat → Prop) : List AV → List Value → Prop
  | [], us => us = []
  | x :: xs, us => ∃ u us', us = u :: us' ∧ AV.den w φ I x u ∧ AV.dens w φ I xs us'
end
def child : Nat → Code → Code
  | 0, .seq a _ => a
  | 1, .seq _ b => b
  | 0, .cond _ a _ => a
  | 1, .cond _ _ b => b
  | 0, .block _ c => c
  | 0, .loop c => c
  | 0, .scope c => c
  | 0, .rangeFunc _ _ a _ => a
  | 1, .rangeFunc _ _ _ b => b
  | _, _ => .skip
def codeAt (fn : Func) : List Nat → Code
  | [] => fn.body.getD .skip
  | i :: p => child i (codeAt fn p)
inductive LpSt where
  | ready | busy
  | done (c : Code)
def LpSt.state : LpSt → LoopState
  | .ready => .ready
  | .busy => .busy
  | .done _ => .done
def LpSt.pend : LpSt → Option Code
  | .done c => some c
  | _ => none
inductive Ob where
  | var (elem : Sh) (cs : List AV)
  | vec (elem : TypeId) (es : Nat) (rows : List (List IV))
  | lp (l n : Nat) (st : LpSt) (fn : Func) (p : List Nat) (ps : List Tmp) (E : List (Nat × AV))
def lk {α : Type} : List (Nat × α) → Nat → Option α
  | [], _ => none
  | (j, x) :: r, i => bif Nat.beq j i then some x else lk r i
abbrev Env := List (Nat × AV)
abbrev Heap := List (Nat × Ob)
def Ob.at (w : World) (φ : Phi) (I : Nat → Prop) : Ob → Option Nat → Prop
  | .var elem cs, p => ∃ g us, p = some g ∧ elem.has w g us ∧ AV.dens w φ I cs us ∧ elem.one us
  | .vec elem es rows, p => (p = none ∧ rows = []) ∨
      ∃ g vss rest, p = some g ∧ w.heap[g]? = some (.cells (vss.flatten ++ rest).toArray elem (0, 0)) ∧ IV.denss w I rows vss ∧ (∀ vs ∈ vss, vs.length = es)
  | .lp l n st fn q ps E, p => p = some l ∧ ∃ (T : Array Value) (D : Nat) (fid : FuncId), T.size = n ∧
      w.heap[l]? = some (.loop { state := st.state, pending := st.pend, fn := fid, tmps := T, params := ps.toArray, assign := child 0 (codeAt fn q), body := child 1 (codeAt fn q), defers := D }) ∧
      ∀ i x, lk E i = some x → ∃ u, T[i]? = some u ∧ AV.den w φ I x u
structure Real (w : World) (φ : Phi) (I : Nat → Prop) (H : Heap) : Prop where
  dom : ∀ b, (φ b).isSome = (lk H b).isSome
  own : ∀ b o p, lk H b = some o → φ b = some p → o.at w φ I p
  off : ∀ b g, φ b = some (some g) → ¬ I g ∧ g < w.heap.size
  inj : ∀ b b' g, φ b = some (some g) → φ b' = some (some g) → b = b'
  imm : ∀ g, I g → g < w.heap.size
structure Ext (own : Nat → Prop) (w w' : World) : Prop where
  size : w.heap.size ≤ w'.heap.size
  keep : ∀ g, g < w.heap.size → ¬ own g → w'.heap[g]? = w.heap[g]?
  form : ∀ (g : Nat) (c : Array Value) (e : TypeId) (fz : Nat × Nat), w.heap[g]? = some (Obj.cells c e fz) → ∃ (c' : Array Value) (fz' : Nat × Nat), w'.heap[g]? = some (Obj.cells c' e fz') ∧ c'.size = c.size
  os : w'.os = w.os
  tape : w'.os = w.os
  output : w'.output = w.output
theorem Ext.refl (own : Nat → Prop) (w : World) : Ext own w w := ⟨Nat.le_refl _, fun _ _ _ => rfl, fun _ c _ fz h => ⟨c, fz, h, rfl⟩, rfl, rfl, rfl⟩
theorem Ext.trans {own own' : Nat → Prop} {w w' w'' : World} (h : Ext own w w') (h' : Ext own' w' w'') (hs : ∀ g, own' g → own g ∨ w.heap.size ≤ g) : Ext own w w'' := by
  refine ⟨Nat.le_trans h.size h'.size, fun g hg hn => ?_, fun g c e fz hc => ?_, h'.os.trans h.os, h'.tape.trans h.tape, h'.output.trans h.output⟩
  · rw [h'.keep g (Nat.lt_of_lt_of_le hg h.size) (fun ho => (hs g ho).elim hn (by omega)), h.keep g hg hn]
  · obtain ⟨c1, f1, h1, e1⟩ := h.form g c e fz hc
    obtain ⟨c2, f2, h2, e2⟩ := h'.form g c1 e f1 h1
    exact ⟨c2, f2, h2, e2.trans e1⟩
theorem cell_same {w w' : World} {g : Nat} (h : w'.heap[g]? = w.heap[g]?) (off : Nat) : w'.cell? ⟨g, off, none⟩ = w.cell? ⟨g, off, none⟩ := by simp [World.cell?, h]
theorem cellsAt.keep {w w' : World} {g off : Nat} {us : List Value} (h : cellsAt w g off us) (hg : w'.heap[g]? = w.heap[g]?) : cellsAt w' g off us :=
  fun j u hu => (cell_same hg _).trans (h j u hu)
section
variable {w w' : World} {I I' : Nat → Prop}
mutual
theorem IV.den_mono0 (hw : ∀ g off us, I g → cellsAt w g off us → cellsAt w' g off us) (hI : ∀ g, I g → I' g) : ∀ (x : IV) (u : Value), IV.den w I x u → IV.den w' I' x u
  | .v _, _, h => h
  | .sl es rows, u, h => by
    simp only [IV.den] at h ⊢
    obtain ⟨p, c, vss, e, hc, hr, hl, ha⟩ := h
    refine ⟨p, c, vss, e, hc, IV.denss_mono0 hw hI rows vss hr, hl, fun hn => ?_⟩
    obtain ⟨g, off, ep, hg, hcell⟩ := ha hn
    exact ⟨g, off, ep, hI g hg, hw g _ _ hg hcell⟩
  | .pt cs, u, h => by
    simp only [IV.den] at h ⊢
    obtain ⟨g, off, us, e, hg, hd, hcell⟩ := h
    exact ⟨g, off, us, e, hI g hg, IV.dens_mono0 hw hI cs us hd, hw g _ _ hg hcell⟩
  | .fn f fs caps, u, h => by
    simp only [IV.den] at h ⊢
    obtain ⟨us, vs, h1, h2, e⟩ := h
    exact ⟨us, vs, IV.dens_mono0 hw hI fs us h1, IV.dens_mono0 hw hI caps vs h2, e⟩
theorem IV.dens_mono0 (hw : ∀ g off us, I g → cellsAt w g off us → cellsAt w' g off us) (hI : ∀ g, I g → I' g) : ∀ (xs : List IV) (us : List Value), IV.dens w I xs us → IV.dens w' I' xs us
  | [], _, h => h
  | x :: xs, us, h => by
    simp only [IV.dens] at h ⊢
    obtain ⟨u, us', e, h1, h2⟩ := h
    exact ⟨u, us', e, IV.den_mono0 hw hI x u h1, IV.dens_mono0 hw hI xs us' h2⟩
theorem IV.denss_mono0 (hw : ∀ g off us, I g → cellsAt w g off us → cellsAt w' g off us) (hI : ∀ g, I g → I' g) : ∀ (xs : List (List IV)) (us : List (List Value)), IV.denss w I xs us → IV.denss w' I' xs us
  | [], _, h => h
  | x :: xs, us, h => by
    simp only [IV.denss] at h ⊢
    obtain ⟨u, us', e, h1, h2⟩ := h
    exact ⟨u, us', e, IV.dens_mono0 hw hI x u h1, IV.denss_mono0 hw hI xs us' h2⟩
end
theorem IV.den_mono (hw : ∀ g, I g → w'.heap[g]? = w.heap[g]?) (hI : ∀ g, I g → I' g) (x : IV) (u : Value) (h : IV.den w I x u) : IV.den w' I' x u := IV.den_mono0 (fun g _ _ hg hc => hc.keep (hw g hg)) hI x u h
theorem IV.dens_mono (hw : ∀ g, I g → w'.heap[g]? = w.heap[g]?) (hI : ∀ g, I g → I' g) (x : List IV) (u : List Value) (h : IV.dens w I x u) : IV.dens w' I' x u := IV.dens_mono0 (fun g _ _ hg hc => hc.keep (hw g hg)) hI x u h
theorem IV.denss_mono (hw : ∀ g, I g → w'.heap[g]? = w.heap[g]?) (hI : ∀ g, I g → I' g) (x : List (List IV)) (u : List (List Value)) (h : IV.denss w I x u) : IV.denss w' I' x u := IV.denss_mono0 (fun g _ _ hg hc => hc.keep (hw g hg)) hI x u h
mutual
theorem AV.den_mono0 {φ φ' : Phi} (hw : ∀ g off us, I g → cellsAt w g off us → cellsAt w' g off us) (hI : ∀ g, I g → I' g) (hφ : ∀ b p, φ b = some p → φ' b = some p)
    (hs : ∀ b g n, φ b = some (some g) → shaped w g n → shaped w' g n) : ∀ (x : AV) (u : Value), AV.den w φ I x u → AV.den w' φ' I' x u
  | .im x, u, h => by simp only [AV.den] at h ⊢; exact IV.den_mono0 hw hI x u h
  | .ob b off, u, h => by simp only [AV.den] at h ⊢; obtain ⟨g, h1, h2⟩ := h; exact ⟨g, hφ _ _ h1, h2⟩
  | .oe b es i j, u, h => by simp only [AV.den] at h ⊢; obtain ⟨g, h1, h2⟩ := h; exact ⟨g, hφ _ _ h1, h2⟩
  | .os b es i n, u, h => by
    simp only [AV.den] at h ⊢
    rcases h with ⟨h1, h2⟩ | ⟨g, c, h1, h2, h3, h4, h5⟩
    · exact .inl ⟨hφ _ _ h1, h2⟩
    · exact .inr ⟨g, c, hφ _ _ h1, h2, h3, h4, hs _ _ _ h1 h5⟩
  | .fn f fs caps, u, h => by simp only [AV.den] at h ⊢; obtain ⟨us, vs, h1, h2, h3⟩ := h; exact ⟨us, vs, AV.dens_mono0 hw hI hφ hs fs us h1, AV.dens_mono0 hw hI hφ hs caps vs h2, h3⟩
  | .agg cs, u, h => by simp only [AV.den] at h ⊢; obtain ⟨us, h1, h2⟩ := h; exact ⟨us, AV.dens_mono0 hw hI hφ hs cs us h1, h2⟩
  | .ar cs, u, h => by simp only [AV.den] at h ⊢; obtain ⟨us, h1, h2⟩ := h; exact ⟨us, IV.dens_mono0 hw hI cs us h1, h2⟩
  | .tup cs, u, h => by simp only [AV.den] at h ⊢; obtain ⟨us, h1, h2⟩ := h; exact ⟨us, AV.dens_mono0 hw hI hφ hs cs us h1, h2⟩
  | .opt g x, u, h => by simp only [AV.den] at h ⊢; exact ⟨fun hg => AV.den_mono0 hw hI hφ hs x u (h.1 hg), h.2⟩
  | .top, _, _ => by simp only [AV.den]
  | .mp b, u, h => by simp only [AV.den] at h ⊢; obtain ⟨g, h1, h2⟩ := h; exact ⟨g, hφ _ _ h1, h2⟩
  | .wr k x, u, h => by simp only [AV.den] at h ⊢; obtain ⟨v, h1, h2⟩ := h; exact ⟨v, h1, AV.den_mono0 hw hI hφ hs x v h2⟩
theorem AV.dens_mono0 {φ φ' : Phi} (hw : ∀ g off us, I g → cellsAt w g off us → cellsAt w' g off us) (hI : ∀ g, I g → I' g) (hφ : ∀ b p, φ b = some p → φ' b = some p)
    (hs : ∀ b g n, φ b = some (some g) → shaped w g n → shaped w' g n) : ∀ (xs : List AV) (us : List Value), AV.dens w φ I xs us → AV.dens w' φ' I' xs us
  | [], _, h => h
  | x :: xs, us, h => by
    simp only [AV.dens] at h ⊢
    obtain ⟨u, us', e, h1, h2⟩ := h
    exact ⟨u, us', e, AV.den_mono0 hw hI hφ hs x u h1, AV.dens_mono0 hw hI hφ hs xs us' h2⟩
end
theorem AV.den_mono {φ φ' : Phi} (hw : ∀ g, I g → w'.heap[g]? = w.heap[g]?) (hI : ∀ g, I g → I' g) (hφ : ∀ b p, φ b = some p → φ' b = some p)
    (hs : ∀ b g n, φ b = some (some g) → shaped w g n → shaped w' g n) (x : AV) (u : Value) (h : AV.den w φ I x u) : AV.den w' φ' I' x u := AV.den_mono0 (fun g _ _ hg hc => hc.keep (hw g hg)) hI hφ hs x u h
theorem AV.dens_mono {φ φ' : Phi} (hw : ∀ g, I g → w'.heap[g]? = w.heap[g]?) (hI : ∀ g, I g → I' g) (hφ : ∀ b p, φ b = some p → φ' b = some p)
    (hs : ∀ b g n, φ b = some (some g) → shaped w g n → shaped w' g n) (x : List AV) (u : List Value) (h : AV.dens w φ I x u) : AV.dens w' φ' I' x u := AV.dens_mono0 (fun g _ _ hg hc => hc.keep (hw g hg)) hI hφ hs x u h
end
theorem Ext.shaped {own : Nat → Prop} {w w' : World} (h : Ext own w w') {g n : Nat} (ho : ¬ own g) (hs : shaped w g n) : shaped w' g n := by
  obtain ⟨c, e, hc, hn⟩ := hs
  have hg : g < w.heap.size := by
    rcases Nat.lt_or_ge g w.heap.size with h | h
    · exact h
    · rw [Array.getElem?_eq_none h] at hc; cases hc
  exact ⟨c, e, (h.keep g hg ho).trans hc, hn⟩
/-- Where the call began: its world, the blocks that it may write, those that nobody writes, the ids that it was handed. -/
structure Bs where
  w0 : World
  own : Nat → Prop
  I0 : Nat → Prop
  φ0 : Phi
  nb : Nat
def laidVars : List (String × (Obj → Prop)) :=
  [("strconv.ErrSyntax", fun o => ∃ tp p T fz, o = .cells #[.iface tp p] T fz), ("strconv.ErrRange", fun o => ∃ tp p T fz, o = .cells #[.iface tp p] T fz),
   ("internal/strconv.uint64pow10", fun o => ∃ T fz, o = .cells (([1, 10, 100, 1000, 10000, 100000, 1000000, 10000000, 100000000, 1000000000, 10000000000, 100000000000, 1000000000000, 10000000000000, 100000000000000, 1000000000000000, 10000000000000000, 100000000000000000, 1000000000000000000, 10000000000000000000] : List Int).map fun z => Value.int .u64 z).toArray T fz)]
def VK (P : Program) (w : World) (I : Nat → Prop) : Prop := ∀ x ∈ laidVars, ∀ g, P.globalNamed x.1 = some g → I g ∧ ∃ o, w.heap[g]? = some o ∧ x.2 o
theorem VK.mono {P : Program} {w w' : World} {I I' : Nat → Prop} (h : VK P w I) (hw : ∀ g, I g → w'.heap[g]? = w.heap[g]?) (hI : ∀ g, I g → I' g) : VK P w' I' := fun x hx g hg =>
  let ⟨h1, o, h2, h3⟩ := h x hx g hg
  ⟨hI g h1, o, (hw g h1).trans h2, h3⟩
theorem VK.none {P : Program} {w : World} {I : Nat → Prop} (h : (laidVars.all fun x => (P.globalNamed x.1).isNone) = true) : VK P w I := fun x hx g hg => by
  have := List.all_eq_true.1 h x hx
  rw [hg] at this
  cases this
structure Lay (P : Program) (B : Bs) : Prop where
  vk : VK P B.w0 B.I0
  io : ∀ g, B.I0 g → g < B.w0.heap.size ∧ ¬ B.own g
structure Cx where
  P : Program
  fn : Func
  n : Nat
  B : Bs
  kp : List Nat
  ob : List Nat
  R : AV → Heap → Prop
  rd : Option Nat
  X : AV → Heap → Prop
  ds : List (Option Deferred)
  lay : Lay P B
structure St (B : Bs) (φ : Phi) (I : Nat → Prop) (H : Heap) (w : World) : Prop where
  real : Real w φ I H
  ext : Ext B.own B.w0 w
  ownx : ∀ b g, φ b = some (some g) → B.own g ∨ B.w0.heap.size ≤ g
  immx : ∀ g, I g → B.I0 g ∨ B.own g ∨ B.w0.heap.size ≤ g
  immo : ∀ g, B.I0 g → I g
  phx : ∀ b p o, b < B.nb → B.φ0 b = some p → lk H b = some o → φ b = some p
theorem St.vk {C : Cx} {φ : Phi} {I : Nat → Prop} {H : Heap} {w : World} (hs : St C.B φ I H w) : VK C.P w I := fun x hx g hg =>
  let ⟨h1, o, h2, h3⟩ := C.lay.vk x hx g hg
  ⟨hs.immo g h1, o, (hs.ext.keep g (C.lay.io g h1).1 (C.lay.io g h1).2).trans h2, h3⟩
theorem Real.lay {P : Program} {w : World} {φ : Phi} {I : Nat → Prop} {H : Heap} (hR : Real w φ I H) (hV : VK P w I) (nb : Nat) : Lay P ⟨w, fun g => ∃ b, φ b = some (some g), I, φ, nb⟩ :=
  ⟨hV, fun g hg => ⟨hR.imm g hg, fun ⟨b, hb⟩ => (hR.off b g hb).1 hg⟩⟩
def EnvOk (w : World) (φ : Phi) (I : Nat → Prop) (E : Env) (a : Act) : Prop := ∀ i x, lk E i = some x → ∃ u, a.tmps[i]? = some u ∧ AV.den w φ I x u
def markOf (D : Nat) : Deferred := { target := .collected D, args := #[] }
def Marks (base : List (Option Deferred)) (sz : Nat) (w : World) (I : Nat → Prop) (ds : List Deferred) : Prop :=
  ∃ ms : List Nat, ds = ms.map markOf ++ base.filterMap id ∧ ms.Nodup ∧ (∀ D ∈ ms, I D ∧ sz ≤ D ∧ w.heap[D]? = some (.deferred (some []))) ∧ (base ≠ [] → ms = [])
theorem Marks.nil {base : List (Option Deferred)} {sz : Nat} {w : World} {I : Nat → Prop} : Marks base sz w I (base.filterMap id) := ⟨[], rfl, List.nodup_nil, (fun _ h => by cases h), fun _ => rfl⟩
theorem Marks.mono {base : List (Option Deferred)} {sz : Nat} {w w' : World} {I I' : Nat → Prop} {ds : List Deferred} (h : Marks base sz w I ds) (hw : ∀ g, I g → w'.heap[g]? = w.heap[g]?) (hI : ∀ g, I g → I' g) : Marks base sz w' I' ds := by
  obtain ⟨ms, h1, h2, h3, h4⟩ := h
  exact ⟨ms, h1, h2, (fun D hD => let ⟨a, b, c⟩ := h3 D hD; ⟨hI D a, b, (hw D a).trans c⟩), h4⟩
structure Sim (C : Cx) (φ : Phi) (I : Nat → Prop) (E : Env) (H : Heap) (a : Act) (w : World) : Prop where
  dfr : Marks C.ds C.B.w0.heap.size w I a.defers
  siz : a.tmps.size = C.n
  env : EnvOk w φ I E a
  st : St C.B φ I H w
def CPost (B : Bs) (R : AV → Heap → Prop) (e : Ending) (w' : World) : Prop :=
  ∃ r H' φ' I' v, R r H' ∧ e = .returned v ∧ AV.den w' φ' I' r v ∧ St B φ' I' H' w'
def PPost (B : Bs) (X : AV → Heap → Prop) (e : Ending) (w' : World) : Prop :=
  ∃ r H' φ' I' v, X r H' ∧ e = .panicked [{ v := v, recovered := false }] ∧ AV.den w' φ' I' r v ∧ St B φ' I' H' w'
def CPostX (C : Cx) (e : Ending) (w' : World) : Prop := CPost C.B C.R e w' ∨ PPost C.B C.X e w'
inductive KI where
  | seq (c : Code)
  | blk (id : Nat)
  | lp (J : Act → World → Prop)
  | sc
  | bot (Q : Exit → Act → World → Prop)
def botPost (C : Cx) : Exit → Act → World → Prop
  | .normal, a, w | .ret, a, w => C.ds = [] → LeavesInM Fence.wide 3 C.P C.fn a.tmps (CPostX C) a.defers .returning w
  | .panic c, a, w => C.ds = [] → LeavesInM Fence.wide 3 C.P C.fn a.tmps (CPostX C) a.defers (.panicking c) w
  | _, _, _ => False
def denK (C : Cx) : List KI → Exit → Act → World → Prop
  | [], e, a, w => botPost C e a w
  | .seq c :: K, e, a, w => Exit.then (wpR C.rd C.P c (denK C K)) (denK C K) e a w
  | .blk id :: K, e, a, w => Exit.inBlock id (denK C K) e a w
  | .lp J :: K, e, a, w => Exit.then J (denK C K) e a w
  | .sc :: K, e, a, w => Exit.noGoto (denK C K) e a w
  | .bot Q :: _, e, a, w => Q e a w
def AR (C : Cx) (c : Code) (K : List KI) (E : Env) (H : Heap) : Prop := ∀ φ I a w, Sim C φ I E H a w → wpR C.rd C.P c (denK C K) a w
def AX (C : Cx) (e : Exit) (K : List KI) (E : Env) (H : Heap) : Prop := ∀ φ I a w, Sim C φ I E H a w → denK C K e a w
section
variable {C : Cx} {K : List KI} {E : Env} {H : Heap}
theorem AR.seq {x y : Code} (h : AR C x (.seq y :: K) E H) : AR C (.seq x y) K E H := fun φ I a w hs => by
  refine wpIn_seq ?_
  have := h φ I a w hs
  exact this
theorem AR.skip (h : AX C .normal K E H) : AR C .skip K E H := fun φ I a w hs => wpIn_skip (h φ I a w hs)
theorem AR.ret (h : AX C .ret K E H) : AR C .ret K E H := fun φ I a w hs => wpIn_ret (h φ I a w hs)
theorem AR.exit {id : Nat} (h : AX C (.exit id) K E H) : AR C (.exit id) K E H := fun φ I a w hs => wpIn_exit (h φ I a w hs)
theorem AR.label {id : Nat} (h : AX C .normal K E H) : AR C (.label id) K E H := fun φ I a w hs => wpIn_label (h φ I a w hs)
theorem AR.block {id : Nat} {c : Code} (h : AR C c (.blk id :: K) E H) : AR C (.block id c) K E H := fun φ I a w hs => wpIn_block (h φ I a w hs)
theorem AR.scope {c : Code} (h : AR C c (.sc :: K) E H) : AR C (.scope c) K E H := fun φ I a w hs => wpR_scope (h φ I a w hs)
theorem AX.sc (h : AX C .normal K E H) : AX C .normal (.sc :: K) E H := h
theorem AX.sc_exit {id : Nat} (h : AX C (.exit id) K E H) : AX C (.exit id) (.sc :: K) E H := h
theorem AX.sc_ret (h : AX C .ret K E H) : AX C .ret (.sc :: K) E H := h
theorem AX.seq {c : Code} (h : AR C c K E H) : AX C .normal (.seq c :: K) E H := h
theorem AX.seq_exit {c : Code} {id : Nat} (h : AX C (.exit id) K E H) : AX C (.exit id) (.seq c :: K) E H := h
theorem AX.seq_ret {c : Code} (h : AX C .ret K E H) : AX C .ret (.seq c :: K) E H := h
theorem AX.blk {id : Nat} (h : AX C .normal K E H) : AX C .normal (.blk id :: K) E H := h
theorem AX.blk_exit {id : Nat} (h : AX C .normal K E H) : AX C (.exit id) (.blk id :: K) E H := fun φ I a w hs => by
  show Exit.inBlock id _ _ _ _
  simp only [Exit.inBlock, if_true]
  exact h φ I a w hs
theorem AX.blk_exit_ne {id id' : Nat} (hne : (id' == id) = false) (h : AX C (.exit id') K E H) : AX C (.exit id') (.blk id :: K) E H := fun φ I a w hs => by
  show Exit.inBlock id _ _ _ _
  simp only [Exit.inBlock, if_neg (by simpa using hne : ¬ id' = id)]
  exact h φ I a w hs
theorem AX.blk_ret {id : Nat} (h : AX C .ret K E H) : AX C .ret (.blk id :: K) E H := h
theorem AX.lp_exit {J : Act → World → Prop} {id : Nat} (h : AX C (.exit id) K E H) : AX C (.exit id) (.lp J :: K) E H := h
theorem AX.lp_ret {J : Act → World → Prop} (h : AX C .ret K E H) : AX C .ret (.lp J :: K) E H := h
def Sub (E E' : Env) : Prop := ∀ i x, lk E' i = some x → lk E i = some x
theorem Sim.sub {φ : Phi} {I : Nat → Prop} {a : Act} {w : World} {E' : Env} (h : Sim C φ I E H a w) (hs : Sub E E') : Sim C φ I E' H a w :=
  ⟨h.dfr, h.siz, fun i x hx => h.env i x (hs i x hx), h.st⟩
def LInv (C : Cx) {α : Type} (LE : α → Env) (LH : α → Heap) (ok : α → Prop) (μ : α → Nat) (m : Nat) (a : Act) (w : World) : Prop :=
  ∃ p, ok p ∧ μ p < m ∧ ∃ φ I, Sim C φ I (LE p) (LH p) a w
theorem AR.loop {α : Type} {c : Code} (LE : α → Env) (LH : α → Heap) (ok : α → Prop) (μ : α → Nat) (p0 : α) (h0 : ok p0) (hE : Sub E (LE p0)) (hH : H = LH p0)
    (round : ∀ p, ok p → AR C c (.lp (LInv C LE LH ok μ (μ p)) :: K) (LE p) (LH p)) : AR C (.loop c) K E H := by
  intro φ I a w hs
  subst hH
  refine wpR_loop (fun p a w => ok p ∧ ∃ φ I, Sim C φ I (LE p) (LH p) a w) μ (fun p a w hJ => ?_) p0 a w ⟨h0, φ, I, hs.sub hE⟩
  obtain ⟨hok, φ, I, hs⟩ := hJ
  refine wpIn_mono (round p hok φ I a w hs) (fun e a w hq => ?_)
  cases e with
  | normal => obtain ⟨p', h1, h2, h3⟩ := hq; exact ⟨p', h2, h1, h3⟩
  | _ => exact hq
theorem AX.round {α : Type} {LE : α → Env} {LH : α → Heap} {ok : α → Prop} {μ : α → Nat} {m : Nat} (p : α) (hok : ok p) (hμ : μ p < m) (hE : Sub E (LE p)) (hH : H = LH p) :
    AX C .normal (.lp (LInv C LE LH ok μ m) :: K) E H := fun φ I a w hs => by
  subst hH
  exact ⟨p, hok, hμ, φ, I, hs.sub hE⟩
theorem AR.weaken {c : Code} {E' : Env} (h : AR C c K E' H) (hE : Sub E E') : AR C c K E H := fun φ I a w hs => h φ I a w (hs.sub hE)
theorem AX.weaken {e : Exit} {E' : Env} (h : AX C e K E' H) (hE : Sub E E') : AX C e K E H := fun φ I a w hs => h φ I a w (hs.sub hE)
theorem AR.cond {c : Operand} {t : Tmp} {x y : Code} {b : Bool} (hc : c = .tmp t) (hb : lk E t = some (.im (.v (.bool b)))) (ht : b = true → AR C x K E H) (hf : b = false → AR C y K E H) :
    AR C (.cond c x y) K E H := fun φ I a w hs => by
  subst hc
  obtain ⟨u, hu, hd⟩ := hs.env t _ hb
  simp only [AV.den, IV.den] at hd
  obtain ⟨rfl, _⟩ := hd
  refine wpIn_cond_split (t := b) ?_ (fun h => ht h φ I a w hs) (fun h => hf h φ I a w hs)
  have hlt : t < a.tmps.size := by
    rcases Nat.lt_or_ge t a.tmps.size with h | h
    · exact h
    · rw [Array.getElem?_eq_none h] at hu; cases hu
  simp only [Act.eval, Array.getD_eq_getD_getElem?, hu, Option.getD_some]
end
end Go.AL
end

section
namespace Go.AL
open Go
inductive TK where
  | bool | int (k : IntKind) | str | ptr (e : TypeId) | slice (e : TypeId) | arr (n : Nat) (e : TypeId) | struct (fs : List (Nat × TypeId)) | map (k e : TypeId) | func | iface | other
def TK.of : TypeDesc → TK
  | .bool => .bool
  | .int k => .int k
  | .string => .str
  | .pointer e => .ptr e
  | .slice e => .slice e
  | .array n e => .arr n e
  | .struct fs => .struct (fs.toList.map fun f => (f.offset, f.type))
  | .map k e => .map k e
  | .func _ _ _ => .func
  | .interface _ => .iface
  | _ => .other
def tk (P : Program) (t : TypeId) : TK := ((P.underlying t).map TK.of).getD .other
def sz (P : Program) (t : TypeId) : Option Nat := (P.underlying t).bind fun _ => (P.info? t).map (·.size)
def by' (P : Program) (t : TypeId) : Option Nat := (P.info? t).map (·.bytes)
def zro (P : Program) (t : TypeId) : Option (List Value) := (P.info? t).bind fun i => i.zero.map fun z => z.cells.toList
def TK.agg : TK → Bool
  | .struct _ => true
  | .arr _ _ => true
  | _ => false
def constAV : Value → AV
  | .agg cs => bif cs.toList.all Value.oneCell' then .agg (cs.toList.map fun c => .im (.v c)) else .top
  | .tuple _ => .top
  | x => .im (.v x)
def ev (E : Env) : Operand → Option AV
  | .tmp t => lk E t
  | .const v => some (constAV v)
  | .func f => some (.fn f [] [])
  | .global _ => none
def AV.g : AV → Bool
  | .opt g _ => g
  | _ => true
def AV.st : AV → AV
  | .opt _ x => x
  | x => x
def un (f : AV → Option (Prop × AV)) : Option AV → Option (Prop × AV)
  | some a => match f a.st with
    | some (sc, v) => some (a.g = true ∧ sc, v)
    | none => none
  | none => none
def bi (f : AV → AV → Option (Prop × AV)) : Option AV → Option AV → Option (Prop × AV)
  | some a, some b => match f a.st b.st with
    | some (sc, v) => some (a.g = true ∧ b.g = true ∧ sc, v)
    | none => none
  | _, _ => none
def AV.i (k : IntKind) (n : Int) : AV := .im (.v (.int k n))
def AV.b (x : Bool) : AV := .im (.v (.bool x))
def AV.s (x : ByteArray) : AV := .im (.v (.string x))
def bAnd (k : IntKind) (a b : Int) : Int := k.wrap (BitVec.ofInt k.bits a &&& BitVec.ofInt k.bits b).toNat
def bOr (k : IntKind) (a b : Int) : Int := k.wrap (BitVec.ofInt k.bits a ||| BitVec.ofInt k.bits b).toNat
def bXor (k : IntKind) (a b : Int) : Int := k.wrap (BitVec.ofInt k.bits a ^^^ BitVec.ofInt k.bits b).toNat
def aInt (op : BinOp) (k : IntKind) (a b : Int) : Option (Prop × AV) :=
  match op with
  | .add => some (True, .im (.v (.int k (k.wrap (a + b)))))
  | .sub => some (True, .im (.v (.int k (k.wrap (a - b)))))
  | .mul => some (True, .im (.v (.int k (k.wrap (a * b)))))
  | .quo => some (b ≠ 0, .im (.v (.int k (k.wrap (a.tdiv b)))))
  | .rem => some (b ≠ 0, .im (.v (.int k (a.tmod b))))
  | .and => some (True, .im (.v (.int k (bAnd k a b))))
  | .or => some (True, .im (.v (.int k (bOr k a b))))
  | .xor => some (True, .im (.v (.int k (bXor k a b))))
  | .eql => some (True, .im (.v (.bool (a == b))))
  | .neq => some (True, .im (.v (.bool (a != b))))
  | .lss => some (True, .im (.v (.bool (decide (a < b)))))
  | .leq => some (True, .im (.v (.bool (decide (a ≤ b)))))
  | .gtr => some (True, .im (.v (.bool (decide (b < a)))))
  | .geq => some (True, .im (.v (.bool (decide (b ≤ a)))))
  | .shl => some (0 ≤ b, .im (.v (.int k (k.wrap (a * 2 ^ (min b.toNat k.bits))))))
  | .shr => some (0 ≤ b, .im (.v (.int k (a.fdiv (2 ^ (min b.toNat k.bits))))))
  | _ => none
def aStr (op : BinOp) (a b : ByteArray) : Option (Prop × AV) :=
  match op with
  | .add => some (a.size + b.size ≤ 9223372036854775807, .im (.v (.string (a ++ b))))
  | .eql => some (True, .im (.v (.bool (a.toList == b.toList))))
  | .neq => some (True, .im (.v (.bool (!(a.toList == b.toList)))))
  | .lss => some (True, .im (.v (.bool (Op.bytesLess a.toList b.toList))))
  | .geq => some (True, .im (.v (.bool (!(Op.bytesLess a.toList b.toList)))))
  | .leq => some (True, .im (.v (.bool (Op.bytesLess a.toList b.toList || a.toList == b.toList))))
  | .gtr => some (True, .im (.v (.bool (!(Op.bytesLess a.toList b.toList || a.toList == b.toList)))))
  | _ => none
def isShift : BinOp → Bool
  | .shl | .shr => true
  | _ => false
def eqC (k : TK) : AV → AV → Option Bool
  | .im (.v (.int a x)), .im (.v (.int b y)) => match k with
    | .int _ => bif decide (a = b) then some (x == y) else none
    | _ => none
  | .im (.v (.string x)), .im (.v (.string y)) => match k with
    | .str => some (x.toList == y.toList)
    | _ => none
  | .im (.v (.bool x)), .im (.v (.bool y)) => match k with
    | .bool => some (x == y)
    | _ => none
  | _, _ => none
def eqFs (P : Program) (xs ys : List AV) : List (Nat × TypeId) → Option Bool
  | [] => some true
  | (off, ty) :: r => match xs[off]?, ys[off]? with
    | some x, some y => match eqC (tk P ty) x y, eqFs P xs ys r with
      | some b, some c => some (b && c)
      | _, _ => none
    | _, _ => none
def aggOf : AV → Option (List AV)
  | .agg cs => some cs
  | .ar cs => some (cs.map .im)
  | _ => none
def nameOk (P : Program) (t : TypeId) : Bool := match P.underlying t with
  | some (.struct fs) => fs.toList.all (fun f => f.name != "_") && !P.stoodInHeld t
  | _ => false
def eqFs2 (P : Program) (xs ys : List AV) : List (Nat × TypeId) → Option Bool
  | [] => some true
  | (off, ty) :: r => match tk P ty with
    | .struct fs => match sz P ty, nameOk P ty with
      | some n, true => match eqFs P ((xs.drop off).take n) ((ys.drop off).take n) fs, eqFs2 P xs ys r with
        | some b, some c => bif decide (off + n ≤ xs.length) && decide (off + n ≤ ys.length) then some (b && c) else none
        | _, _ => none
      | _, _ => none
    | k => match xs[off]?, ys[off]? with
      | some x, some y => match eqC k x y, eqFs2 P xs ys r with
        | some b, some c => some (b && c)
        | _, _ => none
      | _, _ => none
def eqOk (P : Program) (t : TypeId) : Bool := !(P.eqGuardType P.depth t) && match P.underlying t with
  | some (.struct fs) => fs.toList.all (fun f => f.name != "_") && !P.stoodInHeld t
  | some (.array _ _) => true
  | _ => false
def aEq (P : Program) (t : TypeId) (x y : AV) : Option Bool := match aggOf x, aggOf y, eqOk P t with
  | some xs, some ys, true => match tk P t with
    | .struct fs => eqFs2 P xs ys fs
    | .arr n e => match sz P e with
      | some 1 => eqFs P xs ys ((List.range n).map fun i => (i, e))
      | _ => none
    | _ => none
  | _, _, _ => none
def aBin (P : Program) (op : BinOp) (t : TypeId) : AV → AV → Option (Prop × AV)
  | .im (.v (.int k a)), .im (.v (.int k' b)) => bif isShift op || decide (k = k') then aInt op k a b else none
  | .im (.v (.string a)), .im (.v (.string b)) => aStr op a b
  | .im (.v (.bool a)), .im (.v (.bool b)) => match op, tk P t with
    | .eql, .bool => some (True, .im (.v (.bool (a == b))))
    | .neq, .bool => some (True, .im (.v (.bool (a != b))))
    | _, _ => none
  | x, y => match op with
    | .eql => match aEq P t x y with
      | some b => some (True, .im (.v (.bool b)))
      | none => none
    | .neq => match aEq P t x y with
      | some b => some (True, .im (.v (.bool (!b))))
      | none => none
    | _ => none
def aUn (op : UnOp) : AV → Option (Prop × AV)
  | .im (.v (.bool b)) => match op with
    | .not => some (True, .im (.v (.bool (!b))))
    | _ => none
  | .im (.v (.int k n)) => match op with
    | .neg => some (True, .im (.v (.int k (k.wrap (0 - n)))))
    | _ => none
  | _ => none
def pk (c x y : Bool) : Bool := bif c then x else y
theorem pk_t (c y : Bool) : pk c true y = (c || y) := by cases c <;> rfl
theorem pk_f (c x : Bool) : pk c x false = (c && x) := by cases c <;> rfl
theorem gs_f (x : Bool) : (x = false → (!x) = true) = True := by cases x <;> simp
theorem gs_t (x : Bool) : (x = true → x = true) = True := by simp
def aPick (c a b : AV) : Option (Prop × AV) := match c.st with
  | .im (.v (.bool cv)) => match a.st, b.st with
    | .im (.v (.bool x)), .im (.v (.bool y)) => some (c.g = true ∧ (cv = true → a.g = true) ∧ (cv = false → b.g = true), .im (.v (.bool (pk cv x y))))
    | _, _ => match cv with
      | true => some (c.g = true ∧ a.g = true, a.st)
      | false => some (c.g = true ∧ b.g = true, b.st)
  | _ => none
def aConv (P : Program) (src dst : TypeId) : AV → Option (Prop × AV)
  | .im (.v (.int _ n)) => match tk P dst with
    | .int k => some (True, .im (.v (.int k (k.wrap n))))
    | _ => none
  | .im (.v (.string s)) => match tk P dst with
    | .str => some (True, .im (.v (.string s)))
    | _ => none
  | _ => none
def aLen (P : Program) (t : TypeId) : AV → Option (Prop × AV)
  | .im (.v (.string s)) => match tk P t with
    | .str => some (True, .im (.v (.int .i64 s.size)))
    | _ => none
  | .im (.v (.slice none n _)) => match tk P t with
    | .slice _ => some (True, .im (.v (.int .i64 n)))
    | _ => none
  | .im (.sl _ rows) => match tk P t with
    | .slice _ => some (True, .im (.v (.int .i64 rows.length)))
    | _ => none
  | .os _ _ _ n => match tk P t with
    | .slice _ => some (True, .im (.v (.int .i64 n)))
    | _ => none
  | _ => none
def aIndex (P : Program) (t : TypeId) : AV → AV → Option (Prop × AV)
  | .ar cs, .im (.v (.int _ i)) => match tk P t with
    | .arr n e => match tk P e, sz P e with
      | .int _, some 1 => some (0 ≤ i ∧ i < n ∧ n ≤ cs.length, .im (cs.getD i.toNat (.v (.bool false))))
      | .str, some 1 => some (0 ≤ i ∧ i < n ∧ n ≤ cs.length, .im (cs.getD i.toNat (.v (.bool false))))
      | _, _ => none
    | _ => none
  | .im (.v (.string s)), .im (.v (.int _ i)) => match tk P t with
    | .str => some (0 ≤ i ∧ i < s.size, .im (.v (.int .u8 (s.data.toList.getD i.toNat 0).toNat)))
    | _ => none
  | _, _ => none
def aIndexAddr (P : Program) (t : TypeId) : AV → AV → Option (Prop × AV)
  | .im (.sl es rows), .im (.v (.int _ i)) => match tk P t with
    | .slice e => bif decide (sz P e = some es) then some (0 ≤ i ∧ i < rows.length, .im (.pt (rows.getD i.toNat []))) else none
    | _ => none
  | .os b es i0 n, .im (.v (.int _ i)) => match tk P t with
    | .slice e => bif decide (sz P e = some es) then some (0 ≤ i ∧ i < n, .oe b es (i0 + i.toNat) 0) else none
    | _ => none
  | .ob b off, .im (.v (.int _ i)) => match tk P t with
    | .arr n e => bif decide (2 ≤ n) then match sz P e with
      | some es => bif decide (off = 0) then some (0 ≤ i ∧ i < n, .oe b es i.toNat 0) else none
      | none => none
      else none
    | _ => none
  | _, _ => none
def fieldOff (P : Program) (t : TypeId) (f : Nat) : Option Nat :=
  match tk P t with
  | .struct fs => match fs[f]? with
    | some (off, ty) => match sz P ty with
      | some (n + 1) => some off
      | _ => none
    | none => none
  | _ => none
def aFieldAddr (P : Program) (t : TypeId) (f : Nat) : AV → Option (Prop × AV)
  | .im (.pt cs) => match fieldOff P t f with
    | some off => some (True, .im (.pt (cs.drop off)))
    | none => none
  | .ob b o => match fieldOff P t f with
    | some off => some (True, .ob b (o + off))
    | none => none
  | .oe b es i j => match fieldOff P t f with
    | some off => some (True, .oe b es i (j + off))
    | none => none
  | _ => none
def aNil : AV → Option (Prop × AV)
  | .im (.pt cs) => some (True, .im (.pt cs))
  | .ob b o => some (True, .ob b o)
  | .oe b es i j => some (True, .oe b es i j)
  | _ => none
def mkVal (P : Program) (t : TypeId) (cs : List AV) : Option AV :=
  bif (tk P t).agg then some (.agg cs) else match cs with
  | [x] => some x
  | _ => none
def mkValI (P : Program) (t : TypeId) (cs : List IV) : Option AV :=
  match tk P t with
  | .arr _ _ => some (.ar cs)
  | .func => match cs with
    | [.fn f fs caps] => some (.fn f (fs.map .im) (caps.map .im))
    | _ => mkVal P t (cs.map .im)
  | _ => mkVal P t (cs.map .im)
def aLoad (P : Program) (H : Heap) (t : TypeId) : AV → Option (Prop × AV)
  | .im (.pt cs) => match sz P t with
    | some n => match mkValI P t (cs.take n) with
      | some v => some (n ≤ cs.length, v)
      | none => none
    | none => none
  | .ob b o => match lk H b, sz P t with
    | some (.var (.cell _) cs), some n => match mkVal P t ((cs.drop o).take n) with
      | some v => some (o + n ≤ cs.length, v)
      | none => none
    | some (.vec _ _ rows), some n => bif Nat.beq o 0 then match tk P t with
      | .arr _ _ => some (rows.flatten.length = n, .ar rows.flatten)
      | _ => none
      else none
    | _, _ => none
  | .oe b es i j => match lk H b, sz P t with
    | some (.vec _ es' rows), some n => bif Nat.beq es es' then match mkValI P t (((rows.getD i []).drop j).take n) with
      | some v => some (i < rows.length ∧ j + n ≤ es, v)
      | none => none
      else none
    | some (.var (.cell _) cs), some n => match mkVal P t ((cs.drop (i * es + j)).take n) with
      | some v => some (i * es + j + n ≤ cs.length, v)
      | none => none
    | _, _ => none
  | _ => none
def aField (P : Program) (t : TypeId) (f : Nat) : AV → Option (Prop × AV)
  | .agg cs => match tk P t with
    | .struct fs => match fs[f]? with
      | some (off, ty) => match sz P ty with
        | some n => match mkVal P ty ((cs.drop off).take n) with
          | some v => some (off + n ≤ cs.length, v)
          | none => none
        | none => none
      | none => none
    | _ => none
  | _ => none
def aExtract (i : Nat) : AV → Option (Prop × AV)
  | .tup vs => match vs[i]? with
    | some v => some (True, v)
    | none => none
  | _ => none
def aSlice (P : Program) (t : TypeId) (lo hi : Option AV) : AV → Option (Prop × AV)
  | .im (.v (.string s)) => match tk P t, lo, hi with
    | .str, some (.im (.v (.int _ l))), some (.im (.v (.int _ h))) => some (0 ≤ l ∧ l ≤ h ∧ h ≤ s.size, .im (.v (.string (s.extract l.toNat h.toNat))))
    | .str, some (.im (.v (.int _ l))), none => some (0 ≤ l ∧ l ≤ s.size, .im (.v (.string (s.extract l.toNat s.size))))
    | .str, none, some (.im (.v (.int _ h))) => some (0 ≤ h ∧ h ≤ s.size, .im (.v (.string (s.extract 0 h.toNat))))
    | _, _, _ => none
  | .im (.sl es rows) => match tk P t, lo, hi with
    | .slice e, some (.im (.v (.int _ l))), some (.im (.v (.int _ h))) => bif decide (sz P e = some es) then some (0 ≤ l ∧ l ≤ h ∧ h ≤ rows.length, .im (.sl es ((rows.take h.toNat).drop l.toNat))) else none
    | .slice e, some (.im (.v (.int _ l))), none => bif decide (sz P e = some es) then some (0 ≤ l ∧ l ≤ rows.length, .im (.sl es (rows.drop l.toNat))) else none
    | .slice e, none, some (.im (.v (.int _ h))) => bif decide (sz P e = some es) then some (0 ≤ h ∧ h ≤ rows.length, .im (.sl es (rows.take h.toNat))) else none
    | _, _, _ => none
  | _ => none
def aMin2 : AV → AV → Option (Prop × AV)
  | .im (.v (.int k a)), .im (.v (.int _ b)) => some (True, .im (.v (.int k (if b < a then b else a))))
  | _, _ => none
def aMax2 : AV → AV → Option (Prop × AV)
  | .im (.v (.int k a)), .im (.v (.int _ b)) => some (True, .im (.v (.int k (if a < b then b else a))))
  | _, _ => none
def cellsOfAV : AV → Option (List AV)
  | .agg cs => some cs
  | .im x => some [.im x]
  | .ob b o => some [.ob b o]
  | .os b es i n => some [.os b es i n]
  | .oe b es i j => some [.oe b es i j]
  | .fn f fs caps => some [.fn f fs caps]
  | .mp b => some [.mp b]
  | .wr (.iface t) x => some [.wr (.iface t) x]
  | .ar cs => some (cs.map .im)
  | _ => none
def setAt (cs : List AV) (off : Nat) : List AV → List AV
  | [] => cs
  | x :: xs => setAt (cs.set off x) (off + 1) xs
def fillParts (place : Nat → Option (Nat × Nat)) (E : Env) (cs : List AV) : List (Nat × Operand) → Option (List AV)
  | [] => some cs
  | (i, x) :: rest => match place i, ev E x with
    | some (off, n), some a => match cellsOfAV a with
      | some ys => bif Nat.beq ys.length n && decide (off + n ≤ cs.length) then fillParts place E (setAt cs off ys) rest else none
      | none => none
    | _, _ => none
def placesOf (P : Program) : List (Nat × TypeId) → Option (List (Nat × Nat))
  | [] => some []
  | (off, ty) :: r => match sz P ty, placesOf P r with
    | some n, some l => some ((off, n) :: l)
    | _, _ => none
def aBuild (P : Program) (t : TypeId) (parts : List (Nat × Operand)) (E : Env) : Option (Prop × AV) :=
  match tk P t, zro P t with
  | .struct fs, some z => match placesOf P fs with
    | some pl => match fillParts (fun i => pl[i]?) E (z.map fun c => .im (.v c)) parts with
      | some cs => bif z.all Value.oneCell' then some (True, .agg cs) else none
      | none => none
    | none => none
  | .arr _ e, some z => match sz P e with
    | some n => match fillParts (fun i => some (i * n, n)) E (z.map fun c => .im (.v c)) parts with
      | some cs => bif z.all Value.oneCell' then some (True, .agg cs) else none
      | none => none
    | none => none
  | _, _ => none
def aval0 (P : Program) (E : Env) (H : Heap) : Op → Option (Prop × AV)
  | .move x => match ev E x with
    | some a => some (True, a)
    | none => none
  | .assign x => match ev E x with
    | some a => some (True, a)
    | none => none
  | .pick c a b => match ev E c, ev E a, ev E b with
    | some c, some a, some b => aPick c a b
    | _, _, _ => none
  | .binOp op t x y _ => bi (aBin P op t) (ev E x) (ev E y)
  | .unOp op _ x => un (aUn op) (ev E x)
  | .convert s d x => un (fun a => match (P.underlying s).isSome with
    | true => aConv P s d a
    | false => none) (ev E x)
  | .nilCheck x => un aNil (ev E x)
  | .index t x i => bi (aIndex P t) (ev E x) (ev E i)
  | .indexAddr t x i => bi (aIndexAddr P t) (ev E x) (ev E i)
  | .fieldAddr t x f => un (aFieldAddr P t f) (ev E x)
  | .field t x f => un (aField P t f) (ev E x)
  | .load t x => un (aLoad P H t) (ev E x)
  | .extract x i => un (aExtract i) (ev E x)
  | .build t parts => aBuild P t parts.toList E
  | .call { callee := .builtin .len, args := args, argTypes := ts } => match args.toList, ts.toList with
    | [x], [t] => un (aLen P t) (ev E x)
    | _, _ => none
  | .call { callee := .builtin .min, args := args, .. } => match args.toList with
    | [x, y] => bi aMin2 (ev E x) (ev E y)
    | _ => none
  | .call { callee := .builtin .max, args := args, .. } => match args.toList with
    | [x, y] => bi aMax2 (ev E x) (ev E y)
    | _ => none
  | .slice t x lo hi none => match lo, hi with
    | some l, some h => match ev E l, ev E h with
      | some l, some h => un (aSlice P t (some l) (some h)) (ev E x)
      | _, _ => none
    | some l, none => match ev E l with
      | some l => un (aSlice P t (some l) none) (ev E x)
      | none => none
    | none, some h => match ev E h with
      | some h => un (aSlice P t none (some h)) (ev E x)
      | none => none
    | none, none => none
  | _ => none
section
variable {P : Program} {w : World} {φ : Phi} {I : Nat → Prop}
def Yields1 (P : Program) (w : World) (s : Sem Value) (φ : Phi) (I : Nat → Prop) (v : AV) : Prop := ∃ u, s.run P w = .ok u w ∧ AV.den w φ I v u
theorem tk_und {t : TypeId} {d : TK} (h : tk P t = d) (hd : d ≠ .other) : ∃ u, P.underlying t = some u ∧ TK.of u = d := by
  unfold tk at h
  cases hu : P.underlying t with
  | none => rw [hu] at h; exact absurd h.symm hd
  | some u => rw [hu] at h; exact ⟨u, rfl, h⟩
theorem und_int {t : TypeId} {k : IntKind} (h : tk P t = .int k) : P.underlying t = some (.int k) := by
  obtain ⟨u, hu, hk⟩ := tk_und h (by simp)
  cases u <;> simp [TK.of] at hk
  subst hk; exact hu
theorem und_bool {t : TypeId} (h : tk P t = .bool) : P.underlying t = some .bool := by
  obtain ⟨u, hu, hk⟩ := tk_und h (by simp)
  cases u <;> simp [TK.of] at hk
  exact hu
theorem und_str {t : TypeId} (h : tk P t = .str) : P.underlying t = some .string := by
  obtain ⟨u, hu, hk⟩ := tk_und h (by simp)
  cases u <;> simp [TK.of] at hk
  exact hu
theorem und_slice {t e : TypeId} (h : tk P t = .slice e) : P.underlying t = some (.slice e) := by
  obtain ⟨u, hu, hk⟩ := tk_und h (by simp)
  cases u <;> simp [TK.of] at hk
  subst hk; exact hu
theorem und_arr {t e : TypeId} {n : Nat} (h : tk P t = .arr n e) : P.underlying t = some (.array n e) := by
  obtain ⟨u, hu, hk⟩ := tk_und h (by simp)
  cases u <;> simp [TK.of] at hk
  obtain ⟨rfl, rfl⟩ := hk; exact hu
theorem und_struct {t : TypeId} {fs : List (Nat × TypeId)} (h : tk P t = .struct fs) : ∃ F : Array Field, P.underlying t = some (.struct F) ∧ F.toList.map (fun f => (f.offset, f.type)) = fs := by
  obtain ⟨u, hu, hk⟩ := tk_und h (by simp)
  cases u <;> simp [TK.of] at hk
  exact ⟨_, hu, hk⟩
theorem sz_both {t : TypeId} {n : Nat} (h : sz P t = some n) : (∃ u, P.underlying t = some u) ∧ ∃ i, P.info? t = some i ∧ i.size = n := by
  unfold sz at h
  cases hu : P.underlying t with
  | none => rw [hu] at h; cases h
  | some u =>
    rw [hu] at h
    simp only [Option.bind_some] at h
    cases hi : P.info? t with
    | none => rw [hi] at h; cases h
    | some i => rw [hi] at h; exact ⟨⟨u, rfl⟩, i, rfl, by simpa using h⟩
theorem sz_info {t : TypeId} {n : Nat} (h : sz P t = some n) : ∃ i, P.info? t = some i ∧ i.size = n := (sz_both h).2
theorem run_sizeOf {t : TypeId} {n : Nat} (h : sz P t = some n) (w : World) : (sizeOf t).run P w = .ok n w := by
  obtain ⟨i, hi, rfl⟩ := sz_info h
  simp [sizeOf, typeInfo, hi]
theorem den_b {x : Bool} {u : Value} : AV.den w φ I (.im (.v (.bool x))) u ↔ u = .bool x := by simp [AV.den, IV.den, Value.oneCell']
theorem den_i {k : IntKind} {n : Int} {u : Value} : AV.den w φ I (.im (.v (.int k n))) u ↔ u = .int k n := by simp [AV.den, IV.den, Value.oneCell']
theorem den_s {s : ByteArray} {u : Value} : AV.den w φ I (.im (.v (.string s))) u ↔ u = .string s := by simp [AV.den, IV.den, Value.oneCell']
theorem aInt_sound {op : BinOp} {k k' : IntKind} {t : TypeId} {a b : Int} {sc : Prop} {v : AV} (h : aInt op k a b = some (sc, v)) (hsc : sc) (hk : isShift op = true ∨ k = k') :
    Yields1 P w (binOp op t (.int k a) (.int k' b)) φ I v := by
  cases op <;> simp only [aInt, Option.some.injEq, Prod.mk.injEq, reduceCtorEq] at h <;> obtain ⟨rfl, rfl⟩ := h
  all_goals first
    | (have hk2 : k = k' := hk.resolve_left (by simp [isShift])
       subst hk2
       refine ⟨_, ?_, (by simp only [AV.den, IV.den]; exact ⟨rfl, rfl⟩)⟩
       simp [binOp, Op.intArith, Op.intDiv, Op.intBits, Op.intCmp, bAnd, bOr, bXor, hsc]
       done)
    | (refine ⟨_, ?_, (by simp only [AV.den, IV.den]; exact ⟨rfl, rfl⟩)⟩
       have hn : ¬ b < 0 := by omega
       simp [binOp, Op.shift, hn])
end
end Go.AL
end

section
namespace Go.AL
open Go
theorem addr_add (g o j : Nat) : (⟨g, o, none⟩ : Addr).add j = ⟨g, o + j, none⟩ := by unfold Addr.add; split <;> simp_all
theorem lk_lt {a : Act} {t : Tmp} {u : Value} (h : a.tmps[t]? = some u) : a.eval (.tmp t) = u := by
  simp only [Act.eval, Array.getD_eq_getD_getElem?, h, Option.getD_some]
section
variable {P : Program} {w : World} {φ : Phi} {I : Nat → Prop} {E : Env} {H : Heap} {a : Act}
theorem dens_ofVals : ∀ (l : List Value), l.all Value.oneCell' = true → AV.dens w φ I (l.map fun c => .im (.v c)) l
  | [], _ => by simp [AV.dens]
  | x :: l, h => by
    simp only [List.all_cons, Bool.and_eq_true] at h
    simp only [List.map_cons, AV.dens]
    exact ⟨x, l, rfl, by simp only [AV.den, IV.den]; exact ⟨by simp, h.1⟩, dens_ofVals l h.2⟩
theorem constAV_den (x : Value) : AV.den w φ I (constAV x) x := by
  cases x with
  | agg cs =>
    simp only [constAV]
    cases h : cs.toList.all Value.oneCell' with
    | true =>
      simp only [cond_true, AV.den]
      exact ⟨cs.toList, dens_ofVals _ h, by simp, List.all_eq_true.1 h⟩
    | false => simp [AV.den]
  | tuple _ => simp [constAV, AV.den]
  | _ => simp [constAV, AV.den, IV.den, Value.oneCell']
theorem ev_sound (hE : EnvOk w φ I E a) {x : Operand} {v : AV} (h : ev E x = some v) : AV.den w φ I v (a.eval x) := by
  cases x with
  | tmp t =>
    obtain ⟨u, hu, hd⟩ := hE t v h
    rw [lk_lt hu]; exact hd
  | const c => simp only [ev, Option.some.injEq] at h; subst h; exact constAV_den c
  | func f => simp only [ev, Option.some.injEq] at h; subst h; simp only [AV.den, AV.dens, Act.eval]; exact ⟨[], [], rfl, rfl, rfl⟩
  | global g => simp [ev] at h
theorem st_den {v : AV} {u : Value} (h : AV.den w φ I v u) (hg : v.g = true) : AV.den w φ I v.st u := by
  cases v <;> first | exact h | (simp only [AV.den, AV.g] at h hg; exact h.1 hg)
theorem un_sound {f : AV → Option (Prop × AV)} {x : Option AV} {sc : Prop} {v : AV} (h : un f x = some (sc, v)) (hsc : sc) : ∃ a sc', x = some a ∧ f a.st = some (sc', v) ∧ sc' ∧ a.g = true := by
  unfold un at h
  split at h
  · split at h
    · rename_i a sc' v' hf
      simp only [Option.some.injEq, Prod.mk.injEq] at h
      obtain ⟨rfl, rfl⟩ := h
      exact ⟨_, sc', rfl, hf, hsc.2, hsc.1⟩
    · cases h
  · cases h
theorem bi_sound {f : AV → AV → Option (Prop × AV)} {x y : Option AV} {sc : Prop} {v : AV} (h : bi f x y = some (sc, v)) (hsc : sc) :
    ∃ a b sc', x = some a ∧ y = some b ∧ f a.st b.st = some (sc', v) ∧ sc' ∧ a.g = true ∧ b.g = true := by
  unfold bi at h
  split at h
  · split at h
    · rename_i a b sc' v' hf
      simp only [Option.some.injEq, Prod.mk.injEq] at h
      obtain ⟨rfl, rfl⟩ := h
      exact ⟨_, _, sc', rfl, rfl, hf, hsc.2.2, hsc.1, hsc.2.1⟩
    · cases h
  · cases h
theorem den_bool {x : Bool} : AV.den w φ I (.im (.v (.bool x))) (.bool x) := by simp [AV.den, IV.den, Value.oneCell']
theorem den_int {k : IntKind} {n : Int} : AV.den w φ I (.im (.v (.int k n))) (.int k n) := by simp [AV.den, IV.den, Value.oneCell']
theorem den_str {s : ByteArray} : AV.den w φ I (.im (.v (.string s))) (.string s) := by simp [AV.den, IV.den, Value.oneCell']
theorem aStr_sound {op : BinOp} {t : TypeId} {a b : ByteArray} {sc : Prop} {v : AV} (h : aStr op a b = some (sc, v)) (hsc : sc) :
    Yields1 P w (binOp op t (.string a) (.string b)) φ I v := by
  cases op <;> simp only [aStr, Option.some.injEq, Prod.mk.injEq, reduceCtorEq] at h <;> obtain ⟨rfl, rfl⟩ := h
  all_goals first
    | (refine ⟨_, ?_, den_bool⟩; simp [binOp, Op.stringOp]; done)
    | (refine ⟨_, ?_, den_str⟩
       have hn : ¬ ((a.size + b.size : Nat) : Int) > IntKind.i64.max := by simp only [IntKind.max, IntKind.signed, IntKind.bits]; simp; omega
       simp [binOp, Op.stringOp] at hn ⊢
       omega)
theorem eqGuard_run (op : BinOp) (t : TypeId) (x y : Operand) (p q : Value) (h1 : ∀ c, p ≠ .agg c) (h2 : p ≠ .nilIface) (w : World) : (eqGuard op t x y p q).run P w = .ok () w := by
  unfold eqGuard
  cases op <;> first | rfl | (cases p <;> first | rfl | exact absurd rfl (h1 _) | exact absurd rfl h2)
theorem run_equalIn_bool (d : Nat) {t : TypeId} (a b : Bool) (ht : P.underlying t = some .bool) : (Op.equalIn (d + 1) t (.bool a) (.bool b)).run P w = .ok (a == b) w := by
  simp [Op.equalIn, run_underlying ht]
theorem run_equal_bool {t : TypeId} (a b : Bool) (ht : P.underlying t = some .bool) : (Op.equal t (.bool a) (.bool b)).run P w = .ok (a == b) w := run_equalIn_bool 9999 a b ht
theorem adens_get : ∀ (xs : List AV) (us : List Value) (i : Nat) (x : AV), AV.dens w φ I xs us → xs[i]? = some x → ∃ u, us[i]? = some u ∧ AV.den w φ I x u
  | [], _, _, _, _, h => by simp at h
  | y :: ys, us, i, x, hd, h => by
    simp only [AV.dens] at hd
    obtain ⟨u, us', rfl, h1, h2⟩ := hd
    cases i with
    | zero => simp at h; subst h; exact ⟨u, by simp, h1⟩
    | succ i => simpa using adens_get ys us' i x h2 (by simpa using h)
theorem eqC_sound {t : TypeId} {x y : AV} {p q : Value} {b : Bool} (h : eqC (tk P t) x y = some b) (hx : AV.den w φ I x p) (hy : AV.den w φ I y q) (d : Nat) :
    P.plainKey t = true ∧ (Op.equalIn (d + 1) t p q).run P w = .ok b w := by
  unfold eqC at h
  split at h
  · rw [den_i] at hx hy
    subst hx; subst hy
    split at h
    · rename_i ht
      have hu := und_int ht
      rename_i k x1 a y1 _ _
      cases hk : decide (k = a) with
      | false => rw [hk] at h; simp at h
      | true =>
        rw [hk] at h
        simp only [cond_true, Option.some.injEq] at h
        have := of_decide_eq_true hk
        subst this; subst h
        exact ⟨by simp [Program.plainKey, hu], by simp [Op.equalIn, run_underlying hu]⟩
    · cases h
  · rw [den_s] at hx hy
    subst hx; subst hy
    split at h
    · rename_i ht
      have hu := und_str ht
      simp only [Option.some.injEq] at h
      subst h
      refine ⟨by simp [Program.plainKey, hu], ?_⟩
      simp only [Op.equalIn, Sem.run_bind, run_underlying hu, Result.andThen_ok, Sem.run_pure, beq_toListBytes]
    · cases h
  · rw [den_b] at hx hy
    subst hx; subst hy
    split at h
    · rename_i ht
      have hu := und_bool ht
      simp only [Option.some.injEq] at h
      subst h
      exact ⟨by simp [Program.plainKey, hu], run_equalIn_bool d _ _ hu⟩
    · cases h
  · cases h
theorem eqFs_fields {xs ys : List AV} {us vs : List Value} (hx : AV.dens w φ I xs us) (hy : AV.dens w φ I ys vs) (d : Nat) : ∀ (F : List Field) (b : Bool), eqFs P xs ys (F.map fun f => (f.offset, f.type)) = some b → (∀ f ∈ F, f.name ≠ "_") →
    (Op.eqFields (d + 1) us.toArray vs.toArray F).run P w = .ok b w
  | [], b, h, _ => by
    simp only [List.map_nil, eqFs, Option.some.injEq] at h
    subst h; simp [Op.eqFields]
  | f :: F, b, h, hn => by
    simp only [List.map_cons, eqFs] at h
    split at h
    · rename_i x y ex ey
      split at h
      · rename_i b1 b2 h1 h2
        simp only [Option.some.injEq] at h
        subst h
        obtain ⟨u, hu, hdu⟩ := adens_get _ _ _ _ hx ex
        obtain ⟨v, hv, hdv⟩ := adens_get _ _ _ _ hy ey
        obtain ⟨hp, he⟩ := eqC_sound (P := P) h1 hdu hdv d
        have hr := eqFs_fields hx hy d F b2 h2 (fun g hg => hn g (by simp [hg]))
        have p1 := run_part_plain w hp (xs := us.toArray) (off := f.offset) (v := u) (by simpa using hu)
        have p2 := run_part_plain w hp (xs := vs.toArray) (off := f.offset) (v := v) (by simpa using hv)
        have hnf := hn f (by simp)
        simp only [Op.eqFields, hnf, ne_eq, not_false_eq_true, if_true, Sem.run_bind, p1, p2, he, Result.andThen_ok]
        cases b1 <;> simp [hr]
      · cases h
    · cases h
theorem dens_takeA {xs : List AV} {us : List Value} : ∀ n, AV.dens w φ I xs us → AV.dens w φ I (xs.take n) (us.take n) := by
  induction xs generalizing us with
  | nil => intro n h; simp only [AV.dens] at h; subst h; simp [AV.dens]
  | cons x xs ih =>
    intro n h
    simp only [AV.dens] at h
    obtain ⟨u, us', rfl, h1, h2⟩ := h
    cases n with
    | zero => simp [AV.dens]
    | succ n => simp only [List.take_succ_cons, AV.dens]; exact ⟨u, _, rfl, h1, ih n h2⟩
theorem dens_dropA {xs : List AV} {us : List Value} : ∀ n, AV.dens w φ I xs us → AV.dens w φ I (xs.drop n) (us.drop n) := by
  induction xs generalizing us with
  | nil => intro n h; simp only [AV.dens] at h; subst h; simp [AV.dens]
  | cons x xs ih =>
    intro n h
    have h0 := h
    simp only [AV.dens] at h
    obtain ⟨u, us', rfl, h1, h2⟩ := h
    cases n with
    | zero => exact h0
    | succ n => simp only [List.drop_succ_cons]; exact ih n h2
theorem run_part_agg {t : TypeId} {n off : Nat} {us : List Value} (ht : (tk P t).agg = true) (hs : sz P t = some n) : (part t us.toArray off).run P w = .ok (.agg ((us.drop off).take n).toArray) w := by
  obtain ⟨⟨u, hu⟩, i, hi, hsz⟩ := sz_both hs
  have ha : (isAgg t).run P w = .ok true w := by
    unfold tk at ht
    rw [hu] at ht
    simp only [isAgg, Sem.run_bind, run_underlying hu, Result.andThen_ok]
    cases u <;> simp_all [TK.of, TK.agg]
  simp only [part, Sem.run_bind, ha, Result.andThen_ok, if_true, run_sizeOf hs, Sem.run_pure]
  have : (us.toArray.extract off (off + n)) = ((us.drop off).take n).toArray := by simp
  rw [this]
theorem eqFs2_fields {xs ys : List AV} {us vs : List Value} (hx : AV.dens w φ I xs us) (hy : AV.dens w φ I ys vs) (d : Nat) : ∀ (F : List Field) (b : Bool), eqFs2 P xs ys (F.map fun f => (f.offset, f.type)) = some b → (∀ f ∈ F, f.name ≠ "_") →
    (Op.eqFields (d + 2) us.toArray vs.toArray F).run P w = .ok b w
  | [], b, h, _ => by
    simp only [List.map_nil, eqFs2, Option.some.injEq] at h
    subst h; simp [Op.eqFields]
  | f :: F, b, h, hn => by
    simp only [List.map_cons, eqFs2] at h
    have hnf := hn f (by simp)
    split at h
    · rename_i fs ht
      split at h
      · rename_i n hsz hok
        split at h
        · rename_i b1 b2 h1 h2
          cases hq : (decide (f.offset + n ≤ xs.length) && decide (f.offset + n ≤ ys.length)) with
          | false => rw [hq] at h; simp at h
          | true =>
            rw [hq] at h
            simp only [cond_true, Option.some.injEq] at h
            subst h
            have hr := eqFs2_fields hx hy d F b2 h2 (fun g hg => hn g (by simp [hg]))
            obtain ⟨F', hu, hF⟩ := und_struct ht
            unfold nameOk at hok
            rw [hu] at hok
            simp only [Bool.and_eq_true, Bool.not_eq_true', List.all_eq_true, bne_iff_ne, ne_eq] at hok
            have hfs : P.fieldsOf f.type = F' := by simp [Program.fieldsOf, hu]
            have p1 := run_part_agg (w := w) (us := us) (off := f.offset) (by rw [ht]; rfl) hsz
            have p2 := run_part_agg (w := w) (us := vs) (off := f.offset) (by rw [ht]; rfl) hsz
            have he := eqFs_fields (P := P) (dens_takeA n (dens_dropA f.offset hx)) (dens_takeA n (dens_dropA f.offset hy)) d F'.toList b1 (by rw [hF]; exact h1) hok.1
            have he2 := run_equalIn_struct w (d + 1) f.type ((us.drop f.offset).take n).toArray ((vs.drop f.offset).take n).toArray (by rw [hfs]; exact hu) hok.2
            rw [hfs, he] at he2
            simp only [Op.eqFields, hnf, ne_eq, not_false_eq_true, if_true, Sem.run_bind, p1, p2, he2, Result.andThen_ok]
            cases b1 <;> simp [hr]
        · cases h
      · cases h
    · split at h
      · rename_i x y ex ey
        split at h
        · rename_i b1 b2 h1 h2
          simp only [Option.some.injEq] at h
          subst h
          obtain ⟨u, hu, hdu⟩ := adens_get _ _ _ _ hx ex
          obtain ⟨v, hv, hdv⟩ := adens_get _ _ _ _ hy ey
          obtain ⟨hp, he⟩ := eqC_sound (P := P) h1 hdu hdv (d + 1)
          have hr := eqFs2_fields hx hy d F b2 h2 (fun g hg => hn g (by simp [hg]))
          have p1 := run_part_plain w hp (xs := us.toArray) (off := f.offset) (v := u) (by simpa using hu)
          have p2 := run_part_plain w hp (xs := vs.toArray) (off := f.offset) (v := v) (by simpa using hv)
          simp only [Op.eqFields, hnf, ne_eq, not_false_eq_true, if_true, Sem.run_bind, p1, p2, he, Result.andThen_ok]
          cases b1 <;> simp [hr]
        · cases h
      · cases h
theorem eqFs_items {xs ys : List AV} {us vs : List Value} (hx : AV.dens w φ I xs us) (hy : AV.dens w φ I ys vs) (d : Nat) (e : TypeId) : ∀ (is : List Nat) (b : Bool), eqFs P xs ys (is.map fun i => (i, e)) = some b →
    (Op.eqItems (d + 1) e 1 us.toArray vs.toArray is).run P w = .ok b w
  | [], b, h => by
    simp only [List.map_nil, eqFs, Option.some.injEq] at h
    subst h; simp [Op.eqItems]
  | i :: is, b, h => by
    simp only [List.map_cons, eqFs] at h
    split at h
    · rename_i x y ex ey
      split at h
      · rename_i b1 b2 h1 h2
        simp only [Option.some.injEq] at h
        subst h
        obtain ⟨u, hu, hdu⟩ := adens_get _ _ _ _ hx ex
        obtain ⟨v, hv, hdv⟩ := adens_get _ _ _ _ hy ey
        obtain ⟨hp, he⟩ := eqC_sound (P := P) h1 hdu hdv d
        have hr := eqFs_items hx hy d e is b2 h2
        have p1 := run_part_plain w hp (xs := us.toArray) (off := i) (v := u) (by simpa using hu)
        have p2 := run_part_plain w hp (xs := vs.toArray) (off := i) (v := v) (by simpa using hv)
        simp only [Op.eqItems, Nat.mul_one, Sem.run_bind, p1, p2, he, Result.andThen_ok]
        cases b1 <;> simp [hr]
      · cases h
    · cases h
theorem aggOf_den {x : AV} {xs : List AV} {p : Value} (h : aggOf x = some xs) (hx : AV.den w φ I x p) : ∃ us : List Value, p = .agg us.toArray ∧ AV.dens w φ I xs us := by
  unfold aggOf at h
  split at h
  · simp only [Option.some.injEq] at h
    subst h
    simp only [AV.den] at hx
    obtain ⟨us, h1, h2, _⟩ := hx
    exact ⟨us, h2, h1⟩
  · simp only [Option.some.injEq] at h
    subst h
    simp only [AV.den] at hx
    obtain ⟨us, h1, h2⟩ := hx
    refine ⟨us, h2, ?_⟩
    have : ∀ (cs : List IV) (us : List Value), IV.dens w I cs us → AV.dens w φ I (cs.map .im) us := by
      intro cs
      induction cs with
      | nil => intro us h; simpa only [IV.dens, AV.dens, List.map_nil] using h
      | cons c cs ih =>
        intro us h
        simp only [IV.dens] at h
        obtain ⟨u, us', rfl, h1, h2⟩ := h
        simp only [List.map_cons, AV.dens]
        exact ⟨u, us', rfl, by simpa only [AV.den] using h1, ih us' h2⟩
    exact this _ _ h1
  · cases h
theorem aEq_sound {t : TypeId} {x y : AV} {p q : Value} {b : Bool} (h : aEq P t x y = some b) (hx : AV.den w φ I x p) (hy : AV.den w φ I y q) :
    ∃ us vs : Array Value, p = .agg us ∧ q = .agg vs ∧ P.eqGuardType P.depth t = false ∧ (Op.equalIn 10000 t (.agg us) (.agg vs)).run P w = .ok b w := by
  unfold aEq at h
  split at h
  · rename_i xs ys ex ey hok
    obtain ⟨us, rfl, hxs⟩ := aggOf_den ex hx
    obtain ⟨vs, rfl, hys⟩ := aggOf_den ey hy
    unfold eqOk at hok
    simp only [Bool.and_eq_true, Bool.not_eq_true'] at hok
    refine ⟨_, _, rfl, rfl, hok.1, ?_⟩
    split at h
    · rename_i fs ht
      obtain ⟨F, hu, hF⟩ := und_struct ht
      have h2 := hok.2
      rw [hu] at h2
      simp only [Bool.and_eq_true, Bool.not_eq_true', List.all_eq_true, bne_iff_ne, ne_eq] at h2
      have hfs : P.fieldsOf t = F := by simp [Program.fieldsOf, hu]
      rw [run_equalIn_struct w 9999 t _ _ (by rw [hfs]; exact hu) h2.2, hfs]
      exact eqFs2_fields hxs hys 9997 F.toList b (by rw [hF]; exact h) h2.1
    · rename_i n e ht
      have hu := und_arr ht
      split at h
      · rename_i hs
        obtain ⟨i, hi, hsz⟩ := sz_info hs
        have hc : P.cellsOf e = 1 := by simp [Program.cellsOf, hi, hsz]
        rw [run_equalIn_array w 9999 _ _ hu hi, hc]
        exact eqFs_items hxs hys 9998 e _ b h
      · cases h
    · cases h
  · cases h
theorem aBin_sound {op : BinOp} {t : TypeId} {x y : AV} {p q : Value} {ox oy : Operand} {sc : Prop} {v : AV} (h : aBin P op t x y = some (sc, v)) (hsc : sc) (hx : AV.den w φ I x p) (hy : AV.den w φ I y q) :
    Yields1 P w (do eqGuard op t ox oy p q; binOp op t p q) φ I v := by
  unfold aBin at h
  split at h
  · rename_i k a k' b
    rw [den_i] at hx hy
    subst hx; subst hy
    cases hc : (isShift op || decide (k = k')) with
    | false => rw [hc] at h; simp at h
    | true =>
      rw [hc] at h
      simp only [cond_true] at h
      obtain ⟨u, hu, hd⟩ := aInt_sound (P := P) (w := w) (φ := φ) (I := I) (t := t) h hsc (by simpa using hc)
      refine ⟨u, ?_, hd⟩
      simp [eqGuard_run, hu]
  · rename_i a b
    rw [den_s] at hx hy
    subst hx; subst hy
    obtain ⟨u, hu, hd⟩ := aStr_sound (P := P) (w := w) (φ := φ) (I := I) (t := t) h hsc
    refine ⟨u, ?_, hd⟩
    simp [eqGuard_run, hu]
  · rename_i a b
    rw [den_b] at hx hy
    subst hx; subst hy
    split at h
    · rename_i ht
      simp only [Option.some.injEq, Prod.mk.injEq] at h
      obtain ⟨_, rfl⟩ := h
      refine ⟨_, ?_, den_bool⟩
      simp only [Sem.run_bind, eqGuard_run _ _ _ _ (.bool a) _ (by simp) (by simp), Result.andThen_ok, binOp, run_equal_bool a b (und_bool ht), Sem.run_pure]
    · rename_i ht
      simp only [Option.some.injEq, Prod.mk.injEq] at h
      obtain ⟨_, rfl⟩ := h
      refine ⟨_, ?_, den_bool⟩
      simp only [Sem.run_bind, eqGuard_run _ _ _ _ (.bool a) _ (by simp) (by simp), Result.andThen_ok, binOp, run_equal_bool a b (und_bool ht), Sem.run_pure]
      rfl
    · cases h
  · split at h
    · split at h
      · rename_i b hb
        simp only [Option.some.injEq, Prod.mk.injEq] at h
        obtain ⟨_, rfl⟩ := h
        obtain ⟨us, vs, rfl, rfl, hg, hr⟩ := aEq_sound hb hx hy
        refine ⟨_, ?_, den_bool⟩
        simp only [Sem.run_bind, run_eqGuard_agg _ _ _ _ _ _ _ hg, Result.andThen_ok, run_eql_struct, hr]
      · cases h
    · split at h
      · rename_i b hb
        simp only [Option.some.injEq, Prod.mk.injEq] at h
        obtain ⟨_, rfl⟩ := h
        obtain ⟨us, vs, rfl, rfl, hg, hr⟩ := aEq_sound hb hx hy
        refine ⟨_, ?_, den_bool⟩
        simp only [Sem.run_bind, run_eqGuard_agg _ _ _ _ _ _ _ hg, Result.andThen_ok, run_neq_struct, hr]
      · cases h
    · cases h
theorem aUn_sound {op : UnOp} {x : AV} {p : Value} {sc : Prop} {v : AV} (h : aUn op x = some (sc, v)) (hx : AV.den w φ I x p) : Yields1 P w (Op.unary op p) φ I v := by
  unfold aUn at h
  split at h
  · rw [den_b] at hx
    subst hx
    split at h
    · simp only [Option.some.injEq, Prod.mk.injEq] at h
      obtain ⟨_, rfl⟩ := h
      exact ⟨_, by simp [Op.unary], den_bool⟩
    · cases h
  · rw [den_i] at hx
    subst hx
    split at h
    · simp only [Option.some.injEq, Prod.mk.injEq] at h
      obtain ⟨_, rfl⟩ := h
      exact ⟨_, by simp [Op.unary, Op.intArith], den_int⟩
    · cases h
  · cases h
theorem aConv_sound {s d : TypeId} {x : AV} {p : Value} {sc : Prop} {v : AV} (h : aConv P s d x = some (sc, v)) (hx : AV.den w φ I x p) (hs : ∃ u, P.underlying s = some u) : Yields1 P w (convert s d p) φ I v := by
  obtain ⟨su, hsu⟩ := hs
  unfold aConv at h
  split at h
  · rw [den_i] at hx
    subst hx
    split at h
    · rename_i hk
      simp only [Option.some.injEq, Prod.mk.injEq] at h
      obtain ⟨_, rfl⟩ := h
      exact ⟨_, by simp [convert, run_underlying hsu, run_underlying (und_int hk), Conv.intToInt], den_int⟩
    · cases h
  · rw [den_s] at hx
    subst hx
    split at h
    · rename_i hk
      simp only [Option.some.injEq, Prod.mk.injEq] at h
      obtain ⟨_, rfl⟩ := h
      exact ⟨_, by simp [convert, run_underlying hsu, run_underlying (und_str hk)], den_str⟩
    · cases h
  · cases h
theorem aLen_sound {t ty : TypeId} {x : AV} {p : Value} {sc : Prop} {v : AV} (h : aLen P t x = some (sc, v)) (hx : AV.den w φ I x p) : Yields1 P w (Builtin.len_ #[t] ty #[p]) φ I v := by
  unfold aLen at h
  split at h
  · rw [den_s] at hx
    subst hx
    split at h
    · rename_i hk
      simp only [Option.some.injEq, Prod.mk.injEq] at h
      obtain ⟨_, rfl⟩ := h
      exact ⟨_, by simp [Builtin.len_, run_underlying (und_str hk), goInt], den_int⟩
    · cases h
  · simp only [AV.den, IV.den] at hx
    obtain ⟨rfl, _⟩ := hx
    split at h
    · rename_i hk
      simp only [Option.some.injEq, Prod.mk.injEq] at h
      obtain ⟨_, rfl⟩ := h
      exact ⟨_, by simp [Builtin.len_, run_underlying (und_slice hk), goInt], den_int⟩
    · cases h
  · simp only [AV.den, IV.den] at hx
    obtain ⟨q, c, vss, rfl, _⟩ := hx
    split at h
    · rename_i hk
      simp only [Option.some.injEq, Prod.mk.injEq] at h
      obtain ⟨_, rfl⟩ := h
      exact ⟨_, by simp [Builtin.len_, run_underlying (und_slice hk), goInt], den_int⟩
    · cases h
  · simp only [AV.den] at hx
    split at h
    · rename_i hk
      simp only [Option.some.injEq, Prod.mk.injEq] at h
      obtain ⟨_, rfl⟩ := h
      rcases hx with ⟨_, rfl, rfl, rfl⟩ | ⟨g, c, _, rfl, _⟩
      · exact ⟨_, by simp [Builtin.len_, run_underlying (und_slice hk), goInt], den_int⟩
      · exact ⟨_, by simp [Builtin.len_, run_underlying (und_slice hk), goInt], den_int⟩
    · cases h
  · cases h
theorem flat_get : ∀ (vss : List (List Value)) (es i j : Nat) (vs : List Value) (u : Value), (∀ vs ∈ vss, vs.length = es) → vss[i]? = some vs → vs[j]? = some u → vss.flatten[i * es + j]? = some u
  | [], _, _, _, _, _, _, h, _ => by simp at h
  | x :: xs, es, 0, j, vs, u, hl, h, hj => by
    simp at h; subst h
    have hlt : j < x.length := by
      rcases Nat.lt_or_ge j x.length with h | h
      · exact h
      · rw [List.getElem?_eq_none h] at hj; cases hj
    simp [List.flatten_cons, List.getElem?_append_left hlt, hj]
  | x :: xs, es, i + 1, j, vs, u, hl, h, hj => by
    have hx : x.length = es := hl x (by simp)
    have := flat_get xs es i j vs u (fun vs hv => hl vs (by simp [hv])) (by simpa using h) hj
    rw [List.flatten_cons, List.getElem?_append_right (by rw [hx]; have := Nat.add_mul i 1 es; omega)]
    rw [hx, show (i + 1) * es + j - es = i * es + j by have := Nat.add_mul i 1 es; omega]
    exact this
theorem denss_get : ∀ (rows : List (List IV)) (vss : List (List Value)) (i : Nat) (r : List IV), IV.denss w I rows vss → rows[i]? = some r → ∃ vs, vss[i]? = some vs ∧ IV.dens w I r vs
  | [], _, _, _, _, h => by simp at h
  | x :: xs, vss, i, r, hd, h => by
    simp only [IV.denss] at hd
    obtain ⟨u, us', rfl, h1, h2⟩ := hd
    cases i with
    | zero => simp at h; subst h; exact ⟨u, by simp, h1⟩
    | succ i => simpa using denss_get xs us' i r h2 (by simpa using h)
theorem denss_len : ∀ (rows : List (List IV)) (vss : List (List Value)), IV.denss w I rows vss → vss.length = rows.length
  | [], vss, h => by simp only [IV.denss] at h; simp [h]
  | x :: xs, vss, h => by
    simp only [IV.denss] at h
    obtain ⟨u, us', rfl, h1, h2⟩ := h
    simp [denss_len xs us' h2]
theorem idens_len : ∀ (xs : List IV) (us : List Value), IV.dens w I xs us → us.length = xs.length
  | [], us, h => by simp only [IV.dens] at h; simp [h]
  | x :: xs, us, h => by
    simp only [IV.dens] at h
    obtain ⟨u, us', rfl, h1, h2⟩ := h
    simp [idens_len xs us' h2]
theorem adens_len : ∀ (xs : List AV) (us : List Value), AV.dens w φ I xs us → us.length = xs.length
  | [], us, h => by simp only [AV.dens] at h; simp [h]
  | x :: xs, us, h => by
    simp only [AV.dens] at h
    obtain ⟨u, us', rfl, h1, h2⟩ := h
    simp [adens_len xs us' h2]
theorem idens_drop : ∀ (k : Nat) (xs : List IV) (us : List Value), IV.dens w I xs us → IV.dens w I (xs.drop k) (us.drop k)
  | 0, _, _, h => by simpa using h
  | k + 1, [], us, h => by simp only [IV.dens] at h; subst h; simp [IV.dens]
  | k + 1, x :: xs, us, h => by
    simp only [IV.dens] at h
    obtain ⟨u, us', rfl, h1, h2⟩ := h
    simpa using idens_drop k xs us' h2
theorem idens_take : ∀ (k : Nat) (xs : List IV) (us : List Value), IV.dens w I xs us → IV.dens w I (xs.take k) (us.take k)
  | 0, _, _, h => by simp [IV.dens]
  | k + 1, [], us, h => by simp only [IV.dens] at h; subst h; simp [IV.dens]
  | k + 1, x :: xs, us, h => by
    simp only [IV.dens] at h
    obtain ⟨u, us', rfl, h1, h2⟩ := h
    simp only [List.take_succ_cons, IV.dens]
    exact ⟨u, _, rfl, h1, idens_take k xs us' h2⟩
theorem adens_drop : ∀ (k : Nat) (xs : List AV) (us : List Value), AV.dens w φ I xs us → AV.dens w φ I (xs.drop k) (us.drop k)
  | 0, _, _, h => by simpa using h
  | k + 1, [], us, h => by simp only [AV.dens] at h; subst h; simp [AV.dens]
  | k + 1, x :: xs, us, h => by
    simp only [AV.dens] at h
    obtain ⟨u, us', rfl, h1, h2⟩ := h
    simpa using adens_drop k xs us' h2
theorem adens_take : ∀ (k : Nat) (xs : List AV) (us : List Value), AV.dens w φ I xs us → AV.dens w φ I (xs.take k) (us.take k)
  | 0, _, _, h => by simp [AV.dens]
  | k + 1, [], us, h => by simp only [AV.dens] at h; subst h; simp [AV.dens]
  | k + 1, x :: xs, us, h => by
    simp only [AV.dens] at h
    obtain ⟨u, us', rfl, h1, h2⟩ := h
    simp only [List.take_succ_cons, AV.dens]
    exact ⟨u, _, rfl, h1, adens_take k xs us' h2⟩
theorem dens_im : ∀ (xs : List IV) (us : List Value), IV.dens w I xs us → AV.dens w φ I (xs.map .im) us
  | [], us, h => by simpa [AV.dens, IV.dens] using h
  | x :: xs, us, h => by
    simp only [IV.dens] at h
    obtain ⟨u, us', rfl, h1, h2⟩ := h
    simp only [List.map_cons, AV.dens]
    exact ⟨u, us', rfl, by simpa only [AV.den] using h1, dens_im xs us' h2⟩
theorem iv_one : ∀ (x : IV) (u : Value), IV.den w I x u → u.oneCell' = true
  | .v _, u, h => by simp only [IV.den] at h; rw [h.1]; exact h.2
  | .sl _ _, u, h => by simp only [IV.den] at h; obtain ⟨_, _, _, rfl, _⟩ := h; rfl
  | .pt _, u, h => by simp only [IV.den] at h; obtain ⟨_, _, _, rfl, _⟩ := h; rfl
  | .fn _ _ _, u, h => by simp only [IV.den] at h; obtain ⟨_, _, _, _, rfl⟩ := h; rfl
theorem idens_one : ∀ (xs : List IV) (us : List Value), IV.dens w I xs us → ∀ u ∈ us, u.oneCell' = true
  | [], us, h => by simp only [IV.dens] at h; simp [h]
  | x :: xs, us, h => by
    simp only [IV.dens] at h
    obtain ⟨u, us', rfl, h1, h2⟩ := h
    intro z hz
    rcases List.mem_cons.1 hz with rfl | hz
    · exact iv_one x _ h1
    · exact idens_one xs us' h2 z hz
theorem idens_get : ∀ (xs : List IV) (us : List Value) (i : Nat) (x : IV), IV.dens w I xs us → xs[i]? = some x → ∃ u, us[i]? = some u ∧ IV.den w I x u
  | [], _, _, _, _, h => by simp at h
  | y :: ys, us, i, x, hd, h => by
    simp only [IV.dens] at hd
    obtain ⟨u, us', rfl, h1, h2⟩ := hd
    cases i with
    | zero => simp at h; subst h; exact ⟨u, by simp, h1⟩
    | succ i => simpa using idens_get ys us' i x h2 (by simpa using h)
theorem run_isAgg {t : TypeId} {u : TypeDesc} (h : P.underlying t = some u) (w : World) : (isAgg t).run P w = .ok (TK.of u).agg w := by
  unfold isAgg
  simp only [Sem.run_bind, run_underlying h, Result.andThen_ok]
  cases u <;> rfl
theorem aIndex_sound {t : TypeId} {x i : AV} {p q : Value} {sc : Prop} {v : AV} (h : aIndex P t x i = some (sc, v)) (hsc : sc) (hx : AV.den w φ I x p) (hi : AV.den w φ I i q) : Yields1 P w (Instr.index t p q) φ I v := by
  unfold aIndex at h
  split at h
  · rename_i cs k n
    rw [den_i] at hi
    subst hi
    simp only [AV.den] at hx
    obtain ⟨us, hd, rfl⟩ := hx
    split at h
    · rename_i m e ht
      have key : ∀ (hnot : (TK.of ((P.underlying e).getD .invalid)).agg = false) (hs1 : sz P e = some 1), (0 ≤ n ∧ n < m ∧ m ≤ cs.length) → v = .im (cs.getD n.toNat (.v (.bool false))) → Yields1 P w (Instr.index t (.agg us.toArray) (.int k n)) φ I v := by
        intro hnot hs1 ⟨h0, h1, h2⟩ hv
        obtain ⟨⟨ue, hue⟩, _⟩ := sz_both hs1
        have hlen := idens_len cs us hd
        have hlt : n.toNat < cs.length := by omega
        obtain ⟨u, hu, hdu⟩ := idens_get cs us n.toNat _ hd (List.getElem?_eq_getElem hlt)
        refine ⟨u, ?_, ?_⟩
        · have hag := run_isAgg hue w
          rw [hue] at hnot
          simp only [Option.getD_some] at hnot
          rw [hnot] at hag
          simp [Instr.index, asIntOf, run_underlying (und_arr ht), h0, h1, run_sizeOf hs1, part, hag, hu]
        · rw [hv]
          simp only [AV.den]
          have : cs.getD n.toNat (.v (.bool false)) = cs[n.toNat] := by simp [List.getD, hlt]
          rw [this]; exact hdu
      split at h
      · rename_i hk hs1
        simp only [Option.some.injEq, Prod.mk.injEq] at h
        obtain ⟨rfl, rfl⟩ := h
        exact key (by rw [und_int hk]; rfl) hs1 hsc rfl
      · rename_i hk hs1
        simp only [Option.some.injEq, Prod.mk.injEq] at h
        obtain ⟨rfl, rfl⟩ := h
        exact key (by rw [und_str hk]; rfl) hs1 hsc rfl
      · cases h
    · cases h
  · rename_i s k n
    rw [den_s] at hx
    rw [den_i] at hi
    subst hx; subst hi
    split at h
    · rename_i hk
      simp only [Option.some.injEq, Prod.mk.injEq] at h
      obtain ⟨rfl, rfl⟩ := h
      refine ⟨_, ?_, den_int⟩
      obtain ⟨h0, h1⟩ := hsc
      have hlt : n.toNat < s.size := by omega
      have hg : s[n.toNat]? = some s[n.toNat] := by simp [hlt]
      have he : s.data.toList.getD n.toNat 0 = s[n.toNat] := by
        have : n.toNat < s.data.toList.length := by simpa using hlt
        simp [List.getD, List.getElem?_eq_getElem this]; rfl
      rw [he]
      simp [Instr.index, asIntOf, run_underlying (und_str hk), h0, hg]
    · cases h
  · cases h
theorem aNil_sound {x : AV} {p : Value} {sc : Prop} {v : AV} {o : Oper} {ox : Operand} (ho : o.op = .nilCheck ox) (h : aNil x = some (sc, v)) (hx : AV.den w φ I x p) (hp : a.eval ox = p) :
    (execOp a.eval o).run P w = .ok (.value p) w ∧ AV.den w φ I v p := by
  unfold aNil at h
  split at h
  · simp only [Option.some.injEq, Prod.mk.injEq] at h
    obtain ⟨_, rfl⟩ := h
    refine ⟨?_, hx⟩
    simp only [AV.den, IV.den] at hx
    obtain ⟨g, off, us, rfl, _⟩ := hx
    simp [execOp, ho, hp]
  · simp only [Option.some.injEq, Prod.mk.injEq] at h
    obtain ⟨_, rfl⟩ := h
    refine ⟨?_, hx⟩
    simp only [AV.den] at hx
    obtain ⟨g, _, rfl⟩ := hx
    simp [execOp, ho, hp]
  · simp only [Option.some.injEq, Prod.mk.injEq] at h
    obtain ⟨_, rfl⟩ := h
    refine ⟨?_, hx⟩
    simp only [AV.den] at hx
    obtain ⟨g, _, rfl⟩ := hx
    simp [execOp, ho, hp]
  · cases h
theorem fieldOff_run {t : TypeId} {f off : Nat} (h : fieldOff P t f = some off) (g o : Nat) (w : World) : (Instr.fieldAt t (.pointer (some ⟨g, o, none⟩)) f).run P w = .ok (.pointer (some ⟨g, o + off, none⟩)) w := by
  unfold fieldOff at h
  split at h
  · rename_i fs ht
    obtain ⟨F, hF, hmap⟩ := und_struct ht
    split at h
    · rename_i off' ty hf
      split at h
      · rename_i n hn
        simp only [Option.some.injEq] at h
        subst h
        have hF' : ∃ fd : Field, F[f]? = some fd ∧ fd.offset = off' ∧ fd.type = ty := by
          rw [← hmap, List.getElem?_map] at hf
          simp at hf
          obtain ⟨fd, h1, h2, h3⟩ := hf
          exact ⟨fd, h1, h2, h3⟩
        obtain ⟨fd, h1, h2, h3⟩ := hF'
        subst h3
        simp [Instr.fieldAt, run_underlying hF, h1, Instr.sureAddr, fieldPlace, run_sizeOf hn, h2, addr_add]
      · cases h
    · cases h
  · cases h
theorem aFieldAddr_sound {t : TypeId} {f : Nat} {x : AV} {p : Value} {sc : Prop} {v : AV} (h : aFieldAddr P t f x = some (sc, v)) (hx : AV.den w φ I x p) : Yields1 P w (Instr.fieldAt t p f) φ I v := by
  unfold aFieldAddr at h
  split at h
  · rename_i cs
    split at h
    · rename_i off hoff
      simp only [Option.some.injEq, Prod.mk.injEq] at h
      obtain ⟨_, rfl⟩ := h
      simp only [AV.den, IV.den] at hx
      obtain ⟨g, o, us, rfl, hg, hd, hc⟩ := hx
      refine ⟨_, fieldOff_run hoff g o w, ?_⟩
      simp only [AV.den, IV.den]
      refine ⟨g, o + off, us.drop off, rfl, hg, idens_drop off cs us hd, fun j u hu => ?_⟩
      rw [Nat.add_assoc]
      exact hc (off + j) u (by simpa [List.getElem?_drop] using hu)
    · cases h
  · rename_i b o
    split at h
    · rename_i off hoff
      simp only [Option.some.injEq, Prod.mk.injEq] at h
      obtain ⟨_, rfl⟩ := h
      simp only [AV.den] at hx
      obtain ⟨g, hg, rfl⟩ := hx
      exact ⟨_, fieldOff_run hoff g o w, by simp only [AV.den]; exact ⟨g, hg, rfl⟩⟩
    · cases h
  · rename_i b es i j
    split at h
    · rename_i off hoff
      simp only [Option.some.injEq, Prod.mk.injEq] at h
      obtain ⟨_, rfl⟩ := h
      simp only [AV.den] at hx
      obtain ⟨g, hg, rfl⟩ := hx
      exact ⟨_, fieldOff_run hoff g _ w, by simp only [AV.den]; exact ⟨g, hg, by rw [Nat.add_assoc]⟩⟩
    · cases h
  · cases h
theorem aIndexAddr_sound {t : TypeId} {x i : AV} {p q : Value} {sc : Prop} {v : AV} (h : aIndexAddr P t x i = some (sc, v)) (hsc : sc) (hx : AV.den w φ I x p) (hi : AV.den w φ I i q) : Yields1 P w (Instr.indexAt t p q) φ I v := by
  unfold aIndexAddr at h
  split at h
  · rename_i es rows k n
    rw [den_i] at hi
    subst hi
    split at h
    · rename_i e ht
      cases hd : decide (sz P e = some es) with
      | false => rw [hd] at h; simp at h
      | true =>
        rw [hd] at h
        simp only [cond_true, Option.some.injEq, Prod.mk.injEq] at h
        obtain ⟨rfl, rfl⟩ := h
        have hsz := of_decide_eq_true hd
        obtain ⟨h0, h1⟩ := hsc
        simp only [AV.den, IV.den] at hx
        obtain ⟨pp, c, vss, rfl, hc, hr, hl, ha⟩ := hx
        have hlt : n.toNat < rows.length := by omega
        obtain ⟨g, off, rfl, hg, hcell⟩ := ha (by intro e; rw [e] at hlt; simp at hlt)
        obtain ⟨vs, hvs, hdv⟩ := denss_get rows vss n.toNat _ hr (List.getElem?_eq_getElem hlt)
        have e1 : rows.getD n.toNat [] = rows[n.toNat] := by simp [List.getD, hlt]
        refine ⟨.pointer (some ⟨g, off + n.toNat * es, none⟩), ?_, ?_⟩
        · simp [Instr.indexAt, asIntOf, run_underlying (und_slice ht), h0, h1, run_sizeOf hsz, addr_add]
        · simp only [AV.den, IV.den, e1]
          refine ⟨g, _, vs, rfl, hg, hdv, fun j u hu => ?_⟩
          rw [Nat.add_assoc]
          exact hcell _ u (flat_get vss es n.toNat j vs u hl hvs hu)
    · cases h
  · rename_i b es i0 m k n
    rw [den_i] at hi
    subst hi
    split at h
    · rename_i e ht
      cases hd : decide (sz P e = some es) with
      | false => rw [hd] at h; simp at h
      | true =>
        rw [hd] at h
        simp only [cond_true, Option.some.injEq, Prod.mk.injEq] at h
        obtain ⟨rfl, rfl⟩ := h
        have hsz := of_decide_eq_true hd
        obtain ⟨h0, h1⟩ := hsc
        simp only [AV.den] at hx
        rcases hx with ⟨_, _, rfl, _⟩ | ⟨g, c, hg, rfl, _⟩
        · omega
        · refine ⟨.pointer (some ⟨g, i0 * es + n.toNat * es, none⟩), ?_, ?_⟩
          · simp [Instr.indexAt, asIntOf, run_underlying (und_slice ht), h0, h1, run_sizeOf hsz, addr_add]
          · simp only [AV.den]
            exact ⟨g, hg, by rw [Nat.add_mul]; rfl⟩
    · cases h
  · rename_i b off k n
    rw [den_i] at hi
    subst hi
    split at h
    · rename_i m e ht
      cases hm : decide (2 ≤ m) with
      | false => rw [hm] at h; simp at h
      | true =>
        rw [hm] at h
        have hm2 := of_decide_eq_true hm
        simp only [cond_true] at h
        split at h
        · rename_i es hsz
          cases hd : decide (off = 0) with
          | false => rw [hd] at h; simp at h
          | true =>
            rw [hd] at h
            simp only [cond_true, Option.some.injEq, Prod.mk.injEq] at h
            obtain ⟨rfl, rfl⟩ := h
            have ho := of_decide_eq_true hd
            subst ho
            obtain ⟨h0, h1⟩ := hsc
            simp only [AV.den] at hx
            obtain ⟨g, hg, rfl⟩ := hx
            refine ⟨.pointer (some ⟨g, n.toNat * es, none⟩), ?_, ?_⟩
            · simp [Instr.indexAt, asIntOf, run_underlying (und_arr ht), h0, h1, run_sizeOf hsz, addr_add, Instr.sureAddr]
            · simp only [AV.den]
              exact ⟨g, hg, by simp⟩
        · cases h
    · cases h
  · cases h
theorem run_loadVar_cells {t : TypeId} {n : Nat} {u : TypeDesc} {g o : Nat} {us : List Value} (hu : P.underlying t = some u) (hn : sz P t = some n) (hl : us.length = n) (hc : cellsAt w g o us)
    (hagg : (TK.of u).agg = false → n = 1) : (Instr.loadAt t (.pointer (some ⟨g, o, none⟩))).run P w = .ok (if (TK.of u).agg then .agg us.toArray else us.getD 0 undef) w := by
  have hcell : ∀ j v, us[j]? = some v → w.cell? ((⟨g, o, none⟩ : Addr).add j) = some v := fun j v hv => by rw [addr_add]; exact hc j v hv
  cases hb : (TK.of u).agg with
  | true =>
    have h1 := run_isAgg hu w
    rw [hb] at h1
    have h2 := run_loadCells_list (P := P) (w := w) ⟨g, o, none⟩ us hcell
    rw [hl] at h2
    simp [Instr.loadAt, Instr.sureAddr, loadVar, h1, run_sizeOf hn, h2]
  | false =>
    have h1 := run_isAgg hu w
    rw [hb] at h1
    have hn1 := hagg hb
    subst hn1
    match us, hl with
    | [x], _ =>
      have := hc 0 x (by simp)
      simp only [Nat.add_zero] at this
      simp [Instr.loadAt, Instr.sureAddr, loadVar, h1, load, Sem.run, this]
theorem mkVal_den {t : TypeId} {cs : List AV} {us : List Value} {u : TypeDesc} {v : AV} (hu : P.underlying t = some u) (h : mkVal P t cs = some v) (hd : AV.dens w φ I cs us) (h1 : ∀ x ∈ us, x.oneCell' = true) :
    AV.den w φ I v (if (TK.of u).agg then .agg us.toArray else us.getD 0 undef) ∧ ((TK.of u).agg = false → us.length = 1) := by
  have htk : tk P t = TK.of u := by simp [tk, hu]
  unfold mkVal at h
  rw [htk] at h
  cases hb : (TK.of u).agg with
  | true =>
    rw [hb] at h
    simp only [cond_true, Option.some.injEq] at h
    subst h
    simp only [if_true, AV.den]
    exact ⟨⟨us, hd, rfl, h1⟩, by simp⟩
  | false =>
    rw [hb] at h
    simp only [cond_false] at h
    split at h
    · simp only [Option.some.injEq] at h
      subst h
      simp only [AV.dens] at hd
      obtain ⟨x, us', rfl, hx, rfl⟩ := hd
      simpa using hx
    · cases h
theorem mkValI_den {t : TypeId} {cs : List IV} {us : List Value} {u : TypeDesc} {v : AV} (hu : P.underlying t = some u) (h : mkValI P t cs = some v) (hd : IV.dens w I cs us) :
    AV.den w φ I v (if (TK.of u).agg then .agg us.toArray else us.getD 0 undef) ∧ ((TK.of u).agg = false → us.length = 1) := by
  have htk : tk P t = TK.of u := by simp [tk, hu]
  unfold mkValI at h
  split at h
  · rename_i n e ht
    rw [htk] at ht
    simp only [Option.some.injEq] at h
    subst h
    rw [ht]
    simp only [TK.agg, if_true, AV.den]
    exact ⟨⟨us, hd, rfl⟩, by simp⟩
  · rename_i ht
    split at h
    · rename_i f fs caps
      simp only [Option.some.injEq] at h
      subst h
      simp only [IV.dens, IV.den] at hd
      obtain ⟨u0, us', rfl, ⟨xs, ys, h1, h2, rfl⟩, rfl⟩ := hd
      rw [← htk, ht]
      simp only [TK.agg, if_false, Bool.false_eq_true, AV.den]
      exact ⟨⟨xs, ys, dens_im fs xs h1, dens_im caps ys h2, rfl⟩, by simp⟩
    · exact mkVal_den hu h (dens_im _ us hd) (idens_one _ us hd)
  · exact mkVal_den hu h (dens_im cs us hd) (idens_one cs us hd)
end
end Go.AL
end

section
namespace Go.AL
open Go
section
variable {P : Program} {w : World} {φ : Phi} {I : Nat → Prop} {E : Env} {H : Heap} {a : Act}
theorem load_at {t : TypeId} {n : Nat} {cs : List AV} {us : List Value} {v : AV} {g o : Nat} (hn : sz P t = some n) (hv : mkVal P t cs = some v) (hd : AV.dens w φ I cs us) (h1 : ∀ x ∈ us, x.oneCell' = true)
    (hl : us.length = n) (hc : cellsAt w g o us) : Yields1 P w (Instr.loadAt t (.pointer (some ⟨g, o, none⟩))) φ I v := by
  obtain ⟨⟨u, hu⟩, _⟩ := sz_both hn
  obtain ⟨h2, h3⟩ := mkVal_den hu hv hd h1
  exact ⟨_, run_loadVar_cells hu hn hl hc (fun hb => by rw [← hl]; exact h3 hb), h2⟩
theorem load_atI {t : TypeId} {n : Nat} {cs : List IV} {us : List Value} {v : AV} {g o : Nat} (hn : sz P t = some n) (hv : mkValI P t cs = some v) (hd : IV.dens w I cs us)
    (hl : us.length = n) (hc : cellsAt w g o us) : Yields1 P w (Instr.loadAt t (.pointer (some ⟨g, o, none⟩))) φ I v := by
  obtain ⟨⟨u, hu⟩, _⟩ := sz_both hn
  obtain ⟨h2, h3⟩ := mkValI_den hu hv hd
  exact ⟨_, run_loadVar_cells hu hn hl hc (fun hb => by rw [← hl]; exact h3 hb), h2⟩
theorem denss_flat : ∀ (rows : List (List IV)) (vss : List (List Value)), IV.denss w I rows vss → IV.dens w I rows.flatten vss.flatten
  | [], vss, h => by simp only [IV.denss] at h; subst h; simp [IV.dens]
  | r :: rows, vss, h => by
    simp only [IV.denss] at h
    obtain ⟨u, us', rfl, h1, h2⟩ := h
    simp only [List.flatten_cons]
    exact idens_append _ _ _ _ h1 (denss_flat rows us' h2)
where
  idens_append : ∀ (a b : List IV) (us vs : List Value), IV.dens w I a us → IV.dens w I b vs → IV.dens w I (a ++ b) (us ++ vs)
    | [], b, us, vs, h1, h2 => by simp only [IV.dens] at h1; subst h1; simpa using h2
    | x :: a, b, us, vs, h1, h2 => by
      simp only [IV.dens] at h1
      obtain ⟨u, us', rfl, h3, h4⟩ := h1
      simp only [List.cons_append, IV.dens]
      exact ⟨u, _, rfl, h3, idens_append a b us' vs h4 h2⟩
theorem block_cells {g : Nat} {us : List Value} {e : TypeId} {fz : Nat × Nat} (h : w.heap[g]? = some (.cells us.toArray e fz)) (o : Nat) : cellsAt w g o (us.drop o) := by
  intro j u hu
  rw [List.getElem?_drop] at hu
  simp [World.cell?, h, hu]
theorem cellsAt.take {g o : Nat} {us : List Value} (h : cellsAt w g o us) (n : Nat) : cellsAt w g o (us.take n) := by
  intro j u hu
  rw [List.getElem?_take] at hu
  split at hu
  · exact h j u hu
  · cases hu
theorem cellsAt.drop {g o : Nat} {us : List Value} (h : cellsAt w g o us) (n : Nat) : cellsAt w g (o + n) (us.drop n) := by
  intro j u hu
  rw [List.getElem?_drop] at hu
  rw [Nat.add_assoc]
  exact h _ u hu
theorem row_cells {g : Nat} {vss : List (List Value)} {rest : List Value} {e : TypeId} {fz : Nat × Nat} {es i : Nat} {vs : List Value} (h : w.heap[g]? = some (.cells (vss.flatten ++ rest).toArray e fz)) (hl : ∀ vs ∈ vss, vs.length = es)
    (hi : vss[i]? = some vs) : cellsAt w g (i * es) vs := by
  intro j u hu
  have hf := flat_get vss es i j vs u hl hi hu
  have hlt : i * es + j < vss.flatten.length := by
    rcases Nat.lt_or_ge (i * es + j) vss.flatten.length with h | h
    · exact h
    · rw [List.getElem?_eq_none h] at hf; cases hf
  simp only [World.cell?, h, Option.isSome_none, Bool.false_eq_true, if_false, List.getElem?_toArray]
  rw [List.getElem?_append_left hlt]
  exact hf
theorem aLoad_sound (hR : Real w φ I H) {t : TypeId} {x : AV} {p : Value} {sc : Prop} {v : AV} (h : aLoad P H t x = some (sc, v)) (hsc : sc) (hx : AV.den w φ I x p) : Yields1 P w (Instr.loadAt t p) φ I v := by
  unfold aLoad at h
  split at h
  · rename_i cs
    split at h
    · rename_i n hn
      split at h
      · rename_i v' hv
        simp only [Option.some.injEq, Prod.mk.injEq] at h
        obtain ⟨rfl, rfl⟩ := h
        simp only [AV.den, IV.den] at hx
        obtain ⟨g, off, us, rfl, hg, hd, hc⟩ := hx
        refine load_atI hn hv (idens_take n cs us hd) ?_ (hc.take n)
        rw [List.length_take, idens_len cs us hd]; omega
      · cases h
    · cases h
  · rename_i b o
    split at h
    · rename_i el cs n hlk hn
      split at h
      · rename_i v' hv
        simp only [Option.some.injEq, Prod.mk.injEq] at h
        obtain ⟨rfl, rfl⟩ := h
        simp only [AV.den] at hx
        obtain ⟨g, hg, rfl⟩ := hx
        have hown := hR.own b _ _ hlk hg
        simp only [Ob.at] at hown
        obtain ⟨g', us, hgg, hheap, hd, h1⟩ := hown
        cases hgg
        simp only [Sh.has, Sh.one] at hheap h1
        refine load_at hn hv (adens_take n _ _ (adens_drop o cs us hd)) (fun x hx => h1 x (List.mem_of_mem_drop (List.mem_of_mem_take hx))) ?_ ((block_cells hheap o).take n)
        rw [List.length_take, List.length_drop, adens_len cs us hd]; omega
      · cases h
    · rename_i el es rows n hlk hn
      cases hb : Nat.beq o 0 with
      | false => rw [hb] at h; simp at h
      | true =>
        rw [hb] at h
        have ho := Nat.eq_of_beq_eq_true hb
        subst ho
        simp only [cond_true] at h
        split at h
        · rename_i m e ht
          simp only [Option.some.injEq, Prod.mk.injEq] at h
          obtain ⟨rfl, rfl⟩ := h
          simp only [AV.den] at hx
          obtain ⟨g, hg, rfl⟩ := hx
          have hown := hR.own b _ _ hlk hg
          simp only [Ob.at] at hown
          rcases hown with ⟨h1, _⟩ | ⟨g', vss, rest, hgg, hheap, hd, hl⟩
          · cases h1
          cases hgg
          have hdf := denss_flat rows vss hd
          have hlen := idens_len _ _ hdf
          refine load_atI hn (cs := rows.flatten) (us := vss.flatten) (by simp [mkValI, ht]) hdf (by rw [hlen]; exact hsc) ?_
          intro j u hu
          have hlt : j < vss.flatten.length := by
            rcases Nat.lt_or_ge j vss.flatten.length with h | h
            · exact h
            · rw [List.getElem?_eq_none h] at hu; cases hu
          simp only [World.cell?, hheap, Option.isSome_none, Bool.false_eq_true, if_false, List.getElem?_toArray]
          rw [List.getElem?_append_left (by simpa using hlt)]
          simpa using hu
        · cases h
    · cases h
  · rename_i b es i j
    split at h
    · rename_i el es' rows n hlk hn
      cases hb : Nat.beq es es' with
      | false => rw [hb] at h; simp at h
      | true =>
        rw [hb] at h
        have hes := Nat.eq_of_beq_eq_true hb
        subst hes
        simp only [cond_true] at h
        split at h
        · rename_i v' hv
          simp only [Option.some.injEq, Prod.mk.injEq] at h
          obtain ⟨rfl, rfl⟩ := h
          obtain ⟨hi, hj⟩ := hsc
          simp only [AV.den] at hx
          obtain ⟨g, hg, rfl⟩ := hx
          have hown := hR.own b _ _ hlk hg
          simp only [Ob.at] at hown
          rcases hown with ⟨_, rfl⟩ | ⟨g', vss, rest, hgg, hheap, hd, hl⟩
          · simp at hi
          cases hgg
          obtain ⟨vs, hvs, hdv⟩ := denss_get rows vss i _ hd (List.getElem?_eq_getElem hi)
          have e1 : rows.getD i [] = rows[i] := by simp [List.getD, hi]
          rw [e1] at hv
          have hvl : vs.length = es := hl vs (List.mem_of_getElem? hvs)
          refine load_atI hn hv (idens_take n _ _ (idens_drop j _ vs hdv)) ?_ (((row_cells hheap hl hvs).drop j).take n)
          rw [List.length_take, List.length_drop, hvl]; omega
        · cases h
    · rename_i el cs n hlk hn
      split at h
      · rename_i v' hv
        simp only [Option.some.injEq, Prod.mk.injEq] at h
        obtain ⟨rfl, rfl⟩ := h
        simp only [AV.den] at hx
        obtain ⟨g, hg, rfl⟩ := hx
        have hown := hR.own b _ _ hlk hg
        simp only [Ob.at] at hown
        obtain ⟨g', us, hgg, hheap, hd, h1⟩ := hown
        cases hgg
        simp only [Sh.has, Sh.one] at hheap h1
        refine load_at hn hv (adens_take n _ _ (adens_drop (i * es + j) cs us hd)) (fun x hx => h1 x (List.mem_of_mem_drop (List.mem_of_mem_take hx))) ?_ ((block_cells hheap (i * es + j)).take n)
        rw [List.length_take, List.length_drop, adens_len cs us hd]; omega
      · cases h
    · cases h
  · cases h
theorem aField_sound {t : TypeId} {f : Nat} {x : AV} {p : Value} {sc : Prop} {v : AV} (h : aField P t f x = some (sc, v)) (hsc : sc) (hx : AV.den w φ I x p) : Yields1 P w (Instr.field t p f) φ I v := by
  unfold aField at h
  split at h
  · rename_i cs
    split at h
    · rename_i fs ht
      obtain ⟨F, hF, hmap⟩ := und_struct ht
      split at h
      · rename_i off ty hf
        split at h
        · rename_i n hn
          split at h
          · rename_i v' hv
            simp only [Option.some.injEq, Prod.mk.injEq] at h
            obtain ⟨rfl, rfl⟩ := h
            simp only [AV.den] at hx
            obtain ⟨us, hd, rfl, h1⟩ := hx
            have hF' : ∃ fd : Field, F[f]? = some fd ∧ fd.offset = off ∧ fd.type = ty := by
              rw [← hmap, List.getElem?_map] at hf
              simp at hf
              obtain ⟨fd, h1, h2, h3⟩ := hf
              exact ⟨fd, h1, h2, h3⟩
            obtain ⟨fd, hf1, hf2, hf3⟩ := hF'
            subst hf3; subst hf2
            obtain ⟨⟨u, hu⟩, _⟩ := sz_both hn
            have hlen := adens_len cs us hd
            obtain ⟨h2, h3⟩ := mkVal_den hu hv (adens_take n _ _ (adens_drop fd.offset cs us hd)) (fun x hx => h1 x (List.mem_of_mem_drop (List.mem_of_mem_take hx)))
            refine ⟨_, ?_, h2⟩
            have hagg := run_isAgg hu w
            cases hb : (TK.of u).agg with
            | true =>
              rw [hb] at hagg
              simp [Instr.field, run_underlying hF, hf1, asAgg, part, hagg, run_sizeOf hn]
            | false =>
              rw [hb] at hagg
              have hl1 := h3 hb
              have hn1 : n = 1 := by
                rw [List.length_take, List.length_drop] at hl1
                omega
              subst hn1
              have hlt : fd.offset < us.length := by omega
              have e1 : ((us.drop fd.offset).take 1).getD 0 undef = us[fd.offset] := by
                simp [List.getD, List.getElem?_take, hlt]
              simp [Instr.field, run_underlying hF, hf1, asAgg, part, hagg, hlt]
          · cases h
        · cases h
      · cases h
    · cases h
  · cases h
theorem aExtract_sound {i : Nat} {x : AV} {p : Value} {sc : Prop} {v : AV} (h : aExtract i x = some (sc, v)) (hx : AV.den w φ I x p) : Yields1 P w (Instr.extract p i) φ I v := by
  unfold aExtract at h
  split at h
  · rename_i vs
    split at h
    · rename_i v' hv
      simp only [Option.some.injEq, Prod.mk.injEq] at h
      obtain ⟨_, rfl⟩ := h
      simp only [AV.den] at hx
      obtain ⟨us, hd, rfl⟩ := hx
      obtain ⟨u, hu, hdu⟩ := adens_get vs us i _ hd hv
      exact ⟨u, by simp [Instr.extract, hu], hdu⟩
    · cases h
  · cases h
theorem aMin2_sound {x y : AV} {p q : Value} {sc : Prop} {v : AV} {ts : Array TypeId} {ty : TypeId} (h : aMin2 x y = some (sc, v)) (hx : AV.den w φ I x p) (hy : AV.den w φ I y q) : Yields1 P w (Builtin.min_ ts ty #[p, q]) φ I v := by
  unfold aMin2 at h
  split at h
  · rw [den_i] at hx hy
    subst hx; subst hy
    simp only [Option.some.injEq, Prod.mk.injEq] at h
    obtain ⟨_, rfl⟩ := h
    exact ⟨_, by simp [Builtin.min_, Builtin.min2], den_int⟩
  · cases h
theorem aMax2_sound {x y : AV} {p q : Value} {sc : Prop} {v : AV} {ts : Array TypeId} {ty : TypeId} (h : aMax2 x y = some (sc, v)) (hx : AV.den w φ I x p) (hy : AV.den w φ I y q) : Yields1 P w (Builtin.max_ ts ty #[p, q]) φ I v := by
  unfold aMax2 at h
  split at h
  · rw [den_i] at hx hy
    subst hx; subst hy
    simp only [Option.some.injEq, Prod.mk.injEq] at h
    obtain ⟨_, rfl⟩ := h
    exact ⟨_, by simp [Builtin.max_, Builtin.max2], den_int⟩
  · cases h
theorem aPick_sound {c x y : AV} {pc p q : Value} {sc : Prop} {v : AV} (h : aPick c x y = some (sc, v)) (hsc : sc) (hc : AV.den w φ I c pc) (hx : AV.den w φ I x p) (hy : AV.den w φ I y q) :
    ∃ b : Bool, pc = .bool b ∧ AV.den w φ I v (if b then p else q) := by
  unfold aPick at h
  split at h
  · rename_i cb hcs
    split at h
    · rename_i xb yb hxs hys
      simp only [Option.some.injEq, Prod.mk.injEq] at h
      obtain ⟨rfl, rfl⟩ := h
      have hc' := st_den hc hsc.1
      rw [hcs, den_b] at hc'
      subst hc'
      refine ⟨cb, rfl, ?_⟩
      cases cb with
      | true =>
        have := st_den hx (hsc.2.1 rfl)
        rw [hxs] at this
        simpa [pk] using this
      | false =>
        have := st_den hy (hsc.2.2 rfl)
        rw [hys] at this
        simpa [pk] using this
    · cases cb with
      | true =>
        simp only [Option.some.injEq, Prod.mk.injEq] at h
        obtain ⟨rfl, rfl⟩ := h
        have hc' := st_den hc hsc.1
        rw [hcs, den_b] at hc'
        subst hc'
        exact ⟨true, rfl, by simpa using st_den hx hsc.2⟩
      | false =>
        simp only [Option.some.injEq, Prod.mk.injEq] at h
        obtain ⟨rfl, rfl⟩ := h
        have hc' := st_den hc hsc.1
        rw [hcs, den_b] at hc'
        subst hc'
        exact ⟨false, rfl, by simpa using st_den hy hsc.2⟩
  · cases h
theorem sliceBound_run {k : IntKind} {n : Int} {y : Nat} {code : BoundsCode} (h0 : 0 ≤ n) (h1 : n ≤ y) : (Instr.sliceBound (.int k n) y code).run P w = .ok n.toNat w := by
  simp [Instr.sliceBound, asIntOf, h0, h1]
theorem denss_drop : ∀ (k : Nat) (xs : List (List IV)) (us : List (List Value)), IV.denss w I xs us → IV.denss w I (xs.drop k) (us.drop k)
  | 0, _, _, h => by simpa using h
  | k + 1, [], us, h => by simp only [IV.denss] at h; subst h; simp [IV.denss]
  | k + 1, x :: xs, us, h => by
    simp only [IV.denss] at h
    obtain ⟨u, us', rfl, h1, h2⟩ := h
    simpa using denss_drop k xs us' h2
theorem denss_take : ∀ (k : Nat) (xs : List (List IV)) (us : List (List Value)), IV.denss w I xs us → IV.denss w I (xs.take k) (us.take k)
  | 0, _, _, h => by simp [IV.denss]
  | k + 1, [], us, h => by simp only [IV.denss] at h; subst h; simp [IV.denss]
  | k + 1, x :: xs, us, h => by
    simp only [IV.denss] at h
    obtain ⟨u, us', rfl, h1, h2⟩ := h
    simp only [List.take_succ_cons, IV.denss]
    exact ⟨u, _, rfl, h1, denss_take k xs us' h2⟩
theorem flat_drop : ∀ (k : Nat) (vss : List (List Value)) (es : Nat), (∀ vs ∈ vss, vs.length = es) → k ≤ vss.length → (vss.drop k).flatten = vss.flatten.drop (k * es)
  | 0, vss, es, _, _ => by simp
  | k + 1, [], es, _, h => by simp at h
  | k + 1, x :: xs, es, hl, h => by
    have hx : x.length = es := hl x (by simp)
    rw [List.drop_succ_cons, List.flatten_cons, flat_drop k xs es (fun vs hv => hl vs (by simp [hv])) (by simpa using h)]
    rw [show (k + 1) * es = x.length + k * es by rw [hx, Nat.add_mul]; omega, List.drop_append]
    simp
theorem flat_take : ∀ (k : Nat) (vss : List (List Value)) (es : Nat), (∀ vs ∈ vss, vs.length = es) → k ≤ vss.length → (vss.take k).flatten = vss.flatten.take (k * es)
  | 0, vss, es, _, _ => by simp
  | k + 1, [], es, _, h => by simp at h
  | k + 1, x :: xs, es, hl, h => by
    have hx : x.length = es := hl x (by simp)
    rw [List.take_succ_cons, List.flatten_cons, List.flatten_cons, flat_take k xs es (fun vs hv => hl vs (by simp [hv])) (by simpa using h)]
    rw [show (k + 1) * es = x.length + k * es by rw [hx, Nat.add_mul]; omega, List.take_append, List.take_of_length_le (l := x) (by omega)]
    simp
theorem sl_cut {es : Nat} {rows : List (List IV)} {p : Option Addr} {c l h : Nat} {vss : List (List Value)} (hr : IV.denss w I rows vss) (hl : ∀ vs ∈ vss, vs.length = es)
    (ha : rows ≠ [] → ∃ g off, p = some ⟨g, off, none⟩ ∧ I g ∧ cellsAt w g off vss.flatten) (hlh : l ≤ h) (hh : h ≤ rows.length) (hc : rows.length ≤ c) :
    AV.den w φ I (.im (.sl es ((rows.take h).drop l))) (.slice (if c = l then p else p.map (·.add (l * es))) (h - l) (c - l)) := by
  simp only [AV.den, IV.den]
  have hvl := denss_len rows vss hr
  have hlen : ((rows.take h).drop l).length = h - l := by rw [List.length_drop, List.length_take]; omega
  refine ⟨_, c - l, (vss.take h).drop l, by rw [hlen], by rw [hlen]; omega, denss_drop l _ _ (denss_take h _ _ hr), fun vs hv => hl vs (List.mem_of_mem_take (List.mem_of_mem_drop hv)), fun hn => ?_⟩
  have hlt : l < h := by
    rcases Nat.lt_or_ge l h with h' | h'
    · exact h'
    · exact absurd (List.eq_nil_of_length_eq_zero (by rw [hlen]; omega)) hn
  obtain ⟨g, off, rfl, hg, hcell⟩ := ha (by intro e; rw [e] at hh; simp at hh; omega)
  refine ⟨g, off + l * es, ?_, hg, ?_⟩
  · rw [if_neg (by omega)]
    simp [addr_add]
  · have htl : (vss.take h).length = h := by rw [List.length_take]; omega
    rw [flat_drop l _ es (fun vs hv => hl vs (List.mem_of_mem_take hv)) (by omega), flat_take h vss es hl (by omega)]
    exact (hcell.take (h * es)).drop (l * es)
theorem bounds_lh {b : Bool} {len cap : Nat} {k k' : IntKind} {l h : Int} (h0 : 0 ≤ l) (h1 : l ≤ h) (h2 : h ≤ cap) :
    (Instr.sliceBounds b len cap (some (.int k l)) (some (.int k' h)) none).run P w = .ok (l.toNat, h.toNat, cap) w := by
  have e1 := fun code => sliceBound_run (P := P) (w := w) (k := k') (n := h) (y := cap) (code := code) (by omega) h2
  have e2 := fun code => sliceBound_run (P := P) (w := w) (k := k) (n := l) (y := h.toNat) (code := code) h0 (by omega)
  simp [Instr.sliceBounds, e1, e2]
theorem bounds_l {b : Bool} {len cap : Nat} {k : IntKind} {l : Int} (h0 : 0 ≤ l) (h1 : l ≤ len) :
    (Instr.sliceBounds b len cap (some (.int k l)) none none).run P w = .ok (l.toNat, len, cap) w := by
  have e2 := fun code => sliceBound_run (P := P) (w := w) (k := k) (n := l) (y := len) (code := code) h0 h1
  simp [Instr.sliceBounds, e2]
theorem bounds_h {b : Bool} {len cap : Nat} {k : IntKind} {h : Int} (h0 : 0 ≤ h) (h2 : h ≤ cap) :
    (Instr.sliceBounds b len cap none (some (.int k h)) none).run P w = .ok (0, h.toNat, cap) w := by
  have e1 := fun code => sliceBound_run (P := P) (w := w) (k := k) (n := h) (y := cap) (code := code) h0 h2
  simp [Instr.sliceBounds, e1]
theorem slice_str {t : TypeId} {s : ByteArray} {plo phi : Option Value} {l h : Nat} (ht : tk P t = .str) (hb : (Instr.sliceBounds false s.size s.size plo phi none).run P w = .ok (l, h, s.size) w) :
    (Instr.sliceAt t (.string s) plo phi none).run P w = .ok (.string (s.extract l h)) w := by
  simp [Instr.sliceAt, Instr.slice, run_underlying (und_str ht), hb]
theorem slice_sl {t e : TypeId} {es n c : Nat} {p : Option Addr} {plo phi : Option Value} {l h : Nat} (ht : tk P t = .slice e) (hes : sz P e = some es) (hb : (Instr.sliceBounds true n c plo phi none).run P w = .ok (l, h, c) w) :
    (Instr.sliceAt t (.slice p n c) plo phi none).run P w = .ok (.slice (if c = l then p else p.map (·.add (l * es))) (h - l) (c - l)) w := by
  simp [Instr.sliceAt, Instr.slice, run_underlying (und_slice ht), hb, run_sizeOf hes]
theorem aSlice_sound {t : TypeId} {lo hi : Option AV} {x : AV} {p : Value} {plo phi : Option Value} {sc : Prop} {v : AV} (h : aSlice P t lo hi x = some (sc, v)) (hsc : sc) (hx : AV.den w φ I x p)
    (hlo : ∀ y, lo = some y → ∃ u, plo = some u ∧ AV.den w φ I y u) (hlo' : lo = none → plo = none) (hhi : ∀ y, hi = some y → ∃ u, phi = some u ∧ AV.den w φ I y u) (hhi' : hi = none → phi = none) :
    Yields1 P w (Instr.sliceAt t p plo phi none) φ I v := by
  unfold aSlice at h
  split at h
  · rename_i s
    rw [den_s] at hx
    subst hx
    split at h
    · rename_i ht
      obtain ⟨_, rfl, hl⟩ := hlo _ rfl
      obtain ⟨_, rfl, hh⟩ := hhi _ rfl
      rw [den_i] at hl hh
      subst hl; subst hh
      simp only [Option.some.injEq, Prod.mk.injEq] at h
      obtain ⟨rfl, rfl⟩ := h
      obtain ⟨h0, h1, h2⟩ := hsc
      exact ⟨_, slice_str ht (bounds_lh h0 h1 h2), den_str⟩
    · rename_i ht
      obtain ⟨_, rfl, hl⟩ := hlo _ rfl
      obtain rfl := hhi' rfl
      rw [den_i] at hl
      subst hl
      simp only [Option.some.injEq, Prod.mk.injEq] at h
      obtain ⟨rfl, rfl⟩ := h
      obtain ⟨h0, h1⟩ := hsc
      exact ⟨_, slice_str ht (bounds_l h0 h1), den_str⟩
    · rename_i ht
      obtain ⟨_, rfl, hh⟩ := hhi _ rfl
      obtain rfl := hlo' rfl
      rw [den_i] at hh
      subst hh
      simp only [Option.some.injEq, Prod.mk.injEq] at h
      obtain ⟨rfl, rfl⟩ := h
      obtain ⟨h0, h1⟩ := hsc
      exact ⟨_, slice_str ht (bounds_h h0 h1), den_str⟩
    · cases h
  · rename_i es rows
    simp only [AV.den, IV.den] at hx
    obtain ⟨pp, c, vss, rfl, hc, hr, hl, ha⟩ := hx
    split at h
    · rename_i e _ lv _ hv ht
      cases hd : decide (sz P e = some es) with
      | false => rw [hd] at h; simp at h
      | true =>
        rw [hd] at h
        simp only [cond_true, Option.some.injEq, Prod.mk.injEq] at h
        obtain ⟨rfl, rfl⟩ := h
        have hsz := of_decide_eq_true hd
        obtain ⟨_, rfl, hl1⟩ := hlo _ rfl
        obtain ⟨_, rfl, hh⟩ := hhi _ rfl
        rw [den_i] at hl1 hh
        subst hl1; subst hh
        obtain ⟨h0, h1, h2⟩ := hsc
        exact ⟨_, slice_sl ht hsz (bounds_lh h0 h1 (by omega)), sl_cut hr hl ha (by omega) (by omega) hc⟩
    · rename_i e _ lv ht
      cases hd : decide (sz P e = some es) with
      | false => rw [hd] at h; simp at h
      | true =>
        rw [hd] at h
        simp only [cond_true, Option.some.injEq, Prod.mk.injEq] at h
        obtain ⟨rfl, rfl⟩ := h
        have hsz := of_decide_eq_true hd
        obtain ⟨_, rfl, hl1⟩ := hlo _ rfl
        obtain rfl := hhi' rfl
        rw [den_i] at hl1
        subst hl1
        obtain ⟨h0, h1⟩ := hsc
        refine ⟨_, slice_sl ht hsz (bounds_l h0 h1), ?_⟩
        have := sl_cut (φ := φ) (l := lv.toNat) (h := rows.length) hr hl ha (by omega) (Nat.le_refl _) hc
        rw [List.take_length] at this
        exact this
    · rename_i e _ hv ht
      cases hd : decide (sz P e = some es) with
      | false => rw [hd] at h; simp at h
      | true =>
        rw [hd] at h
        simp only [cond_true, Option.some.injEq, Prod.mk.injEq] at h
        obtain ⟨rfl, rfl⟩ := h
        have hsz := of_decide_eq_true hd
        obtain ⟨_, rfl, hh⟩ := hhi _ rfl
        obtain rfl := hlo' rfl
        rw [den_i] at hh
        subst hh
        obtain ⟨h0, h1⟩ := hsc
        refine ⟨_, slice_sl ht hsz (bounds_h h0 (by omega)), ?_⟩
        have := sl_cut (φ := φ) (l := 0) (h := hv.toNat) hr hl ha (by omega) (by omega) hc
        rw [List.drop_zero] at this
        exact this
    · cases h
  · cases h
end
end Go.AL
end

section
namespace Go.AL
open Go
section
variable {P : Program} {w : World} {φ : Phi} {I : Nat → Prop} {E : Env} {H : Heap} {a : Act}
def setAtV (cs : List Value) (off : Nat) : List Value → List Value
  | [] => cs
  | x :: xs => setAtV (cs.set off x) (off + 1) xs
theorem mapIdx_zip' {α : Type} : ∀ (l : List α) (k : Nat) (f : Nat → α → α × Nat), (∀ i x, f i x = (x, i + k)) → l.mapIdx f = l.zipIdx k
  | [], _, _, _ => rfl
  | x :: l, k, f, hf => by
    rw [List.mapIdx_cons, List.zipIdx_cons, hf 0 x, Nat.zero_add, mapIdx_zip' l (k + 1) (fun i => f (i + 1)) (fun i x => by rw [hf]; simp; omega)]
theorem mapIdx_zip {α : Type} (l : List α) : l.mapIdx (fun i a => (a, i)) = l.zipIdx := mapIdx_zip' l 0 _ (fun _ _ => rfl)
theorem fold_setAt : ∀ (ws : List Value) (k off : Nat) (cs : List Value),
    ((ws.zipIdx k).foldl (fun (cs : Array Value) (p : Value × Nat) => cs.setIfInBounds (off + p.2) p.1) cs.toArray) = (setAtV cs (off + k) ws).toArray
  | [], _, _, _ => rfl
  | x :: ws, k, off, cs => by
    simp only [List.zipIdx_cons, List.foldl_cons, setAtV, List.setIfInBounds_toArray]
    rw [fold_setAt ws (k + 1) off (cs.set (off + k) x)]
    rfl
theorem adens_set : ∀ (cs : List AV) (us : List Value) (i : Nat) (x : AV) (u : Value), AV.dens w φ I cs us → AV.den w φ I x u → AV.dens w φ I (cs.set i x) (us.set i u)
  | [], us, i, x, u, h, _ => by simp only [AV.dens] at h; subst h; simp [AV.dens]
  | c :: cs, us, i, x, u, h, hx => by
    simp only [AV.dens] at h
    obtain ⟨u0, us', rfl, h1, h2⟩ := h
    cases i with
    | zero => simp only [List.set_cons_zero, AV.dens]; exact ⟨u, us', rfl, hx, h2⟩
    | succ i => simp only [List.set_cons_succ, AV.dens]; exact ⟨u0, _, rfl, h1, adens_set cs us' i x u h2 hx⟩
theorem setAt_dens : ∀ (ys : List AV) (ws : List Value) (off : Nat) (cs : List AV) (us : List Value), AV.dens w φ I cs us → AV.dens w φ I ys ws → AV.dens w φ I (setAt cs off ys) (setAtV us off ws)
  | [], ws, off, cs, us, h, hy => by simp only [AV.dens] at hy; subst hy; exact h
  | y :: ys, ws, off, cs, us, h, hy => by
    simp only [AV.dens] at hy
    obtain ⟨u0, us', rfl, h1, h2⟩ := hy
    simp only [setAt, setAtV]
    exact setAt_dens ys us' (off + 1) _ _ (adens_set cs us off y u0 h h1) h2
theorem setAtV_one : ∀ (ws : List Value) (off : Nat) (us : List Value), (∀ x ∈ us, x.oneCell' = true) → (∀ x ∈ ws, x.oneCell' = true) → ∀ x ∈ setAtV us off ws, x.oneCell' = true
  | [], _, _, h, _ => h
  | y :: ws, off, us, h, hw => setAtV_one ws (off + 1) _ (fun x hx => by
      rcases List.mem_or_eq_of_mem_set hx with h' | rfl
      · exact h x h'
      · exact hw _ (by simp)) (fun x hx => hw x (by simp [hx]))
theorem setAtV_len : ∀ (ws : List Value) (off : Nat) (us : List Value), (setAtV us off ws).length = us.length
  | [], _, _ => rfl
  | y :: ws, off, us => by simp only [setAtV]; rw [setAtV_len ws (off + 1)]; simp
theorem cells_one {u : Value} (h : u.oneCell' = true) : u.cells = #[u] := by cases u <;> first | rfl | cases h
theorem cellsOfAV_den {x : AV} {ys : List AV} {u : Value} (h : cellsOfAV x = some ys) (hx : AV.den w φ I x u) : ∃ ws, u.cells = ws.toArray ∧ AV.dens w φ I ys ws ∧ ∀ x ∈ ws, x.oneCell' = true := by
  unfold cellsOfAV at h
  split at h
  · simp only [Option.some.injEq] at h; subst h
    simp only [AV.den] at hx
    obtain ⟨us, hd, rfl, h1⟩ := hx
    exact ⟨us, rfl, hd, h1⟩
  · rename_i y
    simp only [Option.some.injEq] at h; subst h
    have h1 := iv_one y u (by simpa only [AV.den] using hx)
    exact ⟨[u], cells_one h1, by simp only [AV.dens]; exact ⟨u, [], rfl, hx, rfl⟩, by simpa using h1⟩
  · simp only [Option.some.injEq] at h; subst h
    have h1 : u.oneCell' = true := by simp only [AV.den] at hx; obtain ⟨_, _, rfl⟩ := hx; rfl
    exact ⟨[u], cells_one h1, by simp only [AV.dens]; exact ⟨u, [], rfl, hx, rfl⟩, by simpa using h1⟩
  · simp only [Option.some.injEq] at h; subst h
    have h1 : u.oneCell' = true := by simp only [AV.den] at hx; rcases hx with ⟨_, _, _, rfl⟩ | ⟨_, _, _, rfl, _⟩ <;> rfl
    exact ⟨[u], cells_one h1, by simp only [AV.dens]; exact ⟨u, [], rfl, hx, rfl⟩, by simpa using h1⟩
  · simp only [Option.some.injEq] at h; subst h
    have h1 : u.oneCell' = true := by simp only [AV.den] at hx; obtain ⟨_, _, rfl⟩ := hx; rfl
    exact ⟨[u], cells_one h1, by simp only [AV.dens]; exact ⟨u, [], rfl, hx, rfl⟩, by simpa using h1⟩
  · simp only [Option.some.injEq] at h; subst h
    have h1 : u.oneCell' = true := by simp only [AV.den] at hx; obtain ⟨_, _, _, _, rfl⟩ := hx; rfl
    exact ⟨[u], cells_one h1, by simp only [AV.dens]; exact ⟨u, [], rfl, hx, rfl⟩, by simpa using h1⟩
  · simp only [Option.some.injEq] at h; subst h
    have h1 : u.oneCell' = true := by simp only [AV.den] at hx; obtain ⟨_, _, rfl⟩ := hx; rfl
    exact ⟨[u], cells_one h1, by simp only [AV.dens]; exact ⟨u, [], rfl, hx, rfl⟩, by simpa using h1⟩
  · simp only [Option.some.injEq] at h; subst h
    have h1 : u.oneCell' = true := by simp only [AV.den, WK.rel] at hx; obtain ⟨_, rfl, _⟩ := hx; rfl
    exact ⟨[u], cells_one h1, by simp only [AV.dens]; exact ⟨u, [], rfl, hx, rfl⟩, by simpa using h1⟩
  · simp only [Option.some.injEq] at h; subst h
    simp only [AV.den] at hx
    obtain ⟨us, hd, rfl⟩ := hx
    refine ⟨us, rfl, ?_, idens_one _ us hd⟩
    have : ∀ (cs : List IV) (us : List Value), IV.dens w I cs us → AV.dens w φ I (cs.map .im) us := by
      intro cs
      induction cs with
      | nil => intro us h; simpa only [IV.dens, AV.dens, List.map_nil] using h
      | cons c cs ih =>
        intro us h
        simp only [IV.dens] at h
        obtain ⟨u, us', rfl, h1, h2⟩ := h
        simp only [List.map_cons, AV.dens]
        exact ⟨u, us', rfl, by simpa only [AV.den] using h1, ih us' h2⟩
    exact this _ _ hd
  · cases h
theorem fillParts_sound {place : Nat → Option (Nat × Nat)} (hE : EnvOk w φ I E a) : ∀ (parts : List (Nat × Operand)) (cs cs' : List AV) (us : List Value), fillParts place E cs parts = some cs' → AV.dens w φ I cs us → (∀ x ∈ us, x.oneCell' = true) →
    ∃ us', Instr.fill place us.toArray (parts.map fun p => (p.1, a.eval p.2)) = some us'.toArray ∧ AV.dens w φ I cs' us' ∧ (∀ x ∈ us', x.oneCell' = true) ∧ us'.length = us.length
  | [], cs, cs', us, h, hd, h1 => by
    simp only [fillParts, Option.some.injEq] at h
    subst h
    exact ⟨us, rfl, hd, h1, rfl⟩
  | (i, x) :: parts, cs, cs', us, h, hd, h1 => by
    simp only [fillParts] at h
    split at h
    · rename_i off n av hp hev
      split at h
      · rename_i ys hy
        cases hb : (Nat.beq ys.length n && decide (off + n ≤ cs.length)) with
        | false => rw [hb] at h; simp at h
        | true =>
          rw [hb] at h
          simp only [cond_true] at h
          simp only [Bool.and_eq_true, decide_eq_true_eq] at hb
          have hn := Nat.eq_of_beq_eq_true hb.1
          obtain ⟨ws, hw, hdw, hw1⟩ := cellsOfAV_den hy (ev_sound hE hev)
          have hlen := adens_len cs us hd
          have hwl : ws.length = n := by rw [adens_len ys ws hdw]; exact hn
          obtain ⟨us', h2, h3, h4, h5⟩ := fillParts_sound hE parts _ cs' (setAtV us off ws) h (setAt_dens ys ws off cs us hd hdw) (setAtV_one ws off us h1 hw1)
          refine ⟨us', ?_, h3, h4, by rw [h5, setAtV_len]⟩
          simp only [List.map_cons, Instr.fill, hp]
          rw [if_neg (by simp [hw, hwl]; omega)]
          rw [hw]
          have := fold_setAt ws 0 off us
          simp only [Nat.add_zero] at this
          have e2 : (Array.foldl (fun (cs : Array Value) (x : Value × Nat) => cs.setIfInBounds (off + x.2) x.1) us.toArray ws.toArray.zipIdx) = (setAtV us off ws).toArray := by
            rw [← this, Array.zipIdx, ← Array.foldl_toList]; simp [mapIdx_zip]
          rw [← h2]
          congr 1
      · cases h
    · cases h
theorem zro_info {t : TypeId} {z : List Value} (h : zro P t = some z) : ∃ i zv, P.info? t = some i ∧ i.zero = some zv ∧ zv.cells.toList = z := by
  unfold zro at h
  cases hi : P.info? t with
  | none => rw [hi] at h; cases h
  | some i =>
    rw [hi] at h
    simp only [Option.bind_some] at h
    cases hz : i.zero with
    | none => rw [hz] at h; cases h
    | some zv => rw [hz] at h; exact ⟨i, zv, rfl, hz, by simpa using h⟩
theorem placesOf_mapM : ∀ (F : List Field) (pl : List (Nat × Nat)), placesOf P (F.map fun f => (f.offset, f.type)) = some pl → F.mapM (fun f => (P.info? f.type).map fun i => (f.offset, i.size)) = some pl
  | [], pl, h => by simpa [placesOf] using h
  | f :: F, pl, h => by
    simp only [List.map_cons, placesOf] at h
    split at h
    · rename_i n l hn hl
      simp only [Option.some.injEq] at h
      subst h
      obtain ⟨_, i, hi, rfl⟩ := sz_both hn
      simp [List.mapM_cons, hi, placesOf_mapM F l hl]
    · cases h
theorem parts_map (parts : Array (Nat × Operand)) (a : Act) : (parts.map fun (i, x) => (i, a.eval x)).toList = parts.toList.map fun p => (p.1, a.eval p.2) := by simp
theorem aBuild_sound (hE : EnvOk w φ I E a) {t : TypeId} {parts : Array (Nat × Operand)} {sc : Prop} {v : AV} (h : aBuild P t parts.toList E = some (sc, v)) :
    Yields1 P w (Instr.build t (parts.map fun (i, x) => (i, a.eval x))) φ I v := by
  unfold aBuild at h
  split at h
  · rename_i fs z ht hz
    obtain ⟨F, hF, rfl⟩ := und_struct ht
    obtain ⟨it, zv, hit, hzv, rfl⟩ := zro_info hz
    split at h
    · rename_i pl hpl
      split at h
      · rename_i cs hcs
        cases hb : zv.cells.toList.all Value.oneCell' with
        | false => rw [hb] at h; simp at h
        | true =>
          rw [hb] at h
          simp only [cond_true, Option.some.injEq, Prod.mk.injEq] at h
          obtain ⟨_, rfl⟩ := h
          obtain ⟨us', h2, h3, h4, h5⟩ := fillParts_sound (w := w) (φ := φ) (I := I) hE _ _ _ zv.cells.toList hcs (dens_ofVals _ hb) (List.all_eq_true.1 hb)
          refine ⟨.agg us'.toArray, run_build w t _ _ ?_, by simp only [AV.den]; exact ⟨us', h3, rfl, h4⟩⟩
          simp only [Program.built, hit, hF, hzv, placesOf_mapM _ _ hpl]
          rw [parts_map, ← h2]
          simp
      · cases h
    · cases h
  · rename_i m e z ht hz
    obtain ⟨it, zv, hit, hzv, rfl⟩ := zro_info hz
    split at h
    · rename_i n hn
      obtain ⟨_, ie, hie, rfl⟩ := sz_both hn
      split at h
      · rename_i cs hcs
        cases hb : zv.cells.toList.all Value.oneCell' with
        | false => rw [hb] at h; simp at h
        | true =>
          rw [hb] at h
          simp only [cond_true, Option.some.injEq, Prod.mk.injEq] at h
          obtain ⟨_, rfl⟩ := h
          obtain ⟨us', h2, h3, h4, h5⟩ := fillParts_sound (w := w) (φ := φ) (I := I) hE _ _ _ zv.cells.toList hcs (dens_ofVals _ hb) (List.all_eq_true.1 hb)
          refine ⟨.agg us'.toArray, run_build w t _ _ ?_, by simp only [AV.den]; exact ⟨us', h3, rfl, h4⟩⟩
          simp only [Program.built, hit, und_arr ht, hzv, hie]
          rw [parts_map, ← h2]
      · cases h
    · cases h
  · cases h
theorem aval0_sound (hE : EnvOk w φ I E a) (hR : Real w φ I H) {o : Oper} {sc : Prop} {v : AV} (h : aval0 P E H o.op = some (sc, v)) (hsc : sc) :
    ∃ u, (execOp a.eval o).run P w = .ok (.value u) w ∧ AV.den w φ I v u := by
  have fin : ∀ {s : Sem Value}, Yields1 P w s φ I v → (execOp a.eval o = do pure (.value (← s))) → ∃ u, (execOp a.eval o).run P w = .ok (.value u) w ∧ AV.den w φ I v u := by
    intro s ⟨u, hu, hd⟩ he
    exact ⟨u, by rw [he]; simp [hu], hd⟩
  obtain ⟨dst, op, ty, pos, after, guard⟩ := o
  simp only at h ⊢
  unfold aval0 at h
  split at h
  · rename_i x
    split at h
    · rename_i av hx
      simp only [Option.some.injEq, Prod.mk.injEq] at h
      obtain ⟨_, rfl⟩ := h
      exact ⟨_, rfl, ev_sound hE hx⟩
    · cases h
  · rename_i x
    split at h
    · rename_i av hx
      simp only [Option.some.injEq, Prod.mk.injEq] at h
      obtain ⟨_, rfl⟩ := h
      exact ⟨_, rfl, ev_sound hE hx⟩
    · cases h
  · rename_i c x y
    split at h
    · rename_i cv xv yv hc hx hy
      obtain ⟨b, hb, hd⟩ := aPick_sound h hsc (ev_sound hE hc) (ev_sound hE hx) (ev_sound hE hy)
      refine ⟨_, ?_, hd⟩
      simp [execOp, hb, asBool]
    · cases h
  · rename_i op t x y _
    obtain ⟨xa, ya, sc', hx, hy, hf, hsc', g1, g2⟩ := bi_sound h hsc
    exact fin (aBin_sound (ox := x) (oy := y) hf hsc' (st_den (ev_sound hE hx) g1) (st_den (ev_sound hE hy) g2)) rfl
  · rename_i op t x
    obtain ⟨xa, sc', hx, hf, hsc', g1⟩ := un_sound h hsc
    exact fin (aUn_sound hf (st_den (ev_sound hE hx) g1)) rfl
  · rename_i s d x
    obtain ⟨xa, sc', hx, hf, hsc', g1⟩ := un_sound h hsc
    split at hf
    · exact fin (aConv_sound hf (st_den (ev_sound hE hx) g1) (by rename_i hs; exact Option.isSome_iff_exists.1 hs)) rfl
    · cases hf
  · rename_i x
    obtain ⟨xa, sc', hx, hf, hsc', g1⟩ := un_sound h hsc
    exact ⟨_, aNil_sound (o := ⟨dst, .nilCheck x, ty, pos, after, guard⟩) rfl hf (st_den (ev_sound hE hx) g1) rfl⟩
  · obtain ⟨xa, ya, sc', hx, hy, hf, hsc', g1, g2⟩ := bi_sound h hsc
    exact fin (aIndex_sound hf hsc' (st_den (ev_sound hE hx) g1) (st_den (ev_sound hE hy) g2)) rfl
  · obtain ⟨xa, ya, sc', hx, hy, hf, hsc', g1, g2⟩ := bi_sound h hsc
    exact fin (aIndexAddr_sound hf hsc' (st_den (ev_sound hE hx) g1) (st_den (ev_sound hE hy) g2)) rfl
  · obtain ⟨xa, sc', hx, hf, hsc', g1⟩ := un_sound h hsc
    exact fin (aFieldAddr_sound hf (st_den (ev_sound hE hx) g1)) rfl
  · obtain ⟨xa, sc', hx, hf, hsc', g1⟩ := un_sound h hsc
    exact fin (aField_sound hf hsc' (st_den (ev_sound hE hx) g1)) rfl
  · obtain ⟨xa, sc', hx, hf, hsc', g1⟩ := un_sound h hsc
    exact fin (aLoad_sound hR hf hsc' (st_den (ev_sound hE hx) g1)) rfl
  · obtain ⟨xa, sc', hx, hf, hsc', g1⟩ := un_sound h hsc
    exact fin (aExtract_sound hf (st_den (ev_sound hE hx) g1)) rfl
  · exact fin (aBuild_sound hE h) rfl
  · rename_i args ts
    split at h
    · rename_i x t hargs hts
      obtain ⟨xa, sc', hx, hf, hsc', g1⟩ := un_sound h hsc
      obtain rfl : args = #[x] := by cases args; simpa using hargs
      obtain rfl : ts = #[t] := by cases ts; simpa using hts
      obtain ⟨u, hu, hd⟩ := aLen_sound (ty := ty) hf (st_den (ev_sound hE hx) g1)
      exact ⟨u, by simp [execOp, resolve, invoke, builtin, hu], hd⟩
    · cases h
  · rename_i args ts
    split at h
    · rename_i x y hargs
      obtain ⟨xa, ya, sc', hx, hy, hf, hsc', g1, g2⟩ := bi_sound h hsc
      obtain rfl : args = #[x, y] := by cases args; simpa using hargs
      obtain ⟨u, hu, hd⟩ := aMin2_sound (P := P) (ts := ts) (ty := ty) hf (st_den (ev_sound hE hx) g1) (st_den (ev_sound hE hy) g2)
      exact ⟨u, by simp [execOp, resolve, invoke, builtin, hu], hd⟩
    · cases h
  · rename_i args ts
    split at h
    · rename_i x y hargs
      obtain ⟨xa, ya, sc', hx, hy, hf, hsc', g1, g2⟩ := bi_sound h hsc
      obtain rfl : args = #[x, y] := by cases args; simpa using hargs
      obtain ⟨u, hu, hd⟩ := aMax2_sound (P := P) (ts := ts) (ty := ty) hf (st_den (ev_sound hE hx) g1) (st_den (ev_sound hE hy) g2)
      exact ⟨u, by simp [execOp, resolve, invoke, builtin, hu], hd⟩
    · cases h
  · rename_i t x lo hi
    split at h
    · rename_i l hh
      split at h
      · rename_i lv hv h1 h2
        obtain ⟨xa, sc', hx, hf, hsc', g1⟩ := un_sound h hsc
        refine fin (aSlice_sound (plo := some (a.eval l)) (phi := some (a.eval hh)) hf hsc' (st_den (ev_sound hE hx) g1) (fun y hy => ?_) (fun e => by cases e) (fun y hy => ?_) (fun e => by cases e)) rfl
        · cases hy; exact ⟨_, rfl, ev_sound hE h1⟩
        · cases hy; exact ⟨_, rfl, ev_sound hE h2⟩
      · cases h
    · rename_i l
      split at h
      · rename_i lv h1
        obtain ⟨xa, sc', hx, hf, hsc', g1⟩ := un_sound h hsc
        refine fin (aSlice_sound (plo := some (a.eval l)) (phi := none) hf hsc' (st_den (ev_sound hE hx) g1) (fun y hy => ?_) (fun e => by cases e) (fun y hy => by cases hy) (fun _ => rfl)) rfl
        cases hy; exact ⟨_, rfl, ev_sound hE h1⟩
      · cases h
    · rename_i hh
      split at h
      · rename_i hv h2
        obtain ⟨xa, sc', hx, hf, hsc', g1⟩ := un_sound h hsc
        refine fin (aSlice_sound (plo := none) (phi := some (a.eval hh)) hf hsc' (st_den (ev_sound hE hx) g1) (fun y hy => by cases hy) (fun _ => rfl) (fun y hy => ?_) (fun e => by cases e)) rfl
        cases hy; exact ⟨_, rfl, ev_sound hE h2⟩
      · cases h
    · cases h
  · cases h
end
end Go.AL
end

section
namespace Go.AL
open Go
def evs (E : Env) : List Operand → Option (List AV)
  | [] => some []
  | x :: r => match ev E x, evs E r with
    | some a, some l => some (a :: l)
    | _, _ => none
def gs : List AV → Bool
  | [] => true
  | a :: r => a.g && gs r
inductive NL where
  | nil | non | ob (b o : Nat)
def nlOf : AV → Option (Prop × NL)
  | .im (.v (.pointer none)) => some (True, .nil)
  | .im (.v (.slice none _ _)) => some (True, .nil)
  | .im (.v .nilFunc) => some (True, .nil)
  | .im (.pt _) => some (True, .non)
  | .im (.sl _ rows) => some (rows ≠ [], .non)
  | .ob b o => some (True, .ob b o)
  | .oe _ _ _ _ => some (True, .non)
  | .fn _ _ _ => some (True, .non)
  | _ => none
def nlKind : AV → Nat
  | .im (.v (.pointer _)) => 1
  | .im (.pt _) => 1
  | .ob _ _ => 1
  | .oe _ _ _ _ => 1
  | .im (.v (.slice _ _ _)) => 2
  | .im (.sl _ _) => 2
  | .im (.v .nilFunc) => 3
  | .fn _ _ _ => 3
  | _ => 0
def nlT : TK → Nat
  | .ptr _ => 1
  | .slice _ => 2
  | .func => 3
  | _ => 4
def nlEq (P : Program) (t : TypeId) : NL → NL → Option Bool
  | .nil, .nil => some true
  | .nil, _ => some false
  | _, .nil => some false
  | .ob b o, .ob b' o' => match tk P t with
    | .ptr e => match sz P e with
      | some (_ + 1) => bif Nat.beq b b' then some (Nat.beq o o') else none
      | _ => none
    | _ => none
  | _, _ => none
def aNilEq (P : Program) (t : TypeId) (neg : Bool) (x y : AV) : Option (Prop × AV) :=
  bif Nat.beq (nlKind x) (nlT (tk P t)) && Nat.beq (nlKind y) (nlT (tk P t)) then match nlOf x, nlOf y with
    | some (p, a), some (q, b) => match nlEq P t a b with
      | some r => some (p ∧ q, .im (.v (.bool (r != neg))))
      | none => none
    | _, _ => none
  else none
def byteRow : List IV → UInt8
  | [.v (.int .u8 n)] => UInt8.ofNat n.toNat
  | _ => 0
def isByteRow (r : List IV) : Prop := ∃ n : Int, r = [.v (.int .u8 n)]
def aConvX (P : Program) (src dst : TypeId) : AV → Option (Prop × AV)
  | .im (.v (.int _ n)) => match tk P dst with
    | .str => some (True, .im (.v (.string (Utf8.encode n))))
    | _ => none
  | .im (.sl 1 rows) => match tk P src, tk P dst with
    | .slice e, .str => match tk P e with
      | .int .u8 => some (∀ r ∈ rows, isByteRow r, .im (.v (.string ⟨(rows.map byteRow).toArray⟩)))
      | _ => none
    | _, _ => none
  | .im (.v (.slice none _ _)) => match tk P src, tk P dst with
    | .slice e, .str => match tk P e with
      | .int .u8 => some (True, .im (.v (.string ⟨#[]⟩)))
      | _ => none
    | _, _ => none
  | _ => none
def aArrP (P : Program) (arr : TypeId) : AV → Option (Prop × AV)
  | .im (.sl _ rows) => match tk P arr with
    | .arr (n + 1) _ => some (n + 1 ≤ rows.length, .im (.pt rows.flatten))
    | _ => none
  | _ => none
def aSliceO (P : Program) (t : TypeId) : AV → AV → Option AV → Option (Prop × AV)
  | .os b es i n, .im (.v (.int _ h)), none => match tk P t with
    | .slice e => bif decide (sz P e = some es) then some (0 ≤ h ∧ h ≤ n, .os b es i h.toNat) else none
    | _ => none
  | .os b es i n, .im (.v (.int _ h)), some (.im (.v (.int _ m))) => match tk P t with
    | .slice e => bif decide (sz P e = some es) then some (0 ≤ h ∧ h ≤ m ∧ m ≤ n, .os b es i h.toNat) else none
    | _ => none
  | _, _, _ => none
def avalX (P : Program) (E : Env) : Op → Option (Prop × AV)
  | .makeFunc (.func f) first cap => match evs E first.toList, evs E cap.toList with
    | some l1, some l2 => some (gs l1 = true ∧ gs l2 = true, .fn f (l1.map AV.st) (l2.map AV.st))
    | _, _ => none
  | .sliceToArrayPointer arr x => un (aArrP P arr) (ev E x)
  | .convert s d x => un (fun a => match (P.underlying s).isSome with
    | true => aConvX P s d a
    | false => none) (ev E x)
  | .binOp op t x y _ => match op with
    | .eql => bi (aNilEq P t false) (ev E x) (ev E y)
    | .neq => bi (aNilEq P t true) (ev E x) (ev E y)
    | _ => none
  | .slice t x none (some h) none => bi (fun a b => aSliceO P t a b none) (ev E x) (ev E h)
  | .slice t x none (some h) (some m) => match ev E m with
    | some mv => match mv.g with
      | true => bi (fun a b => aSliceO P t a b (some mv.st)) (ev E x) (ev E h)
      | false => none
    | none => none
  | _ => none
def evB (E : Env) (d : Nat) : Option Operand → Option (Prop × Nat)
  | none => some (True, d)
  | some o => match ev E o with
    | some a => match a.st with
      | .im (.v (.int _ n)) => some (a.g = true ∧ 0 ≤ n, n.toNat)
      | _ => none
    | none => none
def aSliceA (P : Program) (H : Heap) (t : TypeId) (E : Env) (lo hi : Option Operand) : AV → Option (Prop × AV)
  | .im (.pt cs) => match tk P t with
    | .arr n e => bif decide (sz P e = some 1) then match evB E 0 lo, evB E n hi with
      | some (p, l), some (q, h) => some (p ∧ q ∧ l ≤ h ∧ h ≤ n ∧ l ≤ n ∧ cs.length = n, .im (.sl 1 (((cs.drop l).take (h - l)).map fun c => [c])))
      | _, _ => none
      else none
    | _ => none
  | .ob b 0 => match lk H b with
    | some (.vec _ 1 rows) => match tk P t with
      | .arr n e => bif decide (sz P e = some 1) then match evB E 0 lo, evB E n hi with
        | some (p, l), some (q, h) => some (p ∧ q ∧ l ≤ h ∧ h ≤ n ∧ l < n ∧ n ≤ rows.length ∧ n ≤ 1000000, .os b 1 l (h - l))
        | _, _ => none
        else none
      | _ => none
    | _ => none
  | .os b es j n => match tk P t with
    | .slice e => bif decide (sz P e = some es) then match evB E 0 lo, evB E n hi with
      | some (p, l), some (q, h) => some (p ∧ q ∧ l ≤ h ∧ h ≤ n ∧ (l < n ∨ l = 0), .os b es (j + l) (h - l))
      | _, _ => none
      else none
    | _ => none
  | .im (.v (.string s)) => match tk P t, evB E 0 lo, evB E s.size hi with
    | .str, some (p, l), some (q, h) => some (p ∧ q ∧ l ≤ h ∧ h ≤ s.size, .im (.v (.string (s.extract l h))))
    | _, _, _ => none
  | .im (.sl es rows) => match tk P t, evB E 0 lo, evB E rows.length hi with
    | .slice e, some (p, l), some (q, h) => bif decide (sz P e = some es) then some (p ∧ q ∧ l ≤ h ∧ h ≤ rows.length, .im (.sl es ((rows.take h).drop l))) else none
    | _, _, _ => none
  | _ => none
def aIndexA (P : Program) (t : TypeId) : AV → AV → Option (Prop × AV)
  | .im (.pt cs), .im (.v (.int _ i)) => match tk P t with
    | .arr n e => bif decide (2 ≤ n) then bif decide (sz P e = some 1) then some (0 ≤ i ∧ i < n ∧ cs.length = n, .im (.pt [cs.getD i.toNat (.v (.bool false))])) else none else none
    | _ => none
  | _, _ => none
def aIfNil (neg : Bool) : AV → Option (Prop × AV)
  | .im (.v .nilIface) => some (True, .im (.v (.bool (!neg))))
  | .wr (.iface _) _ => some (True, .im (.v (.bool neg)))
  | _ => none
def isNilC : Operand → Bool
  | .const .nilIface => true
  | _ => false
def avalY (P : Program) (E : Env) (H : Heap) : Op → Option (Prop × AV)
  | .slice t x lo hi none => un (aSliceA P H t E lo hi) (ev E x)
  | .indexAddr t x i => bi (aIndexA P t) (ev E x) (ev E i)
  | .binOp op t x y _ => match isNilC y, op, tk P t with
    | true, .eql, .iface => un (aIfNil false) (ev E x)
    | true, .neq, .iface => un (aIfNil true) (ev E x)
    | _, _, _ => none
  | _ => none
def aval (P : Program) (E : Env) (H : Heap) (op : Op) : Option (Prop × AV) := match aval0 P E H op with
  | some r => some r
  | none => match avalX P E op with
    | some r => some r
    | none => avalY P E H op
section
variable {P : Program} {w : World} {φ : Phi} {I : Nat → Prop} {E : Env} {H : Heap} {a : Act}
theorem evs_sound {w : World} {φ : Phi} {I : Nat → Prop} {a : Act} (hE : EnvOk w φ I E a) : ∀ (xs : List Operand) (l : List AV), evs E xs = some l → gs l = true → AV.dens w φ I (l.map AV.st) (xs.map a.eval)
  | [], l, h, _ => by simp only [evs, Option.some.injEq] at h; subst h; simp [AV.dens]
  | x :: r, l, h, hg => by
    simp only [evs] at h
    split at h
    · rename_i av l' hx hl
      simp only [Option.some.injEq] at h
      subst h
      simp only [gs, Bool.and_eq_true] at hg
      simp only [List.map_cons, AV.dens]
      exact ⟨_, _, rfl, st_den (ev_sound hE hx) hg.1, evs_sound hE r l' hl hg.2⟩
    · cases h
def NL.at (φ : Phi) : NL → Option Addr → Prop
  | .nil, p => p = none
  | .non, p => ∃ q, p = some q
  | .ob b o, p => ∃ g, φ b = some (some g) ∧ p = some ⟨g, o, none⟩
theorem nl1 {x : AV} {u : Value} {p : Prop} {n : NL} (hk : nlKind x = 1) (h : nlOf x = some (p, n)) (hp : p) (hx : AV.den w φ I x u) : ∃ q, u = .pointer q ∧ n.at φ q := by
  unfold nlOf at h
  split at h <;> simp only [nlKind] at hk <;> first | (exact absurd hk (by decide)) | skip
  · simp only [Option.some.injEq, Prod.mk.injEq] at h; obtain ⟨_, rfl⟩ := h
    simp only [AV.den, IV.den] at hx; exact ⟨none, hx.1, rfl⟩
  · simp only [Option.some.injEq, Prod.mk.injEq] at h; obtain ⟨_, rfl⟩ := h
    simp only [AV.den, IV.den] at hx
    obtain ⟨g, off, us, rfl, _⟩ := hx
    exact ⟨_, rfl, _, rfl⟩
  · simp only [Option.some.injEq, Prod.mk.injEq] at h; obtain ⟨_, rfl⟩ := h
    simp only [AV.den] at hx
    obtain ⟨g, h1, rfl⟩ := hx
    exact ⟨_, rfl, g, h1, rfl⟩
  · simp only [Option.some.injEq, Prod.mk.injEq] at h; obtain ⟨_, rfl⟩ := h
    simp only [AV.den] at hx
    obtain ⟨g, h1, rfl⟩ := hx
    exact ⟨_, rfl, _, rfl⟩
  · cases h
theorem nl2 {x : AV} {u : Value} {p : Prop} {n : NL} (hk : nlKind x = 2) (h : nlOf x = some (p, n)) (hp : p) (hx : AV.den w φ I x u) : ∃ q l c, u = .slice q l c ∧ ((n = .nil ∧ q = none) ∨ (n = .non ∧ ∃ r, q = some r)) := by
  unfold nlOf at h
  split at h <;> simp only [nlKind] at hk <;> first | (exact absurd hk (by decide)) | skip
  · simp only [Option.some.injEq, Prod.mk.injEq] at h; obtain ⟨_, rfl⟩ := h
    simp only [AV.den, IV.den] at hx; exact ⟨_, _, _, hx.1, .inl ⟨rfl, rfl⟩⟩
  · simp only [Option.some.injEq, Prod.mk.injEq] at h; obtain ⟨rfl, rfl⟩ := h
    simp only [AV.den, IV.den] at hx
    obtain ⟨q, c, vss, rfl, _, _, _, ha⟩ := hx
    obtain ⟨g, off, rfl, _⟩ := ha hp
    exact ⟨_, _, _, rfl, .inr ⟨rfl, _, rfl⟩⟩
  · cases h
theorem nl3 {x : AV} {u : Value} {p : Prop} {n : NL} (hk : nlKind x = 3) (h : nlOf x = some (p, n)) (hx : AV.den w φ I x u) : (n = .nil ∧ u = .nilFunc) ∨ (n = .non ∧ ∃ f a b, u = .func f a b) := by
  unfold nlOf at h
  split at h <;> simp only [nlKind] at hk <;> first | (exact absurd hk (by decide)) | skip
  · simp only [Option.some.injEq, Prod.mk.injEq] at h; obtain ⟨_, rfl⟩ := h
    simp only [AV.den, IV.den] at hx; exact .inl ⟨rfl, hx.1⟩
  · simp only [Option.some.injEq, Prod.mk.injEq] at h; obtain ⟨_, rfl⟩ := h
    simp only [AV.den] at hx
    obtain ⟨us, vs, _, _, rfl⟩ := hx
    exact .inr ⟨rfl, _, _, _, rfl⟩
  · cases h
theorem und_ptr {t e : TypeId} (h : tk P t = .ptr e) : P.underlying t = some (.pointer e) := by
  obtain ⟨u, hu, hk⟩ := tk_und h (by simp)
  cases u <;> simp [TK.of] at hk
  subst hk; exact hu
theorem und_func {t : TypeId} (h : tk P t = .func) : ∃ a b c, P.underlying t = some (.func a b c) := by
  obtain ⟨u, hu, hk⟩ := tk_und h (by simp)
  cases u <;> simp [TK.of] at hk
  exact ⟨_, _, _, hu⟩
theorem run_equalN {t : TypeId} {x y : AV} {u v : Value} {p q : Prop} {n m : NL} {r : Bool} (hkx : nlKind x = nlT (tk P t)) (hky : nlKind y = nlT (tk P t)) (hx : nlOf x = some (p, n)) (hy : nlOf y = some (q, m)) (hp : p) (hq : q)
    (hr : nlEq P t n m = some r) (dx : AV.den w φ I x u) (dy : AV.den w φ I y v) : (∀ d, (Op.equalIn (d + 1) t u v).run P w = .ok r w) ∧ (∀ c, u ≠ .agg c) ∧ u ≠ .nilIface := by
  cases ht : tk P t with
  | ptr e =>
    rw [ht] at hkx hky
    obtain ⟨a, rfl, ha⟩ := nl1 hkx hx hp dx
    obtain ⟨b, rfl, hb⟩ := nl1 hky hy hq dy
    refine ⟨fun d => ?_, by simp, by simp⟩
    cases n with
    | nil =>
      simp only [NL.at] at ha; subst ha
      cases m with
      | nil => simp only [NL.at] at hb; subst hb; simp only [nlEq, Option.some.injEq] at hr; subst hr; simp [Op.equalIn, run_underlying (und_ptr ht)]
      | non => simp only [NL.at] at hb; obtain ⟨b', rfl⟩ := hb; simp only [nlEq, Option.some.injEq] at hr; subst hr; simp [Op.equalIn, run_underlying (und_ptr ht)]
      | ob b0 o0 => simp only [NL.at] at hb; obtain ⟨g, _, rfl⟩ := hb; simp only [nlEq, Option.some.injEq] at hr; subst hr; simp [Op.equalIn, run_underlying (und_ptr ht)]
    | non =>
      simp only [NL.at] at ha; obtain ⟨a', rfl⟩ := ha
      cases m with
      | nil => simp only [NL.at] at hb; subst hb; simp only [nlEq, Option.some.injEq] at hr; subst hr; simp [Op.equalIn, run_underlying (und_ptr ht)]
      | non => simp [nlEq] at hr
      | ob b0 o0 => simp [nlEq] at hr
    | ob b1 o1 =>
      simp only [NL.at] at ha; obtain ⟨g1, hg1, rfl⟩ := ha
      cases m with
      | nil => simp only [NL.at] at hb; subst hb; simp only [nlEq, Option.some.injEq] at hr; subst hr; simp [Op.equalIn, run_underlying (und_ptr ht)]
      | non => simp [nlEq] at hr
      | ob b0 o0 =>
        simp only [NL.at] at hb; obtain ⟨g0, hg0, rfl⟩ := hb
        simp only [nlEq, ht] at hr
        split at hr
        · rename_i hsz
          cases hbb : Nat.beq b1 b0 with
          | false => rw [hbb] at hr; simp at hr
          | true =>
            rw [hbb] at hr
            simp only [cond_true, Option.some.injEq] at hr
            subst hr
            have e1 := Nat.eq_of_beq_eq_true hbb
            subst e1
            rw [hg1] at hg0; cases hg0
            have hz : ∀ W, (sizeOf e).run P W = .ok _ W := fun W => run_sizeOf hsz W
            simp [Op.equalIn, run_underlying (und_ptr ht), hz, sameAddr]
            by_cases ho : o1 = o0
            · subst ho; simp
            · have : Nat.beq o1 o0 = false := by
                cases hq : Nat.beq o1 o0 with
                | false => rfl
                | true => exact absurd (Nat.eq_of_beq_eq_true hq) ho
              simp [this, ho]
        · cases hr
  | slice e =>
    rw [ht] at hkx hky
    obtain ⟨a, l1, c1, rfl, ha⟩ := nl2 hkx hx hp dx
    obtain ⟨b, l2, c2, rfl, hb⟩ := nl2 hky hy hq dy
    refine ⟨fun d => ?_, by simp, by simp⟩
    rcases ha with ⟨rfl, rfl⟩ | ⟨rfl, a', rfl⟩ <;> rcases hb with ⟨rfl, rfl⟩ | ⟨rfl, b', rfl⟩ <;> simp only [nlEq, Option.some.injEq, reduceCtorEq] at hr <;> subst hr <;> simp [Op.equalIn, run_underlying (und_slice ht)]
  | func =>
    rw [ht] at hkx hky
    obtain ⟨q1, q2, q3, hu⟩ := und_func ht
    rcases nl3 hkx hx dx with ⟨rfl, rfl⟩ | ⟨rfl, f1, f2, f3, rfl⟩ <;> rcases nl3 hky hy dy with ⟨rfl, rfl⟩ | ⟨rfl, f4, f5, f6, rfl⟩ <;> simp only [nlEq, Option.some.injEq, reduceCtorEq] at hr <;> subst hr <;> refine ⟨fun d => ?_, by simp, by simp⟩ <;> simp [Op.equalIn, run_underlying hu]
  | _ =>
    rw [ht] at hkx
    exfalso
    unfold nlOf at hx
    split at hx <;> simp_all [nlKind, nlT]
theorem aNilEq_sound {t : TypeId} {neg : Bool} {x y : AV} {u v : Value} {ox oy : Operand} {sc : Prop} {r : AV} (h : aNilEq P t neg x y = some (sc, r)) (hsc : sc) (hx : AV.den w φ I x u) (hy : AV.den w φ I y v) :
    Yields1 P w (do eqGuard (if neg then .neq else .eql) t ox oy u v; binOp (if neg then .neq else .eql) t u v) φ I r := by
  unfold aNilEq at h
  cases hk : (Nat.beq (nlKind x) (nlT (tk P t)) && Nat.beq (nlKind y) (nlT (tk P t))) with
  | false => rw [hk] at h; cases h
  | true =>
    rw [hk] at h
    simp only [Bool.and_eq_true] at hk
    simp only [cond_true] at h
    split at h
    · rename_i p a q b ha hb
      split at h
      · rename_i e he
        simp only [Option.some.injEq, Prod.mk.injEq] at h
        obtain ⟨rfl, rfl⟩ := h
        obtain ⟨h1, h2, h3⟩ := run_equalN (P := P) (w := w) (φ := φ) (I := I) (Nat.eq_of_beq_eq_true hk.1) (Nat.eq_of_beq_eq_true hk.2) ha hb hsc.1 hsc.2 he hx hy
        have h1 : (Op.equal t u v).run P w = .ok e w := h1 9999
        refine ⟨_, ?_, den_bool⟩
        have hn : ∀ op, (op = .eql ∨ op = .neq) → binOp op t u v = (if op = .eql then (do pure (.bool (← Op.equal t u v)) : Sem Value) else (do pure (.bool (!(← Op.equal t u v))))) := by
          intro op hop
          obtain ⟨kx, hkx⟩ : ∃ k, nlKind x = k := ⟨_, rfl⟩
          have hu : (∃ q, u = .pointer q) ∨ (∃ q l c, u = .slice q l c) ∨ u = .nilFunc ∨ ∃ f a b, u = .func f a b := by
            match kx, hkx with
            | 1, hkx => obtain ⟨q, hq, _⟩ := nl1 hkx ha hsc.1 hx; exact .inl ⟨q, hq⟩
            | 2, hkx => obtain ⟨q, l, c, hq, _⟩ := nl2 hkx ha hsc.1 hx; exact .inr (.inl ⟨q, l, c, hq⟩)
            | 3, hkx => rcases nl3 hkx ha hx with ⟨_, hq⟩ | ⟨_, f, a, b, hq⟩
                        · exact .inr (.inr (.inl hq))
                        · exact .inr (.inr (.inr ⟨f, a, b, hq⟩))
            | 0, hkx => exfalso; unfold nlOf at ha; split at ha <;> simp_all [nlKind]
            | k + 4, hkx => exfalso; unfold nlOf at ha; split at ha <;> simp_all [nlKind]
          rcases hu with ⟨q, rfl⟩ | ⟨q, l, c, rfl⟩ | rfl | ⟨f, a, b, rfl⟩ <;> rcases hop with rfl | rfl <;> rfl
        cases neg with
        | false => simp only [Bool.false_eq_true, if_false, Sem.run_bind, eqGuard_run _ _ _ _ _ _ h2 h3, Result.andThen_ok, hn _ (.inl rfl), if_true, h1, Sem.run_pure, Bool.bne_false]
        | true => simp only [if_true, Sem.run_bind, eqGuard_run _ _ _ _ _ _ h2 h3, Result.andThen_ok, hn _ (.inr rfl), reduceCtorEq, if_false, h1, Sem.run_pure, Bool.bne_true]
      · cases h
    · cases h
end
end Go.AL
end

section
namespace Go.AL
open Go
section
variable {P : Program} {w : World} {φ : Phi} {I : Nat → Prop} {E : Env} {H : Heap} {a : Act}
theorem foldl_push (l : List Int) : ∀ (s : ByteArray), l.foldl (fun r n => r.push (UInt8.ofNat n.toNat)) s = ⟨(s.data.toList ++ l.map fun n => UInt8.ofNat n.toNat).toArray⟩ := by
  induction l with
  | nil => intro s; simp
  | cons n l ih => intro s; rw [List.foldl_cons, ih]; simp [ByteArray.push]
theorem byteRows : ∀ (rows : List (List IV)) (vss : List (List Value)), IV.denss w I rows vss → (∀ r ∈ rows, isByteRow r) → ∃ ns : List Int, vss.flatten = ns.map (Value.int .u8) ∧ rows.map byteRow = ns.map fun n => UInt8.ofNat n.toNat
  | [], vss, h, _ => by simp only [IV.denss] at h; subst h; exact ⟨[], rfl, rfl⟩
  | r :: rows, vss, h, hb => by
    simp only [IV.denss] at h
    obtain ⟨vs, vss', rfl, h1, h2⟩ := h
    obtain ⟨ns, e1, e2⟩ := byteRows rows vss' h2 (fun r hr => hb r (by simp [hr]))
    obtain ⟨n, rfl⟩ := hb r (by simp)
    simp only [IV.dens, IV.den] at h1
    obtain ⟨u, us', rfl, ⟨rfl, _⟩, rfl⟩ := h1
    exact ⟨n :: ns, by rw [List.flatten_cons, e1]; rfl, by rw [List.map_cons, e2]; rfl⟩
theorem cellsAt_load {g off : Nat} {us : List Value} (h : cellsAt w g off us) (n : Nat) (hn : n = us.length) : (loadCells ⟨g, off, none⟩ n).run P w = .ok us.toArray w := by
  subst hn
  exact run_loadCells_list (P := P) (w := w) ⟨g, off, none⟩ us (fun j v hj => by
    have := h j v hj
    by_cases hz : j = 0
    · subst hz; simpa [Addr.add] using this
    · simpa [Addr.add, hz] using this)
theorem aConvX_sound {s d : TypeId} {x : AV} {p : Value} {sc : Prop} {v : AV} (h : aConvX P s d x = some (sc, v)) (hsc : sc) (hx : AV.den w φ I x p) (hs : ∃ u, P.underlying s = some u) : Yields1 P w (convert s d p) φ I v := by
  obtain ⟨su, hsu⟩ := hs
  unfold aConvX at h
  split at h
  · rw [den_i] at hx
    subst hx
    split at h
    · rename_i hk
      simp only [Option.some.injEq, Prod.mk.injEq] at h
      obtain ⟨_, rfl⟩ := h
      exact ⟨_, by simp [convert, run_underlying hsu, run_underlying (und_str hk), Conv.intToString], den_str⟩
    · cases h
  · rename_i rows
    split at h
    · rename_i e h1 h2
      split at h
      · rename_i h3
        simp only [Option.some.injEq, Prod.mk.injEq] at h
        obtain ⟨rfl, rfl⟩ := h
        simp only [AV.den, IV.den] at hx
        obtain ⟨q, c, vss, rfl, hc, hr, hl, ha⟩ := hx
        obtain ⟨ns, e1, e2⟩ := byteRows rows vss hr hsc
        refine ⟨_, ?_, den_str⟩
        rw [run_convert_bytes_string w s d e q rows.length c (und_slice h1) (und_int h3) (und_str h2)]
        cases hrw : rows with
        | nil =>
          subst hrw
          cases q with
          | none => rfl
          | some ad =>
            have hl0 : (loadCells ad 0).run P w = .ok #[] w := by simp [loadCells, loadCellsFrom]
            have := run_bytesToString (P := P) w ad 0 c [] (by simpa using hl0)
            rw [show (Conv.bytesToString (Value.slice (some ad) ([] : List (List IV)).length c)) = Conv.bytesToString (Value.slice (some ad) 0 c) from rfl, this]
            rfl
        | cons r rs =>
          rw [← hrw]
          obtain ⟨g, off, rfl, _, hcell⟩ := ha (by rw [hrw]; simp)
          have hn : vss.flatten.length = rows.length := by
            rw [e1, List.length_map]
            have := congrArg List.length e2
            rw [List.length_map, List.length_map] at this; exact this.symm
          have hld := cellsAt_load (P := P) hcell rows.length hn.symm 
          rw [e1] at hld
          rw [run_bytesToString w _ _ c ns hld, foldl_push, e2]
          rfl
      · cases h
    · cases h
  · split at h
    · rename_i e h1 h2
      split at h
      · rename_i h3
        simp only [Option.some.injEq, Prod.mk.injEq] at h
        obtain ⟨_, rfl⟩ := h
        simp only [AV.den, IV.den] at hx
        obtain ⟨rfl, _⟩ := hx
        exact ⟨_, by rw [run_convert_bytes_string w s d e _ _ _ (und_slice h1) (und_int h3) (und_str h2)]; rfl, den_str⟩
      · cases h
    · cases h
  · cases h
theorem aArrP_sound {arr : TypeId} {x : AV} {p : Value} {sc : Prop} {v : AV} (h : aArrP P arr x = some (sc, v)) (hsc : sc) (hx : AV.den w φ I x p) : Yields1 P w (Instr.arrayAt arr p) φ I v := by
  unfold aArrP at h
  split at h
  · rename_i es rows
    split at h
    · rename_i n e ht
      simp only [Option.some.injEq, Prod.mk.injEq] at h
      obtain ⟨rfl, rfl⟩ := h
      simp only [AV.den, IV.den] at hx
      obtain ⟨q, c, vss, rfl, hc, hr, hl, ha⟩ := hx
      obtain ⟨g, off, rfl, hg, hcell⟩ := ha (fun e => by rw [e] at hsc; simp at hsc)
      have hlt : ¬ rows.length < n + 1 := by omega
      refine ⟨.pointer (some ⟨g, off, none⟩), by simp [Instr.arrayAt, run_underlying (und_arr ht), hlt], ?_⟩
      simp only [AV.den, IV.den]
      exact ⟨g, off, vss.flatten, rfl, hg, denss_flat rows vss hr, hcell⟩
    · cases h
  · cases h
theorem aSliceO_sound {t : TypeId} {x hi : AV} {mx : Option AV} {p ph : Value} {pm : Option Value} {sc : Prop} {v : AV} (h : aSliceO P t x hi mx = some (sc, v)) (hsc : sc) (hx : AV.den w φ I x p) (hh : AV.den w φ I hi ph)
    (hm : ∀ y, mx = some y → ∃ u, pm = some u ∧ AV.den w φ I y u) (hm' : mx = none → pm = none) : Yields1 P w (Instr.sliceAt t p none (some ph) pm) φ I v := by
  unfold aSliceO at h
  split at h
  · rename_i b es i n kh h'
    obtain rfl := hm' rfl
    split at h
    · rename_i e ht
      cases hd : decide (sz P e = some es) with
      | false => rw [hd] at h; simp at h
      | true =>
        rw [hd] at h
        simp only [cond_true, Option.some.injEq, Prod.mk.injEq] at h
        obtain ⟨rfl, rfl⟩ := h
        have hsz := of_decide_eq_true hd
        rw [den_i] at hh
        subst hh
        simp only [AV.den] at hx
        rcases hx with ⟨h1, rfl, rfl, rfl⟩ | ⟨g, c, h1, rfl, h3, h4, h5⟩
        · obtain rfl : h' = 0 := by omega
          refine ⟨_, slice_sl ht hsz (bounds_h (by omega) (by omega)), ?_⟩
          simp only [AV.den]
          exact .inl ⟨h1, by simp⟩
        · refine ⟨_, slice_sl ht hsz (bounds_h (by omega) (by omega)), ?_⟩
          simp only [AV.den]
          refine .inr ⟨g, c, h1, ?_, by omega, h4, h5⟩
          simp [Addr.add]
    · cases h
  · rename_i b es i n kh h' km m
    obtain ⟨_, rfl, hm1⟩ := hm _ rfl
    split at h
    · rename_i e ht
      cases hd : decide (sz P e = some es) with
      | false => rw [hd] at h; simp at h
      | true =>
        rw [hd] at h
        simp only [cond_true, Option.some.injEq, Prod.mk.injEq] at h
        obtain ⟨rfl, rfl⟩ := h
        have hsz := of_decide_eq_true hd
        rw [den_i] at hh hm1
        subst hh; subst hm1
        simp only [AV.den] at hx
        rcases hx with ⟨h1, rfl, rfl, rfl⟩ | ⟨g, c, h1, rfl, h3, h4, h5⟩
        · obtain rfl : h' = 0 := by omega
          obtain rfl : m = 0 := by omega
          have e1 := fun code => sliceBound_run (P := P) (w := w) (k := km) (n := 0) (y := 0) (code := code) (by omega) (by omega)
          have e2 := fun code => sliceBound_run (P := P) (w := w) (k := kh) (n := 0) (y := 0) (code := code) (by omega) (by omega)
          refine ⟨.slice none 0 0, ?_, ?_⟩
          · simp [Instr.sliceAt, Instr.slice, run_underlying (und_slice ht), Instr.sliceBounds, e1, e2, run_sizeOf hsz]
          · simp only [AV.den]
            exact .inl ⟨h1, by simp⟩
        · have e1 := fun code => sliceBound_run (P := P) (w := w) (k := km) (n := m) (y := c) (code := code) (by omega) (by omega)
          have e2 := fun code => sliceBound_run (P := P) (w := w) (k := kh) (n := h') (y := m.toNat) (code := code) (by omega) (by omega)
          refine ⟨.slice (some ⟨g, i * es, none⟩) h'.toNat m.toNat, ?_, ?_⟩
          · simp [Instr.sliceAt, Instr.slice, run_underlying (und_slice ht), Instr.sliceBounds, e1, e2, run_sizeOf hsz, Addr.add]
          · simp only [AV.den]
            refine .inr ⟨g, m.toNat, h1, rfl, by omega, by omega, ?_⟩
            obtain ⟨cc, ee, q1, q2⟩ := h5
            exact ⟨cc, ee, q1, Nat.le_trans (Nat.mul_le_mul_right es (by omega)) q2⟩
    · cases h
  · cases h
theorem avalX_sound (hE : EnvOk w φ I E a) {o : Oper} {sc : Prop} {v : AV} (h : avalX P E o.op = some (sc, v)) (hsc : sc) :
    ∃ u, (execOp a.eval o).run P w = .ok (.value u) w ∧ AV.den w φ I v u := by
  have fin : ∀ {s : Sem Value}, Yields1 P w s φ I v → (execOp a.eval o = do pure (.value (← s))) → ∃ u, (execOp a.eval o).run P w = .ok (.value u) w ∧ AV.den w φ I v u := by
    intro s ⟨u, hu, hd⟩ he
    exact ⟨u, by rw [he]; simp [hu], hd⟩
  obtain ⟨dst, op, ty, pos, after, guard⟩ := o
  simp only at h ⊢
  unfold avalX at h
  split at h
  · rename_i f first cap
    split at h
    · rename_i l1 l2 h1 h2
      simp only [Option.some.injEq, Prod.mk.injEq] at h
      obtain ⟨rfl, rfl⟩ := h
      refine fin (s := Instr.makeFunc (.func f) (first.map a.eval) (cap.map a.eval)) ⟨.func (.func f) (first.map a.eval) (cap.map a.eval), rfl, ?_⟩ rfl
      simp only [AV.den]
      exact ⟨_, _, evs_sound hE _ _ h1 hsc.1, evs_sound hE _ _ h2 hsc.2, by cases first; cases cap; simp⟩
    · cases h
  · obtain ⟨xa, sc', hx, hf, hsc', g1⟩ := un_sound h hsc
    exact fin (aArrP_sound hf hsc' (st_den (ev_sound hE hx) g1)) rfl
  · rename_i s d x
    obtain ⟨xa, sc', hx, hf, hsc', g1⟩ := un_sound h hsc
    split at hf
    · exact fin (aConvX_sound hf hsc' (st_den (ev_sound hE hx) g1) (by rename_i hs; exact Option.isSome_iff_exists.1 hs)) rfl
    · cases hf
  · rename_i op t x y _
    split at h
    · obtain ⟨xa, ya, sc', hx, hy, hf, hsc', g1, g2⟩ := bi_sound h hsc
      exact fin (aNilEq_sound (neg := false) (ox := x) (oy := y) hf hsc' (st_den (ev_sound hE hx) g1) (st_den (ev_sound hE hy) g2)) rfl
    · obtain ⟨xa, ya, sc', hx, hy, hf, hsc', g1, g2⟩ := bi_sound h hsc
      exact fin (aNilEq_sound (neg := true) (ox := x) (oy := y) hf hsc' (st_den (ev_sound hE hx) g1) (st_den (ev_sound hE hy) g2)) rfl
    · cases h
  · obtain ⟨xa, ya, sc', hx, hy, hf, hsc', g1, g2⟩ := bi_sound h hsc
    exact fin (aSliceO_sound (pm := none) hf hsc' (st_den (ev_sound hE hx) g1) (st_den (ev_sound hE hy) g2) (fun _ h => by cases h) (fun _ => rfl)) rfl
  · split at h
    · rename_i mv hm
      split at h
      · rename_i hg
        obtain ⟨xa, ya, sc', hx, hy, hf, hsc', g1, g2⟩ := bi_sound h hsc
        exact fin (aSliceO_sound (pm := some _) hf hsc' (st_den (ev_sound hE hx) g1) (st_den (ev_sound hE hy) g2) (fun _ h => by cases h; exact ⟨_, rfl, st_den (ev_sound hE hm) hg⟩) (fun h => by cases h)) rfl
      · cases h
    · cases h
  · cases h
theorem evB_bounds {hE : EnvOk w φ I E a} {b : Bool} {n c : Nat} {lo hi : Option Operand} {p q : Prop} {l h : Nat} (hl : evB E 0 lo = some (p, l)) (hh : evB E n hi = some (q, h)) (hp : p) (hq : q) (h1 : l ≤ h) (h2 : h ≤ n) (h3 : n ≤ c) :
    (Instr.sliceBounds b n c (lo.map a.eval) (hi.map a.eval) none).run P w = .ok (l, h, c) w := by
  have val : ∀ {o : Operand} {d : Nat} {p : Prop} {l : Nat}, evB E d (some o) = some (p, l) → p → ∃ k m, a.eval o = .int k m ∧ 0 ≤ m ∧ m.toNat = l := by
    intro o d p l ho hp
    simp only [evB] at ho
    split at ho
    · rename_i av he
      split at ho
      · rename_i k m hst
        cases ho
        have := st_den (ev_sound hE he) hp.1
        rw [hst] at this
        simp only [AV.den, IV.den] at this
        exact ⟨k, m, this.1, hp.2, rfl⟩
      · cases ho
    · cases ho
  cases lo with
  | none =>
    simp only [evB, Option.some.injEq, Prod.mk.injEq] at hl
    obtain ⟨_, rfl⟩ := hl
    cases hi with
    | none =>
      simp only [evB, Option.some.injEq, Prod.mk.injEq] at hh
      obtain ⟨_, rfl⟩ := hh
      simp [Instr.sliceBounds]
    | some o =>
      obtain ⟨k, m, e, h0, rfl⟩ := val hh hq
      simp only [Option.map_none, Option.map_some, e]
      exact bounds_h h0 (by omega)
  | some o =>
    obtain ⟨k, m, e, h0, rfl⟩ := val hl hp
    cases hi with
    | none =>
      simp only [evB, Option.some.injEq, Prod.mk.injEq] at hh
      obtain ⟨_, rfl⟩ := hh
      simp only [Option.map_none, Option.map_some, e]
      exact bounds_l h0 (by omega)
    | some o' =>
      obtain ⟨k', m', e', h0', rfl⟩ := val hh hq
      simp only [Option.map_some, e, e']
      exact bounds_lh h0 (by omega) (by omega)
theorem run_arrSlice {P : Program} {w : World} {t e : TypeId} {n : Nat} {a : Addr} {plo phi : Option Value} {l h : Nat} (ht : tk P t = .arr n e) (hes : sz P e = some 1) (hb : (Instr.sliceBounds false n n plo phi none).run P w = .ok (l, h, n) w) :
    (Instr.sliceAt t (.pointer (some a)) plo phi none).run P w = .ok (.slice (some (if n = l then a else a.add (l * 1))) (h - l) (n - l)) w := by
  simp [Instr.sliceAt, Instr.sureAddr, run_underlying (und_arr ht), hb, run_sizeOf hes]
theorem flat_one : ∀ ws : List (List Value), (∀ v ∈ ws, v.length = 1) → ws.flatten.length = ws.length
  | [], _ => rfl
  | v :: ws, h => by rw [List.flatten_cons, List.length_append, flat_one ws (fun x hx => h x (by simp [hx])), h v (by simp), List.length_cons]; omega
theorem dens_map1 {w : World} {I : Nat → Prop} : ∀ (cs : List IV) (us : List Value), IV.dens w I cs us → IV.denss w I (cs.map fun c => [c]) (us.map fun u => [u])
  | [], us, h => by simp only [IV.dens] at h; subst h; simp [IV.denss]
  | c :: cs, us, h => by
    simp only [IV.dens] at h
    obtain ⟨u, us', rfl, h1, h2⟩ := h
    simp only [List.map_cons, IV.denss, IV.dens]
    exact ⟨_, _, rfl, ⟨_, _, rfl, h1, rfl⟩, dens_map1 cs us' h2⟩
theorem idens_len0 {w : World} {I : Nat → Prop} : ∀ (cs : List IV) (us : List Value), IV.dens w I cs us → us.length = cs.length
  | [], us, h => by simp only [IV.dens] at h; subst h; rfl
  | c :: cs, us, h => by
    simp only [IV.dens] at h
    obtain ⟨u, us', rfl, h1, h2⟩ := h
    simp [idens_len0 cs us' h2]
theorem idens_take0 {w : World} {I : Nat → Prop} : ∀ (k : Nat) (cs : List IV) (us : List Value), IV.dens w I cs us → IV.dens w I (cs.take k) (us.take k)
  | 0, cs, us, _ => by simp [IV.dens]
  | k + 1, [], us, h => by simp only [IV.dens] at h; subst h; simp [IV.dens]
  | k + 1, c :: cs, us, h => by
    simp only [IV.dens] at h
    obtain ⟨u, us', rfl, h1, h2⟩ := h
    simp only [List.take_succ_cons, IV.dens]
    exact ⟨_, _, rfl, h1, idens_take0 k cs us' h2⟩
theorem idens_drop0 {w : World} {I : Nat → Prop} : ∀ (k : Nat) (cs : List IV) (us : List Value), IV.dens w I cs us → IV.dens w I (cs.drop k) (us.drop k)
  | 0, cs, us, h => h
  | k + 1, [], us, h => by simp only [IV.dens] at h; subst h; simp [IV.dens]
  | k + 1, c :: cs, us, h => by
    simp only [IV.dens] at h
    obtain ⟨u, us', rfl, h1, h2⟩ := h
    exact idens_drop0 k cs us' h2
theorem aSliceA_sound (hE : EnvOk w φ I E a) (hR : Real w φ I H) {t : TypeId} {lo hi : Option Operand} {x : AV} {u : Value} {sc : Prop} {v : AV} (h : aSliceA P H t E lo hi x = some (sc, v)) (hsc : sc) (hx : AV.den w φ I x u) :
    Yields1 P w (Instr.sliceAt t u (lo.map a.eval) (hi.map a.eval) none) φ I v := by
  unfold aSliceA at h
  split at h
  · rename_i cs
    split at h
    · rename_i n e ht
      cases hd : decide (sz P e = some 1) with
      | false => rw [hd] at h; simp at h
      | true =>
        rw [hd] at h
        have hes := of_decide_eq_true hd
        simp only [cond_true] at h
        split at h
        · rename_i p l q h' hl hh
          simp only [Option.some.injEq, Prod.mk.injEq] at h
          obtain ⟨rfl, rfl⟩ := h
          obtain ⟨hp, hq, h1, h2, h3, h4⟩ := hsc
          simp only [AV.den, IV.den] at hx
          obtain ⟨g, off, us, rfl, hI, hdn, hcell⟩ := hx
          have hrun := run_arrSlice (P := P) (a := ⟨g, off, none⟩) ht hes (evB_bounds (hE := hE) (b := false) (c := n) hl hh hp hq h1 h2 (Nat.le_refl _))
          refine ⟨_, hrun, ?_⟩
          have hul := idens_len0 cs us hdn
          have hdd := idens_take0 (h' - l) _ _ (idens_drop0 l _ _ hdn)
          simp only [AV.den, IV.den]
          have hln : ((cs.drop l).take (h' - l)).length = h' - l := by rw [List.length_take, List.length_drop]; omega
          refine ⟨_, n - l, _, by rw [List.length_map, hln], by rw [List.length_map, hln]; omega, dens_map1 _ _ hdd, fun vs hvs => by obtain ⟨u, _, rfl⟩ := List.mem_map.1 hvs; rfl, fun hne => ⟨g, off + l, ?_, hI, ?_⟩⟩
          · have hlt : l < n := by
              rcases Nat.lt_or_ge l n with hlt | hge
              · exact hlt
              · exact absurd (List.eq_nil_of_length_eq_zero (by rw [List.length_map, hln]; omega)) hne
            rw [if_neg (by omega)]
            simp only [Addr.add, Nat.mul_one]
            by_cases hz : l = 0 <;> simp [hz]
          · have hfl : ∀ vs : List Value, (vs.map fun u => [u]).flatten = vs := fun vs => by induction vs with
              | nil => rfl
              | cons v vs ih => simp only [List.map_cons, List.flatten_cons, ih]; rfl
            rw [hfl]
            exact (hcell.drop l).take _
        · cases h
    · cases h
  · rename_i b
    split at h
    · rename_i el rows hH
      split at h
      · rename_i n e ht
        cases hd : decide (sz P e = some 1) with
        | false => rw [hd] at h; simp at h
        | true =>
          rw [hd] at h
          have hes := of_decide_eq_true hd
          simp only [cond_true] at h
          split at h
          · rename_i p l q h' hl hh
            simp only [Option.some.injEq, Prod.mk.injEq] at h
            obtain ⟨rfl, rfl⟩ := h
            obtain ⟨hp, hq, h1, h2, h3, h4, h5⟩ := hsc
            simp only [AV.den] at hx
            obtain ⟨g, hb, rfl⟩ := hx
            have hrun := run_arrSlice (P := P) (a := ⟨g, 0, none⟩) ht hes (evB_bounds (hE := hE) (b := false) (c := n) hl hh hp hq h1 h2 (Nat.le_refl _))
            refine ⟨_, hrun, ?_⟩
            simp only [AV.den]
            have hown := hR.own b _ _ hH hb
            simp only [Ob.at] at hown
            rcases hown with ⟨hn, _⟩ | ⟨g', vss, rest, hg, hcell, hdn, hv1⟩
            · cases hn
            cases hg
            refine .inr ⟨g, n - l, hb, ?_, by omega, by unfold maxLen; omega, ⟨_, _, hcell, ?_⟩⟩
            · rw [if_neg (by omega)]
              by_cases hz : l = 0 <;> simp [Addr.add, hz]
            · have hlen := denss_len rows vss hdn
              have hfl := flat_one vss hv1
              simp only [List.size_toArray, List.length_append, hfl]
              omega
          · cases h
      · cases h
    · cases h
  · rename_i b es j n
    split at h
    · rename_i e ht
      cases hd : decide (sz P e = some es) with
      | false => rw [hd] at h; simp at h
      | true =>
        rw [hd] at h
        have hes := of_decide_eq_true hd
        simp only [cond_true] at h
        split at h
        · rename_i p l q h' hl hh
          simp only [Option.some.injEq, Prod.mk.injEq] at h
          obtain ⟨rfl, rfl⟩ := h
          obtain ⟨hp, hq, h1, h2, h3⟩ := hsc
          simp only [AV.den] at hx
          rcases hx with ⟨hb, rfl, rfl, rfl⟩ | ⟨g, c, hb, rfl, h4, h5, h6⟩
          · have hl0 : l = 0 := by omega
            subst hl0
            have hh0 : h' = 0 := by omega
            subst hh0
            refine ⟨_, slice_sl (P := P) (p := none) ht hes (evB_bounds (hE := hE) (b := true) (c := 0) hl hh hp hq h1 h2 (Nat.le_refl _)), ?_⟩
            simp only [AV.den]
            exact .inl ⟨hb, by simp⟩
          · refine ⟨_, slice_sl (P := P) (p := some ⟨g, j * es, none⟩) ht hes (evB_bounds (hE := hE) (b := true) (c := c) hl hh hp hq h1 h2 h4), ?_⟩
            simp only [AV.den]
            refine .inr ⟨g, c - l, hb, ?_, by omega, by omega, ?_⟩
            · by_cases hcl : c = l
              · have : l = 0 := by omega
                subst this
                simp [hcl]
              · rw [if_neg hcl]
                simp only [Option.map_some, Addr.add]
                by_cases hz : l * es = 0
                · rw [Nat.add_mul, hz]; simp
                · rw [Nat.add_mul]; simp [hz]
            · obtain ⟨cc, ee, q1, q2⟩ := h6
              exact ⟨cc, ee, q1, Nat.le_trans (Nat.mul_le_mul_right es (by omega)) q2⟩
        · cases h
    · cases h
  · rename_i s
    rw [den_s] at hx
    subst hx
    split at h
    · rename_i p l q h' ht hl hh
      simp only [Option.some.injEq, Prod.mk.injEq] at h
      obtain ⟨rfl, rfl⟩ := h
      obtain ⟨hp, hq, h1, h2⟩ := hsc
      exact ⟨_, slice_str ht (evB_bounds (hE := hE) (b := false) (c := s.size) hl hh hp hq h1 h2 (Nat.le_refl _)), den_str⟩
    · cases h
  · rename_i es rows
    split at h
    · rename_i e p l q h' ht hl hh
      cases hd : decide (sz P e = some es) with
      | false => rw [hd] at h; simp at h
      | true =>
        rw [hd] at h
        simp only [cond_true, Option.some.injEq, Prod.mk.injEq] at h
        obtain ⟨rfl, rfl⟩ := h
        obtain ⟨hp, hq, h1, h2⟩ := hsc
        simp only [AV.den, IV.den] at hx
        obtain ⟨pp, c, vss, rfl, hc, hr, hl', ha⟩ := hx
        exact ⟨_, slice_sl ht (of_decide_eq_true hd) (evB_bounds (hE := hE) (b := true) (c := c) hl hh hp hq h1 h2 hc), sl_cut hr hl' ha h1 h2 hc⟩
    · cases h
  · cases h
theorem aIndexA_sound {t : TypeId} {x i : AV} {p q : Value} {sc : Prop} {v : AV} (h : aIndexA P t x i = some (sc, v)) (hsc : sc) (hx : AV.den w φ I x p) (hi : AV.den w φ I i q) : Yields1 P w (Instr.indexAt t p q) φ I v := by
  unfold aIndexA at h
  split at h
  · rename_i cs k n
    rw [den_i] at hi
    subst hi
    split at h
    · rename_i m e ht
      cases hm : decide (2 ≤ m) with
      | false => rw [hm] at h; simp at h
      | true =>
        rw [hm] at h
        have hm2 := of_decide_eq_true hm
        simp only [cond_true] at h
        cases hd : decide (sz P e = some 1) with
        | false => rw [hd] at h; simp at h
        | true =>
          rw [hd] at h
          have hsz := of_decide_eq_true hd
          simp only [cond_true, Option.some.injEq, Prod.mk.injEq] at h
          obtain ⟨rfl, rfl⟩ := h
          obtain ⟨h0, h1, h2⟩ := hsc
          simp only [AV.den, IV.den] at hx
          obtain ⟨g, off, us, rfl, hI, hdn, hcell⟩ := hx
          have hul := idens_len0 cs us hdn
          have hlt : n.toNat < us.length := by omega
          refine ⟨.pointer (some ⟨g, off + n.toNat * 1, none⟩), ?_, ?_⟩
          · have hm' : ¬ m < 2 := by omega
            have hm3 : (m == 1) = false := by simp; omega
            simp [Instr.indexAt, Instr.sureAddr, asIntOf, run_underlying (und_arr ht), h0, h1, run_sizeOf hsz, addr_add, hm3]
          · simp only [AV.den, IV.den, IV.dens]
            have gen : ∀ (k : Nat) (cs : List IV) (us : List Value), IV.dens w I cs us → ∀ u, us[k]? = some u → IV.den w I (cs.getD k (.v (.bool false))) u := fun k => by
              induction k with
              | zero =>
                intro cs us h u hu
                cases cs with
                | nil => simp only [IV.dens] at h; subst h; simp at hu
                | cons c cs =>
                  simp only [IV.dens] at h
                  obtain ⟨u1, us1, rfl, h1, h2⟩ := h
                  simp only [List.getElem?_cons_zero, Option.some.injEq] at hu
                  subst hu
                  exact h1
              | succ k ih =>
                intro cs us h u hu
                cases cs with
                | nil => simp only [IV.dens] at h; subst h; simp at hu
                | cons c cs =>
                  simp only [IV.dens] at h
                  obtain ⟨u1, us1, rfl, h1, h2⟩ := h
                  simp only [List.getElem?_cons_succ] at hu
                  exact ih cs us1 h2 u hu
            refine ⟨g, off + n.toNat * 1, [us[n.toNat]], rfl, hI, ⟨_, _, rfl, gen _ _ _ hdn _ (List.getElem?_eq_getElem hlt), rfl⟩, fun j u hu => ?_⟩
            cases j with
            | zero =>
              simp only [List.getElem?_cons_zero, Option.some.injEq] at hu
              subst hu
              rw [Nat.mul_one, Nat.add_zero]
              exact hcell _ _ (List.getElem?_eq_getElem hlt)
            | succ j => simp at hu
    · cases h
  · cases h
theorem aIfNil_sound {t : TypeId} {neg : Bool} {x y : Operand} {xa : AV} {u v : Value} {sc : Prop} {r : AV} (hy : isNilC y = true) (hv : v = .nilIface) (ht : tk P t = .iface) (h : aIfNil neg xa = some (sc, r)) (hx : AV.den w φ I xa u) :
    Yields1 P w (do eqGuard (if neg then .neq else .eql) t x y u v; binOp (if neg then .neq else .eql) t u v) φ I r := by
  subst hv
  obtain ⟨d, hu, hd⟩ := tk_und ht (by simp)
  obtain ⟨ms, rfl⟩ : ∃ ms, d = .interface ms := by cases d <;> simp [TK.of] at hd; exact ⟨_, rfl⟩
  obtain ⟨c, rfl⟩ : ∃ c, y = .const c := by unfold isNilC at hy; split at hy; exact ⟨_, rfl⟩; cases hy
  have key : ∀ (r : Bool), (∀ d, (Op.equalIn (d + 1) t u .nilIface).run P w = .ok r w) → (binOp .eql t u .nilIface = (do pure (.bool (← Op.equal t u .nilIface)) : Sem Value)) → (binOp .neq t u .nilIface = (do pure (.bool (!(← Op.equal t u .nilIface))) : Sem Value)) →
      (∀ op, (eqGuard op t x (.const c) u .nilIface).run P w = .ok () w) →
      (do eqGuard (if neg then .neq else .eql) t x (.const c) u .nilIface; binOp (if neg then .neq else .eql) t u .nilIface : Sem Value).run P w = .ok (.bool (r != neg)) w := by
    intro r h1 h2 h3 h4
    have h1 : (Op.equal t u .nilIface).run P w = .ok r w := h1 9999
    cases neg with
    | false => simp only [Bool.false_eq_true, if_false, Sem.run_bind, h4, Result.andThen_ok, h2, h1, Sem.run_pure, Bool.bne_false]
    | true => simp only [if_true, Sem.run_bind, h4, Result.andThen_ok, h3, h1, Sem.run_pure, Bool.bne_true]
  unfold aIfNil at h
  split at h
  · simp only [Option.some.injEq, Prod.mk.injEq] at h
    obtain ⟨_, rfl⟩ := h
    simp only [AV.den, IV.den] at hx
    obtain ⟨rfl, _⟩ := hx
    refine ⟨_, key true (fun d => by simp [Op.equalIn, run_underlying hu]) rfl rfl (fun op => by cases op <;> first | rfl | (cases x <;> simp [eqGuard])), ?_⟩
    cases neg <;> exact den_bool
  · simp only [Option.some.injEq, Prod.mk.injEq] at h
    obtain ⟨_, rfl⟩ := h
    simp only [AV.den, WK.rel] at hx
    obtain ⟨v, rfl, _⟩ := hx
    refine ⟨_, key false (fun d => by simp [Op.equalIn, run_underlying hu]) rfl rfl (fun op => by cases op <;> rfl), ?_⟩
    cases neg <;> exact den_bool
  · cases h
theorem avalY_sound (hE : EnvOk w φ I E a) (hR : Real w φ I H) {o : Oper} {sc : Prop} {v : AV} (h : avalY P E H o.op = some (sc, v)) (hsc : sc) :
    ∃ u, (execOp a.eval o).run P w = .ok (.value u) w ∧ AV.den w φ I v u := by
  obtain ⟨dst, op, ty, pos, after, guard⟩ := o
  simp only at h ⊢
  unfold avalY at h
  split at h
  · rename_i t x lo hi
    obtain ⟨xa, sc', hx, hf, hsc', g1⟩ := un_sound h hsc
    obtain ⟨u, hu, hd⟩ := aSliceA_sound hE hR hf hsc' (st_den (ev_sound hE hx) g1)
    exact ⟨u, by simp only [execOp, Sem.run_bind, Option.map_none, hu, Result.andThen_ok, Sem.run_pure], hd⟩
  · rename_i t x i
    obtain ⟨xa, ya, sc', hx, hy, hf, hsc', g1, g2⟩ := bi_sound h hsc
    obtain ⟨u, hu, hd⟩ := aIndexA_sound hf hsc' (st_den (ev_sound hE hx) g1) (st_den (ev_sound hE hy) g2)
    exact ⟨u, by simp only [execOp, Sem.run_bind, hu, Result.andThen_ok, Sem.run_pure], hd⟩
  · rename_i op t x y _
    have hc : isNilC y = true → a.eval y = .nilIface := by
      intro hy
      unfold isNilC at hy
      split at hy
      · rfl
      · cases hy
    split at h
    · rename_i hy ht
      obtain ⟨xa, sc', hx, hf, hsc', g1⟩ := un_sound h hsc
      obtain ⟨u, hu, hd⟩ := aIfNil_sound (x := x) (v := a.eval y) hy (hc hy) ht hf (st_den (ev_sound hE hx) g1)
      refine ⟨u, ?_, hd⟩
      simp only [Bool.false_eq_true, if_false] at hu
      simp only [Sem.run_bind] at hu
      simp only [execOp, Sem.run_bind]
      revert hu
      cases (eqGuard .eql t x y (a.eval x) (a.eval y)).run P w with
      | ok _ w1 => intro hu; simp only [Result.andThen_ok] at hu ⊢; rw [hu]; rfl
      | halt _ _ => intro hu; cases hu
    · rename_i hy ht
      obtain ⟨xa, sc', hx, hf, hsc', g1⟩ := un_sound h hsc
      obtain ⟨u, hu, hd⟩ := aIfNil_sound (x := x) (v := a.eval y) hy (hc hy) ht hf (st_den (ev_sound hE hx) g1)
      refine ⟨u, ?_, hd⟩
      simp only [if_true] at hu
      simp only [Sem.run_bind] at hu
      simp only [execOp, Sem.run_bind]
      revert hu
      cases (eqGuard .neq t x y (a.eval x) (a.eval y)).run P w with
      | ok _ w1 => intro hu; simp only [Result.andThen_ok] at hu ⊢; rw [hu]; rfl
      | halt _ _ => intro hu; cases hu
    · cases h
  · cases h
theorem aval_sound (hE : EnvOk w φ I E a) (hR : Real w φ I H) {o : Oper} {sc : Prop} {v : AV} (h : aval P E H o.op = some (sc, v)) (hsc : sc) :
    ∃ u, (execOp a.eval o).run P w = .ok (.value u) w ∧ AV.den w φ I v u := by
  unfold aval at h
  split at h
  · rename_i r hr
    simp only [Option.some.injEq] at h
    subst h
    exact aval0_sound hE hR hr hsc
  · split at h
    · rename_i r hr
      simp only [Option.some.injEq] at h
      subst h
      exact avalX_sound hE hr hsc
    · exact avalY_sound hE hR h hsc
end
end Go.AL
end

section
namespace Go.AL
open Go
def upd (φ : Phi) (b : Nat) (p : Option Nat) : Phi := fun i => if i = b then some p else φ i
def hset : Heap → Nat → Ob → Heap
  | [], _, _ => []
  | (j, x) :: r, i, o => bif Nat.beq j i then (j, o) :: r else (j, x) :: hset r i o
theorem lk_hset_same : ∀ (H : Heap) (b : Nat) (o : Ob) {x : Ob}, lk H b = some x → lk (hset H b o) b = some o
  | [], _, _, _, h => by simp [lk] at h
  | (j, y) :: r, b, o, x, h => by
    simp only [lk, hset] at h ⊢
    cases hb : Nat.beq j b with
    | true => simp [lk, hb]
    | false =>
      rw [hb] at h
      simp only [cond_false] at h
      simp only [cond_false, lk, hb]
      exact lk_hset_same r b o h
theorem lk_hset_other : ∀ (H : Heap) (b b' : Nat) (o : Ob), b' ≠ b → lk (hset H b o) b' = lk H b'
  | [], _, _, _, _ => rfl
  | (j, y) :: r, b, b', o, hne => by
    simp only [hset]
    cases hb : Nat.beq j b with
    | true =>
      have hj := Nat.eq_of_beq_eq_true hb
      subst hj
      have : Nat.beq j b' = false := by
        cases hq : Nat.beq j b' with
        | false => rfl
        | true => exact absurd (Nat.eq_of_beq_eq_true hq).symm hne
      simp [lk, this]
    | false =>
      simp only [cond_false, lk]
      rw [lk_hset_other r b b' o hne]
def nid : Heap → Nat
  | [] => 0
  | (j, _) :: r => bif Nat.ble (nid r) j then j + 1 else nid r
theorem nid_gt : ∀ (H : Heap) (b : Nat) (o : Ob), lk H b = some o → b < nid H
  | [], _, _, h => by simp [lk] at h
  | (j, y) :: r, b, o, h => by
    simp only [lk, nid] at h ⊢
    cases hb : Nat.beq j b with
    | true =>
      have hj := Nat.eq_of_beq_eq_true hb
      subst hj
      cases hq : Nat.ble (nid r) j with
      | true => simp
      | false => simp only [cond_false]; have : ¬ nid r ≤ j := fun h => by rw [Nat.ble_eq_true_of_le h] at hq; cases hq
                 omega
    | false =>
      rw [hb] at h
      simp only [cond_false] at h
      have := nid_gt r b o h
      cases hq : Nat.ble (nid r) j with
      | true => simp only [cond_true]; have := Nat.le_of_ble_eq_true hq; omega
      | false => simpa using this
def nidx (nb : Nat) (H : Heap) : Nat := bif Nat.ble nb (nid H) then nid H else nb
theorem nidx_ge (nb : Nat) (H : Heap) : nb ≤ nidx nb H ∧ nid H ≤ nidx nb H := by
  unfold nidx
  cases h : Nat.ble nb (nid H) with
  | true => have := Nat.le_of_ble_eq_true h; simpa using this
  | false =>
    have : ¬ nb ≤ nid H := fun h' => by rw [Nat.ble_eq_true_of_le h'] at h; cases h
    simp only [cond_false]; omega
theorem nid_fresh (nb : Nat) (H : Heap) : lk H (nidx nb H) = none := by
  cases h : lk H (nidx nb H) with
  | none => rfl
  | some o => have := nid_gt H _ o h; have := (nidx_ge nb H).2; omega
section
variable {B : Bs} {w : World} {φ : Phi} {I : Nat → Prop} {H : Heap}
theorem ext_alloc (o' : Nat → Prop) (w : World) (o : Obj) : Ext o' w (w.alloc o) :=
  ⟨by simp, fun g hg _ => heap_alloc_old w o hg, fun g c e fz h => ⟨c, fz, (heap_alloc_old w o (by
      rcases Nat.lt_or_ge g w.heap.size with h' | h'
      · exact h'
      · rw [Array.getElem?_eq_none h'] at h; cases h)).trans h, rfl⟩, rfl, rfl, rfl⟩
theorem Ob.at_mono {w' : World} {φ φ' : Phi} {I I' : Nat → Prop} (hw : ∀ g, I g → w'.heap[g]? = w.heap[g]?) (hI : ∀ g, I g → I' g) (hφ : ∀ b p, φ b = some p → φ' b = some p)
    (hs : ∀ b g n, φ b = some (some g) → shaped w g n → shaped w' g n) {o : Ob} {p : Option Nat} (hp : ∀ g, p = some g → w'.heap[g]? = w.heap[g]?) (h : o.at w φ I p) : o.at w' φ' I' p := by
  cases o with
  | var e cs =>
    simp only [Ob.at] at h ⊢
    obtain ⟨g, us, rfl, h2, h3, h4⟩ := h
    exact ⟨g, us, rfl, h2.keep (hp g rfl), AV.dens_mono hw hI hφ hs cs us h3, h4⟩
  | vec e es rows =>
    simp only [Ob.at] at h ⊢
    rcases h with h | ⟨g, vss, rest, rfl, h2, h3, h4⟩
    · exact .inl h
    · exact .inr ⟨g, vss, rest, rfl, (hp g rfl).trans h2, IV.denss_mono hw hI rows vss h3, h4⟩
  | lp l n st fn q ps E =>
    simp only [Ob.at] at h ⊢
    obtain ⟨rfl, T, D, fid, h1, h2, h3⟩ := h
    exact ⟨rfl, T, D, fid, h1, (hp l rfl).trans h2, fun i x hx => let ⟨u, hu, hd⟩ := h3 i x hx; ⟨u, hu, AV.den_mono hw hI hφ hs x u hd⟩⟩
structure Keeps (w : World) (φ : Phi) (I : Nat → Prop) (w' : World) (φ' : Phi) (I' : Nat → Prop) : Prop where
  im : ∀ g, I g → w'.heap[g]? = w.heap[g]?
  I : ∀ g, I g → I' g
  phi : ∀ b p, φ b = some p → φ' b = some p
  sh : ∀ b g n, φ b = some (some g) → shaped w g n → shaped w' g n
theorem Keeps.den {w' : World} {φ' : Phi} {I' : Nat → Prop} (k : Keeps w φ I w' φ' I') {x : AV} {u : Value} (h : AV.den w φ I x u) : AV.den w' φ' I' x u := AV.den_mono k.im k.I k.phi k.sh x u h
theorem Keeps.refl (w : World) (φ : Phi) (I : Nat → Prop) : Keeps w φ I w φ I := ⟨fun _ _ => rfl, fun _ h => h, fun _ _ h => h, fun _ _ _ _ h => h⟩
theorem St.alloc_ob (h : St B φ I H w) {b : Nat} (hb : lk H b = none) (hnb0 : B.nb ≤ b) {ob : Obj} {o : Ob}
    (ho : o.at (w.alloc ob) (upd φ b (some w.heap.size)) I (some w.heap.size)) :
    St B (upd φ b (some w.heap.size)) I ((b, o) :: H) (w.alloc ob) ∧ Keeps w φ I (w.alloc ob) (upd φ b (some w.heap.size)) I := by
  have hnb : φ b = none := by
    have := h.real.dom b
    rw [hb] at this
    cases hφ : φ b with
    | none => rfl
    | some x => rw [hφ] at this; cases this
  have k : Keeps w φ I (w.alloc ob) (upd φ b (some w.heap.size)) I := by
    refine ⟨fun g hg => heap_alloc_old w _ (h.real.imm g hg), fun _ h => h, fun b' p hp => ?_, fun _ g n _ hs => (ext_alloc (fun _ => False) w _).shaped (fun h => h) hs⟩
    unfold upd
    rw [if_neg (by intro e; subst e; rw [hnb] at hp; cases hp)]
    exact hp
  refine ⟨⟨⟨fun b' => ?_, fun b' o' p hl hp => ?_, fun b' g hp => ?_, fun b1 b2 g h1 h2 => ?_, fun g hg => ?_⟩, h.ext.trans (ext_alloc (fun _ => False) w _) (fun g hf => hf.elim), fun b' g hp => ?_, h.immx, h.immo, fun b' g o' hlt h0 hl => ?_⟩, k⟩
  · simp only [upd, lk]
    by_cases hbb : b' = b
    · subst hbb; simp
    · rw [if_neg hbb]
      have : Nat.beq b b' = false := by
        cases hq : Nat.beq b b' with
        | false => rfl
        | true => exact absurd (Nat.eq_of_beq_eq_true hq).symm hbb
      rw [this]
      exact h.real.dom b'
  · by_cases hbb : b' = b
    · subst hbb
      simp only [upd, if_true, Option.some.injEq] at hp
      subst hp
      simp [lk] at hl
      subst hl
      exact ho
    · have hq : Nat.beq b b' = false := by
        cases hq : Nat.beq b b' with
        | false => rfl
        | true => exact absurd (Nat.eq_of_beq_eq_true hq).symm hbb
      simp only [lk, hq, cond_false] at hl
      simp only [upd, if_neg hbb] at hp
      refine Ob.at_mono k.im k.I k.phi k.sh (fun g hg => ?_) (h.real.own b' o' p hl hp)
      subst hg
      exact heap_alloc_old w _ (h.real.off b' g hp).2
  · by_cases hbb : b' = b
    · subst hbb
      simp only [upd, if_true, Option.some.injEq] at hp
      subst hp
      exact ⟨fun hi => absurd (h.real.imm _ hi) (by omega), by simp⟩
    · simp only [upd, if_neg hbb] at hp
      have := h.real.off b' g hp
      exact ⟨this.1, by simp; omega⟩
  · by_cases e1 : b1 = b <;> by_cases e2 : b2 = b
    · rw [e1, e2]
    · subst e1
      simp only [upd, if_true, Option.some.injEq] at h1
      subst h1
      simp only [upd, if_neg e2] at h2
      exact absurd (h.real.off b2 _ h2).2 (by omega)
    · subst e2
      simp only [upd, if_true, Option.some.injEq] at h2
      subst h2
      simp only [upd, if_neg e1] at h1
      exact absurd (h.real.off b1 _ h1).2 (by omega)
    · simp only [upd, if_neg e1] at h1
      simp only [upd, if_neg e2] at h2
      exact h.real.inj b1 b2 g h1 h2
  · have := h.real.imm g hg
    simp; omega
  · by_cases hbb : b' = b
    · subst hbb
      simp only [upd, if_true, Option.some.injEq] at hp
      subst hp
      exact .inr h.ext.size
    · simp only [upd, if_neg hbb] at hp
      exact h.ownx b' g hp
  · have hbb : b' ≠ b := by omega
    have hq : Nat.beq b b' = false := by
      cases hq : Nat.beq b b' with
      | false => rfl
      | true => exact absurd (Nat.eq_of_beq_eq_true hq).symm hbb
    simp only [lk, hq, cond_false] at hl
    simp only [upd, if_neg hbb]
    exact h.phx b' g o' hlt h0 hl
theorem St.alloc_own (h : St B φ I H w) {b : Nat} (hb : lk H b = none) (hnb0 : B.nb ≤ b) {cs : Array Value} {e : TypeId} {o : Ob}
    (ho : o.at (w.alloc (.cells cs e)) (upd φ b (some w.heap.size)) I (some w.heap.size)) :
    St B (upd φ b (some w.heap.size)) I ((b, o) :: H) (w.alloc (.cells cs e)) ∧ Keeps w φ I (w.alloc (.cells cs e)) (upd φ b (some w.heap.size)) I := h.alloc_ob hb hnb0 ho
theorem St.alloc_im (h : St B φ I H w) (cs : Array Value) (e : TypeId) :
    St B φ (fun g => I g ∨ g = w.heap.size) H (w.alloc (.cells cs e)) ∧ Keeps w φ I (w.alloc (.cells cs e)) φ (fun g => I g ∨ g = w.heap.size) := by
  have k : Keeps w φ I (w.alloc (.cells cs e)) φ (fun g => I g ∨ g = w.heap.size) :=
    ⟨fun g hg => heap_alloc_old w _ (h.real.imm g hg), fun _ h => .inl h, fun _ _ h => h, fun _ g n _ hs => (ext_alloc (fun _ => False) w _).shaped (fun h => h) hs⟩
  refine ⟨⟨⟨h.real.dom, fun b' o' p hl hp => ?_, fun b' g hp => ?_, h.real.inj, fun g hg => ?_⟩, h.ext.trans (ext_alloc (fun _ => False) w _) (fun g hf => hf.elim), h.ownx, fun g hg => ?_, fun g hg => .inl (h.immo g hg), h.phx⟩, k⟩
  · refine Ob.at_mono k.im k.I k.phi k.sh (fun g hg => ?_) (h.real.own b' o' p hl hp)
    subst hg
    exact heap_alloc_old w _ (h.real.off b' g hp).2
  · have := h.real.off b' g hp
    exact ⟨fun hi => hi.elim this.1 (by omega), by simp; omega⟩
  · rcases hg with hg | rfl
    · have := h.real.imm g hg; simp; omega
    · simp
  · rcases hg with hg | rfl
    · exact h.immx g hg
    · exact .inr (.inr h.ext.size)
theorem St.write (h : St B φ I H w) {b g : Nat} {o o' : Ob} (hl : lk H b = some o) (hg : φ b = some (some g)) {cur cs : Array Value} {e : TypeId} (hc : w.heap[g]? = some (.cells cur e (0, 0))) (hsz : cs.size = cur.size)
    (hk : ∀ el cs, o' = .var el cs → ∃ el' cs', o = .var el' cs') (ho : o'.at (w.setRow g cs) φ I (some g)) :
    St B φ I (hset H b o') (w.setRow g cs) ∧ Keeps w φ I (w.setRow g cs) φ I := by
  have hform : ∀ (g' : Nat) (c : Array Value) (e' : TypeId) (fz : Nat × Nat), w.heap[g']? = some (Obj.cells c e' fz) → ∃ (c' : Array Value) (fz' : Nat × Nat), (w.setRow g cs).heap[g']? = some (Obj.cells c' e' fz') ∧ c'.size = c.size := by
    intro g' c e' fz hc'
    by_cases hgg : g' = g
    · subst hgg
      rw [hc] at hc'
      cases hc'
      exact ⟨cs, _, setRow_heap w g' cur cs e (0, 0) hc, hsz⟩
    · exact ⟨c, _, (setRow_other w g g' cs hgg).trans hc', rfl⟩
  have hsh : ∀ g' n, shaped w g' n → shaped (w.setRow g cs) g' n := by
    rintro g' n ⟨c, e', hc', hn⟩
    by_cases hgg : g' = g
    · subst hgg
      rw [hc] at hc'
      cases hc'
      exact ⟨cs, _, setRow_heap w g' cur cs e (0, 0) hc, by rw [hsz]; exact hn⟩
    · exact ⟨c, e', (setRow_other w g g' cs hgg).trans hc', hn⟩
  have hext : Ext (fun x => x = g) w (w.setRow g cs) :=
    ⟨by simp, fun g' _ hn => setRow_other w g g' cs hn, hform, rfl, rfl, rfl⟩
  have k : Keeps w φ I (w.setRow g cs) φ I :=
    ⟨fun g' hg' => setRow_other w g g' cs (fun e => by subst e; exact (h.real.off b g' hg).1 hg'), fun _ h => h, fun _ _ h => h, fun _ _ _ _ hs => hsh _ _ hs⟩
  refine ⟨⟨⟨fun b' => ?_, fun b' o1 p hl' hp => ?_, fun b' g' hp => ?_, h.real.inj, fun g' hg' => ?_⟩, h.ext.trans hext (fun g' hg' => ?_), h.ownx, h.immx, h.immo, fun b' g' oo hlt h0 hl' => ?_⟩, k⟩
  · by_cases hbb : b' = b
    · subst hbb
      rw [lk_hset_same H b' o' hl, hg]; rfl
    · rw [lk_hset_other H b b' o' hbb]; exact h.real.dom b'
  · by_cases hbb : b' = b
    · subst hbb
      rw [lk_hset_same H b' o' hl] at hl'
      cases hl'
      rw [hg] at hp
      cases hp
      exact ho
    · rw [lk_hset_other H b b' o' hbb] at hl'
      refine Ob.at_mono k.im k.I k.phi k.sh (fun g' hg' => ?_) (h.real.own b' o1 p hl' hp)
      subst hg'
      exact setRow_other w g g' cs (fun e => hbb (h.real.inj b' b g' hp (by rw [e]; exact hg)))
  · have := h.real.off b' g' hp
    exact ⟨this.1, by simpa using this.2⟩
  · have := h.real.imm g' hg'
    simpa using this
  · subst hg'
    exact h.ownx b g' hg
  · by_cases hbb : b' = b
    · subst hbb
      exact h.phx b' g' o hlt h0 hl
    · rw [lk_hset_other H b b' o' hbb] at hl'
      exact h.phx b' g' oo hlt h0 hl'
end
mutual
def imV : AV → Option IV
  | .im x => some x
  | .fn f fs caps => match imOf fs, imOf caps with
    | some a, some b => some (.fn f a b)
    | _, _ => none
  | _ => none
def imOf : List AV → Option (List IV)
  | [] => some []
  | y :: r => match imV y, imOf r with
    | some x, some l => some (x :: l)
    | _, _ => none
end
def imCells : AV → Option (List IV)
  | .ar cs => some cs
  | a => match cellsOfAV a with
    | some ys => imOf ys
    | none => none
def rowsOf (E : Env) (es : Nat) : Nat → List (Nat × Operand) → Option (List (List IV))
  | _, [] => some []
  | k, (i, x) :: r => bif Nat.beq i k then match ev E x with
    | some a => match imCells a, rowsOf E es (k + 1) r with
      | some c, some l => bif Nat.beq c.length es then some (c :: l) else none
      | _, _ => none
    | none => none
    else none
def inL : List Nat → Nat → Bool
  | [], _ => false
  | j :: r, i => bif Nat.beq j i then true else inL r i
def inO (l : List Nat) : Option Nat → Bool
  | some d => inL l d
  | none => false
def setRowI (row : List IV) (j : Nat) (c : List IV) : List IV := row.take j ++ c ++ row.drop (j + c.length)
def TK.isFunc : TK → Bool
  | .func => true
  | _ => false
def aeff (P : Program) (nb : Nat) (obl : List Nat) (E : Env) (H : Heap) (o : Oper) : Option (Prop × AV × Heap) :=
  match o.op with
  | .alloc t => match zro P t with
    | some z => bif z.all Value.oneCell' then match tk P t with
      | .arr _ e => bif decide (sz P e = some 1) && !(tk P e).isFunc then some (True, .ob (nidx nb H) 0, (nidx nb H, .vec t 1 (z.map fun c => [.v c])) :: H) else some (True, .ob (nidx nb H) 0, (nidx nb H, .var t (z.map fun c => .im (.v c))) :: H)
      | _ => some (True, .ob (nidx nb H) 0, (nidx nb H, .var t (z.map fun c => .im (.v c))) :: H)
      else none
    | none => none
  | .box t x => match ev E x with
    | some a => bif inO obl o.dst then match cellsOfAV a with
        | some ys => some (True, .ob (nidx nb H) 0, (nidx nb H, .var t ys) :: H)
        | none => none
      else match imCells a with
        | some cs => some (True, .im (.pt cs), H)
        | none => none
    | none => none
  | .buildSlice t len parts => match tk P t with
    | .slice e => match len with
      | 0 => match sz P e, parts.toList with
        | some es, [] => some (True, .os (nidx nb H) es 0 0, (nidx nb H, .vec e es []) :: H)
        | _, _ => none
      | k + 1 => match sz P e, zro P e with
        | some (es + 1), some z => bif Nat.beq parts.toList.length (k + 1) && Nat.beq z.length (es + 1) && Nat.ble ((k + 1) * (es + 1)) 16777216 then match rowsOf E (es + 1) 0 parts.toList with
          | some rows => bif inO obl o.dst then some (True, .os (nidx nb H) (es + 1) 0 (k + 1), (nidx nb H, .vec e (es + 1) rows) :: H) else some (True, .im (.sl (es + 1) rows), H)
          | none => none
          else none
        | _, _ => none
    | _ => none
  | .store t p x => match ev E p, ev E x, sz P t with
    | some (.ob b off), some a, some n => match lk H b with
      | some (.var (.cell el) cs) => match cellsOfAV a with
        | some ys => bif Nat.beq ys.length n then some (off + n ≤ cs.length, .top, hset H b (.var (.cell el) (setAt cs off ys))) else none
        | none => none
      | some (.vec el 1 rows) => match imCells a with
        | some cs => bif Nat.beq off 0 then some (cs.length = n ∧ rows.length = n, .top, hset H b (.vec el 1 (cs.map fun c => [c]))) else none
        | none => none
      | _ => none
    | some (.oe b es i j), some a, some n => match lk H b, imCells a with
      | some (.vec el es' rows), some c => bif Nat.beq es es' && Nat.beq c.length n then some (i < rows.length ∧ j + n ≤ es, .top, hset H b (.vec el es' (rows.set i (setRowI (rows.getD i []) j c)))) else none
      | _, _ => none
    | _, _, _ => none
  | _ => none
end Go.AL
end

section
namespace Go.AL
open Go
section
variable {P : Program} {B : Bs} {w : World} {φ : Phi} {I : Nat → Prop} {E : Env} {H : Heap} {a : Act}
theorem al_new (w : World) (o : Obj) : (w.alloc o).heap[w.heap.size]? = some o := heap_alloc_new w o
def Does (P : Program) (B : Bs) (w : World) (φ : Phi) (I : Nat → Prop) (s : Sem Next) (v : AV) (H' : Heap) : Prop :=
  ∃ nx w' φ' I', s.run P w = .ok nx w' ∧ ((∃ u, nx = .value u ∧ AV.den w' φ' I' v u) ∨ (nx = .skip ∧ AV.den w' φ' I' v undef)) ∧ St B φ' I' H' w' ∧ Keeps w φ I w' φ' I'
theorem rows1_dens : ∀ (us : List Value), us.all Value.oneCell' = true → IV.denss w I (us.map fun c => [.v c]) (us.map fun c => [c])
  | [], _ => by simp [IV.denss]
  | x :: us, h => by
    simp only [List.all_cons, Bool.and_eq_true] at h
    simp only [List.map_cons, IV.denss, IV.dens]
    exact ⟨[x], _, rfl, ⟨x, [], rfl, by simp only [IV.den]; exact ⟨by simp, h.1⟩, rfl⟩, rows1_dens us h.2⟩
theorem flat1 : ∀ (us : List Value), (us.map fun c => [c]).flatten = us
  | [] => rfl
  | x :: us => by simp [flat1 us]
mutual
theorem imV_den : ∀ (y : AV) (x : IV) (u : Value), imV y = some x → AV.den w φ I y u → IV.den w I x u
  | .im x', x, u, h, hd => by
    simp only [imV, Option.some.injEq] at h
    subst h
    simpa only [AV.den] using hd
  | .fn f fs caps, x, u, h, hd => by
    simp only [imV] at h
    split at h
    · rename_i a b ha hb
      simp only [Option.some.injEq] at h
      subst h
      simp only [AV.den] at hd
      obtain ⟨us, vs, h1, h2, e⟩ := hd
      simp only [IV.den]
      exact ⟨us, vs, imOf_dens fs a us ha h1, imOf_dens caps b vs hb h2, e⟩
    · cases h
  | .mp _, _, _, h, _ => by simp [imV] at h
  | .wr _ _, _, _, h, _ => by simp [imV] at h
  | .ob _ _, _, _, h, _ => by simp [imV] at h
  | .oe _ _ _ _, _, _, h, _ => by simp [imV] at h
  | .os _ _ _ _, _, _, h, _ => by simp [imV] at h
  | .agg _, _, _, h, _ => by simp [imV] at h
  | .ar _, _, _, h, _ => by simp [imV] at h
  | .tup _, _, _, h, _ => by simp [imV] at h
  | .opt _ _, _, _, h, _ => by simp [imV] at h
  | .top, _, _, h, _ => by simp [imV] at h
theorem imOf_dens : ∀ (ys : List AV) (l : List IV) (us : List Value), imOf ys = some l → AV.dens w φ I ys us → IV.dens w I l us
  | [], l, us, h, hd => by simp only [imOf, Option.some.injEq] at h; subst h; simpa [AV.dens, IV.dens] using hd
  | y :: ys, l, us, h, hd => by
    simp only [imOf] at h
    split at h
    · rename_i x l' hx hl
      simp only [Option.some.injEq] at h
      subst h
      simp only [AV.dens] at hd
      obtain ⟨u, us', rfl, h1, h2⟩ := hd
      simp only [IV.dens]
      exact ⟨u, us', rfl, imV_den y x u hx h1, imOf_dens ys l' us' hl h2⟩
    · cases h
end
theorem imCells_den {x : AV} {l : List IV} {u : Value} (h : imCells x = some l) (hx : AV.den w φ I x u) : ∃ us, u.cells = us.toArray ∧ IV.dens w I l us := by
  unfold imCells at h
  split at h
  · simp only [Option.some.injEq] at h; subst h
    simp only [AV.den] at hx
    obtain ⟨us, hd, rfl⟩ := hx
    exact ⟨us, rfl, hd⟩
  · split at h
    · rename_i ys hy
      obtain ⟨ws, hw, hd, _⟩ := cellsOfAV_den hy hx
      exact ⟨ws, hw, imOf_dens ys l ws h hd⟩
    · cases h
theorem rowsOf_sound (hE : EnvOk w φ I E a) {es : Nat} : ∀ (parts : List (Nat × Operand)) (k : Nat) (rows : List (List IV)), rowsOf E es k parts = some rows →
    ∃ vs : List Value, parts.map (fun p => (p.1, a.eval p.2)) = (vs.zipIdx k).map (fun x => (x.2, x.1)) ∧ (∀ v ∈ vs, v.cells.size = es) ∧ vs.length = parts.length ∧
      IV.denss w I rows (vs.map fun v => v.cells.toList)
  | [], k, rows, h => by
    simp only [rowsOf, Option.some.injEq] at h
    subst h
    exact ⟨[], rfl, by simp, rfl, by simp [IV.denss]⟩
  | (i, x) :: r, k, rows, h => by
    simp only [rowsOf] at h
    cases hb : Nat.beq i k with
    | false => rw [hb] at h; simp at h
    | true =>
      rw [hb] at h
      have hi := Nat.eq_of_beq_eq_true hb
      subst hi
      simp only [cond_true] at h
      split at h
      · rename_i av hev
        split at h
        · rename_i c l hc hl
          cases hq : Nat.beq c.length es with
          | false => rw [hq] at h; simp at h
          | true =>
            rw [hq] at h
            simp only [cond_true, Option.some.injEq] at h
            subst h
            have hcl := Nat.eq_of_beq_eq_true hq
            obtain ⟨us, hu, hd⟩ := imCells_den hc (ev_sound hE hev)
            obtain ⟨vs, h1, h2, h3, h4⟩ := rowsOf_sound hE r (i + 1) l hl
            refine ⟨a.eval x :: vs, by simp [List.zipIdx_cons, h1], fun v hv => ?_, by simp [h3], ?_⟩
            · rcases List.mem_cons.1 hv with rfl | hv
              · rw [hu]; simp; rw [idens_len c us hd]; exact hcl
              · exact h2 v hv
            · simp only [List.map_cons, IV.denss]
              exact ⟨_, _, rfl, by rw [hu]; exact hd, h4⟩
        · cases h
      · cases h
theorem dens_setRow {row : List IV} {us : List Value} {c : List IV} {ws : List Value} {j : Nat} (hd : IV.dens w I row us) (hc : IV.dens w I c ws) (hj : j + c.length ≤ row.length) :
    IV.dens w I (setRowI row j c) (us.take j ++ ws ++ us.drop (j + ws.length)) := by
  unfold setRowI
  rw [idens_len c ws hc]
  exact denss_flat.idens_append _ _ _ _ (denss_flat.idens_append _ _ _ _ (idens_take j _ _ hd) hc) (idens_drop _ _ _ hd)
theorem denss_set : ∀ (rows : List (List IV)) (vss : List (List Value)) (i : Nat) (r : List IV) (vs : List Value), IV.denss w I rows vss → IV.dens w I r vs → IV.denss w I (rows.set i r) (vss.set i vs)
  | [], vss, i, r, vs, h, _ => by simp only [IV.denss] at h; subst h; simp [IV.denss]
  | c :: cs, vss, i, r, vs, h, hx => by
    simp only [IV.denss] at h
    obtain ⟨u0, us', rfl, h1, h2⟩ := h
    cases i with
    | zero => simp only [List.set_cons_zero, IV.denss]; exact ⟨vs, us', rfl, hx, h2⟩
    | succ i => simp only [List.set_cons_succ, IV.denss]; exact ⟨u0, _, rfl, h1, denss_set cs us' i r vs h2 hx⟩
theorem flat_set : ∀ (vss : List (List Value)) (es i : Nat) (vs : List Value), (∀ v ∈ vss, v.length = es) → vs.length = es → i < vss.length →
    (vss.set i vs).flatten = vss.flatten.take (i * es) ++ vs ++ vss.flatten.drop (i * es + es)
  | [], _, _, _, _, _, h => by simp at h
  | x :: xs, es, 0, vs, hl, hv, _ => by
    have hx : x.length = es := hl x (by simp)
    simp [List.flatten_cons, List.drop_append, ← hx]
  | x :: xs, es, i + 1, vs, hl, hv, h => by
    have hx : x.length = es := hl x (by simp)
    have ih := flat_set xs es i vs (fun v hv => hl v (by simp [hv])) hv (by simpa using h)
    rw [List.set_cons_succ, List.flatten_cons, List.flatten_cons, ih]
    have e1 : (i + 1) * es = x.length + i * es := by rw [hx, Nat.add_mul]; omega
    rw [e1, List.take_append, List.drop_append, List.take_of_length_le (l := x) (by omega), List.drop_eq_nil_of_le (as := x) (by omega)]
    have e2 : x.length + i * es - x.length = i * es := by omega
    have e3 : x.length + i * es + es - x.length = i * es + es := by omega
    rw [e2, e3]
    simp
theorem run_storeAt {t : TypeId} {n g o : Nat} {u : Value} {ws : List Value} {cur : Array Value} {e : TypeId} (hn : sz P t = some n) (hu : u.cells = ws.toArray) (hl : ws.length = n) (h1 : ∀ x ∈ ws, x.oneCell' = true)
    (hg : w.heap[g]? = some (.cells cur e (0, 0))) (hfit : o + n ≤ cur.size) :
    (Instr.storeAt t (.pointer (some ⟨g, o, none⟩)) u).run P w = .ok () (w.setRow g (cur.toList.take o ++ ws ++ cur.toList.drop (o + n)).toArray) := by
  have hst := run_storeCells_at P g o e ws 0 cur w hg (by simp only [Nat.add_zero]; omega) h1
  simp only [Nat.add_zero] at hst
  simp [Instr.storeAt, Instr.sureAddr, storeVar, hu, hl, run_sizeOf hn, hst]
theorem setAtV_eq : ∀ (ws : List Value) (off : Nat) (us : List Value), off + ws.length ≤ us.length → setAtV us off ws = us.take off ++ ws ++ us.drop (off + ws.length)
  | [], off, us, _ => by simp [setAtV]
  | x :: ws, off, us, h => by
    simp only [setAtV]
    rw [setAtV_eq ws (off + 1) (us.set off x) (by simp at h ⊢; omega)]
    have hlt : off < us.length := by simp at h; omega
    have e1 : (us.set off x).take (off + 1) = us.take off ++ [x] := by
      rw [List.take_succ_eq_append_getElem (by simpa using hlt), List.take_set_of_le (Nat.le_refl _)]
      simp
    have e2 : (us.set off x).drop (off + 1 + ws.length) = us.drop (off + 1 + ws.length) := by rw [List.drop_set_of_lt (by omega)]
    rw [e1, e2]
    rw [List.length_cons, show off + (ws.length + 1) = off + 1 + ws.length by omega]
    simp
theorem aeff_sound (hE : EnvOk w φ I E a) (hS : St B φ I H w) {obl : List Nat} {o : Oper} {sc : Prop} {v : AV} {H' : Heap} (h : aeff P B.nb obl E H o = some (sc, v, H')) (hsc : sc) :
    Does P B w φ I (execOp a.eval o) v H' := by
  obtain ⟨dst, op, ty, pos, after, guard⟩ := o
  unfold aeff at h
  simp only at h
  split at h
  · -- alloc
    rename_i t
    split at h
    · rename_i z hz
      obtain ⟨it, zv, hit, hzv, rfl⟩ := zro_info hz
      cases hb : zv.cells.toList.all Value.oneCell' with
      | false => rw [hb] at h; simp at h
      | true =>
        rw [hb] at h
        simp only [cond_true] at h
        have hrun : (execOp a.eval ⟨dst, .alloc t, ty, pos, after, guard⟩).run P w = .ok (.value (.pointer (some ⟨w.heap.size, 0, none⟩))) (w.alloc (.cells zv.cells t)) := by
          simp [execOp, Instr.alloc, zeroValue, typeInfo, hit, hzv, newVar, newRow]
        have hvar : ∀ {H'}, H' = (nidx B.nb H, Ob.var t (zv.cells.toList.map fun c => .im (.v c))) :: H → Does P B w φ I (execOp a.eval ⟨dst, .alloc t, ty, pos, after, guard⟩) (.ob (nidx B.nb H) 0) H' := by
          intro H' e
          subst e
          obtain ⟨h1, h2⟩ := hS.alloc_own (nid_fresh B.nb H) (nidx_ge B.nb H).1 (cs := zv.cells) (e := t) (o := .var t (zv.cells.toList.map fun c => .im (.v c))) (by
            simp only [Ob.at, Sh.has, Sh.one]
            exact ⟨_, zv.cells.toList, rfl, by simpa using al_new w _, dens_ofVals _ hb, List.all_eq_true.1 hb⟩)
          exact ⟨_, _, _, _, hrun, .inl ⟨_, rfl, by simp only [AV.den, upd]; exact ⟨_, by simp, rfl⟩⟩, h1, h2⟩
        split at h
        · rename_i m e _
          cases hd : (decide (sz P e = some 1) && !(tk P e).isFunc) with
          | true =>
            rw [hd] at h
            simp only [cond_true, Option.some.injEq, Prod.mk.injEq] at h
            obtain ⟨_, rfl, rfl⟩ := h
            obtain ⟨h1, h2⟩ := hS.alloc_own (nid_fresh B.nb H) (nidx_ge B.nb H).1 (cs := zv.cells) (e := t) (o := .vec t 1 (zv.cells.toList.map fun c => [.v c])) (by
              simp only [Ob.at, Sh.has, Sh.one]
              refine .inr ⟨_, zv.cells.toList.map fun c => [c], [], rfl, ?_, rows1_dens _ hb, by simp⟩
              rw [flat1]
              simpa using al_new w _)
            exact ⟨_, _, _, _, hrun, .inl ⟨_, rfl, by simp only [AV.den, upd]; exact ⟨_, by simp, rfl⟩⟩, h1, h2⟩
          | false =>
            rw [hd] at h
            simp only [cond_false, Option.some.injEq, Prod.mk.injEq] at h
            obtain ⟨_, rfl, rfl⟩ := h
            exact hvar rfl
        · simp only [Option.some.injEq, Prod.mk.injEq] at h
          obtain ⟨_, rfl, rfl⟩ := h
          exact hvar rfl
    · cases h
  · -- box
    rename_i t x
    split at h
    · rename_i av hx
      have hd := ev_sound (w := w) (φ := φ) (I := I) hE hx
      have hrun : (execOp a.eval ⟨dst, .box t x, ty, pos, after, guard⟩).run P w = .ok (.value (.pointer (some ⟨w.heap.size, 0, none⟩))) (w.alloc (.cells (a.eval x).cells t)) := by
        simp [execOp, Instr.box, newVar, newRow]
      cases hb : inO obl dst with
      | true =>
        rw [hb] at h
        simp only [cond_true] at h
        split at h
        · rename_i ys hy
          simp only [Option.some.injEq, Prod.mk.injEq] at h
          obtain ⟨_, rfl, rfl⟩ := h
          obtain ⟨ws, hw, hdw, hw1⟩ := cellsOfAV_den hy hd
          rw [hw] at hrun
          have hnb : φ (nidx B.nb H) = none := by
            have := hS.real.dom (nidx B.nb H)
            rw [nid_fresh B.nb H] at this
            cases hq : φ (nidx B.nb H) with
            | none => rfl
            | some _ => rw [hq] at this; cases this
          obtain ⟨h1, h2⟩ := hS.alloc_own (nid_fresh B.nb H) (nidx_ge B.nb H).1 (cs := ws.toArray) (e := t) (o := .var t ys) (by
            simp only [Ob.at, Sh.has, Sh.one]
            refine ⟨_, ws, rfl, by simpa using al_new w _, ?_, hw1⟩
            refine AV.dens_mono (fun g hg => heap_alloc_old w _ (hS.real.imm g hg)) (fun _ h => h) (fun b p hp => ?_) (fun _ g n _ hs => (ext_alloc (fun _ => False) w _).shaped (fun h => h) hs) ys ws hdw
            unfold upd
            rw [if_neg (by intro e; rw [e, hnb] at hp; cases hp)]
            exact hp)
          exact ⟨_, _, _, _, hrun, .inl ⟨_, rfl, by simp only [AV.den, upd]; exact ⟨_, by simp, rfl⟩⟩, h1, h2⟩
        · cases h
      | false =>
        rw [hb] at h
        simp only [cond_false] at h
        split at h
        · rename_i cs hc
          simp only [Option.some.injEq, Prod.mk.injEq] at h
          obtain ⟨_, rfl, rfl⟩ := h
          obtain ⟨us, hu, hdu⟩ := imCells_den hc hd
          rw [hu] at hrun
          obtain ⟨h1, h2⟩ := hS.alloc_im us.toArray t
          refine ⟨_, _, _, _, hrun, .inl ⟨_, rfl, ?_⟩, h1, h2⟩
          simp only [AV.den, IV.den]
          refine ⟨_, 0, us, rfl, .inr rfl, IV.dens_mono h2.im h2.I cs us hdu, fun j u hu => ?_⟩
          rw [Nat.zero_add]
          simp only [World.cell?, al_new w, Option.isSome_none, Bool.false_eq_true, if_false, List.getElem?_toArray]
          exact hu
        · cases h
    · cases h
  · -- buildSlice
    rename_i t len parts
    split at h
    · rename_i e ht
      split at h
      · split at h
        · rename_i es hes hparts
          simp only [Option.some.injEq, Prod.mk.injEq] at h
          obtain ⟨_, rfl, rfl⟩ := h
          obtain rfl : parts = #[] := by cases parts; simpa using hparts
          have hrun : (execOp a.eval ⟨dst, .buildSlice t 0 #[], ty, pos, after, guard⟩).run P w = .ok (.value (.slice (some ⟨w.heap.size, 0, none⟩) 0 0)) (w.alloc (.cells #[] e)) := by
            have h0 : Array.range 0 = #[] := by decide
            simp [execOp, Instr.buildSlice, run_underlying (und_slice ht), run_sizeOf hes, Instr.fill, newRow, h0]
          obtain ⟨h1, h2⟩ := hS.alloc_own (nid_fresh B.nb H) (nidx_ge B.nb H).1 (cs := #[]) (e := e) (o := .vec e es []) (by
              simp only [Ob.at, Sh.has, Sh.one]
              exact .inr ⟨_, [], [], rfl, by simpa using al_new w _, by simp [IV.denss], by simp⟩)
          refine ⟨_, _, _, _, hrun, .inl ⟨_, rfl, ?_⟩, h1, h2⟩
          simp only [AV.den, upd]
          exact .inr ⟨_, 0, by simp, by simp, Nat.le_refl _, Nat.zero_le _, #[], e, al_new w _, by simp⟩
        · cases h
      · rename_i k
        split at h
        · rename_i es z hes hz
          cases hb : (Nat.beq parts.toList.length (k + 1) && Nat.beq z.length (es + 1) && Nat.ble ((k + 1) * (es + 1)) 16777216) with
          | false => rw [hb] at h; simp at h
          | true =>
            rw [hb] at h
            simp only [cond_true] at h
            simp only [Bool.and_eq_true] at hb
            have hpl := Nat.eq_of_beq_eq_true hb.1.1
            have hsm := Nat.le_of_ble_eq_true hb.2
            split at h
            · rename_i rows hrows
              obtain ⟨vs, hv1, hv2, hv3, hv4⟩ := rowsOf_sound (w := w) (φ := φ) (I := I) hE _ _ _ hrows
              obtain ⟨_, ie, hie, hsz⟩ := sz_both hes
              obtain ⟨ie', zv, hie', hzv, _⟩ := zro_info hz
              rw [hie] at hie'
              cases hie'
              have hrun : (execOp a.eval ⟨dst, .buildSlice t (k + 1) parts, ty, pos, after, guard⟩).run P w = .ok (.value (.slice (some ⟨w.heap.size, 0, none⟩) (k + 1) (k + 1))) (w.alloc (.cells (vs.flatMap fun v => v.cells.toList).toArray e)) := by
                have := run_buildSlice (P := P) w t e (k + 1) (parts.map fun (i, x) => (i, a.eval x)) (vs.flatMap fun v => v.cells.toList).toArray ie zv (und_slice ht) hie hzv (by rw [hsz]; show ¬ (k + 1) * (es + 1) > 2 ^ 24; omega) (by rw [hsz]; simp) (by
                  rw [parts_map, hv1, hsz]
                  exact Great.fill_whole (Nat.succ_pos _) vs _ hv2 (by rw [hv3, hpl]; simp))
                simp only [execOp, Sem.run_bind, this, Result.andThen_ok, Sem.run_pure]
              have hfl : (vs.flatMap fun v => v.cells.toList) = (vs.map fun v => v.cells.toList).flatten := by simp [List.flatMap]
              have hrl : rows.length = k + 1 := by rw [← denss_len _ _ hv4, List.length_map, hv3, hpl]
              cases hq : inO obl dst with
              | true =>
                rw [hq] at h
                simp only [cond_true, Option.some.injEq, Prod.mk.injEq] at h
                obtain ⟨_, rfl, rfl⟩ := h
                obtain ⟨h1, h2⟩ := hS.alloc_own (nid_fresh B.nb H) (nidx_ge B.nb H).1 (cs := (vs.flatMap fun v => v.cells.toList).toArray) (e := e) (o := .vec e (es + 1) rows) (by
                  simp only [Ob.at, Sh.has, Sh.one]
                  refine .inr ⟨_, vs.map fun v => v.cells.toList, [], rfl, ?_, IV.denss_mono (fun g hg => heap_alloc_old w _ (hS.real.imm g hg)) (fun _ h => h) rows _ hv4, ?_⟩
                  · rw [List.append_nil, ← hfl]; exact al_new w _
                  · intro us hus
                    obtain ⟨v, hv, rfl⟩ := List.mem_map.1 hus
                    simpa using hv2 v hv)
                refine ⟨_, _, _, _, hrun, .inl ⟨_, rfl, ?_⟩, h1, h2⟩
                simp only [AV.den, upd]
                refine .inr ⟨_, k + 1, by simp, by simp, Nat.le_refl _, ?_, _, e, al_new w _, ?_⟩
                · have : k + 1 ≤ (k + 1) * (es + 1) := Nat.le_mul_of_pos_right _ (Nat.succ_pos _)
                  unfold maxLen; omega
                · rw [hfl]
                  have : ∀ (l : List (List Value)), (∀ x ∈ l, x.length = es + 1) → l.flatten.length = l.length * (es + 1) := by
                    intro l
                    induction l with
                    | nil => simp
                    | cons x l ih => intro hx; simp only [List.flatten_cons, List.length_append, List.length_cons]; rw [ih (fun y hy => hx y (by simp [hy])), hx x (by simp), Nat.add_mul]; omega
                  rw [List.size_toArray, this _ (by intro us hus; obtain ⟨v, hv, rfl⟩ := List.mem_map.1 hus; simpa using hv2 v hv), List.length_map, hv3, hpl]
                  simp
              | false =>
                rw [hq] at h
                simp only [cond_false, Option.some.injEq, Prod.mk.injEq] at h
                obtain ⟨_, rfl, rfl⟩ := h
                obtain ⟨h1, h2⟩ := hS.alloc_im (vs.flatMap fun v => v.cells.toList).toArray e
                refine ⟨_, _, _, _, hrun, .inl ⟨_, rfl, ?_⟩, h1, h2⟩
                simp only [AV.den, IV.den]
                refine ⟨_, k + 1, vs.map fun v => v.cells.toList, by rw [hrl], by omega, IV.denss_mono h2.im h2.I rows _ hv4, ?_, fun _ => ⟨w.heap.size, 0, rfl, .inr rfl, fun j u hu => ?_⟩⟩
                · intro us hus
                  obtain ⟨v, hv, rfl⟩ := List.mem_map.1 hus
                  simpa using hv2 v hv
                · rw [Nat.zero_add]
                  rw [← hfl] at hu
                  simp only [World.cell?, al_new w, Option.isSome_none, Bool.false_eq_true, if_false, List.getElem?_toArray]
                  exact hu
            · cases h
        · cases h
    · cases h
  · -- store
    rename_i t p x
    split at h
    · rename_i b off av n hp hx hn
      have hdx := ev_sound (w := w) (φ := φ) (I := I) hE hx
      have hdp := ev_sound (w := w) (φ := φ) (I := I) hE hp
      simp only [AV.den] at hdp
      obtain ⟨g, hg, hpv⟩ := hdp
      split at h
      · rename_i el cs hlk
        split at h
        · rename_i ys hy
          cases hq : Nat.beq ys.length n with
          | false => rw [hq] at h; simp at h
          | true =>
            rw [hq] at h
            simp only [cond_true, Option.some.injEq, Prod.mk.injEq] at h
            obtain ⟨rfl, rfl, rfl⟩ := h
            have hyl := Nat.eq_of_beq_eq_true hq
            obtain ⟨ws, hw, hdw, hw1⟩ := cellsOfAV_den hy hdx
            have hown := hS.real.own b _ _ hlk hg
            simp only [Ob.at, Sh.has, Sh.one] at hown
            obtain ⟨g', us, hgg, hheap, hd, h1⟩ := hown
            cases hgg
            have hul := adens_len cs us hd
            have hwl : ws.length = n := by rw [adens_len ys ws hdw]; exact hyl
            have hrun := run_storeAt (P := P) (w := w) (o := off) hn hw hwl hw1 hheap (by simp; omega)
            have e1 := setAtV_eq ws off us (by omega)
            rw [hwl] at e1
            rw [← e1] at hrun
            have hkeep : ∀ (y : AV) (u : Value), True := fun _ _ => trivial
            obtain ⟨h2, h3⟩ := hS.write (o' := .var el (setAt cs off ys)) hlk hg hheap (cs := (setAtV us off ws).toArray) (by simp [setAtV_len]) (fun _ _ _ => ⟨_, _, rfl⟩) (by
              simp only [Ob.at, Sh.has, Sh.one]
              refine ⟨g, setAtV us off ws, rfl, setRow_heap w g _ _ el (0, 0) hheap, ?_, setAtV_one ws off us h1 hw1⟩
              refine AV.dens_mono (fun g' hg' => setRow_other w g g' _ (fun e => by subst e; exact (hS.real.off b g' hg).1 hg')) (fun _ h => h) (fun _ _ h => h) (fun _ g' n' _ hs => ?_) _ _ (setAt_dens ys ws off cs us hd hdw)
              obtain ⟨c, e, hc, hcn⟩ := hs
              by_cases hgg : g' = g
              · subst hgg
                rw [hheap] at hc
                cases hc
                exact ⟨_, el, setRow_heap w g' _ _ el (0, 0) hheap, by simpa [setAtV_len] using hcn⟩
              · exact ⟨c, e, (setRow_other w g g' _ hgg).trans hc, hcn⟩)
            refine ⟨.skip, _, _, _, ?_, .inr ⟨rfl, by simp only [AV.den]⟩, h2, h3⟩
            simp only [execOp, hpv, Sem.run_bind, hrun, Result.andThen_ok, Sem.run_pure]
        · cases h
      · rename_i el rows hlk
        split at h
        · rename_i cs hcc
          cases hq : Nat.beq off 0 with
          | false => rw [hq] at h; simp at h
          | true =>
            rw [hq] at h
            have ho := Nat.eq_of_beq_eq_true hq
            subst ho
            simp only [cond_true, Option.some.injEq, Prod.mk.injEq] at h
            obtain ⟨rfl, rfl, rfl⟩ := h
            obtain ⟨hcl, hrl⟩ := hsc
            obtain ⟨ws, hxv, hdw⟩ := imCells_den hcc hdx
            have hown := hS.real.own b _ _ hlk hg
            simp only [Ob.at, Sh.has, Sh.one] at hown
            rcases hown with ⟨hno, _⟩ | ⟨g', vss, rest, hgg, hheap, hd, hl⟩
            · cases hno
            cases hgg
            have hwl : ws.length = n := by rw [idens_len cs ws hdw]; exact hcl
            have hvl := denss_len rows vss hd
            have hfl : ∀ (l : List (List Value)), (∀ x ∈ l, x.length = 1) → l.flatten.length = l.length := by
              intro l
              induction l with
              | nil => simp
              | cons x l ih => intro hx; simp only [List.flatten_cons, List.length_append, List.length_cons]; rw [ih (fun y hy => hx y (by simp [hy])), hx x (by simp)]; omega
            have hvfl := hfl vss hl
            have hrun := run_storeAt (P := P) (w := w) (o := 0) (u := a.eval x) hn hxv hwl (idens_one cs ws hdw) hheap (by simp only [List.size_toArray, List.length_append]; omega)
            have e1 : ((vss.flatten ++ rest).toArray.toList.take 0 ++ ws ++ (vss.flatten ++ rest).toArray.toList.drop (0 + n)) = (ws.map fun c => [c]).flatten ++ rest := by
              rw [flat1]
              simp only [List.take_zero, List.nil_append, Nat.zero_add]
              rw [List.drop_append, List.drop_eq_nil_of_le (as := vss.flatten) (by omega), show n - vss.flatten.length = 0 from by omega]
              rfl
            rw [e1] at hrun
            obtain ⟨h2, h3⟩ := hS.write (o' := .vec el 1 (cs.map fun c => [c])) hlk hg hheap (cs := ((ws.map fun c => [c]).flatten ++ rest).toArray) (by rw [flat1]; simp only [List.size_toArray, List.length_append]; omega) (fun _ _ e => by cases e) (by
              simp only [Ob.at, Sh.has, Sh.one]
              refine .inr ⟨g, ws.map fun c => [c], rest, rfl, setRow_heap w g _ _ el (0, 0) hheap, ?_, by simp⟩
              refine IV.denss_mono (fun g' hg' => setRow_other w g g' _ (fun e => by subst e; exact (hS.real.off b g' hg).1 hg')) (fun _ h => h) _ _ ?_
              have : ∀ (xs : List IV) (us : List Value), IV.dens w I xs us → IV.denss w I (xs.map fun c => [c]) (us.map fun c => [c]) := by
                intro xs
                induction xs with
                | nil => intro us h; simp only [IV.dens] at h; subst h; simp [IV.denss]
                | cons x xs ih =>
                  intro us h
                  simp only [IV.dens] at h
                  obtain ⟨u, us', rfl, h1, h2⟩ := h
                  simp only [List.map_cons, IV.denss, IV.dens]
                  exact ⟨[u], _, rfl, ⟨u, [], rfl, h1, rfl⟩, ih us' h2⟩
              exact this cs ws hdw)
            refine ⟨.skip, _, _, _, ?_, .inr ⟨rfl, by simp only [AV.den]⟩, h2, h3⟩
            simp only [execOp, hpv, Sem.run_bind, hrun, Result.andThen_ok, Sem.run_pure]
        · cases h
      · cases h
    · rename_i b es i j av n hp hx hn
      have hdx := ev_sound (w := w) (φ := φ) (I := I) hE hx
      have hdp := ev_sound (w := w) (φ := φ) (I := I) hE hp
      simp only [AV.den] at hdp
      obtain ⟨g, hg, hpv⟩ := hdp
      split at h
      · rename_i el es' rows c hlk hc
        cases hq : (Nat.beq es es' && Nat.beq c.length n) with
        | false => rw [hq] at h; simp at h
        | true =>
          rw [hq] at h
          simp only [cond_true, Option.some.injEq, Prod.mk.injEq] at h
          obtain ⟨rfl, rfl, rfl⟩ := h
          simp only [Bool.and_eq_true] at hq
          have hes := Nat.eq_of_beq_eq_true hq.1
          subst hes
          have hcl := Nat.eq_of_beq_eq_true hq.2
          obtain ⟨hi, hj⟩ := hsc
          obtain ⟨ws, hw, hdw⟩ := imCells_den hc hdx
          have hown := hS.real.own b _ _ hlk hg
          simp only [Ob.at, Sh.has, Sh.one] at hown
          rcases hown with ⟨hno, _⟩ | ⟨g', vss, rest, hgg, hheap, hd, hl⟩
          · cases hno
          cases hgg
          have hwl : ws.length = n := by rw [idens_len c ws hdw]; exact hcl
          have hvl := denss_len rows vss hd
          obtain ⟨vs, hvs, hdv⟩ := denss_get rows vss i _ hd (List.getElem?_eq_getElem hi)
          have e0 : rows.getD i [] = rows[i] := by simp [List.getD, hi]
          have hvsl : vs.length = es := hl vs (List.mem_of_getElem? hvs)
          have hrl : rows[i].length = es := by rw [← idens_len _ vs hdv]; exact hvsl
          have hiv : i < vss.length := by omega
          have hfl : ∀ (l : List (List Value)), (∀ x ∈ l, x.length = es) → l.flatten.length = l.length * es := by
            intro l
            induction l with
            | nil => simp
            | cons x l ih => intro hx; simp only [List.flatten_cons, List.length_append, List.length_cons]; rw [ih (fun y hy => hx y (by simp [hy])), hx x (by simp), Nat.add_mul]; omega
          have hvfl := hfl vss hl
          have hbnd : i * es + es ≤ vss.flatten.length := by
            rw [hvfl]
            have := Nat.mul_le_mul_right es (show i + 1 ≤ vss.length by omega)
            rw [Nat.add_mul] at this; omega
          have hrun := run_storeAt (P := P) (w := w) (o := i * es + j) (u := a.eval x) hn hw hwl (idens_one c ws hdw) hheap (by simp only [List.size_toArray, List.length_append]; omega)
          have hnew : (vs.take j ++ ws ++ vs.drop (j + n)).length = es := by simp only [List.length_append, List.length_take, List.length_drop]; omega
          have hrow : vss.flatten.drop (i * es) = vs ++ vss.flatten.drop (i * es + es) := by
            have hd1 := flat_drop i vss es hl (by omega)
            rw [← hd1, List.drop_eq_getElem_cons hiv, List.flatten_cons]
            have hd2 := flat_drop (i + 1) vss es hl (by omega)
            have hvi : vss[i] = vs := by
              have := List.getElem?_eq_getElem hiv
              rw [this] at hvs
              exact Option.some.inj hvs
            rw [hvi, hd2, Nat.add_mul, Nat.one_mul]
          have e1 : ((vss.flatten ++ rest).toArray.toList.take (i * es + j) ++ ws ++ (vss.flatten ++ rest).toArray.toList.drop (i * es + j + n)) = (vss.set i (vs.take j ++ ws ++ vs.drop (j + n))).flatten ++ rest := by
            rw [flat_set vss es i _ hl hnew hiv]
            simp only []
            have t1 : (vss.flatten ++ rest).take (i * es + j) = vss.flatten.take (i * es) ++ vs.take j := by
              rw [List.take_append_of_le_length (by omega)]
              have : i * es + j = i * es + j := rfl
              rw [List.take_add, hrow, List.take_append_of_le_length (by omega)]
            have t2 : (vss.flatten ++ rest).drop (i * es + j + n) = vs.drop (j + n) ++ vss.flatten.drop (i * es + es) ++ rest := by
              rw [List.drop_append_of_le_length (by omega), show i * es + j + n = i * es + (j + n) by omega, ← List.drop_drop, hrow, List.drop_append_of_le_length (by omega)]
            rw [t1, t2]
            simp
          rw [e1] at hrun
          obtain ⟨h2, h3⟩ := hS.write (o' := .vec el es (rows.set i (setRowI (rows.getD i []) j c))) hlk hg hheap (cs := ((vss.set i (vs.take j ++ ws ++ vs.drop (j + n))).flatten ++ rest).toArray) (by
              rw [flat_set vss es i _ hl hnew hiv]
              simp only [List.size_toArray, List.length_append, List.length_take, List.length_drop]
              omega) (fun _ _ e => by cases e) (by
            simp only [Ob.at, Sh.has, Sh.one]
            refine .inr ⟨g, vss.set i (vs.take j ++ ws ++ vs.drop (j + n)), rest, rfl, setRow_heap w g _ _ el (0, 0) hheap, ?_, ?_⟩
            · refine IV.denss_mono (fun g' hg' => setRow_other w g g' _ (fun e => by subst e; exact (hS.real.off b g' hg).1 hg')) (fun _ h => h) _ _ ?_
              rw [e0]
              have hdr := dens_setRow hdv hdw (j := j) (by omega)
              rw [hwl] at hdr
              exact denss_set rows vss i _ _ hd hdr
            · intro us hus
              rcases List.mem_or_eq_of_mem_set hus with h' | rfl
              · exact hl us h'
              · exact hnew)
          refine ⟨.skip, _, _, _, ?_, .inr ⟨rfl, by simp only [AV.den]⟩, h2, h3⟩
          simp only [execOp, hpv, Sem.run_bind, hrun, Result.andThen_ok, Sem.run_pure]
      · cases h
    · cases h
  · cases h
end
end Go.AL
end

section
namespace Go.AL
open Go
def bw (want b : Bool) : Bool := bif want then b else !b
def gd (ds : List (Nat × Nat)) (E : Env) : Option (Nat × Bool) → Option Bool
  | none => some true
  | some (j, want) => match lk ds j with
    | some d => match lk E d with
      | some (.im (.v (.bool b))) => some (bw want b)
      | some (.opt g (.im (.v (.bool b)))) => some (g && bw want b)
      | some (.opt false _) => some false
      | _ => none
    | none => none
def putE (d : Option Nat) (v : AV) (E : Env) : Env :=
  match d with
  | some d => (d, v) :: E
  | none => E
def dsPut (d : Option Nat) (i : Nat) (ds : List (Nat × Nat)) : List (Nat × Nat) :=
  match d with
  | some d => (i, d) :: ds
  | none => ds
def wrap (g : Option (Nat × Bool)) (G : Bool) (v : AV) : AV :=
  match g with
  | none => v
  | some _ => match v with
    | .opt g' x => .opt (G && g') x
    | x => .opt G x
def vc (P : Program) (nb : Nat) (obl : List Nat) (k : List Oper → List (Nat × Nat) → Nat → Env → Heap → Prop) : List Oper → List (Nat × Nat) → Nat → Env → Heap → Prop
  | [], ds, i, E, H => k [] ds i E H
  | o :: os, ds, i, E, H => match gd ds E o.guard with
    | none => k (o :: os) ds i E H
    | some G => match aval P E H o.op with
      | some (sc, v) => (G = true → sc) ∧ vc P nb obl k os (dsPut o.dst i ds) (i + 1) (putE o.dst (wrap o.guard G v) E) H
      | none => match o.guard with
        | some _ => k (o :: os) ds i E H
        | none => match aeff P nb obl E H o with
          | some (sc, v, H') => sc ∧ vc P nb obl k os (dsPut o.dst i ds) (i + 1) (putE o.dst v E) H'
          | none => k (o :: os) ds i E H
def dstOk (n : Nat) (ops : List Oper) : Bool := ops.all fun o => noDefer o && match o.dst with
  | some d => Nat.blt d n
  | none => true
theorem dstOk_nd {n : Nat} {ops : List Oper} (h : dstOk n ops = true) : ops.all noDefer = true := by
  rw [dstOk, List.all_eq_true] at h
  rw [List.all_eq_true]
  intro o ho
  have := h o ho
  simp only [Bool.and_eq_true] at this
  exact this.1
theorem dstOk_mem {n : Nat} {ops : List Oper} (h : dstOk n ops = true) {o : Oper} (ho : o ∈ ops) : ∀ x, o.dst = some x → x < n := fun x hx => by
  rw [dstOk, List.all_eq_true] at h
  have h1 := h o ho
  rw [hx] at h1
  simp only [Bool.and_eq_true, Nat.blt_eq] at h1
  exact h1.2
def AO (C : Cx) (ds : List (Nat × Nat)) (i : Nat) (rest : List Oper) (K : List KI) (E : Env) (H : Heap) : Prop :=
  ∀ ops : Array Oper, (∀ j d, lk ds j = some d → (ops[j]?).bind (·.dst) = some d) → (∀ j o, rest[j]? = some o → (ops[i + j]?).bind (·.dst) = o.dst) →
    ∀ φ I a w, Sim C φ I E H a w → wpL C.P ops (denK C K) rest a w
section
variable {C : Cx} {K : List KI} {E : Env} {H : Heap}
theorem Sim.put {φ : Phi} {I : Nat → Prop} {a : Act} {w : World} (h : Sim C φ I E H a w) {φ' : Phi} {I' : Nat → Prop} {w' : World} {H' : Heap} (hS : St C.B φ' I' H' w') (k : Keeps w φ I w' φ' I') {d : Option Nat} {v : AV} {u : Value}
    (hd : ∀ x, d = some x → x < C.n) (hv : AV.den w' φ' I' v u) : Sim C φ' I' (putE d v E) H' (a.put d u) w' := by
  cases d with
  | none =>
    refine ⟨h.dfr.mono k.im k.I, h.siz, fun i x hx => ?_, hS⟩
    obtain ⟨y, hy, hdy⟩ := h.env i x hx
    exact ⟨y, hy, k.den hdy⟩
  | some d =>
    refine ⟨h.dfr.mono k.im k.I, by simpa [Act.put] using h.siz, fun i x hx => ?_, hS⟩
    simp only [putE, lk] at hx
    cases hb : Nat.beq d i with
    | true =>
      rw [hb] at hx
      have hdi := Nat.eq_of_beq_eq_true hb
      subst hdi
      simp only [cond_true, Option.some.injEq] at hx
      subst hx
      have := hd d rfl
      exact ⟨u, by simp only [Act.put]; rw [Array.getElem?_setIfInBounds_self_of_lt (by rw [h.siz]; exact this)], hv⟩
    | false =>
      rw [hb] at hx
      simp only [cond_false] at hx
      obtain ⟨y, hy, hdy⟩ := h.env i x hx
      refine ⟨y, ?_, k.den hdy⟩
      simp only [Act.put]
      rw [Array.getElem?_setIfInBounds_ne (by intro e; subst e; simp at hb)]
      exact hy
theorem gd_sound {φ : Phi} {I : Nat → Prop} {a : Act} {w : World} {ds : List (Nat × Nat)} {ops : Array Oper} (hE : EnvOk w φ I E a) (hds : ∀ j d, lk ds j = some d → (ops[j]?).bind (·.dst) = some d) {o : Oper} {G : Bool}
    (h : gd ds E o.guard = some G) : Region.wanted o (yielded ops a.tmps) = G := by
  unfold gd at h
  unfold Region.wanted
  split at h
  · rename_i hg
    simp only [Option.some.injEq] at h
    rw [hg]; exact h
  · rename_i j want hg
    rw [hg]
    simp only
    split at h
    · rename_i d hd
      have hdd := hds j d hd
      split at h
      · rename_i b hb
        simp only [Option.some.injEq] at h
        obtain ⟨u, hu, hden⟩ := hE d _ hb
        rw [den_b] at hden
        subst hden
        simp only [yielded, hdd, Option.bind_some, hu]
        subst h
        cases want <;> cases b <;> rfl
      · rename_i g b hb
        simp only [Option.some.injEq] at h
        obtain ⟨u, hu, hden⟩ := hE d _ hb
        simp only [AV.den] at hden
        simp only [yielded, hdd, Option.bind_some, hu]
        subst h
        cases g with
        | true =>
          have := hden.1 rfl
          rw [show (IV.den w I (IV.v (Value.bool b)) u) = (AV.den w φ I (.im (.v (.bool b))) u) from by simp only [AV.den], den_b] at this
          subst this
          cases want <;> cases b <;> rfl
        | false =>
          have := hden.2 rfl
          subst this
          rfl
      · rename_i x _ hb
        simp only [Option.some.injEq] at h
        obtain ⟨u, hu, hden⟩ := hE d _ hb
        simp only [AV.den] at hden
        simp only [yielded, hdd, Option.bind_some, hu]
        subst h
        have := hden.2 trivial
        subst this
        rfl
      · cases h
    · cases h
theorem AO.step {ds : List (Nat × Nat)} {i : Nat} {o : Oper} {os : List Oper}
    (h : ∀ (ops : Array Oper) φ I a w, (∀ j d, lk ds j = some d → (ops[j]?).bind (·.dst) = some d) → (ops[i]?).bind (·.dst) = o.dst → Sim C φ I E H a w →
      ∀ Kn : Act → World → Prop, (∀ E' H' φ' I' a' w', AO C (dsPut o.dst i ds) (i + 1) os K E' H' → Sim C φ' I' E' H' a' w' → Kn a' w') →
        if Region.wanted o (yielded ops a.tmps) then o.wp C.P a w Kn (denK C K) else Kn (a.put o.dst undef) w) : AO C ds i (o :: os) K E H := by
  intro ops hds hrest φ I a w hs
  have h0 : (ops[i]?).bind (·.dst) = o.dst := hrest 0 o (by simp)
  refine wpL_step fun Kn hKn => h ops φ I a w hds h0 hs Kn fun E' H' φ' I' a' w' hao hs' => hKn _ _ (hao ops (fun j d hj => ?_) (fun j o' hj => ?_) φ' I' a' w' hs')
  · unfold dsPut at hj
    split at hj
    · rename_i d' hd'
      simp only [lk] at hj
      cases hb : Nat.beq i j with
      | true =>
        rw [hb] at hj
        have := Nat.eq_of_beq_eq_true hb
        subst this
        simp only [cond_true, Option.some.injEq] at hj
        subst hj
        rw [h0, hd']
      | false =>
        rw [hb] at hj
        exact hds j d hj
    · exact hds j d hj
  · have := hrest (j + 1) o' (by simpa using hj)
    rw [← this]
    congr 2
    omega
theorem AO.stepO {ds : List (Nat × Nat)} {i : Nat} {o : Oper} {os : List Oper}
    (h : ∀ (ops : Array Oper) φ I a w, (∀ j d, lk ds j = some d → (ops[j]?).bind (·.dst) = some d) → (ops[i]?).bind (·.dst) = o.dst → Sim C φ I E H a w →
      ∀ Kn : Act → World → Prop, (∀ E' H' φ' I' a' w', AO C (dsPut o.dst i ds) (i + 1) os K E' H' → Sim C φ' I' E' H' a' w' → Kn a' w') →
        if Region.wanted o (yielded ops a.tmps) then oStep C.P o a w Kn (denK C K) else Kn (a.put o.dst undef) w) : AO C ds i (o :: os) K E H := by
  intro ops hds hrest φ I a w hs
  have h0 : (ops[i]?).bind (·.dst) = o.dst := hrest 0 o (by simp)
  refine wpL_stepO fun Kn hKn => h ops φ I a w hds h0 hs Kn fun E' H' φ' I' a' w' hao hs' => hKn _ _ (hao ops (fun j d hj => ?_) (fun j o' hj => ?_) φ' I' a' w' hs')
  · unfold dsPut at hj
    split at hj
    · rename_i d' hd'
      simp only [lk] at hj
      cases hb : Nat.beq i j with
      | true =>
        rw [hb] at hj
        have := Nat.eq_of_beq_eq_true hb
        subst this
        simp only [cond_true, Option.some.injEq] at hj
        subst hj
        rw [h0, hd']
      | false =>
        rw [hb] at hj
        exact hds j d hj
    · exact hds j d hj
  · have := hrest (j + 1) o' (by simpa using hj)
    rw [← this]
    congr 2
    omega
theorem dstOk_cons {n : Nat} {o : Oper} {os : List Oper} (h : dstOk n (o :: os) = true) : (∀ x, o.dst = some x → x < n) ∧ dstOk n os = true := by
  refine ⟨dstOk_mem h (by simp), ?_⟩
  simp only [dstOk, List.all_cons, Bool.and_eq_true] at h
  exact h.2
theorem den_undef_opt {w : World} {φ : Phi} {I : Nat → Prop} {x : AV} : AV.den w φ I (.opt false x) undef := by simp [AV.den]
theorem wrap_den {w : World} {φ : Phi} {I : Nat → Prop} {g : Option (Nat × Bool)} {v : AV} {u : Value} (h : AV.den w φ I v u) : AV.den w φ I (wrap g true v) u := by
  unfold wrap
  split
  · exact h
  · split
    · simpa using h
    · simp only [AV.den]; exact ⟨fun _ => h, fun e => by cases e⟩
theorem wrap_undef {w : World} {φ : Phi} {I : Nat → Prop} {p : Nat × Bool} {v : AV} : AV.den w φ I (wrap (some p) false v) undef := by
  cases v <;> simp [wrap, AV.den]
theorem vc_sound : ∀ (rest : List Oper) (ds : List (Nat × Nat)) (i : Nat) (E : Env) (H : Heap), dstOk C.n rest = true →
    vc C.P C.B.nb C.ob (fun rest ds i E H => AO C ds i rest K E H) rest ds i E H → AO C ds i rest K E H
  | [], ds, i, E, H, _, h => h
  | o :: os, ds, i, E, H, hok, h => by
    obtain ⟨hd, hok'⟩ := dstOk_cons hok
    simp only [vc] at h
    split at h
    · exact h
    · rename_i G hG
      split at h
      · rename_i sc v hv
        obtain ⟨hsc, hnext⟩ := h
        have hao := vc_sound os _ _ _ _ hok' hnext
        refine AO.step fun ops φ I a w hds _ hs Kn hKn => ?_
        rw [gd_sound hs.env hds hG]
        cases G with
        | true =>
          obtain ⟨u, hu, hden⟩ := aval_sound hs.env hs.st.real hv (hsc rfl)
          rw [if_pos rfl]
          unfold Oper.wp
          rw [hu, Oper.upon_value]
          exact hKn _ _ φ I _ _ hao (hs.put hs.st (Keeps.refl _ _ _) hd (wrap_den hden))
        | false =>
          rw [if_neg (by simp)]
          refine hKn _ _ φ I _ _ hao (hs.put hs.st (Keeps.refl _ _ _) hd ?_)
          cases hg : o.guard with
          | none => rw [hg] at hG; simp [gd] at hG
          | some p => exact wrap_undef
      · split at h
        · exact h
        · split at h
          · rename_i hg _ sc v H' he
            obtain ⟨hsc, hnext⟩ := h
            have hao := vc_sound os _ _ _ _ hok' hnext
            refine AO.step fun ops φ I a w hds _ hs Kn hKn => ?_
            have hw : Region.wanted o (yielded ops a.tmps) = true := by simp [Region.wanted, hg]
            rw [if_pos hw]
            obtain ⟨nx, w', φ', I', hrun, hnx, hS, hk⟩ := aeff_sound (P := C.P) hs.env hs.st he hsc
            unfold Oper.wp
            rw [hrun]
            rcases hnx with ⟨u, rfl, hden⟩ | ⟨rfl, hden⟩
            · rw [Oper.upon_value]
              exact hKn _ _ φ' I' _ _ hao (hs.put hS hk hd hden)
            · rw [Oper.upon_skip]
              exact hKn _ _ φ' I' _ _ hao (hs.put hS hk hd hden)
          · exact h
theorem AR.region {id : Nat} {ops : Array Oper} (hok : dstOk C.n ops.toList = true) (h : vc C.P C.B.nb C.ob (fun rest ds i E H => AO C ds i rest K E H) ops.toList [] 0 E H) : AR C (.region id ops false) K E H := by
  have hao := vc_sound (C := C) (K := K) ops.toList [] 0 E H hok h
  intro φ I a w hs
  refine wpR_region (dstOk_nd hok) (hao ops (fun j d hj => by simp [lk] at hj) (fun j o hj => ?_) φ I a w hs)
  rw [Nat.zero_add]
  rw [Array.getElem?_toList] at hj
  simp [hj]
theorem AO.nil {ds : List (Nat × Nat)} {i : Nat} (h : AX C .normal K E H) : AO C ds i [] K E H := fun _ _ _ φ I a w hs => wpL_nil (h φ I a w hs)
def keepE : List Nat → Env → Env
  | [], _ => []
  | i :: r, E => match lk E i with
    | some x => (i, x) :: keepE r E
    | none => keepE r E
theorem keepE_sub : ∀ (l : List Nat) (E : Env), Sub E (keepE l E)
  | [], _, i, x, h => by simp [keepE, lk] at h
  | j :: r, E, i, x, h => by
    simp only [keepE] at h
    split at h
    · rename_i y hy
      simp only [lk] at h
      cases hb : Nat.beq j i with
      | true =>
        rw [hb] at h
        have := Nat.eq_of_beq_eq_true hb
        subst this
        simp only [cond_true, Option.some.injEq] at h
        subst h
        exact hy
      | false => rw [hb] at h; exact keepE_sub r E i x h
    · exact keepE_sub r E i x h
theorem AO.done {ds : List (Nat × Nat)} {i : Nat} (h : AX C .normal K (keepE C.kp E) H) : AO C ds i [] K E H := AO.nil (AX.weaken h (keepE_sub _ _))
theorem AO.guard_yes {ds : List (Nat × Nat)} {i : Nat} {o : Oper} {os : List Oper} (hG : gd ds E o.guard = some true) (h : AO C ds i ({ o with guard := none } :: os) K E H) : AO C ds i (o :: os) K E H := by
  intro ops hds hrest φ I a w hs
  have := h ops hds (fun j o' hj => by
    cases j with
    | zero => simp at hj; subst hj; exact hrest 0 o (by simp)
    | succ j => exact hrest (j + 1) o' (by simpa using hj)) φ I a w hs
  unfold wpL at this ⊢
  rw [if_pos (gd_sound hs.env hds hG)]
  rw [if_pos (by simp [Region.wanted])] at this
  exact this
theorem AO.guard_no {ds : List (Nat × Nat)} {i : Nat} {o : Oper} {os : List Oper} (hok : ∀ x, o.dst = some x → x < C.n) (hG : gd ds E o.guard = some false) (h : AO C (dsPut o.dst i ds) (i + 1) os K (putE o.dst (.opt false .top) E) H) : AO C ds i (o :: os) K E H :=
  AO.step fun ops φ I a w hds _ hs Kn hKn => by
    rw [gd_sound hs.env hds hG, if_neg (by simp)]
    exact hKn _ _ φ I _ _ h (hs.put hs.st (Keeps.refl _ _ _) hok den_undef_opt)
end
end Go.AL
end
