import Derived.WalkKit
import Derived.Scope
set_option linter.unusedSimpArgs false
set_option linter.unusedVariables false
set_option linter.unnecessarySimpa false
namespace Go.AL
open Go

/-! ## Abstract values -/
inductive IV where
  | v (x : Value)
  | sl (es : Nat) (rows : List (List IV))
  | pt (cs : List IV)

def cellsAt (w : World) (g off : Nat) (us : List Value) : Prop := ∀ j u, us[j]? = some u → w.cell? ⟨g, off + j, none⟩ = some u

mutual
def IV.den (w : World) (I : Nat → Prop) : IV → Value → Prop
  | .v x, u => u = x ∧ x.oneCell' = true
  | .sl es rows, u => ∃ p c vss, u = .slice p rows.length c ∧ rows.length ≤ c ∧ IV.denss w I rows vss ∧ (∀ vs ∈ vss, vs.length = es) ∧
      (rows ≠ [] → ∃ g off, p = some ⟨g, off, none⟩ ∧ I g ∧ cellsAt w g off vss.flatten)
  | .pt cs, u => ∃ g off us, u = .pointer (some ⟨g, off, none⟩) ∧ I g ∧ IV.dens w I cs us ∧ cellsAt w g off us
def IV.dens (w : World) (I : Nat → Prop) : List IV → List Value → Prop
  | [], us => us = []
  | x :: xs, us => ∃ u us', us = u :: us' ∧ IV.den w I x u ∧ IV.dens w I xs us'
def IV.denss (w : World) (I : Nat → Prop) : List (List IV) → List (List Value) → Prop
  | [], us => us = []
  | x :: xs, us => ∃ u us', us = u :: us' ∧ IV.dens w I x u ∧ IV.denss w I xs us'
end

inductive AV where
  | im (x : IV)
  | ob (b off : Nat)
  | oe (b es i j : Nat)
  | os (b es i n : Nat)
  | fn (f : FuncId) (caps : List AV)
  | agg (cs : List AV)
  | ar (cs : List IV)
  | tup (vs : List AV)
  | opt (g : Bool) (x : AV)
  | top

/-- ids to blocks: none: not owned; some none: an owned row that is nil; some (some g): block g -/
abbrev Phi := Nat → Option (Option Nat)

/-- A block's outer form. -/
def shaped (w : World) (g n : Nat) : Prop := ∃ c e, w.heap[g]? = some (.cells c e (0, 0)) ∧ c.size = n

mutual
def AV.den (w : World) (φ : Phi) (I : Nat → Prop) : AV → Value → Prop
  | .im x, u => IV.den w I x u
  | .ob b off, u => ∃ g, φ b = some (some g) ∧ u = .pointer (some ⟨g, off, none⟩)
  | .oe b es i j, u => ∃ g, φ b = some (some g) ∧ u = .pointer (some ⟨g, i * es + j, none⟩)
  | .os b es i n, u => (φ b = some none ∧ i = 0 ∧ n = 0 ∧ u = .slice none 0 0) ∨
      ∃ g c, φ b = some (some g) ∧ u = .slice (some ⟨g, i * es, none⟩) n c ∧ n ≤ c ∧ c ≤ maxLen ∧ shaped w g ((i + c) * es)
  | .fn f caps, u => ∃ us, AV.dens w φ I caps us ∧ u = .func (.func f) #[] us.toArray
  | .agg cs, u => ∃ us, AV.dens w φ I cs us ∧ u = .agg us.toArray ∧ ∀ x ∈ us, x.oneCell' = true
  | .ar cs, u => ∃ us, IV.dens w I cs us ∧ u = .agg us.toArray
  | .tup vs, u => ∃ us, AV.dens w φ I vs us ∧ u = .tuple us.toArray
  | .opt g x, u => (g = true → AV.den w φ I x u) ∧ (g = false → u = undef)
  | .top, _ => True
def AV.dens (w : World) (φ : Phi) (I : Nat → Prop) : List AV → List Value → Prop
  | [], us => us = []
  | x :: xs, us => ∃ u us', us = u :: us' ∧ AV.den w φ I x u ∧ AV.dens w φ I xs us'
end

inductive Ob where
  | var (elem : TypeId) (cs : List AV)
  | vec (elem : TypeId) (es : Nat) (rows : List (List IV))

def lk {α : Type} : List (Nat × α) → Nat → Option α
  | [], _ => none
  | (j, x) :: r, i => bif Nat.beq j i then some x else lk r i

abbrev Env := List (Nat × AV)
abbrev Heap := List (Nat × Ob)

/-- What an owned block holds. -/
def Ob.at (w : World) (φ : Phi) (I : Nat → Prop) : Ob → Option Nat → Prop
  | .var elem cs, p => ∃ g us, p = some g ∧ w.heap[g]? = some (.cells us.toArray elem (0, 0)) ∧ AV.dens w φ I cs us ∧ ∀ x ∈ us, x.oneCell' = true
  | .vec elem es rows, p => (p = none ∧ rows = []) ∨
      ∃ g vss rest, p = some g ∧ w.heap[g]? = some (.cells (vss.flatten ++ rest).toArray elem (0, 0)) ∧ IV.denss w I rows vss ∧ (∀ vs ∈ vss, vs.length = es)

structure Real (w : World) (φ : Phi) (I : Nat → Prop) (H : Heap) : Prop where
  dom : ∀ b, (φ b).isSome = (lk H b).isSome
  own : ∀ b o p, lk H b = some o → φ b = some p → o.at w φ I p
  off : ∀ b g, φ b = some (some g) → ¬ I g ∧ g < w.heap.size
  inj : ∀ b b' g, φ b = some (some g) → φ b' = some (some g) → b = b'
  imm : ∀ g, I g → g < w.heap.size

/-- How a world may go on: blocks that 'own' does not name stay, the others keep their outer form. -/
structure Ext (own : Nat → Prop) (w w' : World) : Prop where
  size : w.heap.size ≤ w'.heap.size
  keep : ∀ g, g < w.heap.size → ¬ own g → w'.heap[g]? = w.heap[g]?
  form : ∀ (g : Nat) (c : Array Value) (e : TypeId) (fz : Nat × Nat), w.heap[g]? = some (Obj.cells c e fz) → ∃ c' : Array Value, w'.heap[g]? = some (Obj.cells c' e fz) ∧ c'.size = c.size
  os : w'.os = w.os
  tape : w'.tape = w.tape
  output : w'.output = w.output

theorem Ext.refl (own : Nat → Prop) (w : World) : Ext own w w := ⟨Nat.le_refl _, fun _ _ _ => rfl, fun _ c _ _ h => ⟨c, h, rfl⟩, rfl, rfl, rfl⟩
theorem Ext.trans {own own' : Nat → Prop} {w w' w'' : World} (h : Ext own w w') (h' : Ext own' w' w'') (hs : ∀ g, own' g → own g ∨ w.heap.size ≤ g) : Ext own w w'' := by
  refine ⟨Nat.le_trans h.size h'.size, fun g hg hn => ?_, fun g c e fz hc => ?_, h'.os.trans h.os, h'.tape.trans h.tape, h'.output.trans h.output⟩
  · rw [h'.keep g (Nat.lt_of_lt_of_le hg h.size) (fun ho => (hs g ho).elim hn (by omega)), h.keep g hg hn]
  · obtain ⟨c1, h1, e1⟩ := h.form g c e fz hc
    obtain ⟨c2, h2, e2⟩ := h'.form g c1 e fz h1
    exact ⟨c2, h2, e2.trans e1⟩

theorem cell_same {w w' : World} {g : Nat} (h : w'.heap[g]? = w.heap[g]?) (off : Nat) : w'.cell? ⟨g, off, none⟩ = w.cell? ⟨g, off, none⟩ := by simp [World.cell?, h]

theorem cellsAt.keep {w w' : World} {g off : Nat} {us : List Value} (h : cellsAt w g off us) (hg : w'.heap[g]? = w.heap[g]?) : cellsAt w' g off us :=
  fun j u hu => (cell_same hg _).trans (h j u hu)

/-! ## Immutable values stay -/
section
variable {w w' : World} {I I' : Nat → Prop}

mutual
theorem IV.den_mono (hw : ∀ g, I g → w'.heap[g]? = w.heap[g]?) (hI : ∀ g, I g → I' g) : ∀ (x : IV) (u : Value), IV.den w I x u → IV.den w' I' x u
  | .v _, _, h => h
  | .sl es rows, u, h => by
    simp only [IV.den] at h ⊢
    obtain ⟨p, c, vss, e, hc, hr, hl, ha⟩ := h
    refine ⟨p, c, vss, e, hc, IV.denss_mono hw hI rows vss hr, hl, fun hn => ?_⟩
    obtain ⟨g, off, ep, hg, hcell⟩ := ha hn
    exact ⟨g, off, ep, hI g hg, hcell.keep (hw g hg)⟩
  | .pt cs, u, h => by
    simp only [IV.den] at h ⊢
    obtain ⟨g, off, us, e, hg, hd, hcell⟩ := h
    exact ⟨g, off, us, e, hI g hg, IV.dens_mono hw hI cs us hd, hcell.keep (hw g hg)⟩
theorem IV.dens_mono (hw : ∀ g, I g → w'.heap[g]? = w.heap[g]?) (hI : ∀ g, I g → I' g) : ∀ (xs : List IV) (us : List Value), IV.dens w I xs us → IV.dens w' I' xs us
  | [], _, h => h
  | x :: xs, us, h => by
    simp only [IV.dens] at h ⊢
    obtain ⟨u, us', e, h1, h2⟩ := h
    exact ⟨u, us', e, IV.den_mono hw hI x u h1, IV.dens_mono hw hI xs us' h2⟩
theorem IV.denss_mono (hw : ∀ g, I g → w'.heap[g]? = w.heap[g]?) (hI : ∀ g, I g → I' g) : ∀ (xs : List (List IV)) (us : List (List Value)), IV.denss w I xs us → IV.denss w' I' xs us
  | [], _, h => h
  | x :: xs, us, h => by
    simp only [IV.denss] at h ⊢
    obtain ⟨u, us', e, h1, h2⟩ := h
    exact ⟨u, us', e, IV.dens_mono hw hI x u h1, IV.denss_mono hw hI xs us' h2⟩
end

mutual
theorem AV.den_mono {φ φ' : Phi} (hw : ∀ g, I g → w'.heap[g]? = w.heap[g]?) (hI : ∀ g, I g → I' g) (hφ : ∀ b p, φ b = some p → φ' b = some p)
    (hs : ∀ g n, shaped w g n → shaped w' g n) : ∀ (x : AV) (u : Value), AV.den w φ I x u → AV.den w' φ' I' x u
  | .im x, u, h => by simp only [AV.den] at h ⊢; exact IV.den_mono hw hI x u h
  | .ob b off, u, h => by simp only [AV.den] at h ⊢; obtain ⟨g, h1, h2⟩ := h; exact ⟨g, hφ _ _ h1, h2⟩
  | .oe b es i j, u, h => by simp only [AV.den] at h ⊢; obtain ⟨g, h1, h2⟩ := h; exact ⟨g, hφ _ _ h1, h2⟩
  | .os b es i n, u, h => by
    simp only [AV.den] at h ⊢
    rcases h with ⟨h1, h2⟩ | ⟨g, c, h1, h2, h3, h4, h5⟩
    · exact .inl ⟨hφ _ _ h1, h2⟩
    · exact .inr ⟨g, c, hφ _ _ h1, h2, h3, h4, hs _ _ h5⟩
  | .fn f caps, u, h => by simp only [AV.den] at h ⊢; obtain ⟨us, h1, h2⟩ := h; exact ⟨us, AV.dens_mono hw hI hφ hs caps us h1, h2⟩
  | .agg cs, u, h => by simp only [AV.den] at h ⊢; obtain ⟨us, h1, h2⟩ := h; exact ⟨us, AV.dens_mono hw hI hφ hs cs us h1, h2⟩
  | .ar cs, u, h => by simp only [AV.den] at h ⊢; obtain ⟨us, h1, h2⟩ := h; exact ⟨us, IV.dens_mono hw hI cs us h1, h2⟩
  | .tup cs, u, h => by simp only [AV.den] at h ⊢; obtain ⟨us, h1, h2⟩ := h; exact ⟨us, AV.dens_mono hw hI hφ hs cs us h1, h2⟩
  | .opt g x, u, h => by simp only [AV.den] at h ⊢; exact ⟨fun hg => AV.den_mono hw hI hφ hs x u (h.1 hg), h.2⟩
  | .top, _, _ => by simp only [AV.den]
theorem AV.dens_mono {φ φ' : Phi} (hw : ∀ g, I g → w'.heap[g]? = w.heap[g]?) (hI : ∀ g, I g → I' g) (hφ : ∀ b p, φ b = some p → φ' b = some p)
    (hs : ∀ g n, shaped w g n → shaped w' g n) : ∀ (xs : List AV) (us : List Value), AV.dens w φ I xs us → AV.dens w' φ' I' xs us
  | [], _, h => h
  | x :: xs, us, h => by
    simp only [AV.dens] at h ⊢
    obtain ⟨u, us', e, h1, h2⟩ := h
    exact ⟨u, us', e, AV.den_mono hw hI hφ hs x u h1, AV.dens_mono hw hI hφ hs xs us' h2⟩
end
end

theorem Ext.shaped {own : Nat → Prop} {w w' : World} (h : Ext own w w') {g n : Nat} (hs : shaped w g n) : shaped w' g n := by
  obtain ⟨c, e, hc, hn⟩ := hs
  obtain ⟨c', hc', hn'⟩ := h.form g c e _ hc
  exact ⟨c', e, hc', hn'.trans hn⟩

/-! ## The state of a walk -/
/-- Where the call began: its world, the blocks that it may write, those that nobody writes, the ids that it was handed. -/
structure Bs where
  w0 : World
  own : Nat → Prop
  I0 : Nat → Prop
  φ0 : Phi
  nb : Nat

structure Cx where
  P : Program
  fn : Func
  n : Nat
  B : Bs
  kp : List Nat
  ob : List Nat
  R : AV → Heap → Prop

structure St (B : Bs) (φ : Phi) (I : Nat → Prop) (H : Heap) (w : World) : Prop where
  real : Real w φ I H
  ext : Ext B.own B.w0 w
  ownx : ∀ b g, φ b = some (some g) → B.own g ∨ B.w0.heap.size ≤ g
  immx : ∀ g, I g → B.I0 g ∨ B.own g ∨ B.w0.heap.size ≤ g
  immo : ∀ g, B.I0 g → I g
  phx : ∀ b g el cs, b < B.nb → B.φ0 b = some (some g) → lk H b = some (.var el cs) → φ b = some (some g)

def EnvOk (w : World) (φ : Phi) (I : Nat → Prop) (E : Env) (a : Act) : Prop := ∀ i x, lk E i = some x → ∃ u, a.tmps[i]? = some u ∧ AV.den w φ I x u

structure Sim (C : Cx) (φ : Phi) (I : Nat → Prop) (E : Env) (H : Heap) (a : Act) (w : World) : Prop where
  dfr : a.defers = []
  siz : a.tmps.size = C.n
  env : EnvOk w φ I E a
  st : St C.B φ I H w

/-- What a call has come to. -/
def CPost (B : Bs) (R : AV → Heap → Prop) (e : Ending) (w' : World) : Prop :=
  ∃ r H' φ' I' v, R r H' ∧ e = .returned v ∧ AV.den w' φ' I' r v ∧ St B φ' I' H' w'

inductive KI where
  | seq (c : Code)
  | blk (id : Nat)
  | lp (J : Act → World → Prop)
  | sc

def denK (C : Cx) : List KI → Exit → Act → World → Prop
  | [], e, a, w => bodyPost C.P C.fn (CPost C.B C.R) e a w
  | .seq c :: K, e, a, w => Exit.then (c.wp C.P (denK C K)) (denK C K) e a w
  | .blk id :: K, e, a, w => Exit.inBlock id (denK C K) e a w
  | .lp J :: K, e, a, w => Exit.then J (denK C K) e a w
  | .sc :: K, e, a, w => Exit.noGoto (denK C K) e a w

/-- From here on the walk of code c, and behind it of K, ends well. -/
def AR (C : Cx) (c : Code) (K : List KI) (E : Env) (H : Heap) : Prop := ∀ φ I a w, Sim C φ I E H a w → c.wp C.P (denK C K) a w
/-- The code is over: K goes on with an exit. -/
def AX (C : Cx) (e : Exit) (K : List KI) (E : Env) (H : Heap) : Prop := ∀ φ I a w, Sim C φ I E H a w → denK C K e a w

section
variable {C : Cx} {K : List KI} {E : Env} {H : Heap}

theorem AR.seq {x y : Code} (h : AR C x (.seq y :: K) E H) : AR C (.seq x y) K E H := fun φ I a w hs => by
  refine wp_seq ?_
  have := h φ I a w hs
  exact this
theorem AR.skip (h : AX C .normal K E H) : AR C .skip K E H := fun φ I a w hs => wp_skip (h φ I a w hs)
theorem AR.ret (h : AX C .ret K E H) : AR C .ret K E H := fun φ I a w hs => wp_ret (h φ I a w hs)
theorem AR.exit {id : Nat} (h : AX C (.exit id) K E H) : AR C (.exit id) K E H := fun φ I a w hs => wp_exit (h φ I a w hs)
theorem AR.label {id : Nat} (h : AX C .normal K E H) : AR C (.label id) K E H := fun φ I a w hs => wp_label (h φ I a w hs)
theorem AR.block {id : Nat} {c : Code} (h : AR C c (.blk id :: K) E H) : AR C (.block id c) K E H := fun φ I a w hs => wp_block (h φ I a w hs)

theorem AR.scope {c : Code} (h : AR C c (.sc :: K) E H) : AR C (.scope c) K E H := fun φ I a w hs => wp_scope_straight (h φ I a w hs)
theorem AX.sc (h : AX C .normal K E H) : AX C .normal (.sc :: K) E H := h
theorem AX.sc_exit {id : Nat} (h : AX C (.exit id) K E H) : AX C (.exit id) (.sc :: K) E H := h
theorem AX.sc_ret (h : AX C .ret K E H) : AX C .ret (.sc :: K) E H := h

theorem AX.seq {c : Code} (h : AR C c K E H) : AX C .normal (.seq c :: K) E H := h
theorem AX.seq_exit {c : Code} {id : Nat} (h : AX C (.exit id) K E H) : AX C (.exit id) (.seq c :: K) E H := h
theorem AX.seq_ret {c : Code} (h : AX C .ret K E H) : AX C .ret (.seq c :: K) E H := h
theorem AX.blk {id : Nat} (h : AX C .normal K E H) : AX C .normal (.blk id :: K) E H := h
theorem AX.blk_exit {id : Nat} (h : AX C .normal K E H) : AX C (.exit id) (.blk id :: K) E H := fun φ I a w hs => by
  show Exit.inBlock id _ _ _ _
  simp only [Exit.inBlock, if_true]
  exact h φ I a w hs
theorem AX.blk_exit_ne {id id' : Nat} (hne : (id' == id) = false) (h : AX C (.exit id') K E H) : AX C (.exit id') (.blk id :: K) E H := fun φ I a w hs => by
  show Exit.inBlock id _ _ _ _
  simp only [Exit.inBlock, if_neg (by simpa using hne : ¬ id' = id)]
  exact h φ I a w hs
theorem AX.blk_ret {id : Nat} (h : AX C .ret K E H) : AX C .ret (.blk id :: K) E H := h
theorem AX.lp_exit {J : Act → World → Prop} {id : Nat} (h : AX C (.exit id) K E H) : AX C (.exit id) (.lp J :: K) E H := h
theorem AX.lp_ret {J : Act → World → Prop} (h : AX C .ret K E H) : AX C .ret (.lp J :: K) E H := h

/-- Less is known of the slots. -/
def Sub (E E' : Env) : Prop := ∀ i x, lk E' i = some x → lk E i = some x

theorem Sim.sub {φ : Phi} {I : Nat → Prop} {a : Act} {w : World} {E' : Env} (h : Sim C φ I E H a w) (hs : Sub E E') : Sim C φ I E' H a w :=
  ⟨h.dfr, h.siz, fun i x hx => h.env i x (hs i x hx), h.st⟩

/-- A loop: LE, LH: the state at the head for a parameter p; 'ok': what holds of it; μ goes down. -/
def LInv (C : Cx) {α : Type} (LE : α → Env) (LH : α → Heap) (ok : α → Prop) (μ : α → Nat) (m : Nat) (a : Act) (w : World) : Prop :=
  ∃ p, ok p ∧ μ p < m ∧ ∃ φ I, Sim C φ I (LE p) (LH p) a w

theorem wp_loop_param {P : Program} {c : Code} {Q : Exit → Act → World → Prop} {α : Type} (J : α → Act → World → Prop) (μ : α → Nat)
    (round : ∀ p a w, J p a w → c.wp P (Exit.then (fun a' w' => ∃ p', μ p' < μ p ∧ J p' a' w') Q) a w) (p0 : α) (a : Act) (w : World) (h0 : J p0 a w) : (Code.loop c).wp P Q a w := by
  intro b k cs
  have key : ∀ n p a w, μ p = n → J p a w → ∃ e a' w', Q e a' w' ∧ Arrives P (lone (b.at a (.code c :: .inLoop c :: k)) cs w) b k cs e a' w' := by
    intro n
    induction n using Nat.strongRecOn with
    | _ n ih =>
      intro p a w hn hI
      obtain ⟨e, a₁, w₁, hq, harr⟩ := round p a w hI b (.inLoop c :: k) cs
      cases e with
      | normal =>
        obtain ⟨p', hlt, hI₁⟩ := hq
        obtain ⟨e₂, a₂, w₂, hq₂, harr₂⟩ := ih (μ p') (hn ▸ hlt) p' a₁ w₁ rfl hI₁
        exact ⟨e₂, a₂, w₂, hq₂, .of_steps (Steps.trans harr (.one step_inLoop)) harr₂⟩
      | exit id => exact ⟨_, a₁, w₁, hq, .pass (x := .inLoop c) rfl (fun _ _ => .inl (by simp)) harr⟩
      | goto l => exact ⟨_, a₁, w₁, hq, .pass (x := .inLoop c) rfl (fun _ _ => .inl (by simp)) harr⟩
      | ret => exact ⟨_, a₁, w₁, hq, .pass (x := .inLoop c) rfl (fun _ _ => .inl (by simp)) harr⟩
      | panic ch => exact ⟨_, a₁, w₁, hq, .pass (x := .inLoop c) rfl (fun _ _ => .inl (by simp)) harr⟩
      | outgrown => exact ⟨_, a₁, w₁, hq, .pass (x := .inLoop c) rfl (fun _ _ => .inl (by simp)) harr⟩
  obtain ⟨e, a', w', hq, harr⟩ := key _ p0 a w rfl h0
  exact ⟨e, a', w', hq, .of_steps (.one step_loop) harr⟩

theorem AR.loop {α : Type} {c : Code} (LE : α → Env) (LH : α → Heap) (ok : α → Prop) (μ : α → Nat) (p0 : α) (h0 : ok p0) (hE : Sub E (LE p0)) (hH : H = LH p0)
    (round : ∀ p, ok p → AR C c (.lp (LInv C LE LH ok μ (μ p)) :: K) (LE p) (LH p)) : AR C (.loop c) K E H := by
  intro φ I a w hs
  subst hH
  refine wp_loop_param (fun p a w => ok p ∧ ∃ φ I, Sim C φ I (LE p) (LH p) a w) μ (fun p a w hJ => ?_) p0 a w ⟨h0, φ, I, hs.sub hE⟩
  obtain ⟨hok, φ, I, hs⟩ := hJ
  refine Code.wp_mono (fun e a w hq => ?_) (round p hok φ I a w hs)
  cases e with
  | normal => obtain ⟨p', h1, h2, h3⟩ := hq; exact ⟨p', h2, h1, h3⟩
  | _ => exact hq

/-- A round's end. -/
theorem AX.round {α : Type} {LE : α → Env} {LH : α → Heap} {ok : α → Prop} {μ : α → Nat} {m : Nat} (p : α) (hok : ok p) (hμ : μ p < m) (hE : Sub E (LE p)) (hH : H = LH p) :
    AX C .normal (.lp (LInv C LE LH ok μ m) :: K) E H := fun φ I a w hs => by
  subst hH
  exact ⟨p, hok, hμ, φ, I, hs.sub hE⟩

theorem AR.weaken {c : Code} {E' : Env} (h : AR C c K E' H) (hE : Sub E E') : AR C c K E H := fun φ I a w hs => h φ I a w (hs.sub hE)
theorem AX.weaken {e : Exit} {E' : Env} (h : AX C e K E' H) (hE : Sub E E') : AX C e K E H := fun φ I a w hs => h φ I a w (hs.sub hE)

theorem AR.cond {c : Operand} {t : Tmp} {x y : Code} {b : Bool} (hc : c = .tmp t) (hb : lk E t = some (.im (.v (.bool b)))) (ht : b = true → AR C x K E H) (hf : b = false → AR C y K E H) :
    AR C (.cond c x y) K E H := fun φ I a w hs => by
  subst hc
  obtain ⟨u, hu, hd⟩ := hs.env t _ hb
  simp only [AV.den, IV.den] at hd
  obtain ⟨rfl, _⟩ := hd
  refine wp_cond_split (t := b) ?_ (fun h => ht h φ I a w hs) (fun h => hf h φ I a w hs)
  have hlt : t < a.tmps.size := by
    rcases Nat.lt_or_ge t a.tmps.size with h | h
    · exact h
    · rw [Array.getElem?_eq_none h] at hu; cases hu
  simp only [Act.eval, Array.getD_eq_getD_getElem?, hu, Option.getD_some]
end
end Go.AL
