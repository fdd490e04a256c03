import Derived.Test.YtpfohmboflcneaaGreatDoorAl2
import Derived.Lib.AppendStr
import Derived.Lib.UnsafeStr
import Derived.Lib.Builder
import Derived.RangeFuncRecord
import Derived.MapKept
import Derived.Laws.CopyRow
import Derived.Laws.MakeOwn
import Derived.Lib.BufferWrite
import Derived.RecoverIn
set_option linter.unusedSimpArgs false
set_option linter.unusedVariables false
set_option linter.unnecessarySimpa false
section
namespace Go.AL
open Go
theorem St.recell {B : Bs} {φ : Phi} {I : Nat → Prop} {H : Heap} {w : World} (h : St B φ I H w) {b : Nat} {e : Sh} {cs cs' : List AV} (hl : lk H b = some (.var e cs)) (hd : ∀ us, AV.dens w φ I cs us → AV.dens w φ I cs' us) :
    St B φ I (hset H b (.var e cs')) w := by
  refine ⟨⟨fun b' => ?_, fun b' o p hl' hp => ?_, h.real.off, h.real.inj, h.real.imm⟩, h.ext, h.ownx, h.immx, h.immo, fun b' p o hlt h0 hl' => ?_⟩
  · by_cases hbb : b' = b
    · subst hbb; rw [lk_hset_same H b' _ hl, h.real.dom b', hl]; rfl
    · rw [lk_hset_other H b b' _ hbb]; exact h.real.dom b'
  · by_cases hbb : b' = b
    · subst hbb
      rw [lk_hset_same H b' _ hl] at hl'
      cases hl'
      have := h.real.own b' _ p hl hp
      simp only [Ob.at] at this ⊢
      obtain ⟨g, us, h1, h2, h3, h4⟩ := this
      exact ⟨g, us, h1, h2, hd us h3, h4⟩
    · rw [lk_hset_other H b b' _ hbb] at hl'; exact h.real.own b' o p hl' hp
  · by_cases hbb : b' = b
    · subst hbb; exact h.phx b' p _ hlt h0 hl
    · rw [lk_hset_other H b b' _ hbb] at hl'; exact h.phx b' p o hlt h0 hl'
theorem killC_dens {w : World} {φ : Phi} {I : Nat → Prop} {b : Nat} : ∀ (cs : List AV) (us : List Value), AV.dens w φ I cs us → AV.dens w φ I (killC b cs) us
  | [], _, h => h
  | x :: cs, us, h => by
    simp only [AV.dens] at h
    obtain ⟨u, us', rfl, h1, h2⟩ := h
    simp only [killC]
    cases hm : x.men b with
    | true => simp only [cond_true, AV.dens, AV.den]; exact ⟨u, us', rfl, trivial, killC_dens cs us' h2⟩
    | false => simp only [cond_false, AV.dens]; exact ⟨u, us', rfl, h1, killC_dens cs us' h2⟩
def killO (b : Nat) : Ob → Ob
  | .var e cs => .var e (killC b cs)
  | .vec e es rows => .vec e es rows
  | .lp l n st fn q ps E => .lp l n st fn q ps (killE b E)
def killH (b : Nat) : Heap → Heap
  | [] => []
  | (j, o) :: r => (j, killO b o) :: killH b r
theorem lk_killH {b : Nat} : ∀ (H : Heap) (b' : Nat), lk (killH b H) b' = (lk H b').map (killO b)
  | [], _ => rfl
  | (j, o) :: r, b' => by
    simp only [killH, lk]
    cases Nat.beq j b' with
    | true => rfl
    | false => simpa using lk_killH r b'
theorem St.kill {B : Bs} {φ : Phi} {I : Nat → Prop} {H : Heap} {w : World} (h : St B φ I H w) (b : Nat) : St B φ I (killH b H) w := by
  refine ⟨⟨fun b' => ?_, fun b' o p hl' hp => ?_, h.real.off, h.real.inj, h.real.imm⟩, h.ext, h.ownx, h.immx, h.immo, fun b' p o hlt h0 hl' => ?_⟩
  · rw [lk_killH, Option.isSome_map]; exact h.real.dom b'
  · rw [lk_killH] at hl'
    cases hq : lk H b' with
    | none => rw [hq] at hl'; cases hl'
    | some o1 =>
      rw [hq] at hl'; cases hl'
      have := h.real.own b' o1 p hq hp
      cases o1 with
      | var e cs =>
        simp only [Ob.at, killO] at this ⊢
        obtain ⟨g, us, h1, h2, h3, h4⟩ := this
        exact ⟨g, us, h1, h2, killC_dens cs us h3, h4⟩
      | lp l n st fn q ps E =>
        simp only [Ob.at, killO] at this ⊢
        obtain ⟨h0, T, D, fid, h1, h2, h3⟩ := this
        refine ⟨h0, T, D, fid, h1, h2, fun i x hx => ?_⟩
        obtain ⟨y, hy, hyd⟩ := killE_lk (w := w) (φ := φ) (φ' := φ) (I := I) (b := b) (fun _ _ => rfl) E i x hx
        obtain ⟨u, hu, hd⟩ := h3 i y hy
        exact ⟨u, hu, hyd u hd⟩
      | vec e es rows => exact this
  · rw [lk_killH] at hl'
    cases hq : lk H b' with
    | none => rw [hq] at hl'; cases hl'
    | some o1 => exact h.phx b' p o1 hlt h0 hq
theorem dens_set_imp {w : World} {φ : Phi} {I : Nat → Prop} {y : AV} : ∀ (cs : List AV) (i : Nat) (x : AV) (us : List Value), cs[i]? = some x → (∀ u, AV.den w φ I x u → AV.den w φ I y u) → AV.dens w φ I cs us → AV.dens w φ I (cs.set i y) us
  | [], _, _, _, h, _, _ => by simp at h
  | c :: cs, 0, x, us, h, hi, hd => by
    simp only [List.getElem?_cons_zero, Option.some.injEq] at h
    subst h
    simp only [AV.dens] at hd
    obtain ⟨u, us', rfl, h1, h2⟩ := hd
    simp only [List.set_cons_zero, AV.dens]
    exact ⟨u, us', rfl, hi u h1, h2⟩
  | c :: cs, i + 1, x, us, h, hi, hd => by
    simp only [List.getElem?_cons_succ] at h
    simp only [AV.dens] at hd
    obtain ⟨u, us', rfl, h1, h2⟩ := hd
    simp only [List.set_cons_succ, AV.dens]
    exact ⟨u, us', rfl, h1, dens_set_imp cs i x us' h hi h2⟩
theorem Sim.ownCell {C : Cx} {φ : Phi} {I : Nat → Prop} {E : Env} {H : Heap} {a : Act} {w : World} (h : Sim C φ I E H a w) {b off : Nat} {e : Sh} {cs : List AV} (hl : lk H b = some (.var e cs)) (hc : cs[off]? = some (.im (.v (.slice none 0 0)))) (el : TypeId) (es : Nat) :
    ∃ φ', Sim C φ' I E ((nidx C.B.nb H, .vec el es []) :: hset H b (.var e (cs.set off (.os (nidx C.B.nb H) es 0 0)))) a w := by
  obtain ⟨hS, hk⟩ := h.st.own_nil (nid_fresh C.B.nb H) (nidx_ge C.B.nb H).1 el es
  have hne : b ≠ nidx C.B.nb H := fun e => by rw [e, nid_fresh] at hl; cases hl
  have hl2 : lk ((nidx C.B.nb H, Ob.vec el es []) :: H) b = some (.var e cs) := by simp only [lk, beq_ne (Ne.symm hne), cond_false]; exact hl
  have hS2 := hS.recell (cs' := cs.set off (.os (nidx C.B.nb H) es 0 0)) hl2 (fun us hd => dens_set_imp cs off _ us hc (fun u hu => by
    simp only [AV.den, IV.den] at hu ⊢
    exact .inl ⟨by simp [upd], trivial, trivial, hu.1⟩) hd)
  refine ⟨upd φ (nidx C.B.nb H) none, h.dfr, h.siz, fun i x hx => ?_, ?_⟩
  · obtain ⟨u, hu, hd⟩ := h.env i x hx
    exact ⟨u, hu, hk.den hd⟩
  · have e2 : hset ((nidx C.B.nb H, Ob.vec el es []) :: H) b (.var e (cs.set off (.os (nidx C.B.nb H) es 0 0))) = (nidx C.B.nb H, .vec el es []) :: hset H b (.var e (cs.set off (.os (nidx C.B.nb H) es 0 0))) := by
      simp only [hset, beq_ne (Ne.symm hne), cond_false]
    rw [e2] at hS2
    exact hS2
section
variable {C : Cx} {K : List PK} {E : Env} {H : Heap}
theorem AE.kill {e : Exit} (b : Nat) (h : AE C e K E (killH b H)) : AE C e K E H := by
  unfold AE at h ⊢
  exact fun φ I a w hs => h _ _ _ _ ⟨hs.dfr, hs.siz, hs.env, hs.st.kill b⟩
theorem AP.kill {p : List Nat} (b : Nat) (h : AP C p K E (killH b H)) : AP C p K E H := by
  unfold AP at h ⊢
  exact fun φ I a w hs => h _ _ _ _ ⟨hs.dfr, hs.siz, hs.env, hs.st.kill b⟩
theorem AQ.kill {ds : List (Nat × Nat)} {i : Nat} {rest : List Oper} (b : Nat) (h : AQ C ds i rest K E (killH b H)) : AQ C ds i rest K E H := by
  unfold AQ at h ⊢
  exact fun ops h1 h2 φ I a w hs => h ops h1 h2 _ _ _ _ ⟨hs.dfr, hs.siz, hs.env, hs.st.kill b⟩
theorem AE.ownCell {x : Exit} (b off : Nat) (el : TypeId) (es : Nat) {e : Sh} {cs : List AV} (hl : lk H b = some (.var e cs)) (hc : cs[off]? = some (.im (.v (.slice none 0 0))))
    (h : AE C x K E ((nidx C.B.nb H, .vec el es []) :: hset H b (.var e (cs.set off (.os (nidx C.B.nb H) es 0 0))))) : AE C x K E H := by
  unfold AE at h ⊢
  exact fun φ I a w hs => by
    obtain ⟨φ', hs'⟩ := hs.ownCell hl hc el es
    exact h _ _ _ _ hs'
theorem AP.ownCell {p : List Nat} (b off : Nat) (el : TypeId) (es : Nat) {e : Sh} {cs : List AV} (hl : lk H b = some (.var e cs)) (hc : cs[off]? = some (.im (.v (.slice none 0 0))))
    (h : AP C p K E ((nidx C.B.nb H, .vec el es []) :: hset H b (.var e (cs.set off (.os (nidx C.B.nb H) es 0 0))))) : AP C p K E H := by
  unfold AP at h ⊢
  exact fun φ I a w hs => by
    obtain ⟨φ', hs'⟩ := hs.ownCell hl hc el es
    exact h _ _ _ _ hs'
theorem AQ.split {ds : List (Nat × Nat)} {i : Nat} {o : Oper} {os : List Oper} {G : Bool} (hok : ∀ x, o.dst = some x → x < C.n) (hG : gd ds E o.guard = some G)
    (ht : G = true → AQ C ds i ({ o with guard := none } :: os) K E H) (hf : G = false → AQ C (dsPut o.dst i ds) (i + 1) os K (putE o.dst (.opt false .top) E) H) : AQ C ds i (o :: os) K E H := by
  cases G with
  | true => exact AQ.guard_yes hG (ht rfl)
  | false => exact AQ.guard_no hok hG (hf rfl)
end
attribute [go_sem] killO killH killC List.set_cons_zero List.set_cons_succ
end Go.AL
end

section
namespace Go.AL
open Go Go.Lib
def bV (l : List UInt8) : List (List Value) := l.map fun b => [Value.int .u8 b.toNat]
theorem bV_flat (l : List UInt8) : (bV l).flatten = strCells (BA l) := by
  rw [bV, byteV_flat]
  simp [strCells, BA]
theorem bV_len (l : List UInt8) : (bV l).flatten.length = l.length := by rw [bV_flat, strCells_length]; rfl
theorem append_own_s {P : Program} {B : Bs} {φ : Phi} {I : Nat → Prop} {H : Heap} {w : World} (hS : St B φ I H w) {b n : Nat} {e t u ty : TypeId} {rows : List (List IV)} {s : Value} {l : List UInt8}
    (hs : AV.den w φ I (.os b 1 0 n) s) (hH : lk H b = some (.vec e 1 rows)) (hn : n = rows.length)
    (ht : tk P t = .slice e) (hu : tk P u = .str) (hes : sz P e = some 1) (hz : zro P e = some [.int .u8 0]) (hby : by' P e = some 1)
    (hb1 : rows.length + l.length ≤ 140737488355328 / 2) :
    ∃ v w' p', (Builtin.append_ #[t, u] ty #[s, .string (BA l)]).run P w = .ok v w' ∧ Ext (fun g => φ b = some (some g)) w w' ∧ (Ob.vec e 1 (rows ++ byteR l)).at w' (upd φ b p') I p' ∧
      (∀ g, p' = some g → φ b = some (some g) ∨ w.heap.size ≤ g) ∧ (∀ g, p' = some g → g < w'.heap.size) ∧ AV.den w' (upd φ b p') I (.os b 1 0 (rows.length + l.length)) v := by
  subst hn
  simp only [AV.den] at hs
  obtain ⟨_, ie, hie, hisz⟩ := sz_both hes
  have hiby : ie.bytes = 1 := by
    unfold by' at hby
    rw [hie] at hby
    simpa using hby
  obtain ⟨z, hz1, hz2⟩ : ∃ z, ie.zero = some z ∧ z.cells.toList = [.int .u8 0] := by
    unfold zro at hz
    rw [hie] at hz
    simp only [Option.bind_some] at hz
    cases hzz : ie.zero with
    | none => rw [hzz] at hz; cases hz
    | some z => rw [hzz] at hz; exact ⟨z, rfl, by simpa using hz⟩
  have hzs : z.cells.size = 1 := by rw [← Array.length_toList, hz2]; rfl
  have hImono : ∀ {w' : World}, Ext (fun g => φ b = some (some g)) w w' → ∀ g, I g → w'.heap[g]? = w.heap[g]? := fun hx g hg => hx.keep g (hS.real.imm g hg) (fun e => (hS.real.off b g e).1 hg)
  have hupd : ∀ p, upd φ b p b = some p := fun p => by simp [upd]
  have hat := fun p hp => hS.real.own b _ p hH hp
  simp only [Ob.at] at hat
  have hsz : (BA l).size = l.length := rfl
  have hml : maxLen = 9223372036854775807 ∨ 140737488355328 ≤ maxLen := by right; unfold maxLen; omega
  have hmx : 140737488355328 ≤ maxLen := by unfold maxLen; omega
  have hvl1 : ∀ vs ∈ bV l, vs.length = 1 := fun vs hvs => by obtain ⟨b, _, rfl⟩ := List.mem_map.1 hvs; rfl
  rcases hs with ⟨h1, _, h2, rfl⟩ | ⟨g, c, h1, rfl, h2, h3, h4⟩
  · have hr0 : rows = [] := List.eq_nil_of_length_eq_zero h2
    subst hr0
    by_cases hm : l = []
    · subst hm
      refine ⟨.slice none 0 0, w, none, ?_, Ext.refl _ w, ?_, fun g hg => (by cases hg), fun g hg => (by cases hg), ?_⟩
      · have hf := run_firstCells_string (P := P) w 1 (BA [])
        have h0 : (BA []).size = 0 := rfl
        rw [h0] at hf
        simp [Builtin.append_, run_underlying (und_slice ht), run_underlying (und_str hu), sizeOf, typeInfo, hie, hisz, Builtin.lenOf, h0, hf]
      · simp only [Ob.at]; exact .inl ⟨by simp, rfl⟩
      · simp only [AV.den]; exact .inl ⟨hupd _, by simp⟩
    · have hl0 : 0 < l.length := List.length_pos_iff.2 hm
      have hrun := run_append_nil_string (P := P) w t u ty e ie z (und_slice ht) (und_str hu) hie hz1 (BA l) (by omega) (by rw [hsz]; simp at hb1; omega) (by rw [hiby, hsz]; simp at hb1; omega)
      have e1 : ((BA l).data.map fun b => Value.int .u8 b.toNat) = (strCells (BA l)).toArray := by
        apply Array.ext'
        simp [strCells]
      rw [e1] at hrun
      have hge := grownCap_ge w (BA l).size 0 e
      have hle := grownCap_le_maxLen w (BA l).size 0 e (by rw [hsz]; simp at hb1; omega)
      have hx' := ext_drew (own := fun g => φ b = some (some g)) (w := w) (.cells ((strCells (BA l)).toArray ++ Builtin.zeroCells z.cells (grownCap w (BA l).size 0 e - (BA l).size)) e)
      refine ⟨_, _, some w.heap.size, hrun, hx', ?_, fun g hg => .inr (by cases hg; exact Nat.le_refl _), fun g hg => (by cases hg; simp), ?_⟩
      · simp only [Ob.at, List.nil_append]
        refine .inr ⟨_, bV l, (Builtin.zeroCells z.cells (grownCap w (BA l).size 0 e - (BA l).size)).toList, rfl, ?_, byteR_denss l, hvl1⟩
        rw [show (w.heap.size : Nat) = w.drew.heap.size from rfl, al_new w.drew, bV_flat]
        congr 2
        apply Array.ext'
        simp
      · simp only [AV.den]
        refine .inr ⟨_, _, hupd _, by simp [hsz], by simp only [List.length_nil, Nat.zero_add]; rw [hsz] at hge; exact hge, hle, _, e, al_new w.drew _, ?_⟩
        simp only [Array.size_append, List.size_toArray, size_zeroCells, hzs, strCells_length, Nat.zero_add, Nat.mul_one]
        omega
  · rcases hat (some g) h1 with ⟨hno, _⟩ | ⟨g', vss, rest, hg, hheap, hr, hl⟩
    · cases hno
    cases hg
    have hvl := denss_len rows vss hr
    have hfl := flat_len vss 1 hl
    obtain ⟨cc, ee, hcc, hcsz⟩ := h4
    rw [hheap] at hcc
    cases hcc
    have hcur : c ≤ (vss.flatten ++ rest).length := by simpa using hcsz
    have hfl' : vss.flatten.length = rows.length := by rw [hfl, hvl, Nat.mul_one]
    simp only [Nat.zero_mul]
    by_cases hroom : rows.length + (BA l).size ≤ c
    · have hrun := run_append_room_string (P := P) w t u ty e ie (und_slice ht) (und_str hu) hie hisz g rows.length c (vss.flatten ++ rest).toArray hheap (BA l) hroom (by simp only [List.size_toArray]; omega)
      have e1 : (vss.flatten ++ rest).toArray.toList.take rows.length = vss.flatten := by
        simp only []
        rw [← hfl']; simp
      obtain ⟨rest', e2⟩ : ∃ rest', (vss.flatten ++ rest).toArray.toList.drop (rows.length + (BA l).size) = rest' := ⟨_, rfl⟩
      rw [e1, e2, ← bV_flat] at hrun
      have hszn : (vss.flatten ++ (bV l).flatten ++ rest').toArray.size = (vss.flatten ++ rest).toArray.size := by
        rw [← e2]
        simp only [List.size_toArray, List.length_append, List.length_drop, bV_len] at hcur ⊢
        rw [hfl'] at hcur ⊢
        rw [hsz] at hroom ⊢
        omega
      have hx' : Ext (fun g => φ b = some (some g)) w (w.setRow g (vss.flatten ++ (bV l).flatten ++ rest').toArray) := (ext_set hheap hszn).weak (fun g' hg' => by rw [hg']; exact h1)
      refine ⟨_, _, some g, hrun, hx', ?_, fun g' hg => .inl (by cases hg; exact h1), fun g' hg => (by cases hg; simpa using (hS.real.off b g h1).2), ?_⟩
      · simp only [Ob.at]
        refine .inr ⟨g, vss ++ bV l, rest', rfl, ?_, denss_append _ _ _ _ (IV.denss_mono (hImono hx') (fun _ h => h) rows vss hr) (byteR_denss l), fun vs hv => ?_⟩
        · rw [setRow_heap w g _ _ e (0, 0) hheap]; simp
        · rcases List.mem_append.1 hv with hv | hv
          · exact hl vs hv
          · exact hvl1 vs hv
      · simp only [AV.den]
        exact .inr ⟨g, c, hupd _, by simp [hsz], hroom, h3, _, e, setRow_heap w g _ _ e (0, 0) hheap, by rw [hszn, List.size_toArray, Nat.zero_add, Nat.mul_one]; exact hcur⟩
    · have holds : ∀ j u, vss.flatten[j]? = some u → w.cell? ((⟨g, 0, none⟩ : Addr).add j) = some u := fun j u hu => by
        rw [addr_add, Nat.zero_add]
        have hlt : j < vss.flatten.length := by
          rcases Nat.lt_or_ge j vss.flatten.length with h | h
          · exact h
          · rw [List.getElem?_eq_none h] at hu; cases hu
        simp only [World.cell?, hheap, Option.isSome_none, Bool.false_eq_true, if_false, List.getElem?_toArray]
        rw [List.getElem?_append_left hlt]; exact hu
      have hrun := run_append_grow_string (P := P) w t u ty e ie z (und_slice ht) (und_str hu) hie hz1 ⟨g, 0, none⟩ rows.length c vss.flatten (by rw [hfl', hisz, Nat.mul_one]) holds (BA l) (by omega) (by rw [hsz]; omega) (growslice_fits (by omega) (by rw [hiby, hsz]; omega))
      have hge := grownCap_ge w (rows.length + (BA l).size) c e
      have hle := grownCap_le_maxLen w (rows.length + (BA l).size) c e (by rw [hsz]; omega)
      have hx' := ext_drew (own := fun g => φ b = some (some g)) (w := w) (.cells (vss.flatten.toArray ++ (strCells (BA l)).toArray ++ Builtin.zeroCells z.cells (grownCap w (rows.length + (BA l).size) c e - (rows.length + (BA l).size))) e)
      refine ⟨_, _, some w.heap.size, hrun, hx', ?_, fun g hg => .inr (by cases hg; exact Nat.le_refl _), fun g hg => (by cases hg; simp), ?_⟩
      · simp only [Ob.at]
        refine .inr ⟨_, vss ++ bV l, (Builtin.zeroCells z.cells (grownCap w (rows.length + (BA l).size) c e - (rows.length + (BA l).size))).toList, rfl, ?_, denss_append _ _ _ _ (IV.denss_mono (hImono hx') (fun _ h => h) rows vss hr) (byteR_denss l), fun vs hv => ?_⟩
        · rw [show (w.heap.size : Nat) = w.drew.heap.size from rfl, al_new w.drew, List.flatten_append, bV_flat]
          congr 2
          apply Array.ext'
          simp
        · rcases List.mem_append.1 hv with hv | hv
          · exact hl vs hv
          · exact hvl1 vs hv
      · simp only [AV.den]
        refine .inr ⟨_, _, hupd _, by simp [hsz], hge, hle, _, e, al_new w.drew _, ?_⟩
        simp only [Array.size_append, List.size_toArray, size_zeroCells, hzs, strCells_length, hfl', Nat.zero_add, Nat.mul_one]
        omega
section
variable {C : Cx} {K : List PK} {E : Env} {H : Heap}
theorem AQ.appendS {ds : List (Nat × Nat)} {i : Nat} {d : Nat} {ty : TypeId} {pos : String} {af : Array Edge} {os : List Oper} {x y : Operand} {t u e : TypeId} {b n : Nat} {rows : List (List IV)} {l : List UInt8} (hnb : Nat.ble C.B.nb b = true)
    (hok : dstOk C.n ({ dst := some d, op := .call { callee := .builtin .append, args := #[x, y], argTypes := #[t, u] }, type := ty, pos := pos, after := af, guard := none } :: os) = true)
    (hx : ev E x = some (.os b 1 0 n)) (hy : ev E y = some (Sv l)) (hH : lk H b = some (.vec e 1 rows)) (hno : noMen b H = true)
    (ht : tk C.P t = .slice e) (hu : tk C.P u = .str) (hes : sz C.P e = some 1) (hz : zro C.P e = some [.int .u8 0]) (hby : by' C.P e = some 1)
    (hn : n = rows.length) (hb1 : rows.length + l.length ≤ 70368744177664)
    (h : vq C K os ((i, d) :: ds) (i + 1) ((d, .os b 1 0 (rows.length + l.length)) :: killE b E) (hset H b (.vec e 1 (rows ++ byteR l)))) :
    AQ C ds i ({ dst := some d, op := .call { callee := .builtin .append, args := #[x, y], argTypes := #[t, u] }, type := ty, pos := pos, after := af, guard := none } :: os) K E H := by
  obtain ⟨hdd, hok'⟩ := dstOk_cons hok
  have hgo := AQ.go hok' h
  have hdlt : d < C.n := hdd d rfl
  unfold AQ at hgo ⊢
  refine AO.step (o := { dst := some d, op := .call { callee := .builtin .append, args := #[x, y], argTypes := #[t, u] }, type := ty, pos := pos, after := af, guard := none }) fun ops φ I a w hds _ hs Kn hKn => ?_
  have hw : Region.wanted { dst := some d, op := .call { callee := .builtin .append, args := #[x, y], argTypes := #[t, u] }, type := ty, pos := pos, after := af, guard := none } (yielded ops a.tmps) = true := by simp [Region.wanted]
  rw [if_pos hw]
  have hyv := ev_sound hs.env hy
  rw [den_s] at hyv
  obtain ⟨v, w', p', hrun, hext, hob, hp1, hp2, hden⟩ := append_own_s (P := C.P) (ty := ty) hs.st (ev_sound hs.env hx) hH hn ht hu hes hz hby (l := l) (by omega)
  have hS := hs.st.move (Nat.le_of_ble_eq_true hnb) hH hno (fun g hg hne => hext.keep g hg hne) hext hob hp1 hp2
  have hI : ∀ g, I g → w'.heap[g]? = w.heap[g]? := fun g hg => hext.keep g (hs.st.real.imm g hg) (fun e => (hs.st.real.off b g e).1 hg)
  have hex : (execOp a.eval { dst := some d, op := .call { callee := .builtin .append, args := #[x, y], argTypes := #[t, u] }, type := ty, pos := pos, after := af, guard := none }).run C.P w = .ok (.value v) w' := by
    simp only [execOp, resolve, invoke, builtin, Sem.run_bind, Sem.run_pure, Result.andThen_ok, List.map_toArray, List.map_cons, List.map_nil, hyv, hrun]
  unfold Oper.wp
  rw [hex, Oper.upon_value]
  refine hKn _ _ (upd φ b p') I _ _ hgo ⟨hs.dfr.mono hI (fun _ h => h), by simpa [Act.put] using hs.siz, fun j y hj => ?_, hS⟩
  simp only [lk] at hj
  cases hb : Nat.beq d j with
  | true =>
    rw [hb] at hj
    have := Nat.eq_of_beq_eq_true hb
    subst this
    simp only [cond_true, Option.some.injEq] at hj
    subst hj
    exact ⟨v, by simp only [Act.put]; rw [Array.getElem?_setIfInBounds_self_of_lt (by rw [hs.siz]; exact hdlt)], hden⟩
  | false =>
    rw [hb] at hj
    simp only [cond_false] at hj
    obtain ⟨y', hy', hyd⟩ := killE_lk (w := w) (φ := φ) (φ' := fun c => if c = b then none else φ c) (I := I) (b := b) (fun b' hb' => by simp [hb']) E j y hj
    obtain ⟨v', hv, hdv⟩ := hs.env j y' hy'
    refine ⟨v', ?_, AV.den_mono hI (fun _ h => h) (fun c p hc => ?_) (fun c g1 n hc hs' => ?_) _ _ (hyd v' hdv)⟩
    rotate_left
    · by_cases e1 : c = b
      · simp [e1] at hc
      · simpa [upd, e1] using hc
    · by_cases e1 : c = b
      · simp [e1] at hc
      · exact hext.shaped (fun ho => e1 (hs.st.real.inj c b g1 (by simpa [e1] using hc) ho)) hs'
    simp only [Act.put]
    rw [Array.getElem?_setIfInBounds_ne (by intro e; subst e; simp at hb)]
    exact hv
end
end Go.AL
end

section
namespace Go.AL
open Go Go.Lib
section
variable {C : Cx} {K : List PK} {E : Env} {H : Heap}
theorem AQ.val {ds : List (Nat × Nat)} {i : Nat} {o : Oper} {os : List Oper} (x : AV) (hok : dstOk C.n (o :: os) = true) (hg : o.guard = none)
    (hex : ∀ φ I a w, Sim C φ I E H a w → ∃ u, (execOp a.eval o).run C.P w = .ok (.value u) w ∧ AV.den w φ I x u)
    (h : vq C K os (dsPut o.dst i ds) (i + 1) (putE o.dst x E) H) : AQ C ds i (o :: os) K E H := by
  obtain ⟨hd, hok'⟩ := dstOk_cons hok
  have hgo := AQ.go hok' h
  unfold AQ at hgo ⊢
  refine AO.step (o := o) fun ops φ I a w hds _ hs Kn hKn => ?_
  have hw : Region.wanted o (yielded ops a.tmps) = true := by simp [Region.wanted, hg]
  rw [if_pos hw]
  obtain ⟨u, hrun, hden⟩ := hex φ I a w hs
  unfold Oper.wp
  rw [hrun, Oper.upon_value]
  exact hKn _ _ φ I _ _ hgo (hs.put hs.st (Keeps.refl w φ I) hd hden)
end
theorem ACall.drop {P : Program} {f : FuncId} {args : List AV} {H : Heap} {r : AV} {R : AV → Heap → Prop} (he : enters P f = true) (hr : r.free = true) (hR' : R r [])
    (h : ∀ (w : World) (φ : Phi) (I : Nat → Prop) (vs : List Value), AV.dens w φ I args vs → Real w φ I H → VK P w I →
      Calls P f vs.toArray w fun e w' => ∃ v, e = .returned v ∧ AV.den w' φ I r v ∧ Ext (ownB φ) w w') : ACall P f args H R := by
  refine ⟨he, fun w φ I vs hd hR hV => (h w φ I vs hd hR hV).mono fun e w' ⟨v, he, hv, hx⟩ => ?_⟩
  refine ⟨r, [], fun _ => none, I, v, hR', he, AV.free_den _ _ hr hv, ?_⟩
  exact ⟨⟨fun b => rfl, fun b o p hl => (by simp [lk] at hl), fun b g hp => (by cases hp), fun b b' g hp => (by cases hp), fun g hg => Nat.lt_of_lt_of_le (hR.imm g hg) hx.size⟩, hx, fun b g hg => (by cases hg), fun g hg => .inl hg, fun g hg => hg, fun _ _ _ _ _ hl => by simp [lk] at hl⟩
theorem ext_freeze {own : Nat → Prop} (w : World) (p : Addr) (n : Nat) (ho : own p.block) : Ext own w (w.freeze p n) := by
  unfold World.freeze
  split
  · exact Ext.refl own w
  · refine ⟨by simp, fun k hk hn => ?_, fun k c e fz hc => ?_, rfl, rfl, rfl⟩
    · simp only [Array.getElem?_modify]
      rw [if_neg (by intro e; subst e; exact hn ho)]
    · simp only [Array.getElem?_modify]
      by_cases hk : p.block = k
      · subst hk
        rw [if_pos rfl, hc]
        simp only [Option.map_some]
        exact ⟨c, _, rfl, rfl⟩
      · rw [if_neg hk, hc]
        exact ⟨c, fz, rfl, rfl⟩
theorem ext_drew0 {own : Nat → Prop} (w : World) : Ext own w w.drew := ⟨Nat.le_refl _, fun _ _ _ => rfl, fun _ c _ fz h => ⟨c, fz, h, rfl⟩, rfl, rfl, rfl⟩
end Go.AL
end

section
namespace Go.AL
open Go Go.ChangeShapes Go.WideShapes
mutual
def IV.ivb : IV → Nat
  | .v (.string s) => s.size + 1
  | .v _ => 1
  | .sl _ rows => IV.ivbss rows + 1
  | .pt cs => IV.ivbs cs + 1
  | .fn _ fs caps => IV.ivbs fs + IV.ivbs caps + 1
def IV.ivbs : List IV → Nat
  | [] => 0
  | x :: r => IV.ivb x + IV.ivbs r
def IV.ivbss : List (List IV) → Nat
  | [] => 0
  | x :: r => IV.ivbs x + IV.ivbss r
end
theorem ivbs_append : ∀ (a b : List IV), IV.ivbs (a ++ b) = IV.ivbs a + IV.ivbs b
  | [], b => by simp [IV.ivbs]
  | x :: a, b => by simp only [List.cons_append, IV.ivbs, ivbs_append a b]; omega
structure Bulk {H : Type} (bu : DataW H → Nat) (bus : List (DataW H) → Nat) : Prop where
  one : ∀ d, 1 ≤ bu d
  str : ∀ l, bu (.lit (.string l)) = l.length + 1
  ptr : ∀ d, bu d + 1 ≤ bu (.ptr d)
  sli : ∀ e r, bus e + 1 ≤ bu (.slice e r)
  agg : ∀ l, bus l + 1 ≤ bu (.agg l)
  nil : bus [] = 0
  cons : ∀ d r, bus (d :: r) = bu d + bus r
section
variable {H : Type} {bu : DataW H → Nat} {bus : List (DataW H) → Nat}
theorem piecesB (hbu : Bulk bu bus) {α : Type} {w : World} {I : Nat → Prop} {len : α → Nat} {Q : α → List IV → Prop} : ∀ (l : List α) (ds : List (DataW H)) (cs : List Value), cs.length = (l.map len).sum →
    (∀ j a, l[j]? = some a → ∃ ys, IV.dens w I ys ((cs.drop ((l.take j).map len).sum).take (len a)) ∧ Q a ys ∧ ∃ d, ds[j]? = some d ∧ IV.ivbs ys ≤ bu d) →
    ∃ xs, IV.dens w I xs cs ∧ (∀ j a, l[j]? = some a → Q a ((xs.drop ((l.take j).map len).sum).take (len a))) ∧ IV.ivbs xs ≤ bus ds
  | [], ds, cs, hl, _ => by
    have : cs = [] := List.eq_nil_of_length_eq_zero (by simpa using hl)
    subst this
    exact ⟨[], rfl, fun j a h => by simp at h, by simp [IV.ivbs]⟩
  | a :: l, ds, cs, hl, h => by
    simp only [List.map_cons, List.sum_cons] at hl
    obtain ⟨ys, h1, h2, d, hd, hb⟩ := h 0 a rfl
    match ds, hd with
    | d' :: ds, hd =>
    simp only [List.getElem?_cons_zero, Option.some.injEq] at hd
    subst hd
    simp only [List.take_zero, List.map_nil, List.sum_nil, List.drop_zero] at h1
    obtain ⟨xs, h3, h4, h5⟩ := piecesB hbu (w := w) (I := I) (len := len) (Q := Q) l ds (cs.drop (len a)) (by simp; omega) (fun j b hb => by
      obtain ⟨zs, hz, hq, d, hd, hb'⟩ := h (j + 1) b (by simpa using hb)
      refine ⟨zs, ?_, hq, d, by simpa using hd, hb'⟩
      simpa [List.drop_drop, Nat.add_comm] using hz)
    have hly : ys.length = len a := by
      rw [dens_length _ _ h1]; simp; omega
    refine ⟨ys ++ xs, ?_, fun j b hb => ?_, by rw [ivbs_append, hbu.cons]; omega⟩
    · have := dens_append _ _ _ _ h1 h3
      rwa [List.take_append_drop] at this
    · cases j with
      | zero =>
        simp only [List.getElem?_cons_zero, Option.some.injEq] at hb
        subst hb
        simp only [List.take_zero, List.map_nil, List.sum_nil, List.drop_zero]
        rw [← hly, List.take_left]; exact h2
      | succ j =>
        simp only [List.getElem?_cons_succ] at hb
        simp only [List.take_succ_cons, List.map_cons, List.sum_cons]
        rw [← List.drop_drop, ← hly, List.drop_left]
        exact h4 j b hb
variable {enc : TypeId × Value → H} {P : Program} {w : World}
theorem opensB (hbu : Bulk bu bus) {T : List TypeId} (hT : T.all (kidOk P T) = true) : ∀ (fuel : Nat) (t : TypeId) (cs : List Value) (x : DataW H × List MemPlace), T.contains t = true →
    DataW.trod enc P w 0 (fun _ => true) true fuel t cs = some x → cs.length = P.cellsOf t ∧ ∃ xs, IV.dens w (fun g => g < w.heap.size) xs cs ∧ Typed P fuel t xs ∧ IV.ivbs xs ≤ bu x.1 := by
  intro fuel
  induction fuel with
  | zero => intro t cs x _ h; simp [DataW.trod] at h
  | succ n ih =>
    intro t cs x ht h
    have hk : kidOk P T t = true := by
      rw [List.all_eq_true] at hT
      exact hT t (by simpa using ht)
    unfold kidOk at hk
    have one : ∀ (v : Value), v.oneCell' = true → IV.dens w (fun g => g < w.heap.size) [.v v] [v] := fun v hv => by
      simp only [IV.dens, IV.den]; exact ⟨v, [], rfl, ⟨rfl, hv⟩, rfl⟩
    split at hk
    · rename_i hu
      obtain ⟨b, rfl, rfl⟩ := DataW.trod_bool hu h
      refine ⟨by simpa using (by simpa using hk : P.cellsOf t = 1).symm, [.v (.bool b)], one _ rfl, ?_, hbu.one _⟩
      simp only [Typed, hu]; exact ⟨b, rfl⟩
    · rename_i k hu
      obtain ⟨b, rfl, rfl, hw⟩ := DataW.trod_int hu h
      refine ⟨by simpa using (by simpa using hk : P.cellsOf t = 1).symm, [.v (.int k b)], one _ rfl, ?_, hbu.one _⟩
      simp only [Typed, hu]; exact ⟨b, rfl, hw⟩
    · rename_i k hu
      unfold DataW.trod at h
      rw [hu] at h
      have hx : ∃ b, cs = [.float k b] ∧ (Lit.float k b).wf = true := by split at h <;> simp_all
      obtain ⟨b, rfl, hw⟩ := hx
      refine ⟨by simpa using (by simpa using hk : P.cellsOf t = 1).symm, [.v (.float k b)], one _ rfl, ?_, hbu.one _⟩
      simp only [Typed, hu]; exact ⟨b, rfl, hw⟩
    · rename_i hu
      obtain ⟨s, rfl, rfl, hw⟩ := DataW.trod_string hu h
      refine ⟨by simpa using (by simpa using hk : P.cellsOf t = 1).symm, [.v (.string s)], one _ rfl, ?_, by rw [hbu.str]; simp only [IV.ivbs, IV.ivb, Array.length_toList]; exact Nat.le_refl _⟩
      simp only [Typed, hu]; exact ⟨s, rfl, hw⟩
    · rename_i e hu
      simp only [Bool.and_eq_true, beq_iff_eq, bne_iff_ne, ne_eq] at hk
      obtain ⟨⟨hk1, hk2⟩, hk3⟩ := hk
      rcases DataW.trod_pointer hu h with ⟨rfl, rfl⟩ | ⟨a, cs', y, m, hm, rfl, rfl, hc, hy⟩
      · refine ⟨by simp [hk1], [.v (.pointer none)], one _ rfl, ?_, hbu.one _⟩
        simp only [Typed, hu]; exact .inl trivial
      · obtain rfl : m = n := by omega
        obtain ⟨hl, xs, hd, hty, hbo⟩ := ih e cs' y hk2 hy
        obtain ⟨ea, hb, hca⟩ := cells_block hc (by omega)
        refine ⟨by simp [hk1], [.pt xs], ?_, ?_, by have := hbu.ptr y.1; simp only [IV.ivbs, IV.ivb]; omega⟩
        · simp only [IV.dens, IV.den]
          exact ⟨_, [], rfl, ⟨a.block, a.off, cs', by rw [← ea], hb, hd, hca⟩, rfl⟩
        · simp only [Typed, hu]; exact .inr ⟨xs, rfl, hty⟩
    · rename_i e hu
      simp only [Bool.and_eq_true, beq_iff_eq, bne_iff_ne, ne_eq] at hk
      obtain ⟨⟨hk1, hk2⟩, hk3⟩ := hk
      rcases DataW.trod_slice hu h with ⟨rfl, rfl⟩ | ⟨a, len, cap, elems, rest, m, hm, rfl, rfl, _, hlc, hcap, hel, hr, _, _⟩
      · refine ⟨by simp [hk1], [.sl (P.cellsOf e) []], ?_, ?_, hbu.one _⟩
        · simp only [IV.dens, IV.den]
          exact ⟨_, [], rfl, ⟨none, 0, [], rfl, Nat.le_refl _, rfl, by simp, by simp⟩, rfl⟩
        · simp only [Typed, hu]; exact ⟨[], rfl, by simp, by simp⟩
      · obtain rfl : m = n := by omega
        obtain ⟨l, hll, hl⟩ := listOf (R := fun i (p : List Value × List IV) => w.cells? 0 (a.add (i * P.cellsOf e)) (P.cellsOf e) = some p.1 ∧ p.1.length = P.cellsOf e ∧ IV.dens w (fun g => g < w.heap.size) p.2 p.1 ∧ Typed P m e p.2 ∧ ∃ d, elems[i]? = some d ∧ IV.ivbs p.2 ≤ bu d.1) len (fun i hi => by
          have := hr i hi
          rw [List.getElem?_eq_getElem (by omega), Option.bind_eq_some_iff] at this
          obtain ⟨cs', hc, hy⟩ := this
          obtain ⟨h1, xs, h2, h3, h4⟩ := ih e cs' _ hk2 hy
          exact ⟨(cs', xs), hc, h1, h2, h3, _, List.getElem?_eq_getElem (by omega), h4⟩)
        refine ⟨by simp [hk1], [.sl (P.cellsOf e) (l.map Prod.snd)], ?_, ?_, ?_⟩
        · simp only [IV.dens, IV.den]
          refine ⟨_, [], rfl, ⟨some a, cap, l.map Prod.fst, by simp [hll], by simp [hll, hlc], ?_, ?_, fun hne => ?_⟩, rfl⟩
          · have : ∀ (l : List (List Value × List IV)), (∀ p ∈ l, IV.dens w (fun g => g < w.heap.size) p.2 p.1) → IV.denss w (fun g => g < w.heap.size) (l.map Prod.snd) (l.map Prod.fst) := by
              intro l
              induction l with
              | nil => intro _; rfl
              | cons p l ihl =>
                intro hp
                simp only [List.map_cons, IV.denss]
                exact ⟨_, _, rfl, hp p (by simp), ihl (fun q hq => hp q (by simp [hq]))⟩
            refine this l (fun p hp => ?_)
            obtain ⟨i, hi⟩ := List.getElem?_of_mem hp
            exact (hl i p hi).2.2.1
          · intro vs hvs
            obtain ⟨p, hp, rfl⟩ := List.mem_map.1 hvs
            obtain ⟨i, hi⟩ := List.getElem?_of_mem hp
            exact (hl i p hi).2.1
          · have hpos : 0 < l.length := by
              rcases l with _ | ⟨p, l⟩
              · simp at hne
              · simp
            have h0 := hl 0 (l[0]'hpos) (List.getElem?_eq_getElem _)
            have h00 := h0.1
            rw [Nat.zero_mul] at h00
            have ea0 : a.add 0 = a := by simp [Addr.add]
            rw [ea0] at h00
            obtain ⟨ea, hb, _⟩ := cells_block h00 (by omega)
            refine ⟨a.block, a.off, by rw [← ea], hb, rowsAt (es := P.cellsOf e) _ _ (fun i vs hv => ?_)⟩
            rw [List.getElem?_map, Option.map_eq_some_iff] at hv
            obtain ⟨p, hp, rfl⟩ := hv
            obtain ⟨g1, g2, g3, g4, _⟩ := hl i p hp
            refine ⟨g2, ?_⟩
            obtain ⟨_, _, hca⟩ := cells_block g1 (by omega)
            have e1 : (a.add (i * P.cellsOf e)).block = a.block := by unfold Addr.add; split <;> rfl
            have e2 : (a.add (i * P.cellsOf e)).off = a.off + i * P.cellsOf e := by
              unfold Addr.add; split
              · rename_i hz; rw [hz]; rfl
              · rfl
            rw [e1, e2] at hca
            exact hca
        · simp only [Typed, hu]
          refine ⟨_, rfl, by simp [hll]; omega, fun r hr' => ?_⟩
          obtain ⟨p, hp, rfl⟩ := List.mem_map.1 hr'
          obtain ⟨i, hi⟩ := List.getElem?_of_mem hp
          exact (hl i p hi).2.2.2.1
        · have : ∀ (l : List (List Value × List IV)) (es : List (DataW H × List MemPlace)), (∀ (i : Nat) (p : List Value × List IV), l[i]? = some p → ∃ d : DataW H × List MemPlace, es[i]? = some d ∧ IV.ivbs p.2 ≤ bu d.1) → IV.ivbss (l.map Prod.snd) ≤ bus (es.map (·.1)) := by
            intro l
            induction l with
            | nil => intro es _; simp [IV.ivbss]
            | cons p l ihl =>
              intro es hp
              obtain ⟨d, hd, hb⟩ := hp 0 p rfl
              match es, hd with
              | d' :: es, hd =>
                simp only [List.getElem?_cons_zero, Option.some.injEq] at hd
                subst hd
                have := ihl es (fun i q hq => by simpa using hp (i + 1) q (by simpa using hq))
                simp only [List.map_cons, IV.ivbss, hbu.cons]
                omega
          have h1 := this l elems (fun i p hp => (hl i p hp).2.2.2.2)
          have h2 := hbu.sli (elems.map (·.1)) (rest.map (·.1))
          simp only [IV.ivbs, IV.ivb]
          omega
    · rename_i fs hu
      simp only [Bool.and_eq_true, beq_iff_eq, List.all_eq_true] at hk
      obtain ⟨⟨hk1, hk2⟩, hk3⟩ := hk
      obtain ⟨xs, m, hm, rfl, hlen, hxl, hf⟩ := DataW.trod_struct hu h
      obtain rfl : m = n := by omega
      have off : ∀ (i : Nat) (f : Field), fs.toList[i]? = some f → f.offset = ((fs.toList.take i).map fun f => P.cellsOf f.type).sum := fun i f hi => by
        have := hk3 i (by simpa using (List.getElem?_eq_some_iff.1 hi).1)
        rw [hi] at this
        simpa using this
      obtain ⟨ys, hy, hq, hbo⟩ := piecesB hbu (w := w) (I := fun g => g < w.heap.size) (len := fun f : Field => P.cellsOf f.type) (Q := fun f ys => Typed P m f.type ys) fs.toList (xs.map (·.1)) cs (by rw [hlen, hk2]) (fun i f hi => by
        rw [← off i f hi]
        have hi' : fs[i]? = some f := by simpa using hi
        have hx := hf i f hi'
        have hlt : i < fs.size := by
          rcases Nat.lt_or_ge i fs.size with h' | h'
          · exact h'
          · rw [Array.getElem?_eq_none h'] at hi'; cases hi'
        rw [List.getElem?_eq_getElem (by omega)] at hx
        obtain ⟨_, zs, h2, h3, h4⟩ := ih f.type _ _ (hk1 f (List.mem_of_getElem? hi)) hx
        exact ⟨zs, h2, h3, _, by rw [List.getElem?_map, List.getElem?_eq_getElem (by omega)]; rfl, h4⟩)
      refine ⟨hlen, ys, hy, ?_⟩
      simp only [Typed, hu]
      exact ⟨⟨by rw [dens_length _ _ hy, hlen], fun i f hi => by rw [off i f hi]; exact hq i f hi⟩, by have := hbu.agg (xs.map (·.1)); omega⟩
    · rename_i m' e hu
      simp only [Bool.and_eq_true, beq_iff_eq] at hk
      obtain ⟨hk1, hk2⟩ := hk
      obtain ⟨xs, m, hm, rfl, hlen, hxl, hf⟩ := DataW.trod_array hu h
      obtain rfl : m = n := by omega
      have sm : ∀ k, ((List.replicate k ()).map fun _ => P.cellsOf e).sum = k * P.cellsOf e := fun k => by simp
      obtain ⟨ys, hy, hq, hbo⟩ := piecesB hbu (w := w) (I := fun g => g < w.heap.size) (len := fun _ : Unit => P.cellsOf e) (Q := fun _ ys => Typed P m e ys) (List.replicate m' ()) (xs.map (·.1)) cs (by rw [hlen, hk2, sm]) (fun i f hi => by
        have hlt : i < m' := by simpa using (List.getElem?_eq_some_iff.1 hi).1
        rw [List.take_replicate, sm, Nat.min_eq_left (Nat.le_of_lt hlt)]
        have hx := hf i hlt
        rw [List.getElem?_eq_getElem (by omega)] at hx
        obtain ⟨_, zs, h2, h3, h4⟩ := ih e _ _ hk1 hx
        exact ⟨zs, h2, h3, _, by rw [List.getElem?_map, List.getElem?_eq_getElem (by omega)]; rfl, h4⟩)
      refine ⟨hlen, ys, hy, ?_⟩
      simp only [Typed, hu]
      exact ⟨⟨by rw [dens_length _ _ hy, hlen], fun i hi => by
        have := hq i () (by simp [hi])
        rwa [List.take_replicate, sm, Nat.min_eq_left (Nat.le_of_lt hi)] at this⟩, by have := hbu.agg (xs.map (·.1)); omega⟩
    · cases hk
theorem opens_argB (hbu : Bulk bu bus) {T : List TypeId} (hT : T.all (kidOk P T) = true) {w : World} {r : Reach} {b : Nat} {t : TypeId} {v : Value} {d : DataW H} {p : List MemPlace} (ht : T.contains t = true)
    (hval : Value.okWide P w r b t v) (h : DataW.Trod enc P w 0 (fun _ => true) true t v d p) (φ : Phi) :
    ∃ xs, (∃ n, Typed P n t xs) ∧ AV.den w φ (fun g => g < w.heap.size) (argAV P t xs) v ∧ IV.ivbs xs ≤ bu d := by
  obtain ⟨n, h⟩ := h
  obtain ⟨_, xs, hd, hty, hbo⟩ := opensB hbu hT n t _ _ ht h
  refine ⟨xs, ⟨n, hty⟩, ?_, hbo⟩
  have hagg : ∀ cs : Array Value, v = .agg cs → AV.den w φ (fun g => g < w.heap.size) (.ar xs) v := by
    rintro cs rfl
    simp only [AV.den]
    exact ⟨cs.toList, hd, by simp⟩
  unfold Value.okWide at hval
  split at hval
  · rename_i hu
    obtain ⟨cs, rfl, _⟩ := hval
    simp only [argAV, hu]
    exact hagg cs rfl
  · rename_i hu
    obtain ⟨cs, rfl, _⟩ := hval
    simp only [argAV, hu]
    exact hagg cs rfl
  · rename_i hs ha
    have hv : v.oneCell' = true := by
      cases v <;> simp only [Value.oneCell'] <;> (unfold Cell.okWide at hval; split at hval <;> simp_all [Cell.ok])
    obtain ⟨x, rfl, hx⟩ := den_one (φ := φ) hd hv
    have e : argAV P t [x] = .im x := by
      unfold argAV
      split
      · rename_i fs hu; exact absurd hu (hs _)
      · rename_i m e hu; exact absurd hu (ha _ _)
      · rename_i he _ _; injection he with he; rw [he]
      · rename_i hn; exact (hn x rfl).elim
    rw [e]; exact hx
theorem opens_argsB (hbu : Bulk bu bus) {T : List TypeId} (hT : T.all (kidOk P T) = true) {w : World} {r : Reach} {b : Nat} (φ : Phi) : ∀ (ts : List TypeId) (vs : List Value) (ds : List (DataW H)) (p : List MemPlace), ts.all T.contains = true →
    (∀ (j : Nat) t v, ts[j]? = some t → vs[j]? = some v → Value.okWide P w r b t v) → DataW.TrodAll enc P w 0 (fun _ => true) true ts vs ds p →
    ∃ xss, TypedAll P ts xss ∧ AV.dens w φ (fun g => g < w.heap.size) (argAVs P ts xss) vs ∧ ds.length = ts.length ∧ IV.ivbss xss ≤ bus ds
  | [], vs, ds, p, _, _, h => by
    obtain ⟨rfl, rfl, rfl⟩ := trodAll_nil h
    exact ⟨[], trivial, rfl, rfl, by simp [IV.ivbss]⟩
  | t :: ts, vs, ds, p, hc, hval, h => by
    obtain ⟨v, vs', d, ds', p', q, rfl, rfl, rfl, h1, h2⟩ := trodAll_cons h
    simp only [List.all_cons, Bool.and_eq_true] at hc
    obtain ⟨xs, hxs, hd, hb1⟩ := opens_argB hbu hT hc.1 (hval 0 t v rfl rfl) h1 φ
    obtain ⟨xss, h3, h4, h5, h6⟩ := opens_argsB hbu hT φ ts vs' ds' q hc.2 (fun j t v => hval (j + 1) t v) h2
    refine ⟨xs :: xss, ⟨hxs, h3⟩, ?_, by simp [h5], by simp only [IV.ivbss, hbu.cons]; omega⟩
    simp only [argAVs, AV.dens]
    exact ⟨v, vs', rfl, hd, h4⟩
theorem law_upto (hbu : Bulk bu bus) (m : Nat) {f : FuncId} {fn : Func} {s : ChangeSpec} {W : World} {base : Nat} {args : Array Value} {ds gs : List (DataW H)} {before : List MemPlace} (tb : TypeId) (T : List TypeId)
    (hvars : s.vars = []) (hfn : ∀ ds : List (DataW H), ds.length = fn.params.size → s.fn H ds = { results := [.lit (.bool true)], args := ds }) (hl : laidOutB P = true)
    (hr : fn.params.toList.all (fun t => P.readableRec t && decide (t < P.types.size)) = true) (hres : fn.resultTypes = #[tb]) (htb : P.underlying tb = some .bool)
    (hT : T.all (kidOk P T) = true) (hTp : fn.params.toList.all T.contains = true)
    (hwalk : ∀ xss, TypedAll P fn.params.toList xss → IV.ivbss xss ≤ m → PFn P f (argAVs P fn.params.toList xss) (.im (.v (.bool true))))
    (hval : ∀ (j : Nat) t v, fn.params[j]? = some t → args[j]? = some v → Value.okWide P W .any base t v)
    (hW : DataW.Whole enc P fn.params.toList s.vars false W args.toList ds gs before) (hk : bus (ds ++ gs) ≤ m) (hVK : VK P W (fun g => g < W.heap.size) := by exact VK.none (by kernel_rfl)) :
    Calls P f args W fun e W' => ∃ v, e = .returned v ∧ s.post enc P fn false true false false W args v W' := by
  have hW' := hW
  obtain ⟨p, q, hA, hV, rfl, hz, hn⟩ := hW
  rw [hvars] at hV
  obtain ⟨rfl, rfl⟩ := trodVars_none hV
  rw [List.append_nil] at hk
  obtain ⟨xss, h1, h2, h3, h4⟩ := opens_argsB hbu hT (r := .any) (b := base) (fun _ => none) _ _ _ _ hTp (fun j t v ht hv => hval j t v (by simpa using ht) (by simpa using hv)) hA
  have := law_run (hwalk xss h1 (by omega)) h2 hVK
  simp only [Array.toArray_toList] at this
  refine this.mono fun e W' ⟨he, hsz, hkk, hos, hout⟩ => ?_
  subst he
  exact ⟨_, rfl, law_post hW' hvars (hfn ds (by simpa using h3)) hl hr hres htb hsz hkk hos hout⟩
end
end Go.AL
end

section
namespace Go.AL
open Go
section
variable {C : Cx} {K : List PK} {E : Env} {H : Heap}
def vqS (C : Cx) (K : List PK) (sk : List (Nat × AV)) : List Oper → List (Nat × Nat) → Nat → Env → Heap → Prop
  | [], ds, i, E, H => AQ C ds i [] K E H
  | o :: os, ds, i, E, H => match lk sk i with
    | some x => gd ds E o.guard = some false ∧ vqS C K sk os (dsPut o.dst i ds) (i + 1) (putE o.dst (.opt false x) E) H
    | none => match gd ds E o.guard with
    | none => AQ C ds i (o :: os) K E H
    | some G => match aval C.P E H o.op with
      | some (sc, v) => (G = true → sc) ∧ vqS C K sk os (dsPut o.dst i ds) (i + 1) (putE o.dst (wrap o.guard G v) E) H
      | none => match o.guard with
        | some _ => AQ C ds i (o :: os) K E H
        | none => match aeff C.P C.B.nb C.ob E H o with
          | some (sc, v, H') => sc ∧ vqS C K sk os (dsPut o.dst i ds) (i + 1) (putE o.dst v E) H'
          | none => AQ C ds i (o :: os) K E H
end
attribute [go_sem] vqS
end Go.AL
end

section
namespace Go.AL
open Go
/-- a stage: what is evaluated again; what is new; the effects that may come next, with what follows each -/
inductive Tree where
  | node (R P es : List Nat) (ts : List Tree)
def bindTo (ops : List Oper) (i j : Nat) : Bool := match ops[i]? with
  | some o => o.after.any fun e => Region.binds .any e && e.on == j
  | none => false
def depsIn (ops : List Oper) (i : Nat) (S : List Nat) : Bool := match ops[i]? with
  | some o => o.after.all fun e => !Region.binds .any e || inL S e.on
  | none => false
def noSel (o : Oper) : Bool := match o.op with
  | .select _ _ => false
  | _ => true
def ascB : List Nat → Bool
  | [] => true
  | i :: r => r.all (fun j => decide (i < j)) && ascB r
mutual
/-- the plan fits the region's edges; effs: the effects so far -/
def treeB (ops : List Oper) (n : Nat) (prev effs : List Nat) : Tree → Bool
  | .node R P es ts =>
    ascB R && ascB P && R.all (inL prev) && P.all (fun i => decide (i < n) && !inL prev i && !inL effs i) &&
    (prev.all fun i => inL R i || (List.range n).any fun x => decide (i < x) && (inL effs x || (inL prev x && !inL R x)) && bindTo ops x i) &&
    P.all (fun i => depsIn ops i (prev ++ P ++ effs)) &&
    ((List.range n).all fun i => inL (prev ++ P) i || inL effs i || inL es i || (List.range n).any fun j => bindTo ops i j && !inL (prev ++ P) j && !inL effs j) &&
    (!es.isEmpty || (List.range n).all fun i => inL (prev ++ P) i || inL effs i) && treesB ops n (prev ++ P) effs es ts
def treesB (ops : List Oper) (n : Nat) (prev effs : List Nat) : List Nat → List Tree → Bool
  | [], [] => true
  | x :: es, t :: ts => decide (x < n) && !inL prev x && !inL effs x && depsIn ops x (prev ++ effs) && treeB ops n prev (x :: effs) t && treesB ops n prev effs es ts
  | _, _ => false
end
mutual
/-- the effects of a plan -/
def effsT : Tree → List Nat
  | .node _ _ es ts => es ++ effsTs ts
def effsTs : List Tree → List Nat
  | [] => []
  | t :: ts => effsT t ++ effsTs ts
end
mutual
/-- what is pure is no effect -/
def purB (F : List Nat) : Tree → Bool
  | .node _ P _ ts => P.all (fun i => !inL F i) && pursB F ts
def pursB (F : List Nat) : List Tree → Bool
  | [] => true
  | t :: ts => purB F t && pursB F ts
end
theorem pursB_mem {F : List Nat} : ∀ {ts : List Tree} {t : Tree}, pursB F ts = true → t ∈ ts → purB F t = true
  | [], _, _, hm => by cases hm
  | x :: ts, t, h, hm => by
    simp only [pursB, Bool.and_eq_true] at h
    rcases List.mem_cons.1 hm with rfl | hm
    · exact h.1
    · exact pursB_mem h.2 hm
def drawB (ops : List Oper) (n : Nat) (t : Tree) : Bool := headBF ops n (effsT t) && (ops.take n).all noSel && treeB ops n [] [] t && purB (effsT t) t
theorem inL_mem : ∀ (l : List Nat) (i : Nat), inL l i = true ↔ i ∈ l
  | [], i => by simp [inL]
  | j :: l, i => by
    simp only [inL, List.mem_cons]
    cases hb : Nat.beq j i with
    | true => have := Nat.eq_of_beq_eq_true hb; simp [this]
    | false =>
      have hne : i ≠ j := fun e => by subst e; simp at hb
      have := inL_mem l i
      simp [hne, this]
def sameE (d : Option Nat) (x : AV) (E : Env) : Prop := match d with
  | none => True
  | some d => match lk E d with
    | none => True
    | some .top => True
    | some y => y = x
def avalG (P : Program) (E : Env) (H : Heap) (op : Op) (G : Bool) : Option (Prop × AV) := match aval P E H op with
  | some r => some r
  | none => match G with
    | false => some (True, .top)
    | true => none
def vR (C : Cx) (ops : List Oper) (H : Heap) : List Nat → List (Nat × Nat) → Env → Prop
  | [], _, _ => True
  | i :: r, ds, E => (match ops[i]? with
    | none => False
    | some o => match gd ds E o.guard with
      | none => False
      | some G => match avalG C.P E H o.op G with
        | none => False
        | some (sc, v) => (G = true → sc) ∧ sameE o.dst (wrap o.guard G v) E) ∧ vR C ops H r ds E
def vP (C : Cx) (ops : List Oper) (H : Heap) (k : List (Nat × Nat) → Env → Prop) : List Nat → List (Nat × Nat) → Env → Prop
  | [], ds, E => k ds E
  | i :: r, ds, E => match ops[i]? with
    | none => False
    | some o => match gd ds E o.guard with
      | none => False
      | some G => match avalG C.P E H o.op G with
        | none => False
        | some (sc, v) => (G = true → sc) ∧ vP C ops H k r (dsPut o.dst i ds) (putE o.dst (wrap o.guard G v) E)
def Cx.nr (C : Cx) : Cx := { C with R := fun _ _ => False, X := fun _ _ => False }
def pOut (C : Cx) (K : List PK) (ops : List Oper) : Exit → Act → World → Prop
  | .panic c, a, w => ∀ a' : Act, a'.defers = a.defers → a'.tmps.size = a.tmps.size → (∀ t, (∀ o ∈ ops, o.dst ≠ some t) → a'.tmps[t]? = a.tmps[t]?) → denK C (K.map (PK.ki C.fn)) (.panic c) a' w
  | _, _, _ => False
def SJv (C : Cx) (V : Env → Heap → Prop) (a : Act) (w : World) : Prop := ∃ E1 H1 φ I, Sim C φ I E1 H1 a w ∧ V E1 H1
mutual
/-- the walk of a plan -/
def vd (C : Cx) (K : List PK) (ops : List Oper) (n : Nat) : Tree → List (Nat × Nat) → Env → Heap → Prop
  | .node R P es ts, ds, E, H => vR C ops H R ds E ∧ vP C ops H (fun ds E => match es with
    | [] => vq C K (ops.drop n) [] n E H
    | _ :: _ => vds C K ops n es ts ds E H) P ds E
def vds (C : Cx) (K : List PK) (ops : List Oper) (n : Nat) : List Nat → List Tree → List (Nat × Nat) → Env → Heap → Prop
  | x :: es, t :: ts, ds, E, H => (match ops[x]? with
      | none => False
      | some o => AQ C.nr ds x [o] [.lp (SJv C (vd C K ops n t (dsPut o.dst x ds))), .bot (pOut C K ops)] E H) ∧ vds C K ops n es ts ds E H
  | _, _, _, _, _ => True
end
theorem AQ.next {C : Cx} {K : List PK} {ops : List Oper} {n : Nat} {t : Tree} {ds ds' : List (Nat × Nat)} {i : Nat} {E : Env} {H : Heap} (h : vd C K ops n t ds' E H) :
    AQ C.nr ds i [] [.lp (SJv C (vd C K ops n t ds')), .bot (pOut C K ops)] E H := by
  unfold AQ AO
  intro _ _ _ φ I a w hs
  exact ⟨E, H, φ, I, ⟨hs.dfr, hs.siz, hs.env, hs.st⟩, h⟩
def unl (L : Array Bool) (i : Nat) : Prop := L.getD i true = false
def lst (L : Array Bool) (i : Nat) : Prop := L.getD i false = true
structure Agree (ops : List Oper) (S : List Nat) (L : Array Bool) (a g : Act) : Prop where
  dfr : a.defers = g.defers
  siz : a.tmps.size = g.tmps.size
  at' : ∀ t, (∀ i ∈ S, unl L i → (ops[i]?).bind (·.dst) ≠ some t) → a.tmps[t]? = g.tmps[t]?
def PVal (P : Program) (ops : List Oper) (g : Act) (w : World) (o : Oper) (u : Value) : Prop :=
  if Region.wanted o (yielded ops.toArray g.tmps) = true then (execOp g.eval o).run P w = .ok (.value u) w else u = undef
def Pend (P : Program) (ops : List Oper) (g : Act) (w : World) (i : Nat) : Prop :=
  ∀ o, ops[i]? = some o → ∃ u, PVal P ops g w o u ∧ ∀ d, o.dst = some d → g.tmps[d]? = some u
theorem look_same {ops : List Oper} {o : Oper} (hs : noSel o = true) {a g : Act} (h : ∀ t ∈ looks ops o, a.tmps[t]? = g.tmps[t]?) :
    execOp a.eval o = execOp g.eval o ∧ Region.wanted o (yielded ops.toArray a.tmps) = Region.wanted o (yielded ops.toArray g.tmps) := by
  constructor
  · refine execOp_congr o (fun cs b hc => by simp [noSel, hc] at hs) fun x hx => ?_
    cases x with
    | tmp t =>
      have := h t (by simp only [looks]; exact List.mem_append.2 (.inl (mem_tmpsOf _ (by simpa using hx))))
      simp only [Act.eval, Array.getD_eq_getD_getElem?, this]
    | _ => rfl
  · unfold Region.wanted
    cases hg : o.guard with
    | none => rfl
    | some p =>
      obtain ⟨j, want⟩ := p
      simp only
      have : yielded ops.toArray a.tmps j = yielded ops.toArray g.tmps j := by
        unfold yielded
        cases hd : (ops.toArray[j]?).bind (·.dst) with
        | none => rfl
        | some d =>
          have hd' : (ops[j]?).bind (·.dst) = some d := by simpa using hd
          have := h d (by simp only [looks, hg, hd']; simp)
          simp only [Option.bind_some, this]
      rw [this]
theorem pval_of {C : Cx} {φ : Phi} {I : Nat → Prop} {E : Env} {H : Heap} {g : Act} {w : World} (hs : Sim C φ I E H g w) {ops : List Oper} {ds : List (Nat × Nat)} (hds : ∀ j d, lk ds j = some d → (ops[j]?).bind (·.dst) = some d)
    {o : Oper} {G : Bool} {sc : Prop} {v : AV} (hG : gd ds E o.guard = some G) (hv : avalG C.P E H o.op G = some (sc, v)) (hsc : G = true → sc) : ∃ u, PVal C.P ops g w o u ∧ AV.den w φ I (wrap o.guard G v) u := by
  have hw := gd_sound (ops := ops.toArray) hs.env (fun j d hj => by simpa using hds j d hj) hG
  unfold PVal
  rw [hw]
  cases G with
  | true =>
    have hv' : aval C.P E H o.op = some (sc, v) := by
      unfold avalG at hv
      cases hq : aval C.P E H o.op with
      | some r => rw [hq] at hv; exact hv
      | none => rw [hq] at hv; cases hv
    obtain ⟨u, hu, hden⟩ := aval_sound hs.env hs.st.real hv' (hsc rfl)
    exact ⟨u, by rw [if_pos rfl]; exact hu, wrap_den hden⟩
  | false =>
    refine ⟨undef, by simp, ?_⟩
    cases hg : o.guard with
    | none => rw [hg] at hG; simp [gd] at hG
    | some p => exact wrap_undef
theorem Act.put_get_ne {a : Act} {d : Option Tmp} {u : Value} {t : Nat} (h : d ≠ some t) : (a.put d u).tmps[t]? = a.tmps[t]? := by
  cases d with
  | none => rfl
  | some d => simp only [Act.put]; rw [Array.getElem?_setIfInBounds_ne (fun e => h (by rw [e]))]
theorem Act.put_siz {a : Act} {d : Option Tmp} {u : Value} : (a.put d u).tmps.size = a.tmps.size := by cases d <;> simp [Act.put]
theorem Act.put_dfr {a : Act} {d : Option Tmp} {u : Value} : (a.put d u).defers = a.defers := by cases d <;> rfl
theorem Pend.put {P : Program} {ops : List Oper} {n : Nat} {F : List Nat} (hok : HeadOk ops n F) (hsel : ∀ i o, i < n → ops[i]? = some o → noSel o = true) {g : Act} {w : World} {i j : Nat} {o : Oper} {u : Value} (hi : i < n) (hj : j < n) (hne : i ≠ j)
    (ho : ops[j]? = some o) (hsep : ∀ oi d, ops[i]? = some oi → o.dst = some d → d ∉ looks ops oi) (h : Pend P ops g w i) : Pend P ops (g.put o.dst u) w i := fun oi hoi => by
  obtain ⟨v, hv, hd⟩ := h oi hoi
  have hl : ∀ t ∈ looks ops oi, (g.put o.dst u).tmps[t]? = g.tmps[t]? := fun t ht => Act.put_get_ne fun e => hsep oi t hoi e ht
  obtain ⟨h1, h2⟩ := look_same (ops := ops) (hsel i oi hi hoi) hl
  refine ⟨v, by unfold PVal at hv ⊢; rw [h1, h2]; exact hv, fun d hdd => ?_⟩
  rw [Act.put_get_ne fun e => ?_]
  · exact hd d hdd
  · exact hne (hok.dist j i d hj hi (by rw [ho]; exact e) (by rw [hoi]; exact hdd))
theorem EnvOk.same {w : World} {φ : Phi} {I : Nat → Prop} {E : Env} {g : Act} {d : Option Nat} {x : AV} {u : Value} (hp : EnvOk w φ I (putE d x E) (g.put d u)) (hE : EnvOk w φ I E g) (hs : sameE d x E) (hlt : ∀ t, d = some t → t < g.tmps.size) : EnvOk w φ I E (g.put d u) := fun t y hy => by
  by_cases hd : d = some t
  · subst hd
    simp only [sameE, hy] at hs
    obtain ⟨v, hv, hden⟩ := hp t x (by simp [putE, lk])
    refine ⟨v, hv, ?_⟩
    split at hs
    · rename_i h; cases h
    · rename_i h; cases h; simp only [AV.den]
    · rename_i z _ h; cases h; rw [hs]; exact hden
  · obtain ⟨v, hv, hden⟩ := hE t y hy
    exact ⟨v, by rw [Act.put_get_ne hd]; exact hv, hden⟩
theorem run_R {C : Cx} {ops : List Oper} {n : Nat} {F : List Nat} (hok : HeadOk ops n F) (hdst : dstOk C.n ops = true) (hsel : ∀ i o, i < n → ops[i]? = some o → noSel o = true) {H : Heap} {w : World} {φ : Phi} {I : Nat → Prop} {ds : List (Nat × Nat)} {E : Env} {S : List Nat} {L : Array Bool} {a : Act}
    (hds : ∀ j d, lk ds j = some d → (ops[j]?).bind (·.dst) = some d) (hSF : ∀ i ∈ S, inL F i = false) : ∀ (R D : List Nat) (g : Act), (∀ i ∈ R, i < n ∧ i ∈ S) → (∀ i ∈ D, i < n) → (∀ i ∈ D, ∀ j ∈ R, i < j) → ascB R = true → vR C ops H R ds E → Sim C φ I E H g w → Agree ops S L a g →
      (∀ i ∈ D, unl L i → Pend C.P ops g w i) → ∃ g', Sim C φ I E H g' w ∧ Agree ops S L a g' ∧ ∀ i, (i ∈ D ∨ i ∈ R) → unl L i → Pend C.P ops g' w i
  | [], D, g, _, _, _, _, _, hs, ha, hp => ⟨g, hs, ha, fun i hi => hp i (hi.resolve_right (by simp))⟩
  | j :: R, D, g, hR, hD, hDR, hasc, hv, hs, ha, hp => by
    obtain ⟨hjn, hjS⟩ := hR j (by simp)
    simp only [ascB, Bool.and_eq_true, List.all_eq_true, decide_eq_true_eq] at hasc
    simp only [vR] at hv
    obtain ⟨hv1, hv2⟩ := hv
    have fin : ∀ g', Sim C φ I E H g' w → Agree ops S L a g' → (∀ i ∈ D ++ [j], unl L i → Pend C.P ops g' w i) → ∃ g', Sim C φ I E H g' w ∧ Agree ops S L a g' ∧ ∀ i, (i ∈ D ∨ i ∈ j :: R) → unl L i → Pend C.P ops g' w i := fun g' hs' ha' hp' => by
      obtain ⟨g2, h1, h2, h3⟩ := run_R hok hdst hsel hds hSF R (D ++ [j]) g' (fun i hi => hR i (by simp [hi])) (fun i hi => by
        rcases List.mem_append.1 hi with hi | hi
        · exact hD i hi
        · simp at hi; subst hi; exact hjn) (fun i hi k hk => by
        rcases List.mem_append.1 hi with hi | hi
        · exact hDR i hi k (by simp [hk])
        · simp at hi; subst hi; exact hasc.1 k hk) hasc.2 hv2 hs' ha' hp'
      refine ⟨g2, h1, h2, fun i hi => h3 i ?_⟩
      rcases hi with hi | hi
      · exact .inl (by simp [hi])
      · rcases List.mem_cons.1 hi with rfl | hi
        · exact .inl (by simp)
        · exact .inr hi
    split at hv1
    · exact hv1.elim
    · rename_i o ho
      split at hv1
      · exact hv1.elim
      · rename_i G hG
        split at hv1
        · exact hv1.elim
        · rename_i sc v hav
          obtain ⟨hsc, hsame⟩ := hv1
          by_cases hu : unl L j
          · obtain ⟨u, hpu, hden⟩ := pval_of hs hds hG hav hsc
            have hput := hs.put (d := o.dst) (v := wrap o.guard G v) (u := u) hs.st (Keeps.refl w φ I) (fun x hx => dstOk_mem hdst (List.mem_of_getElem? ho) x hx) hden
            have hsj : ∀ t ∈ looks ops o, (g.put o.dst u).tmps[t]? = g.tmps[t]? := fun t ht => Act.put_get_ne fun e => by
              have := (hok.need j o hjn ho t ht j t hjn (by rw [ho]; exact e) rfl (hSF j hjS)).1
              omega
            refine fin (g.put o.dst u) ⟨hput.dfr, hput.siz, EnvOk.same hput.env hs.env hsame (fun t ht => by rw [hs.siz]; exact dstOk_mem hdst (List.mem_of_getElem? ho) t ht), hs.st⟩
              ⟨by rw [Act.put_dfr]; exact ha.dfr, by rw [Act.put_siz]; exact ha.siz, fun t ht => ?_⟩ (fun i hi hui => ?_)
            · rw [Act.put_get_ne fun e => ht j hjS hu (by rw [ho]; exact e)]
              exact ha.at' t ht
            · rcases List.mem_append.1 hi with hi | hi
              · refine Pend.put hok hsel (hD i hi) hjn (by have := hDR i hi j (by simp); omega) ho (fun oi d hoi hd hmem => ?_) (hp i hi hui)
                have := (hok.need i oi (hD i hi) hoi d hmem j d hjn (by rw [ho]; exact hd) rfl (hSF j hjS)).1
                have := hDR i hi j (by simp)
                omega
              · simp at hi
                subst hi
                intro o' ho'
                rw [ho] at ho'
                cases ho'
                obtain ⟨h1, h2⟩ := look_same (ops := ops) (hsel i o hjn ho) hsj
                refine ⟨u, by unfold PVal at hpu ⊢; rw [h1, h2]; exact hpu, fun d hd => ?_⟩
                have hlt : d < g.tmps.size := by rw [hs.siz]; exact dstOk_mem hdst (List.mem_of_getElem? ho) d hd
                rw [hd]; simp [Act.put, hlt]
          · refine fin g hs ha (fun i hi hui => ?_)
            rcases List.mem_append.1 hi with hi | hi
            · exact hp i hi hui
            · simp at hi; subst hi; exact absurd hui hu
def Sep (ops : List Oper) (i j : Nat) : Prop := ∀ oi oj d, ops[i]? = some oi → ops[j]? = some oj → oj.dst = some d → d ∉ looks ops oi
theorem dsPut_ok {ops : List Oper} {ds : List (Nat × Nat)} {i : Nat} {o : Oper} (ho : ops[i]? = some o) (hds : ∀ j d, lk ds j = some d → (ops[j]?).bind (·.dst) = some d) : ∀ j d, lk (dsPut o.dst i ds) j = some d → (ops[j]?).bind (·.dst) = some d := fun j d hj => by
  unfold dsPut at hj
  split at hj
  · rename_i d' hd'
    simp only [lk] at hj
    cases hb : Nat.beq i j with
    | true =>
      rw [hb] at hj
      have := Nat.eq_of_beq_eq_true hb
      subst this
      simp only [cond_true, Option.some.injEq] at hj
      subst hj
      rw [ho]; exact hd'
    | false => rw [hb] at hj; exact hds j d hj
  · exact hds j d hj
theorem run_P {C : Cx} {ops : List Oper} {n : Nat} {F : List Nat} (hok : HeadOk ops n F) (hdst : dstOk C.n ops = true) (hsel : ∀ i o, i < n → ops[i]? = some o → noSel o = true) {H : Heap} {w : World} {φ : Phi} {I : Nat → Prop} {L : Array Bool} {a : Act} {k : List (Nat × Nat) → Env → Prop} :
    ∀ (P D S : List Nat) (g : Act) (ds : List (Nat × Nat)) (E : Env), (∀ j d, lk ds j = some d → (ops[j]?).bind (·.dst) = some d) → (∀ i ∈ P, i < n ∧ unl L i ∧ inL F i = false) → (∀ i ∈ D, i < n) → (∀ i ∈ D, ∀ j ∈ P, i ≠ j ∧ Sep ops i j) → ascB P = true →
      vP C ops H k P ds E → Sim C φ I E H g w → Agree ops S L a g → (∀ i ∈ D, unl L i → Pend C.P ops g w i) →
      ∃ ds' E' g', k ds' E' ∧ (∀ j d, lk ds' j = some d → (ops[j]?).bind (·.dst) = some d) ∧ Sim C φ I E' H g' w ∧ Agree ops (S ++ P) L a g' ∧ ∀ i, (i ∈ D ∨ i ∈ P) → unl L i → Pend C.P ops g' w i
  | [], D, S, g, ds, E, hds, _, _, _, _, hv, hs, ha, hp => ⟨ds, E, g, hv, hds, hs, by simpa using ha, fun i hi => hp i (hi.resolve_right (by simp))⟩
  | j :: P, D, S, g, ds, E, hds, hP, hD, hDP, hasc, hv, hs, ha, hp => by
    obtain ⟨hjn, hju, hjF⟩ := hP j (by simp)
    simp only [ascB, Bool.and_eq_true, List.all_eq_true, decide_eq_true_eq] at hasc
    simp only [vP] at hv
    split at hv
    · exact hv.elim
    · rename_i o ho
      split at hv
      · exact hv.elim
      · rename_i G hG
        split at hv
        · exact hv.elim
        · rename_i sc v hav
          obtain ⟨hsc, hnext⟩ := hv
          obtain ⟨u, hpu, hden⟩ := pval_of hs hds hG hav hsc
          have hput := hs.put (d := o.dst) (v := wrap o.guard G v) (u := u) hs.st (Keeps.refl w φ I) (fun x hx => dstOk_mem hdst (List.mem_of_getElem? ho) x hx) hden
          have hsj : ∀ t ∈ looks ops o, (g.put o.dst u).tmps[t]? = g.tmps[t]? := fun t ht => Act.put_get_ne fun e => by
            have := (hok.need j o hjn ho t ht j t hjn (by rw [ho]; exact e) rfl hjF).1
            omega
          have hself : ∀ i ∈ D ++ [j], i < n := fun i hi => by
            rcases List.mem_append.1 hi with hi | hi
            · exact hD i hi
            · simp at hi; subst hi; exact hjn
          obtain ⟨ds', E', g', h1, h2, h3, h4, h5⟩ := run_P (a := a) hok hdst hsel P (D ++ [j]) (S ++ [j]) (g.put o.dst u) _ _ (dsPut_ok ho hds) (fun i hi => hP i (by simp [hi])) hself (fun i hi x hx => by
              rcases List.mem_append.1 hi with hi | hi
              · exact hDP i hi x (by simp [hx])
              · simp at hi; subst hi
                refine ⟨by have := hasc.1 x hx; omega, fun oi ox d hoi hox hd hmem => ?_⟩
                have h1 := (hok.need i oi hjn hoi d hmem x d (hP x (by simp [hx])).1 (by rw [hox]; exact hd) rfl (hP x (by simp [hx])).2.2).1
                have := hasc.1 x hx
                omega) hasc.2 hnext hput
            ⟨by rw [Act.put_dfr]; exact ha.dfr, by rw [Act.put_siz]; exact ha.siz, fun t ht => by
              rw [Act.put_get_ne fun e => ht j (by simp) hju (by rw [ho]; exact e)]
              exact ha.at' t fun i hi => ht i (by simp [hi])⟩
            (fun i hi hui => by
              rcases List.mem_append.1 hi with hi | hi
              · exact Pend.put hok hsel (hD i hi) hjn (hDP i hi j (by simp)).1 ho (fun oi d hoi hd hmem => (hDP i hi j (by simp)).2 oi o d hoi ho hd hmem) (hp i hi hui)
              · simp at hi
                subst hi
                intro o' ho'
                rw [ho] at ho'
                cases ho'
                obtain ⟨h1, h2⟩ := look_same (ops := ops) (hsel i o hjn ho) hsj
                refine ⟨u, by unfold PVal at hpu ⊢; rw [h1, h2]; exact hpu, fun d hd => ?_⟩
                have hlt : d < g.tmps.size := by rw [hs.siz]; exact dstOk_mem hdst (List.mem_of_getElem? ho) d hd
                rw [hd]; simp [Act.put, hlt])
          refine ⟨ds', E', g', h1, h2, h3, by simpa using h4, fun i hi => h5 i ?_⟩
          rcases hi with hi | hi
          · exact .inl (by simp [hi])
          · rcases List.mem_cons.1 hi with rfl | hi
            · exact .inl (by simp)
            · exact .inr hi
theorem oper_frame {C : Cx} {ops : List Oper} {o : Oper} (hs : noSel o = true) {a g : Act} {w : World} (hl : ∀ t ∈ looks ops o, a.tmps[t]? = g.tmps[t]?) (hdf : a.defers = g.defers) {J J' : Act → World → Prop} {Q Q' : Exit → Act → World → Prop}
    (hq : ∀ c w, Q (.panic c) g w → Q' (.panic c) a w) (ho : ¬ LetsOut Q) (hn : ∀ dd v w', J (({ g with defers := dd } : Act).put o.dst v) w' → J' (({ a with defers := dd } : Act).put o.dst v) w') (h : o.wp C.P g w J Q) : o.wp C.P a w J' Q' := by
  have hn' : ∀ v w', J (g.put o.dst v) w' → J' (a.put o.dst v) w' := fun v w' hj => by
    have := hn g.defers v w' hj
    rw [← hdf] at this
    exact this
  unfold Oper.wp at h ⊢
  rw [(look_same hs hl).1]
  generalize (execOp g.eval o).run C.P w = q at *
  cases q with
  | ok x w' =>
    cases x <;> simp only [Oper.upon] at h ⊢ <;> first
      | exact hn' _ _ h
      | (rw [hdf]; exact hn _ _ _ h)
      | exact h.elim
      | exact h.mono fun v w'' he => hn' _ _ he
      | (refine h.mono fun e w'' he => ?_
         cases e with
         | returned v => exact hn' _ _ he
         | panicked c => exact hq _ _ he
         | outgrown => exact (ho he).elim)
  | halt x w' => cases x <;> simp only [Oper.upon] at h ⊢ <;> first | exact hq _ _ h | exact h.elim
theorem oper_frameO {C : Cx} {ops : List Oper} {o : Oper} (hs : noSel o = true) {a g : Act} {w : World} (hl : ∀ t ∈ looks ops o, a.tmps[t]? = g.tmps[t]?) (hdf : a.defers = g.defers) {J J' : Act → World → Prop} {Q Q' : Exit → Act → World → Prop}
    (hq : ∀ c w, Q (.panic c) g w → Q' (.panic c) a w) (ho : ¬ LetsOut Q) (hn : ∀ dd v w', J (({ g with defers := dd } : Act).put o.dst v) w' → J' (({ a with defers := dd } : Act).put o.dst v) w') (h : oStep C.P o g w J Q) : oStep C.P o a w J' Q' := by
  have hn' : ∀ v w', J (g.put o.dst v) w' → J' (a.put o.dst v) w' := fun v w' hj => by
    have := hn g.defers v w' hj
    rw [← hdf] at this
    exact this
  rcases h with h | ⟨l, f, tmps, as, bd, hr, h⟩
  · exact .inl (oper_frame hs hl hdf hq ho hn h)
  · refine .inr ⟨l, f, tmps, as, bd, by rw [(look_same hs hl).1]; exact hr, h.mono fun e w'' he => ?_⟩
    cases e with
    | returned v => exact hn' _ _ he
    | panicked c => exact hq _ _ he
    | outgrown => exact (ho he).elim
theorem lst_unl {L : Array Bool} {i : Nat} (h : lst L i) (h' : unl L i) : False := by
  unfold lst at h
  unfold unl at h'
  rcases Nat.lt_or_ge i L.size with hl | hl
  · simp [hl] at h h'; rw [h] at h'; cases h'
  · simp [Array.getElem?_eq_none hl] at h
theorem unl_set {L : Array Bool} {i j : Nat} (h : unl (L.setIfInBounds i true) j) : unl L j := by
  unfold unl at h ⊢
  by_cases hij : i = j
  · subst hij
    rcases Nat.lt_or_ge i L.size with hl | hl
    · simp [hl] at h
    · simp [Array.getElem?_eq_none hl] at h
  · rwa [getD_set_ne true hij] at h
theorem unl_ne {L : Array Bool} {i j : Nat} (hij : i ≠ j) (h : unl L j) : unl (L.setIfInBounds i true) j := by
  unfold unl at h ⊢
  rwa [getD_set_ne true hij]
theorem lst_set {L : Array Bool} {i j : Nat} (h : lst L j) : lst (L.setIfInBounds i true) j := getD_set_true h
theorem bindTo_spec {ops : List Oper} {i j : Nat} : bindTo ops i j = true ↔ ∃ o, ops[i]? = some o ∧ ∃ e ∈ o.after, Region.binds .any e = true ∧ e.on = j := by
  unfold bindTo
  cases ho : ops[i]? with
  | none => simp
  | some o =>
    constructor
    · intro h
      obtain ⟨e, he, hb⟩ := Array.any_eq_true'.1 h
      simp only [Bool.and_eq_true, beq_iff_eq] at hb
      exact ⟨o, rfl, e, he, hb⟩
    · rintro ⟨o', ho', e, he, hb⟩
      cases ho'
      exact Array.any_eq_true'.2 ⟨e, he, by simpa using hb⟩
theorem depsIn_spec {ops : List Oper} {i : Nat} {S : List Nat} (h : depsIn ops i S = true) {j : Nat} (hb : bindTo ops i j = true) : j ∈ S := by
  obtain ⟨o, ho, e, he, hb1, rfl⟩ := bindTo_spec.1 hb
  unfold depsIn at h
  rw [ho] at h
  have := Array.all_eq_true'.1 h e he
  rw [hb1] at this
  simpa [inL_mem] using this
theorem treeB_node {ops : List Oper} {n : Nat} {prev effs R P es : List Nat} {ts : List Tree} (h : treeB ops n prev effs (.node R P es ts) = true) :
    ascB R = true ∧ ascB P = true ∧ (∀ i ∈ R, i ∈ prev) ∧ (∀ i ∈ P, i < n ∧ i ∉ prev ∧ i ∉ effs) ∧
    (∀ i ∈ prev, i ∉ R → ∃ x, i < x ∧ x < n ∧ (x ∈ effs ∨ (x ∈ prev ∧ x ∉ R)) ∧ bindTo ops x i = true) ∧
    (∀ i ∈ P, ∀ j, bindTo ops i j = true → j ∈ prev ++ P ++ effs) ∧
    (∀ i, i < n → i ∈ prev ++ P ∨ i ∈ effs ∨ i ∈ es ∨ ∃ j, j < n ∧ bindTo ops i j = true ∧ j ∉ prev ++ P ∧ j ∉ effs) ∧
    (es = [] → ∀ i, i < n → i ∈ prev ++ P ∨ i ∈ effs) ∧ treesB ops n (prev ++ P) effs es ts = true := by
  have hno : ∀ (l : List Nat) (i : Nat), (!inL l i) = true → i ∉ l := fun l i h hm => by rw [(inL_mem _ _).2 hm] at h; cases h
  simp only [treeB, Bool.and_eq_true] at h
  obtain ⟨⟨⟨⟨⟨⟨⟨⟨h1, h2⟩, h3⟩, h4⟩, h5⟩, h6⟩, h7⟩, h8⟩, h9⟩ := h
  refine ⟨h1, h2, fun i hi => (inL_mem _ _).1 (List.all_eq_true.1 h3 i hi), fun i hi => ?_, fun i hi hR => ?_, fun i hi j hj => depsIn_spec (List.all_eq_true.1 h6 i hi) hj, fun i hi => ?_, fun he i hi => ?_, h9⟩
  · have := List.all_eq_true.1 h4 i hi
    simp only [Bool.and_eq_true, decide_eq_true_eq] at this
    exact ⟨this.1.1, hno _ _ this.1.2, hno _ _ this.2⟩
  · have := List.all_eq_true.1 h5 i hi
    simp only [Bool.or_eq_true, List.any_eq_true, List.mem_range, Bool.and_eq_true, decide_eq_true_eq] at this
    rcases this with h | ⟨x, hx, ⟨hix, hor⟩, hb⟩
    · exact absurd ((inL_mem _ _).1 h) hR
    · refine ⟨x, hix, hx, ?_, hb⟩
      rcases hor with h | h
      · exact .inl ((inL_mem _ _).1 h)
      · exact .inr ⟨(inL_mem _ _).1 h.1, hno _ _ h.2⟩
  · have := List.all_eq_true.1 h7 i (List.mem_range.2 hi)
    simp only [Bool.or_eq_true, List.any_eq_true, List.mem_range, Bool.and_eq_true] at this
    rcases this with ((h | h) | h) | ⟨j, hj, ⟨hb, h1⟩, h2⟩
    · exact .inl ((inL_mem _ _).1 h)
    · exact .inr (.inl ((inL_mem _ _).1 h))
    · exact .inr (.inr (.inl ((inL_mem _ _).1 h)))
    · exact .inr (.inr (.inr ⟨j, hj, hb, hno _ _ h1, hno _ _ h2⟩))
  · subst he
    simp only [List.isEmpty_nil, Bool.not_true, Bool.false_or, List.all_eq_true, List.mem_range, Bool.or_eq_true] at h8
    exact (h8 i hi).imp (inL_mem _ _).1 (inL_mem _ _).1
theorem treesB_mem {ops : List Oper} {n : Nat} {prev effs : List Nat} {C : Cx} {K : List PK} {ds : List (Nat × Nat)} {E : Env} {H : Heap} : ∀ (es : List Nat) (ts : List Tree), treesB ops n prev effs es ts = true → vds C K ops n es ts ds E H → ∀ x ∈ es, ∃ t ∈ ts,
    x < n ∧ x ∉ prev ∧ x ∉ effs ∧ (∀ j, bindTo ops x j = true → j ∈ prev ++ effs) ∧ treeB ops n prev (x :: effs) t = true ∧
      match ops[x]? with
      | none => False
      | some o => AQ C.nr ds x [o] [.lp (SJv C (vd C K ops n t (dsPut o.dst x ds))), .bot (pOut C K ops)] E H
  | [], _, _, _, x, hx => by simp at hx
  | y :: es, [], h, _, x, hx => by simp [treesB] at h
  | y :: es, t :: ts, h, hv, x, hx => by
    have hno : ∀ (l : List Nat) (i : Nat), (!inL l i) = true → i ∉ l := fun l i h hm => by rw [(inL_mem _ _).2 hm] at h; cases h
    simp only [treesB, Bool.and_eq_true, decide_eq_true_eq] at h
    obtain ⟨⟨⟨⟨⟨h1, h2⟩, h3⟩, h4⟩, h5⟩, h6⟩ := h
    simp only [vds] at hv
    rcases List.mem_cons.1 hx with rfl | hx
    · exact ⟨t, by simp, h1, hno _ _ h2, hno _ _ h3, fun j hj => depsIn_spec h4 hj, h5, hv.1⟩
    · obtain ⟨t', ht', r⟩ := treesB_mem es ts h6 hv.2 x hx
      exact ⟨t', by simp [ht'], r⟩
end Go.AL
end

section
namespace Go.AL
open Go
theorem getD_set_true' {L : Array Bool} {i : Nat} (h : L.getD i true = false) : lst (L.setIfInBounds i true) i := by
  unfold lst
  rcases Nat.lt_or_ge i L.size with hl | hl
  · simp [hl]
  · simp [Array.getElem?_eq_none hl] at h
theorem plan_run {C : Cx} {K : List PK} {ops : List Oper} {n : Nat} {F : List Nat} (hok : HeadOk ops n F) (hdst : dstOk C.n ops = true) (hsel : ∀ i o, i < n → ops[i]? = some o → noSel o = true) :
    ∀ (t : Tree) (prev effs : List Nat) (ds : List (Nat × Nat)) (E : Env) (H : Heap), treeB ops n prev effs t = true → purB F t = true → (∀ i ∈ prev, inL F i = false) → (∀ j d, lk ds j = some d → (ops[j]?).bind (·.dst) = some d) → vd C K ops n t ds E H →
    (∀ i ∈ prev, i < n) → (∀ i ∈ effs, i < n) → (∀ i, (i ∈ prev ∨ i ∈ effs) → ∀ j, bindTo ops i j = true → j ∈ prev ∨ j ∈ effs) →
    ∀ (L : Array Bool) (a : Act) (w : World), HeadInv .any ops.toArray n L → (∀ i ∈ effs, lst L i) → (∀ i, i < n → i ∉ prev → i ∉ effs → unl L i) → (∃ g φ I, Sim C φ I E H g w ∧ Agree ops prev L a g) →
      wpA C.P .any ops.toArray (denK C (K.map (PK.ki C.fn))) (cntTo L n + (ops.length - n)) L a w
  | .node R P es ts, prev, effs, ds, E, H, hB, hpur, hprF, hds, hv, hprev, heffs, hcl, L, a, w, inv, hle, hlu, ⟨g, φ, I, hs, hag⟩ => by
    obtain ⟨hR, hP, hRp, hPf, hforce, hPd, hexi, hend, hB'⟩ := treeB_node hB
    simp only [vd] at hv
    obtain ⟨hvR, hvP⟩ := hv
    simp only [purB, Bool.and_eq_true, List.all_eq_true, Bool.not_eq_true'] at hpur
    obtain ⟨hpP, hpT⟩ := hpur
    have hprPF : ∀ i ∈ prev ++ P, inL F i = false := fun i hi => (List.mem_append.1 hi).elim (hprF i) (hpP i)
    -- what is not evaluated again is listed
    have hlisted : ∀ (d i : Nat), n - i = d → i ∈ prev → i ∉ R → lst L i := by
      intro d
      induction d using Nat.strongRecOn with
      | _ d ih =>
        intro i hd hi hiR
        obtain ⟨x, hix, hxn, hx, hb⟩ := hforce i hi hiR
        have hlx : lst L x := by
          rcases hx with hx | ⟨hx1, hx2⟩
          · exact hle x hx
          · exact ih (n - x) (by omega) x rfl hx1 hx2
        obtain ⟨o, ho, ed, hed, hbd, rfl⟩ := bindTo_spec.1 hb
        exact inv.closed x o (by simpa using ho) hlx ed hed hbd
    obtain ⟨g1, hs1, hag1, hp1⟩ := run_R hok hdst hsel hds (S := prev) (L := L) (a := a) hprF R [] g (fun i hi => ⟨hprev i (hRp i hi), hRp i hi⟩) (fun i hi => by simp at hi) (fun i hi => by simp at hi) hR hvR hs hag (fun i hi => by simp at hi)
    have hp1' : ∀ i ∈ prev, unl L i → Pend C.P ops g1 w i := fun i hi hu => by
      by_cases hiR : i ∈ R
      · exact hp1 i (.inr hiR) hu
      · exact (lst_unl (hlisted _ i rfl hi hiR) hu).elim
    have hPn : ∀ i ∈ P, i < n ∧ unl L i := fun i hi => ⟨(hPf i hi).1, hlu i (hPf i hi).1 (hPf i hi).2.1 (hPf i hi).2.2⟩
    obtain ⟨ds', E', g', hk, hds', hs2, hag2, hp2⟩ := run_P (a := a) hok hdst hsel P prev prev g1 ds E hds (fun i hi => ⟨(hPn i hi).1, (hPn i hi).2, hpP i hi⟩) hprev (fun i hi j hj => ⟨fun e => (hPf j hj).2.1 (e ▸ hi), fun oi oj d hoi hoj hd hmem => by
        obtain ⟨_, ed, hed, hbd, hon⟩ := hok.need i oi (hprev i hi) hoi d hmem j d (hPn j hj).1 (by rw [hoj]; exact hd) rfl (hpP j hj)
        rcases hcl i (.inl hi) j (bindTo_spec.2 ⟨oi, hoi, ed, hed, hbd, hon⟩) with h | h
        · exact (hPf j hj).2.1 h
        · exact (hPf j hj).2.2 h⟩) hP hvP hs1 hag1 hp1'
    have hSn : ∀ i ∈ prev ++ P, i < n := fun i hi => by
      rcases List.mem_append.1 hi with hi | hi
      · exact hprev i hi
      · exact (hPn i hi).1
    -- the stage's pure operations, in any order; then the effect
    have inner : ∀ (c : Nat) (L : Array Bool) (a : Act), cntTo L n = c → HeadInv .any ops.toArray n L → (∀ i ∈ effs, lst L i) → (∀ i, i < n → i ∉ prev ++ P → i ∉ effs → unl L i) → Agree ops (prev ++ P) L a g' →
        (∀ i ∈ prev ++ P, unl L i → Pend C.P ops g' w i) → wpA C.P .any ops.toArray (denK C (K.map (PK.ki C.fn))) (c + (ops.length - n)) L a w := by
      intro c
      induction c with
      | zero =>
        intro L a hc inv hle hlu hag hp
        have hall := cntTo_zero L n hc
        have hsz : L.size = ops.length := by simpa using inv.size
        have hlst : ∀ i, i < n → lst L i := fun i hi => by
          have h1 := hall i hi
          have hlt : i < L.size := by rw [hsz]; have := hok.le; omega
          unfold lst
          simp [hlt] at h1 ⊢; exact h1
        cases es with
        | cons x es' =>
          simp only at hk
          obtain ⟨t', _, hxn, hxS, hxe, _⟩ := treesB_mem _ _ hB' hk x (by simp)
          exact (lst_unl (hlst x hxn) (hlu x hxn hxS hxe)).elim
        | nil =>
          simp only at hk
          have hcan : L = canon n ops.length := by
            apply Array.ext
            · simp [canon, hsz]
            · intro i h1 h2
              simp only [canon, List.getElem_toArray, List.getElem_map, List.getElem_range]
              by_cases hi : i < n
              · have := hall i hi
                simp [h1] at this
                simp [hi, this]
              · have := inv.tail i (by omega) (by simpa using (by omega : i < ops.length))
                simp [h1] at this
                simp [hi, this]
          have hag' : a = g' := by
            have ht : a.tmps = g'.tmps := by
              apply Array.ext_getElem?
              intro t
              exact hag.at' t fun i hi hu => (lst_unl (hlst i (hSn i hi)) hu).elim
            have hd := hag.dfr
            cases a; cases g'
            simp only at ht hd
            subst ht; subst hd; rfl
          subst hag'
          rw [Nat.zero_add]
          have hseq := hok.seq
          rw [← hcan] at hseq
          have hdrop : dstOk C.n (ops.drop n) = true := by
            rw [dstOk, List.all_eq_true]
            exact fun o ho => List.all_eq_true.1 hdst o (List.mem_of_mem_drop ho)
          have hao := vc_sound (C := C) (K := K.map (PK.ki C.fn)) (ops.drop n) [] n E' H hdrop (vq_eq C K _ _ _ _ _ hk)
          have h1 := wpA_seq (P := C.P) (md := .any) (ops := ops.toArray) (Q := denK C (K.map (PK.ki C.fn))) (ops.drop n) n L a w (fun j => by simp [List.getElem?_drop]) (by simpa using hseq)
            (hao ops.toArray (fun j d hj => by simp [lk] at hj) (fun j o hj => by rw [List.getElem?_drop] at hj; simp [hj]) φ I a w hs2)
          simpa using h1
      | succ c ih =>
        intro L a hc inv hle hlu hag hp
        obtain ⟨i0, hi0, hun0, hmin⟩ := cntTo_pos L n (by omega)
        have hsz : L.size = ops.length := by simpa using inv.size
        have hnle := hok.le
        have hready0 : i0 ∈ Region.ready .any ops.toArray L := by
          rw [mem_ready]
          have hlt : i0 < ops.length := by omega
          refine ⟨hun0, ops[i0], by simp [hlt], fun e he hb => ?_⟩
          have hlt2 := hok.back i0 ops[i0] hi0 (List.getElem?_eq_getElem hlt) e he hb
          have h1 := hmin e.on hlt2
          have hlt3 : e.on < L.size := by omega
          simp [hlt3] at h1 ⊢; exact h1
        rw [show c + 1 + (ops.length - n) = (c + (ops.length - n)) + 1 by omega]
        refine ⟨fun h => (by rw [h] at hready0; cases hready0), fun i hi => ?_⟩
        have hin := ready_lt hok inv hi0 hun0 i hi
        obtain ⟨hun, o, ho, hall⟩ := mem_ready.1 hi
        have hol : ops[i]? = some o := by simpa using ho
        have inv' := inv.set hi hin
        have hcnt : cntTo (L.setIfInBounds i true) n = c := by have := cntTo_set L i hun n hin; omega
        have hdep : ∀ j, bindTo ops i j = true → lst L j := fun j hb => by
          obtain ⟨o', ho', ed, hed, hbd, rfl⟩ := bindTo_spec.1 hb
          rw [hol] at ho'
          cases ho'
          exact hall ed hed hbd
        have hlook : ∀ t ∈ looks ops o, a.tmps[t]? = g'.tmps[t]? := fun t ht => hag.at' t fun j hj hju hjt => by
          obtain ⟨_, ed, hed, hbd, hon⟩ := hok.need i o hin hol t ht j t (hSn j hj) hjt rfl (hprPF j hj)
          exact lst_unl (hdep j (bindTo_spec.2 ⟨o, hol, ed, hed, hbd, hon⟩)) hju
        obtain ⟨hex, hwa⟩ := look_same (ops := ops) (hsel i o hin hol) hlook
        have hagp : ∀ u, (∀ d, o.dst = some d → d < a.tmps.size → g'.tmps[d]? = some u) → Agree ops (prev ++ P) (L.setIfInBounds i true) (a.put o.dst u) g' := fun u hu => by
          refine ⟨by rw [Act.put_dfr]; exact hag.dfr, by rw [Act.put_siz]; exact hag.siz, fun t ht => ?_⟩
          by_cases hd : o.dst = some t
          · by_cases hlt : t < a.tmps.size
            · rw [hu t hd hlt, hd]; simp [Act.put, hlt]
            · rw [Array.getElem?_eq_none (by rw [Act.put_siz]; exact Nat.not_lt.1 hlt), Array.getElem?_eq_none (by rw [← hag.siz]; exact Nat.not_lt.1 hlt)]
          · rw [Act.put_get_ne hd]
            refine hag.at' t fun j hj hju hjt => ?_
            by_cases hij : i = j
            · subst hij; rw [hol] at hjt; exact hd hjt
            · exact ht j hj (unl_ne hij hju) hjt
        have pure : i ∈ prev ++ P → opA C.P ops.toArray (denK C (K.map (PK.ki C.fn))) i (wpA C.P .any ops.toArray (denK C (K.map (PK.ki C.fn))) (c + (ops.length - n)) (L.setIfInBounds i true)) a w := fun hiS => by
          obtain ⟨u, hpv, hpd⟩ := hp i hiS hun o hol
          have hgo := ih (L.setIfInBounds i true) (a.put o.dst u) hcnt inv' (fun j hj => lst_set (hle j hj)) (fun j hjn hj1 hj2 => unl_ne (fun e => hj1 (e ▸ hiS)) (hlu j hjn hj1 hj2)) (hagp u fun d hd _ => hpd d hd) (fun j hj hju => hp j hj (unl_set hju))
          unfold opA
          rw [ho]
          simp only
          rw [hwa]
          unfold PVal at hpv
          split
          · rename_i hw
            rw [if_pos hw] at hpv
            refine Or.inl ?_
            unfold Oper.wp
            rw [hex, hpv, Oper.upon_value]
            exact hgo
          · rename_i hw
            rw [if_neg hw] at hpv
            rw [← hpv]; exact hgo
        rcases hexi i hin with h | h | h | ⟨j, hjn, hb, hj1, hj2⟩
        · exact pure h
        · exact (lst_unl (hle i h) hun).elim
        · -- an effect
          cases es with
          | nil => simp at h
          | cons x0 es' =>
              simp only at hk
              obtain ⟨t', ht', hxn, hxS, hxe, hxd, hBr, hk⟩ := treesB_mem _ _ hB' hk i h
              rw [hol] at hk
              simp only at hk
              have hrun := hk
              unfold AQ AO at hrun
              have hrun := hrun ops.toArray (fun j d hj => by simpa using hds' j d hj) (fun j o' hj => by
                cases j with
                | zero => simp at hj; subst hj; rw [Nat.add_zero, ho]; rfl
                | succ j => simp at hj) φ I g' w ⟨hs2.dfr, hs2.siz, hs2.env, hs2.st⟩
              simp only [wpL] at hrun
              have hfin : ∀ dd v w', (∃ E1 H1 φ I, Sim C φ I E1 H1 (({ g' with defers := dd } : Act).put o.dst v) w' ∧ vd C K ops n t' (dsPut o.dst i ds') E1 H1) →
                  wpA C.P .any ops.toArray (denK C (K.map (PK.ki C.fn))) (c + (ops.length - n)) (L.setIfInBounds i true) (({ a with defers := dd } : Act).put o.dst v) w' := fun dd v w' ⟨E1, H1, φ1, I1, hs3, hv3⟩ => by
                rw [← hcnt]
                refine plan_run hok hdst hsel t' (prev ++ P) (i :: effs) _ E1 H1 hBr (pursB_mem hpT ht') hprPF (dsPut_ok hol hds') hv3 hSn (fun j hj => by
                    rcases List.mem_cons.1 hj with rfl | hj
                    · exact hxn
                    · exact heffs j hj) (fun j hj k hb => by
                    have : k ∈ prev ++ P ++ effs := by
                      rcases hj with hj | hj
                      · rcases List.mem_append.1 hj with hj | hj
                        · rcases hcl j (.inl hj) k hb with h | h <;> simp [h]
                        · exact hPd j hj k hb
                      · rcases List.mem_cons.1 hj with rfl | hj
                        · exact hxd k hb
                        · rcases hcl j (.inr hj) k hb with h | h <;> simp [h]
                    rcases List.mem_append.1 this with h | h
                    · exact .inl h
                    · exact .inr (List.mem_cons_of_mem _ h)) _ _ w' inv' (fun j hj => by
                    rcases List.mem_cons.1 hj with rfl | hj
                    · exact getD_set_true' hun
                    · exact lst_set (hle j hj)) (fun j hjn hj1 hj2 => unl_ne (fun e => hj2 (by simp [e])) (hlu j hjn hj1 fun hm => hj2 (List.mem_cons_of_mem _ hm))) ⟨_, φ1, I1, hs3, ?_⟩
                refine ⟨by rw [Act.put_dfr, Act.put_dfr], by rw [Act.put_siz, Act.put_siz]; exact hag.siz, fun t ht => ?_⟩
                by_cases hd : o.dst = some t
                · by_cases hlt : t < a.tmps.size
                  · rw [hd]; simp [Act.put, hlt, ← hag.siz]
                  · rw [Array.getElem?_eq_none (by rw [Act.put_siz]; exact Nat.not_lt.1 hlt), Array.getElem?_eq_none (by rw [Act.put_siz, ← hag.siz]; exact Nat.not_lt.1 hlt)]
                · rw [Act.put_get_ne hd, Act.put_get_ne hd]
                  exact hag.at' t fun j hj hju => ht j hj (unl_ne (fun e => by subst e; exact hxS hj) hju)
              unfold opA
              rw [ho]
              simp only
              rw [hwa]
              split
              · rename_i hw
                rw [if_pos hw] at hrun
                exact oper_frameO (ops := ops) (hsel i o hin hol) hlook hag.dfr (fun c w hq => hq _ hag.dfr hag.siz fun t ht => hag.at' t fun i _ _ he => by
                  cases ho : ops[i]? with
                  | none => rw [ho] at he; cases he
                  | some o => rw [ho] at he; exact ht o (List.mem_of_getElem? ho) he) (fun ⟨a, w, hq⟩ => hq) hfin hrun
              · rename_i hw
                rw [if_neg hw] at hrun
                have := hfin g'.defers undef w hrun
                rw [← hag.dfr] at this
                exact this
        · -- a later one is not ready
          exact (lst_unl (hdep j hb) (hlu j hjn hj1 hj2)).elim
    refine inner _ L a rfl inv hle (fun i hin h1 h2 => hlu i hin (fun hm => h1 (List.mem_append_left _ hm)) h2) hag2 (fun i hi hu => hp2 i (by
      rcases List.mem_append.1 hi with hi | hi
      · exact .inl hi
      · exact .inr hi) hu)
termination_by t => SizeOf.sizeOf t
decreasing_by
  have := List.sizeOf_lt_of_mem ht'
  simp only [Tree.node.sizeOf_spec]
  omega
end Go.AL
end

section
namespace Go.AL
open Go
section
variable {C : Cx} {K : List PK} {E : Env} {H : Heap} {p : List Nat}
theorem AP.drawE {id : Nat} {ops : List Oper} (n : Nat) (t : Tree) (hm : C.P.follows .mixedOrders = true) (hc : codeAt C.fn p = .region id ops.toArray true) (hok : dstOk C.n ops = true) (hB : drawB ops n t = true)
    (h : vd C K ops n t [] E H) : AP C p K E H := by
  simp only [drawB, Bool.and_eq_true] at hB
  obtain ⟨⟨⟨hB1, hB2⟩, hB3⟩, hB4⟩ := hB
  have hok' := headBF_spec hB1
  have hle := hok'.le
  have hsel : ∀ i o, i < n → ops[i]? = some o → noSel o = true := fun i o hi ho => List.all_eq_true.1 hB2 o (by
    rw [List.mem_take_iff_getElem]
    obtain ⟨hl, he⟩ := List.getElem?_eq_some_iff.1 ho
    exact ⟨i, by omega, he⟩)
  unfold AP
  rw [hc]
  intro φ I a w hs
  refine wpR_draw hm (dstOk_nd hok) ?_
  have hcnt : ∀ k, cntTo (Array.replicate ops.length false) k = min k ops.length := by
    intro k
    induction k with
    | zero => simp [cntTo]
    | succ k ih =>
      simp only [cntTo, ih]
      by_cases hk : k < ops.length
      · simp [hk]; omega
      · simp [hk]; omega
  have inv0 : HeadInv .any ops.toArray n (Array.replicate ops.length false) :=
    ⟨by simp, fun j oj _ hl => (by rw [getD_replicate_false] at hl; cases hl), fun t _ ht => getD_in (by simpa using ht) (getD_replicate_false _ _)⟩
  have := plan_run (K := K) hok' hok hsel t [] [] [] E H hB3 hB4 (fun i hi => by simp at hi) (fun j d hj => by simp [lk] at hj) h (fun i hi => by simp at hi) (fun i hi => by simp at hi) (fun i hi => by simp at hi) (Array.replicate ops.length false) a { w with drawn := w.drawn + 1 } inv0
    (fun i hi => by simp at hi) (fun i hi _ _ => getD_in (by simp; omega) (getD_replicate_false _ _)) ⟨a, φ, I, ⟨hs.dfr, hs.siz, fun t x hx => ?_, hs.st.drew1⟩, ⟨rfl, rfl, fun t _ => rfl⟩⟩
  · rw [hcnt, show min n ops.length + (ops.length - n) = ops.length by omega] at this
    simpa using this
  · obtain ⟨u, hu, hd⟩ := hs.env t x hx
    exact ⟨u, hu, (Keeps.drew1 w φ I).den hd⟩
end
theorem vd_node {C : Cx} {K : List PK} {ops : List Oper} {n : Nat} {R P es : List Nat} {ts : List Tree} {ds : List (Nat × Nat)} {E : Env} {H : Heap}
    (h : vR C ops H R ds E ∧ vP C ops H (fun ds E => match es with
    | [] => vq C K (ops.drop n) [] n E H
    | _ :: _ => vds C K ops n es ts ds E H) P ds E) : vd C K ops n (.node R P es ts) ds E H := by
  simp only [vd]; exact h
theorem vds_cons {C : Cx} {K : List PK} {ops : List Oper} {n x : Nat} {es : List Nat} {t : Tree} {ts : List Tree} {ds : List (Nat × Nat)} {E : Env} {H : Heap} :
    vds C K ops n (x :: es) (t :: ts) ds E H = ((match ops[x]? with
      | none => False
      | some o => AQ C.nr ds x [o] [.lp (SJv C (vd C K ops n t (dsPut o.dst x ds))), .bot (pOut C K ops)] E H) ∧ vds C K ops n es ts ds E H) := by first | (simp only [vds]; done) | (simp only [vds]; rfl)
theorem vds_nil {C : Cx} {K : List PK} {ops : List Oper} {n : Nat} {ts : List Tree} {ds : List (Nat × Nat)} {E : Env} {H : Heap} : vds C K ops n [] ts ds E H = True := by cases ts <;> simp only [vds]
theorem nr_P (C : Cx) : C.nr.P = C.P := rfl
theorem nr_fn (C : Cx) : C.nr.fn = C.fn := rfl
theorem nr_n (C : Cx) : C.nr.n = C.n := rfl
theorem nr_B (C : Cx) : C.nr.B = C.B := rfl
theorem nr_kp (C : Cx) : C.nr.kp = C.kp := rfl
theorem nr_ob (C : Cx) : C.nr.ob = C.ob := rfl
attribute [go_sem] vds_cons vds_nil vR vP avalG sameE nr_P nr_fn nr_n nr_B nr_kp nr_ob
end Go.AL
end

section
namespace Go.AL
open Go
section
variable {C : Cx} {K : List PK} {E : Env} {H : Heap}
theorem AQ.callI_g {ds : List (Nat × Nat)} {i : Nat} {d : Option Nat} {ty : TypeId} {pos : String} {af : Array Edge} {os : List Oper} {cal : Operand} {f : FuncId} {fs caps : List AV} {xs : List Operand} {ats : Array TypeId} {l : List AV} {r : AV} {gu : Option (Nat × Bool)} {G : Bool}
    (hok : dstOk C.n ({ dst := d, op := .call { callee := .value cal, args := xs.toArray, argTypes := ats }, type := ty, pos := pos, after := af, guard := gu } :: os) = true)
    (hG : gd ds E gu = some G) (hcal : ev E cal = some (.fn f fs caps)) (hl : evs E xs = some l) (hgs : G = true → gs l = true)
    (hc : G = true → ACall C.P f (fs ++ l.map AV.st ++ caps) H (fun r' H' => H' = H ∧ r' = r))
    (h : vq C K os (dsPut d i ds) (i + 1) (putE d (.opt G r) E) H) :
    AQ C ds i ({ dst := d, op := .call { callee := .value cal, args := xs.toArray, argTypes := ats }, type := ty, pos := pos, after := af, guard := gu } :: os) K E H := by
  obtain ⟨hd, hok'⟩ := dstOk_cons hok
  have hgo := AQ.go hok' h
  cases G with
  | true =>
    refine AQ.guard_yes hG ?_
    have hn : vq C [] [] (dsPut d i ds) (i + 1) (putE d r E) H = AQ C (dsPut d i ds) (i + 1) [] [] (putE d r E) H := rfl
    have key : ∀ os' : List Oper, AQ C (dsPut d i ds) (i + 1) os' K (putE d r E) H → dstOk C.n ({ dst := d, op := .call { callee := .value cal, args := xs.toArray, argTypes := ats }, type := ty, pos := pos, after := af, guard := none } :: os') = true →
        AQ C ds i ({ dst := d, op := .call { callee := .value cal, args := xs.toArray, argTypes := ats }, type := ty, pos := pos, after := af, guard := none } :: os') K E H := fun os' h' hok'' => AQ.callIA hok'' hcal hl (hgs rfl) (hc rfl) h'
    refine key os (AQ.imp (fun w φ I a => putE_imp fun u hu => ?_) hgo) ?_
    · simp only [AV.den]; exact ⟨fun _ => hu, fun h => by cases h⟩
    · simp only [dstOk, List.all_cons, Bool.and_eq_true] at hok ⊢
      exact hok
  | false =>
    refine AQ.guard_no hd hG ?_
    exact AQ.imp (fun w φ I a => putE_imp fun u hu => by simp only [AV.den] at hu ⊢; exact ⟨fun h => (by cases h), hu.2⟩) hgo
end
end Go.AL
end

section
namespace Go.AL
open Go
structure ACallN (P : Program) (nb : Nat) (f : FuncId) (args : List AV) (H : Heap) (R : AV → Heap → Prop) : Prop where
  ent : enters P f = true
  run : ∀ (w : World) (φ : Phi) (I : Nat → Prop) (vs : List Value), AV.dens w φ I args vs → Real w φ I H → VK P w I → Calls P f vs.toArray w (CPost ⟨w, ownB φ, I, φ, nb⟩ R)
structure YCallN (P : Program) (nb l : Nat) (args : List AV) (H : Heap) (R : AV → Heap → Prop) : Prop where
  run : ∀ (w : World) (φ : Phi) (I : Nat → Prop) (vs : List Value), AV.dens w φ I args vs → Real w φ I H → VK P w I →
    ∃ (fid : FuncId) (T : Array Value) (as bd : Code), (Instr.yield l vs.toArray).run P w = .ok (.round l fid T as bd) w ∧ RoundIn Fence.wide 3 P l fid T as bd w (CPost ⟨w, ownB φ, I, φ, nb⟩ R)
theorem ACallN.mono {P : Program} {nb : Nat} {f : FuncId} {args : List AV} {H : Heap} {R R' : AV → Heap → Prop} (h : ACallN P nb f args H R) (hr : ∀ r H', R r H' → R' r H') : ACallN P nb f args H R' :=
  ⟨h.ent, fun w φ I vs hd hR hV => (h.run w φ I vs hd hR hV).mono fun _ _ ⟨r, H', φ', I', v, h1, h2⟩ => ⟨r, H', φ', I', v, hr _ _ h1, h2⟩⟩
theorem YCallN.mono {P : Program} {nb l : Nat} {args : List AV} {H : Heap} {R R' : AV → Heap → Prop} (h : YCallN P nb l args H R) (hr : ∀ r H', R r H' → R' r H') : YCallN P nb l args H R' :=
  ⟨fun w φ I vs hd hR hV => let ⟨fid, T, as, bd, h1, h2⟩ := h.run w φ I vs hd hR hV; ⟨fid, T, as, bd, h1, h2.mono fun _ _ ⟨r, H', φ', I', v, h1, h2⟩ => ⟨r, H', φ', I', v, hr _ _ h1, h2⟩⟩⟩
mutual
/-- an id from nb on is named -/
def AV.ge (nb : Nat) : AV → Bool
  | .ob b _ => Nat.ble nb b
  | .oe b _ _ _ => Nat.ble nb b
  | .os b _ _ _ => Nat.ble nb b
  | .fn _ fs caps => AV.ges nb fs || AV.ges nb caps
  | .agg cs => AV.ges nb cs
  | .tup cs => AV.ges nb cs
  | .opt _ x => AV.ge nb x
  | .im _ => false
  | .ar _ => false
  | .top => false
  | .mp b => Nat.ble nb b
  | .wr _ x => AV.ge nb x
def AV.ges (nb : Nat) : List AV → Bool
  | [] => false
  | x :: xs => AV.ge nb x || AV.ges nb xs
end
theorem ble_false {a b : Nat} (h : Nat.ble a b = false) : b < a := by
  rcases Nat.lt_or_ge b a with h' | h'
  · exact h'
  · rw [Nat.ble_eq_true_of_le h'] at h; cases h
mutual
theorem AV.ge_den {w : World} {φ φ' : Phi} {I : Nat → Prop} {nb : Nat} (hφ : ∀ b', b' < nb → φ' b' = φ b') : ∀ (x : AV) (u : Value), x.ge nb = false → AV.den w φ I x u → AV.den w φ' I x u
  | .ob b' _, u, h, hd => by simp only [AV.ge] at h; simp only [AV.den] at hd ⊢; rw [hφ b' (ble_false h)]; exact hd
  | .oe b' _ _ _, u, h, hd => by simp only [AV.ge] at h; simp only [AV.den] at hd ⊢; rw [hφ b' (ble_false h)]; exact hd
  | .os b' _ _ _, u, h, hd => by simp only [AV.ge] at h; simp only [AV.den] at hd ⊢; rw [hφ b' (ble_false h)]; exact hd
  | .fn f fs caps, u, h, hd => by simp only [AV.ge, Bool.or_eq_false_iff] at h; simp only [AV.den] at hd ⊢; obtain ⟨us, vs, h1, h2, h3⟩ := hd; exact ⟨us, vs, AV.ges_dens hφ fs us h.1 h1, AV.ges_dens hφ caps vs h.2 h2, h3⟩
  | .agg cs, u, h, hd => by simp only [AV.ge] at h; simp only [AV.den] at hd ⊢; obtain ⟨us, h1, h2⟩ := hd; exact ⟨us, AV.ges_dens hφ cs us h h1, h2⟩
  | .tup cs, u, h, hd => by simp only [AV.ge] at h; simp only [AV.den] at hd ⊢; obtain ⟨us, h1, h2⟩ := hd; exact ⟨us, AV.ges_dens hφ cs us h h1, h2⟩
  | .opt g x, u, h, hd => by simp only [AV.ge] at h; simp only [AV.den] at hd ⊢; exact ⟨fun hg => AV.ge_den hφ x u h (hd.1 hg), hd.2⟩
  | .im x, u, _, hd => by simpa only [AV.den] using hd
  | .ar x, u, _, hd => by simpa only [AV.den] using hd
  | .top, _, _, _ => by simp only [AV.den]
  | .mp b', u, h, hd => by simp only [AV.ge] at h; simp only [AV.den] at hd ⊢; rw [hφ b' (ble_false h)]; exact hd
  | .wr k x, u, h, hd => by simp only [AV.ge] at h; simp only [AV.den] at hd ⊢; obtain ⟨v, h1, h2⟩ := hd; exact ⟨v, h1, AV.ge_den hφ x v h h2⟩
theorem AV.ges_dens {w : World} {φ φ' : Phi} {I : Nat → Prop} {nb : Nat} (hφ : ∀ b', b' < nb → φ' b' = φ b') : ∀ (xs : List AV) (us : List Value), AV.ges nb xs = false → AV.dens w φ I xs us → AV.dens w φ' I xs us
  | [], us, _, h => by simpa only [AV.dens] using h
  | x :: xs, us, h, hd => by
    simp only [AV.ges, Bool.or_eq_false_iff] at h
    simp only [AV.dens] at hd ⊢
    obtain ⟨u, us', e, h1, h2⟩ := hd
    exact ⟨u, us', e, AV.ge_den hφ x u h.1 h1, AV.ges_dens hφ xs us' h.2 h2⟩
end
def killGE (nb : Nat) : Env → Env
  | [] => []
  | (i, x) :: r => bif x.ge nb then (i, .top) :: killGE nb r else (i, x) :: killGE nb r
theorem killGE_lk {w w' : World} {φ φ' : Phi} {I I' : Nat → Prop} {nb : Nat} (hφ : ∀ b', b' < nb → φ' b' = φ b') (hw : ∀ g, I g → w'.heap[g]? = w.heap[g]?) (hI : ∀ g, I g → I' g)
    (hs : ∀ b g n, b < nb → φ b = some (some g) → shaped w g n → shaped w' g n) : ∀ (E : Env) (i : Nat) (x : AV), lk (killGE nb E) i = some x → ∃ y, lk E i = some y ∧ ∀ u, AV.den w φ I y u → AV.den w' φ' I' x u
  | [], i, x, h => by simp [killGE, lk] at h
  | (j, y) :: r, i, x, h => by
    simp only [killGE] at h
    cases hm : y.ge nb with
    | true =>
      rw [hm] at h
      simp only [cond_true, lk] at h ⊢
      cases hb : Nat.beq j i with
      | true =>
        rw [hb] at h
        simp only [cond_true, Option.some.injEq] at h ⊢
        subst h
        exact ⟨y, rfl, fun u _ => by simp only [AV.den]⟩
      | false => rw [hb] at h; exact killGE_lk hφ hw hI hs r i x h
    | false =>
      rw [hm] at h
      simp only [cond_false, lk] at h ⊢
      cases hb : Nat.beq j i with
      | true =>
        rw [hb] at h
        simp only [cond_true, Option.some.injEq] at h ⊢
        subst h
        refine ⟨y, rfl, fun u hu => ?_⟩
        have h1 := AV.ge_den (φ' := fun b => if b < nb then φ b else none) (fun b' hb' => by simp [hb']) y u hm hu
        refine AV.den_mono hw hI (fun b p hb => ?_) (fun b g n hb hsh => ?_) y u h1
        · by_cases hlt : b < nb
          · rw [hφ b hlt]; simpa [hlt] using hb
          · simp [hlt] at hb
        · by_cases hlt : b < nb
          · exact hs b g n hlt (by simpa [hlt] using hb) hsh
          · simp [hlt] at hb
      | false => rw [hb] at h; exact killGE_lk hφ hw hI hs r i x h
def lowSame (nb : Nat) (H H' : Heap) : Prop := ∀ b, b < nb → (lk H' b).isSome = (lk H b).isSome
theorem lowSame.refl (nb : Nat) (H : Heap) : lowSame nb H H := fun _ _ => rfl
theorem St.afterN {B : Bs} {φ φ1 : Phi} {I I1 : Nat → Prop} {H H1 : Heap} {w w1 : World} {nb : Nat} (h : St B φ I H w) (hnb : B.nb ≤ nb) (h1 : St ⟨w, ownB φ, I, φ, nb⟩ φ1 I1 H1 w1) (hlow : lowSame nb H H1) :
    St B φ1 I1 H1 w1 ∧ (∀ b, b < nb → φ1 b = φ b) ∧ (∀ g, I g → w1.heap[g]? = w.heap[g]?) ∧ (∀ g, I g → I1 g) ∧ ∀ b g n, b < nb → φ b = some (some g) → shaped w g n → shaped w1 g n := by
  have hφ : ∀ b, b < nb → φ1 b = φ b := fun b hb => by
    have d1 := h1.real.dom b
    have d0 := h.real.dom b
    have hl := hlow b hb
    cases hl1 : lk H1 b with
    | none =>
      rw [hl1] at hl d1
      cases hp : φ1 b with
      | some _ => rw [hp] at d1; cases d1
      | none =>
        rw [← hl] at d0
        cases h0 : φ b with
        | some _ => rw [h0] at d0; cases d0
        | none => rfl
    | some o =>
      rw [hl1] at hl
      rw [← hl] at d0
      cases h0 : φ b with
      | none => rw [h0] at d0; cases d0
      | some p => exact h1.phx b p o hb h0 hl1
  have hkI : ∀ g, I g → w1.heap[g]? = w.heap[g]? := fun g hg => h1.ext.keep g (h.real.imm g hg) (fun ⟨b, hb⟩ => (h.real.off b g hb).1 hg)
  refine ⟨⟨h1.real, h.ext.trans h1.ext (fun g ⟨b, hb⟩ => h.ownx b g hb), fun b g hb => ?_, fun g hg => ?_, fun g hg => h1.immo g (h.immo g hg), fun b p o hb h0 hl => ?_⟩, hφ, hkI, h1.immo, fun b g n hb hp hsh => ?_⟩
  · rcases h1.ownx b g hb with ⟨b', hb'⟩ | h2
    · exact h.ownx b' g hb'
    · exact .inr (Nat.le_trans h.ext.size h2)
  · rcases h1.immx g hg with h2 | ⟨b', hb'⟩ | h2
    · exact h.immx g h2
    · exact .inr (h.ownx _ g hb')
    · exact .inr (.inr (Nat.le_trans h.ext.size h2))
  · have hb' : b < nb := by omega
    rw [hφ b hb']
    have hl2 := hlow b hb'
    rw [hl] at hl2
    cases hl3 : lk H b with
    | none => rw [hl3] at hl2; cases hl2
    | some o' => exact h.phx b p o' hb h0 hl3
  · obtain ⟨cc, ee, hcc, hn⟩ := hsh
    obtain ⟨c', fz', h2, h3⟩ := h1.ext.form g cc ee _ hcc
    have hp1 : φ1 b = some (some g) := (hφ b hb).trans hp
    have hd1 := h1.real.dom b
    rw [hp1] at hd1
    cases hl : lk H1 b with
    | none => rw [hl] at hd1; cases hd1
    | some o =>
      have hat := h1.real.own b o _ hl hp1
      have hfz : fz' = (0, 0) := by
        cases o with
        | var e cs =>
          simp only [Ob.at] at hat
          obtain ⟨g', us, hg', h4, _⟩ := hat
          cases hg'
          exact h4.fz h2
        | vec e es rows =>
          simp only [Ob.at] at hat
          rcases hat with ⟨h5, _⟩ | ⟨g', vss, rest, hg', h4, _⟩
          · cases h5
          · cases hg'; rw [h2] at h4; cases h4; rfl
        | lp l n st fn q ps E =>
          simp only [Ob.at] at hat
          obtain ⟨h0, T, D, fid, _, h4, _⟩ := hat
          cases h0; rw [h2] at h4; cases h4
      subst hfz
      exact ⟨c', ee, h2, by rw [h3]; exact hn⟩
theorem Sim.afterN {C : Cx} {φ φ1 : Phi} {I I1 : Nat → Prop} {E : Env} {H H1 : Heap} {a : Act} {w w1 : World} {nb : Nat} (h : Sim C φ I E H a w) (hnb : C.B.nb ≤ nb) (h1 : St ⟨w, ownB φ, I, φ, nb⟩ φ1 I1 H1 w1) (hlow : lowSame nb H H1) :
    Sim C φ1 I1 (killGE nb E) H1 a w1 := by
  obtain ⟨hS, hφ, hkI, hI, hsh⟩ := h.st.afterN hnb h1 hlow
  refine ⟨h.dfr.mono hkI hI, h.siz, fun i x hx => ?_, hS⟩
  obtain ⟨y, hy, hyd⟩ := killGE_lk hφ hkI hI hsh E i x hx
  obtain ⟨u, hu, hd⟩ := h.env i y hy
  exact ⟨u, hu, hyd u hd⟩
section
variable {C : Cx} {K : List PK} {E : Env} {H : Heap}
theorem AQ.callN (nb : Nat) {ds : List (Nat × Nat)} {i : Nat} {d : Option Nat} {ty : TypeId} {pos : String} {af : Array Edge} {os : List Oper} {cal : Operand} {f : FuncId} {fs caps : List AV} {xs : List Operand} {ats : Array TypeId} {l : List AV} {R : AV → Heap → Prop}
    (hnb : Nat.ble C.B.nb nb = true)
    (hok : dstOk C.n ({ dst := d, op := .call { callee := .value cal, args := xs.toArray, argTypes := ats }, type := ty, pos := pos, after := af, guard := none } :: os) = true)
    (hcal : ev E cal = some (.fn f fs caps)) (hl : evs E xs = some l) (hgs : gs l = true) (hc : ACallN C.P nb f (fs ++ l.map AV.st ++ caps) H R) (hlow : ∀ r H', R r H' → lowSame nb H H')
    (hgo : ∀ r H', R r H' → AQ C (dsPut d i ds) (i + 1) os K (putE d r (killGE nb E)) H') :
    AQ C ds i ({ dst := d, op := .call { callee := .value cal, args := xs.toArray, argTypes := ats }, type := ty, pos := pos, after := af, guard := none } :: os) K E H := by
  obtain ⟨hd, hok'⟩ := dstOk_cons hok
  unfold AQ at hgo ⊢
  refine AO.step (o := { dst := d, op := .call { callee := .value cal, args := xs.toArray, argTypes := ats }, type := ty, pos := pos, after := af, guard := none }) fun ops φ I a w hds _ hs Kn hKn => ?_
  have hw : Region.wanted { dst := d, op := .call { callee := .value cal, args := xs.toArray, argTypes := ats }, type := ty, pos := pos, after := af, guard := none } (yielded ops a.tmps) = true := by simp [Region.wanted]
  rw [if_pos hw]
  have hcv := ev_sound hs.env hcal
  simp only [AV.den] at hcv
  obtain ⟨fus, us, hfus, hus, hcalv⟩ := hcv
  have hden : AV.dens w φ I (fs ++ l.map AV.st ++ caps) (fus ++ xs.map a.eval ++ us) := AQ.callHA.adens_append _ _ _ _ (AQ.callHA.adens_append _ _ _ _ hfus (evs_sound hs.env _ _ hl hgs)) hus
  have hrun : (execOp a.eval { dst := d, op := .call { callee := .value cal, args := xs.toArray, argTypes := ats }, type := ty, pos := pos, after := af, guard := none }).run C.P w = .ok (.enter f (fus ++ xs.map a.eval ++ us).toArray) w := by
    have : execOp a.eval { dst := d, op := .call { callee := .value cal, args := xs.toArray, argTypes := ats }, type := ty, pos := pos, after := af, guard := none } = (do let d ← Deferred.ofValue (a.eval cal) (xs.toArray.map a.eval); invoke d.target d.args) := rfl
    rw [this, hcalv, ofValue_fn (t := ty) hc.ent]
    simp
  unfold Oper.wp
  rw [hrun, Oper.upon_enter]
  refine (hc.run w φ I _ hden hs.st.real hs.st.vk).mono fun e w' ⟨r, H1, φ1, I1, v, hr, he, hdv, hS⟩ => ?_
  subst he
  have hs1 := hs.afterN (Nat.le_of_ble_eq_true hnb) hS (hlow r H1 hr)
  exact hKn _ _ φ1 I1 _ _ (hgo r H1 hr) (hs1.put hs1.st (Keeps.refl _ _ _) hd hdv)
abbrev Yl (l : Nat) : AV := .im (.v (.func (.yield l) #[] #[]))
theorem AQ.yieldN (nb : Nat) {ds : List (Nat × Nat)} {i : Nat} {d : Option Nat} {ty : TypeId} {pos : String} {af : Array Edge} {os : List Oper} {cal : Operand} {l0 : Nat} {xs : List Operand} {ats : Array TypeId} {l : List AV} {R : AV → Heap → Prop}
    (hnb : Nat.ble C.B.nb nb = true)
    (hok : dstOk C.n ({ dst := d, op := .call { callee := .value cal, args := xs.toArray, argTypes := ats }, type := ty, pos := pos, after := af, guard := none } :: os) = true)
    {cv : AV} (hcal : ev E cal = some cv) (hcv : cv.g = true ∧ cv.st = Yl l0) (hl : evs E xs = some l) (hgs : gs l = true) (hc : YCallN C.P nb l0 (l.map AV.st) H R) (hlow : ∀ r H', R r H' → lowSame nb H H')
    (hgo : ∀ r H', R r H' → AQ C (dsPut d i ds) (i + 1) os K (putE d r (killGE nb E)) H') :
    AQ C ds i ({ dst := d, op := .call { callee := .value cal, args := xs.toArray, argTypes := ats }, type := ty, pos := pos, after := af, guard := none } :: os) K E H := by
  obtain ⟨hd, hok'⟩ := dstOk_cons hok
  unfold AQ at hgo ⊢
  refine AO.stepO (o := { dst := d, op := .call { callee := .value cal, args := xs.toArray, argTypes := ats }, type := ty, pos := pos, after := af, guard := none }) fun ops φ I a w hds _ hs Kn hKn => ?_
  have hw : Region.wanted { dst := d, op := .call { callee := .value cal, args := xs.toArray, argTypes := ats }, type := ty, pos := pos, after := af, guard := none } (yielded ops a.tmps) = true := by simp [Region.wanted]
  rw [if_pos hw]
  have hcv' := st_den (ev_sound hs.env hcal) hcv.1
  rw [hcv.2] at hcv'
  simp only [AV.den, IV.den] at hcv'
  obtain ⟨hcalv, _⟩ := hcv'
  have hden := evs_sound hs.env _ _ hl hgs
  obtain ⟨fid, T, as, bd, hy, hro⟩ := hc.run w φ I _ hden hs.st.real hs.st.vk
  refine .inr ⟨l0, fid, T, as, bd, ?_, hro.mono fun e w' ⟨r, H1, φ1, I1, v, hr, he, hdv, hS⟩ => ?_⟩
  · have : execOp a.eval { dst := d, op := .call { callee := .value cal, args := xs.toArray, argTypes := ats }, type := ty, pos := pos, after := af, guard := none } = (do let d ← Deferred.ofValue (a.eval cal) (xs.toArray.map a.eval); invoke d.target d.args) := rfl
    rw [this, hcalv]
    simp only [Deferred.ofValue, Sem.run_bind, Sem.run_pure, Result.andThen_ok, invoke]
    rw [← hy]
    simp
  · subst he
    have hs1 := hs.afterN (Nat.le_of_ble_eq_true hnb) hS (hlow r H1 hr)
    exact hKn _ _ φ1 I1 _ _ (hgo r H1 hr) (hs1.put hs1.st (Keeps.refl _ _ _) hd hdv)
end
theorem ACallN.walk {P : Program} {f : FuncId} {fn : Func} {c : Code} {n nb : Nat} {args : List AV} {H : Heap} {R : AV → Heap → Prop} (kp ob : List Nat) (hf : P.funcs[f]? = some fn) (hb : fn.body = some c) (hn : fn.ntmps = n)
    (hname : enters P f = true) (hargs : Nat.ble args.length n = true)
    (h : ∀ (w : World) (own I0 : Nat → Prop) (φ0 : Phi) (lay : Lay P ⟨w, own, I0, φ0, nb⟩), AP ⟨P, fn, n, ⟨w, own, I0, φ0, nb⟩, kp, ob, R, none, fun _ _ => False, [], lay⟩ [] [] (enum 0 args) H) : ACallN P nb f args H R := by
  refine ⟨hname, fun w φ I vs hd hR hV => ?_⟩
  have hl := adens_len args vs hd
  have hal := Nat.le_of_ble_eq_true hargs
  have h0 := h w (ownB φ) I φ (hR.lay hV _)
  unfold AP at h0
  simp only [codeAt, hb, Option.getD_some] at h0
  refine Calls.mono ?_ fun e w' he => CPostX.only (C := ⟨P, fn, n, ⟨w, ownB φ, I, φ, nb⟩, kp, ob, R, none, fun _ _ => False, [], hR.lay hV _⟩) (fun _ _ h => h) he
  refine calls_of_bot (C := ⟨P, fn, n, ⟨w, ownB φ, I, φ, nb⟩, kp, ob, R, none, fun _ _ => False, [], hR.lay hV _⟩) hf hb rfl (h0 φ I _ w ⟨Marks.nil, ?_, fun i x hx => ?_, real_st hR _⟩)
  · simp only [Array.size_append, List.size_toArray, Array.size_replicate, hn]; omega
  · obtain ⟨j, rfl, hj⟩ := enum_lk args 0 i x hx
    obtain ⟨u, hu, hdu⟩ := adens_get args vs j x hd hj
    refine ⟨u, ?_, hdu⟩
    have hlt : j < vs.length := by
      rcases Nat.lt_or_ge j vs.length with h | h
      · exact h
      · rw [List.getElem?_eq_none h] at hu; cases hu
    rw [Nat.zero_add, Array.getElem?_append_left (by simpa using hlt)]
    simpa using hu
attribute [go_sem] AV.ge AV.ges killGE
end Go.AL
end

section
namespace Go.AL
open Go
section
variable {w : World} {φ : Phi} {I : Nat → Prop} {l : Nat} {r : Loop} {o' : Obj}
theorem shaped_putL (hl : w.heap[l]? = some (.loop r)) (g n : Nat) (h : shaped w g n) : shaped (w.putObj l o') g n := by
  obtain ⟨c, e, hc, hn⟩ := h
  have hg : g ≠ l := fun h => by subst h; rw [hl] at hc; cases hc
  exact ⟨c, e, (World.putObj_heap_other hg).trans hc, hn⟩
theorem keeps_putL (hl : w.heap[l]? = some (.loop r)) (hI : ¬ I l) : Keeps w φ I (w.putObj l o') φ I :=
  ⟨fun g hg => World.putObj_heap_other (fun e => hI (e ▸ hg)), fun _ h => h, fun _ _ h => h, fun _ g n _ => shaped_putL hl g n⟩
theorem ext_putL {own : Nat → Prop} (hl : w.heap[l]? = some (.loop r)) (ho : own l) : Ext own w (w.putObj l o') :=
  ⟨by simp, fun g _ hn => World.putObj_heap_other (fun e => hn (e ▸ ho)), fun g c e fz hc => ⟨c, fz, (World.putObj_heap_other (fun e => by subst e; rw [hl] at hc; cases hc)).trans hc, rfl⟩, rfl, rfl, rfl⟩
theorem St.putL {B : Bs} {H H' : Heap} (h : St B φ I H w) {b : Nat} (hb : φ b = some (some l)) (hl : w.heap[l]? = some (.loop r)) {ob : Ob} (hlb : lk H' b = some ob) (hat : ob.at (w.putObj l o') φ I (some l))
    (hlo : ∀ b', b' ≠ b → lk H' b' = lk H b') : St B φ I H' (w.putObj l o') ∧ Keeps w φ I (w.putObj l o') φ I := by
  have hI : ¬ I l := (h.real.off b l hb).1
  have k : Keeps w φ I (w.putObj l o') φ I := keeps_putL hl hI
  have hdb : ∃ o, lk H b = some o := by
    have := h.real.dom b
    rw [hb] at this
    cases hq : lk H b with
    | none => rw [hq] at this; cases this
    | some o => exact ⟨o, rfl⟩
  refine ⟨⟨⟨fun b' => ?_, fun b' o p hl' hp => ?_, fun b' g hp => ?_, h.real.inj, fun g hg => ?_⟩, h.ext.trans (ext_putL (own := fun g => g = l) hl rfl) (fun g hg => by subst hg; exact h.ownx b _ hb), h.ownx, h.immx, h.immo, fun b' p o hlt h0 hl' => ?_⟩, k⟩
  · by_cases hbb : b' = b
    · subst hbb; rw [hlb, hb]; rfl
    · rw [hlo b' hbb]; exact h.real.dom b'
  · by_cases hbb : b' = b
    · subst hbb
      rw [hlb] at hl'; cases hl'
      rw [hb] at hp; cases hp
      exact hat
    · rw [hlo b' hbb] at hl'
      exact Ob.at_mono k.im k.I k.phi k.sh (fun g hg => World.putObj_heap_other (fun e => by subst e; subst hg; exact hbb (h.real.inj b' b g hp hb))) (h.real.own b' o p hl' hp)
  · have := h.real.off b' g hp
    exact ⟨this.1, by simpa using this.2⟩
  · have := h.real.imm g hg
    simpa using this
  · by_cases hbb : b' = b
    · subst hbb
      obtain ⟨o1, ho1⟩ := hdb
      exact h.phx b' p o1 hlt h0 ho1
    · rw [hlo b' hbb] at hl'; exact h.phx b' p o hlt h0 hl'
end
/-- the slots of a round: the parameters ahead of the record's own -/
def zipP : List Tmp → List AV → Env → Env
  | t :: ts, x :: xs, E => zipP ts xs ((t, x) :: E)
  | _, _, E => E
theorem zipP_env {w : World} {φ : Phi} {I : Nat → Prop} : ∀ (ps : List Tmp) (args : List AV) (vs : List Value) (E : Env) (T : Array Value), AV.dens w φ I args vs → ps.length = args.length → (∀ t ∈ ps, t < T.size) →
    (∀ i x, lk E i = some x → ∃ u, T[i]? = some u ∧ AV.den w φ I x u) →
    ((ps.zip vs).foldl (fun tmps (p : Tmp × Value) => tmps.setIfInBounds p.1 p.2) T).size = T.size ∧
    ∀ i x, lk (zipP ps args E) i = some x → ∃ u, ((ps.zip vs).foldl (fun tmps (p : Tmp × Value) => tmps.setIfInBounds p.1 p.2) T)[i]? = some u ∧ AV.den w φ I x u
  | [], [], vs, E, T, h, _, _, hE => by simp only [AV.dens] at h; subst h; exact ⟨rfl, hE⟩
  | [], _ :: _, _, _, _, _, h, _, _ => by simp at h
  | _ :: _, [], _, _, _, _, h, _, _ => by simp at h
  | t :: ts, x :: xs, vs, E, T, h, hlen, hlt, hE => by
    simp only [AV.dens] at h
    obtain ⟨u, us, rfl, h1, h2⟩ := h
    simp only [List.zip_cons_cons, List.foldl_cons, zipP]
    have := zipP_env ts xs us ((t, x) :: E) (T.setIfInBounds t u) h2 (by simpa using hlen) (fun t' ht' => by simpa using hlt t' (by simp [ht'])) (fun i y hy => by
      simp only [lk] at hy
      cases hb : Nat.beq t i with
      | true =>
        rw [hb] at hy
        have := Nat.eq_of_beq_eq_true hb
        subst this
        simp only [cond_true, Option.some.injEq] at hy
        subst hy
        exact ⟨u, by rw [Array.getElem?_setIfInBounds_self_of_lt (hlt t (by simp))], h1⟩
      | false =>
        rw [hb] at hy
        have hne : t ≠ i := fun e => by subst e; simp at hb
        obtain ⟨v, hv, hd⟩ := hE i y hy
        exact ⟨v, by rw [Array.getElem?_setIfInBounds_ne hne]; exact hv, hd⟩)
    refine ⟨?_, this.2⟩
    rw [this.1]; simp
theorem foldl_zip (ps : List Tmp) (vs : List Value) (T : Array Value) :
    (ps.toArray.zip vs.toArray).foldl (fun tmps (t, a) => tmps.setIfInBounds t a) T = (ps.zip vs).foldl (fun tmps (p : Tmp × Value) => tmps.setIfInBounds p.1 p.2) T := by
  simp
def begQ (C : Cx) (l : Nat) (p : List Nat) : Exit → Act → World → Prop :=
  Exit.then (fun a₁ w₁ => ∃ w₂, (Instr.beginRound l).run C.P w₁ = .ok () w₂ ∧ wpR (some l) C.P (codeAt C.fn (1 :: p)) (roundPost C.P l (CPost C.B C.R)) a₁ w₂) (fun _ _ _ => False)
def endQ (C : Cx) (l : Nat) : Exit → Act → World → Prop := roundPost C.P l (CPost C.B C.R)
section
variable {C : Cx} {K : List PK} {E : Env} {H : Heap}
theorem AE.begin {l b n : Nat} {fn : Func} {p : List Nat} {ps : List Tmp} {EL : Env} (hrd : C.rd = some l) (hl : lk H b = some (.lp l n .ready fn p ps EL)) (q : List Nat)
    (h : AP C (1 :: q) [.bot (endQ C l)] E (hset H b (.lp l n .busy fn p ps EL))) : AE C .normal [.bot (begQ C l q)] E H := by
  unfold AE
  unfold AP at h
  intro φ I a w hs
  simp only [List.map_cons, List.map_nil, PK.ki, denK, begQ, Exit.then]
  have hd := hs.st.real.dom b
  rw [hl] at hd
  cases hp : φ b with
  | none => rw [hp] at hd; cases hd
  | some p0 =>
    have hat := hs.st.real.own b _ p0 hl hp
    simp only [Ob.at] at hat
    obtain ⟨rfl, T, D, fid, h1, h2, h3⟩ := hat
    refine ⟨_, run_beginRound h2 rfl, ?_⟩
    obtain ⟨hS, k⟩ := hs.st.putL (o' := .loop { state := LpSt.busy.state, pending := LpSt.busy.pend, fn := fid, tmps := T, params := ps.toArray, assign := child 0 (codeAt fn p), body := child 1 (codeAt fn p), defers := D }) (H' := hset H b (.lp l n .busy fn p ps EL)) hp h2 (lk_hset_same H b _ hl) (by
      simp only [Ob.at]
      refine ⟨trivial, T, D, fid, h1, World.putObj_heap_same (Array.getElem?_eq_some_iff.1 h2).1, fun i x hx => ?_⟩
      obtain ⟨u, hu, hd⟩ := h3 i x hx
      exact ⟨u, hu, (keeps_putL (φ := φ) h2 (hs.st.real.off b l hp).1).den hd⟩) (fun b' hb' => lk_hset_other H b b' _ hb')
    have h4 := h φ I a _ ⟨hs.dfr.mono k.im k.I, hs.siz, fun i x hx => let ⟨u, hu, hd⟩ := hs.env i x hx; ⟨u, hu, k.den hd⟩, hS⟩
    rw [hrd] at h4
    exact h4
theorem round_end {l b n : Nat} {fn : Func} {p : List Nat} {ps : List Tmp} {EL : Env} {φ : Phi} {I : Nat → Prop} {a : Act} {w : World} (hs : Sim C φ I E H a w) (jump : Option Code) (st : LpSt)
    (hst : st.state = (if jump.isNone then .ready else .done)) (hpe : st.pend = jump) (hl : lk H b = some (.lp l n .busy fn p ps EL)) (hR : C.R (.im (.v (.bool jump.isNone))) (hset H b (.lp l n st fn p ps EL))) :
    ∃ v w', (Instr.endRound l jump).run C.P w = .ok v w' ∧ CPost C.B C.R (.returned v) w' := by
  have hd := hs.st.real.dom b
  rw [hl] at hd
  cases hp : φ b with
  | none => rw [hp] at hd; cases hd
  | some p0 =>
    have hat := hs.st.real.own b _ p0 hl hp
    simp only [Ob.at] at hat
    obtain ⟨rfl, T, D, fid, h1, h2, h3⟩ := hat
    refine ⟨_, _, run_endRound jump h2, ?_⟩
    obtain ⟨hS, k⟩ := hs.st.putL (o' := .loop { state := st.state, pending := st.pend, fn := fid, tmps := T, params := ps.toArray, assign := child 0 (codeAt fn p), body := child 1 (codeAt fn p), defers := D }) (H' := hset H b (.lp l n st fn p ps EL)) hp h2 (lk_hset_same H b _ hl) (by
      simp only [Ob.at]
      refine ⟨trivial, T, D, fid, h1, World.putObj_heap_same (Array.getElem?_eq_some_iff.1 h2).1, fun i x hx => ?_⟩
      obtain ⟨u, hu, hd⟩ := h3 i x hx
      exact ⟨u, hu, (keeps_putL (φ := φ) h2 (hs.st.real.off b l hp).1).den hd⟩) (fun b' hb' => lk_hset_other H b b' _ hb')
    rw [← hst, ← hpe]
    rw [hpe] at hS ⊢
    refine ⟨_, _, φ, I, _, hR, rfl, by simp only [AV.den, IV.den]; exact ⟨trivial, rfl⟩, ?_⟩
    exact hS
theorem AE.roundEnd {l b n : Nat} {fn : Func} {p : List Nat} {ps : List Tmp} {EL : Env} (hl : lk H b = some (.lp l n .busy fn p ps EL)) (hR : C.R (.im (.v (.bool true))) (hset H b (.lp l n .ready fn p ps EL))) :
    AE C .normal [.bot (endQ C l)] E H := by
  unfold AE
  intro φ I a w hs
  simp only [List.map_cons, List.map_nil, PK.ki, denK, endQ, roundPost]
  exact round_end hs none .ready rfl rfl hl hR
theorem AE.roundRet {l b n : Nat} {fn : Func} {p : List Nat} {ps : List Tmp} {EL : Env} (hl : lk H b = some (.lp l n .busy fn p ps EL)) (hR : C.R (.im (.v (.bool false))) (hset H b (.lp l n (.done .ret) fn p ps EL))) :
    AE C .ret [.bot (endQ C l)] E H := by
  unfold AE
  intro φ I a w hs
  simp only [List.map_cons, List.map_nil, PK.ki, denK, endQ, roundPost]
  exact round_end hs (some .ret) (.done .ret) rfl rfl hl hR
end
theorem YCallN.walk {P : Program} {fn : Func} {n nb l b : Nat} {p : List Nat} {ps : List Tmp} {EL : Env} {args : List AV} {H : Heap} {R : AV → Heap → Prop} (kp ob : List Nat)
    (hl : lk H b = some (.lp l n .ready fn p ps EL)) (hps : Nat.beq ps.length args.length = true) (hlt : (ps.all fun t => Nat.blt t n) = true)
    (h : ∀ (w : World) (own I0 : Nat → Prop) (φ0 : Phi) (lay : Lay P ⟨w, own, I0, φ0, nb⟩), AP ⟨P, fn, n, ⟨w, own, I0, φ0, nb⟩, kp, ob, R, some l, fun _ _ => False, [], lay⟩ (0 :: p) [.bot (begQ ⟨P, fn, n, ⟨w, own, I0, φ0, nb⟩, kp, ob, R, some l, fun _ _ => False, [], lay⟩ l p)] (zipP ps args EL) H) : YCallN P nb l args H R := by
  refine ⟨fun w φ I vs hd hR hV => ?_⟩
  have hdm := hR.dom b
  rw [hl] at hdm
  cases hp : φ b with
  | none => rw [hp] at hdm; cases hdm
  | some p0 =>
    have hat := hR.own b _ p0 hl hp
    simp only [Ob.at] at hat
    obtain ⟨rfl, T, D, fid, h1, h2, h3⟩ := hat
    have hvl := adens_len args vs hd
    have hpl := Nat.eq_of_beq_eq_true hps
    refine ⟨fid, _, _, _, run_yield h2 (by simp [hvl, hpl]), ?_⟩
    have h0 := h w (ownB φ) I φ (hR.lay hV _)
    unfold AP at h0
    have hz := zipP_env ps args vs EL T hd hpl (fun t ht => by
      have := List.all_eq_true.1 hlt t ht
      rw [Nat.blt_eq] at this
      rw [h1]; exact this) h3
    have h4 := h0 φ I { tmps := (ps.zip vs).foldl (fun tmps (p : Tmp × Value) => tmps.setIfInBounds p.1 p.2) T, defers := [] } w ⟨Marks.nil, by rw [hz.1]; exact h1, hz.2, real_st hR _⟩
    have hF : ∀ (c : Code) (Q : Exit → Act → World → Prop) (a : Act) (w : World), wpR (some l) P c Q a w → c.wpIn (Fence.wide.inRound l) 3 P Q a w := fun _ _ _ _ h => h
    refine roundIn_of_wpIn (F := Fence.wide) (n := 3) trivial (hF _ _ _ _ ?_)
    rw [foldl_zip]
    exact h4
end Go.AL
end

section
namespace Go.AL
open Go
mutual
theorem AV.ge_men {nb b : Nat} (h : nb ≤ b) : ∀ (x : AV), x.ge nb = false → x.men b = false
  | .ob b' _, hx => by simp only [AV.ge, AV.men] at hx ⊢; exact beq_ne (by have := ble_false hx; omega)
  | .oe b' _ _ _, hx => by simp only [AV.ge, AV.men] at hx ⊢; exact beq_ne (by have := ble_false hx; omega)
  | .os b' _ _ _, hx => by simp only [AV.ge, AV.men] at hx ⊢; exact beq_ne (by have := ble_false hx; omega)
  | .fn f fs caps, hx => by simp only [AV.ge, AV.men, Bool.or_eq_false_iff] at hx ⊢; exact ⟨AV.ges_mens h fs hx.1, AV.ges_mens h caps hx.2⟩
  | .agg cs, hx => by simp only [AV.ge, AV.men] at hx ⊢; exact AV.ges_mens h cs hx
  | .tup cs, hx => by simp only [AV.ge, AV.men] at hx ⊢; exact AV.ges_mens h cs hx
  | .opt g x, hx => by simp only [AV.ge, AV.men] at hx ⊢; exact AV.ge_men h x hx
  | .im x, _ => rfl
  | .ar x, _ => rfl
  | .top, _ => rfl
  | .mp b', hx => by simp only [AV.ge, AV.men] at hx ⊢; exact beq_ne (by have := ble_false hx; omega)
  | .wr k x, hx => by simp only [AV.ge, AV.men] at hx ⊢; exact AV.ge_men h x hx
theorem AV.ges_mens {nb b : Nat} (h : nb ≤ b) : ∀ (xs : List AV), AV.ges nb xs = false → AV.mens b xs = false
  | [], _ => rfl
  | x :: xs, hx => by simp only [AV.ges, AV.mens, Bool.or_eq_false_iff] at hx ⊢; exact ⟨AV.ge_men h x hx.1, AV.ges_mens h xs hx.2⟩
end
theorem killGE_men {nb b : Nat} (h : nb ≤ b) : ∀ (E : Env) (i : Nat) (x : AV), lk (killGE nb E) i = some x → x.men b = false
  | [], i, x, hx => by simp [killGE, lk] at hx
  | (j, y) :: r, i, x, hx => by
    simp only [killGE] at hx
    cases hm : y.ge nb with
    | true =>
      rw [hm] at hx
      simp only [cond_true, lk] at hx
      cases hb : Nat.beq j i with
      | true => rw [hb] at hx; simp only [cond_true, Option.some.injEq] at hx; subst hx; rfl
      | false => rw [hb] at hx; exact killGE_men h r i x hx
    | false =>
      rw [hm] at hx
      simp only [cond_false, lk] at hx
      cases hb : Nat.beq j i with
      | true => rw [hb] at hx; simp only [cond_true, Option.some.injEq] at hx; subst hx; exact AV.ge_men h y hm
      | false => rw [hb] at hx; exact killGE_men h r i x hx
theorem St.putOut {B : Bs} {φ : Phi} {I : Nat → Prop} {H : Heap} {w : World} {l : Nat} {r : Loop} {o' : Obj} (h : St B φ I H w) (hl : w.heap[l]? = some (.loop r)) (hI : ¬ I l) (hφ : ∀ b, φ b ≠ some (some l)) (ho : B.own l ∨ B.w0.heap.size ≤ l) :
    St B φ I H (w.putObj l o') ∧ Keeps w φ I (w.putObj l o') φ I := by
  have k : Keeps w φ I (w.putObj l o') φ I := keeps_putL hl hI
  refine ⟨⟨⟨h.real.dom, fun b' o p hl' hp => ?_, fun b' g hp => ?_, h.real.inj, fun g hg => ?_⟩, h.ext.trans (ext_putL (own := fun g => g = l) hl rfl) (fun g hg => by subst hg; exact ho), h.ownx, h.immx, h.immo, h.phx⟩, k⟩
  · exact Ob.at_mono k.im k.I k.phi k.sh (fun g hg => World.putObj_heap_other (fun e => by subst e; subst hg; exact hφ b' hp)) (h.real.own b' o p hl' hp)
  · have := h.real.off b' g hp
    exact ⟨this.1, by simpa using this.2⟩
  · have := h.real.imm g hg
    simpa using this
def rangeEnd (C : Cx) (K : List PK) (E : Env) (H : Heap) : LpSt → Prop
  | .ready => AE C .normal K E H
  | .done .ret => AE C .ret K E H
  | .done (.exit id) => AE C (.exit id) K E H
  | _ => False
def rdOk (C : Cx) (H : Heap) (b0 : Nat) : Prop := match C.rd with
  | none => C.ds = []
  | some l0 => match lk H b0 with
    | some (.lp l1 _ _ _ _ _ _) => l1 = l0
    | _ => False
section
variable {C : Cx} {K : List PK} {E : Env} {H : Heap}
theorem AP.range (nb b0 : Nat) {p : List Nat} {t : Tmp} {ps : List Tmp} {as bd : Code} {f : FuncId} {fs caps : List AV} (EL : Env) {R : Nat → AV → Heap → Prop}
    (hc : codeAt C.fn p = .rangeFunc (.tmp t) ps.toArray as bd) (hcal : lk E t = some (.fn f fs caps)) (hnb : Nat.ble C.B.nb nb = true) (hEL : Sub E EL) (hrd : rdOk C H b0)
    (hcall : ∀ l, ACallN C.P nb f (fs ++ [Yl l] ++ caps) ((nidx nb H, .lp l C.n .ready C.fn p ps EL) :: H) (R l))
    (hlow : ∀ l r H', R l r H' → lowSame nb ((nidx nb H, .lp l C.n .ready C.fn p ps EL) :: H) H')
    (hend : ∀ l r H', R l r H' → ∃ st E', lk H' (nidx nb H) = some (.lp l C.n st C.fn p ps E') ∧ noMen (nidx nb H) (hdel (nidx nb H) H') = true ∧ rangeEnd C K (killGE nb E) (hdel (nidx nb H) H') st) : AP C p K E H := by
  unfold AP
  rw [hc]
  intro φ I a w hs
  have hnb' := Nat.le_of_ble_eq_true hnb
  obtain ⟨b, hb⟩ : ∃ b, nidx nb H = b := ⟨_, rfl⟩
  rw [hb] at hcall hlow hend
  have hbf : lk H b = none := hb ▸ nid_fresh nb H
  have hbn : nb ≤ b := hb ▸ (nidx_ge nb H).1
  refine wpIn_rangeFunc (F := Fw C.rd) fun fid _ => ?_
  obtain ⟨wD, ID, markl, D, e1, hSD, kD, hM⟩ : ∃ (wD : World) (ID : Nat → Prop) (markl : List Deferred) (D : Nat),
      (Instr.enterLoop fid a.tmps ps.toArray as bd C.rd).run C.P w = .ok (wD.heap.size, markl) (wD.alloc (.loop { state := .ready, pending := none, fn := fid, tmps := a.tmps, params := ps.toArray, assign := as, body := bd, defers := D })) ∧
      St C.B φ ID H wD ∧ Keeps w φ I wD φ ID ∧ Marks C.ds C.B.w0.heap.size wD ID (markl ++ a.defers) := by
    unfold rdOk at hrd
    cases hr : C.rd with
    | none =>
      obtain ⟨hS, k⟩ := hs.st.new_im (w' := w.alloc (.deferred (some []))) (by simp) (fun g hg => heap_alloc_old w _ hg) rfl rfl rfl
      refine ⟨w.alloc (.deferred (some [])), _, [markOf w.heap.size], w.heap.size, ?_, hS, k, ?_⟩
      · rw [run_enterLoop_outer]; simp [markOf]
      · obtain ⟨ms, h1, h2, h3, _⟩ := hs.dfr
        rw [hr] at hrd
        refine ⟨w.heap.size :: ms, by rw [h1]; rfl, List.nodup_cons.2 ⟨fun hm => ?_, h2⟩, (fun D' hD' => ?_), fun hne => absurd hrd hne⟩
        · have := hs.st.real.imm _ (h3 _ hm).1
          omega
        · rcases List.mem_cons.1 hD' with rfl | hD'
          · exact ⟨.inr rfl, hs.st.ext.size, World.alloc_heap_new w _⟩
          · obtain ⟨h4, h5, h6⟩ := h3 D' hD'
            exact ⟨.inl h4, h5, (k.im D' h4).trans h6⟩
    | some l0 =>
      rw [hr] at hrd
      simp only at hrd
      split at hrd
      · rename_i l1 n1 st1 fn1 p1 ps1 E1 hl1
        subst hrd
        have hd := hs.st.real.dom b0
        rw [hl1] at hd
        cases hp : φ b0 with
        | none => rw [hp] at hd; cases hd
        | some p0 =>
          have hat := hs.st.real.own b0 _ p0 hl1 hp
          simp only [Ob.at] at hat
          obtain ⟨rfl, T, D, fid', h1, h2, h3⟩ := hat
          refine ⟨w, I, [], D, ?_, hs.st, Keeps.refl _ _ _, by simpa using hs.dfr⟩
          unfold Instr.enterLoop
          simp only [Sem.run_bind, run_newObj_alloc, Result.andThen, Sem.run_pure, run_getLoop h2]
      · exact hrd.elim
  have hcv := ev_sound hs.env (x := .tmp t) hcal
  simp only [AV.den] at hcv
  obtain ⟨fus, us, hfus, hus, hcalv⟩ := hcv
  obtain ⟨rec, hrec⟩ : ∃ rec : Loop, rec = { state := .ready, pending := none, fn := fid, tmps := a.tmps, params := ps.toArray, assign := as, body := bd, defers := D } := ⟨_, rfl⟩
  have hS2k := hSD.alloc_ob (b := b) hbf (by omega) (ob := .loop rec) (o := .lp wD.heap.size C.n .ready C.fn p ps EL) (by
    simp only [Ob.at]
    refine ⟨trivial, a.tmps, D, fid, hs.siz, ?_, fun i x hx => ?_⟩
    · rw [World.alloc_heap_new, hrec, hc]; rfl
    · obtain ⟨u, hu, hd⟩ := hs.env i x (hEL i x hx)
      refine ⟨u, hu, ?_⟩
      have hd2 := kD.den hd
      refine AV.den_mono (fun g hg => heap_alloc_old wD _ (hSD.real.imm g hg)) (fun _ h => h) (fun b' p' hp' => ?_) (fun _ g n _ hsh => (ext_alloc (fun _ => False) wD _).shaped (fun h => h) hsh) x u hd2
      unfold upd
      rw [if_neg (fun e => by subst e; rw [hSD.lkφ hbf] at hp'; cases hp')]
      exact hp')
  obtain ⟨hS2, k2⟩ := hS2k
  have hs2 : Sim C (upd φ b (some wD.heap.size)) ID E ((b, .lp wD.heap.size C.n .ready C.fn p ps EL) :: H) { a with defers := markl ++ a.defers } (wD.alloc (.loop rec)) :=
    ⟨hM.mono k2.im k2.I, hs.siz, fun i x hx => let ⟨u, hu, hd⟩ := hs.env i x hx; ⟨u, hu, k2.den (kD.den hd)⟩, hS2⟩
  have hent := (hcall wD.heap.size).ent
  rw [← hrec] at e1
  refine ⟨wD.heap.size, markl, wD.alloc (.loop rec), { target := .fn (.func f) us.toArray, args := fus.toArray ++ #[Value.func (.yield wD.heap.size) #[] #[]] }, wD.alloc (.loop rec), f, (fus ++ [Value.func (.yield wD.heap.size) #[] #[]] ++ us).toArray, wD.alloc (.loop rec), e1, ?_, fun _ _ => trivial, ?_, fun h => (by cases h), ?_⟩
  · have : (resolve a.eval (rangeCall (.tmp t) wD.heap.size) 0) = Deferred.ofValue (a.eval (.tmp t)) #[Value.func (.yield wD.heap.size) #[] #[]] := by
      simp [resolve, Act.eval]
    rw [this, hcalv]
    simp only [Deferred.ofValue, Sem.run_pure]
  · simp only [invoke]
    rw [run_callFunc hent]
    simp
  · have hden : AV.dens (wD.alloc (.loop rec)) (upd φ b (some wD.heap.size)) ID (fs ++ [Yl wD.heap.size] ++ caps) (fus ++ [Value.func (.yield wD.heap.size) #[] #[]] ++ us) := by
      refine AQ.callHA.adens_append _ _ _ _ (AQ.callHA.adens_append _ _ _ _ (AV.dens_mono k2.im k2.I k2.phi k2.sh _ _ (AV.dens_mono kD.im kD.I kD.phi kD.sh _ _ hfus)) ?_) (AV.dens_mono k2.im k2.I k2.phi k2.sh _ _ (AV.dens_mono kD.im kD.I kD.phi kD.sh _ _ hus))
      simp only [AV.dens, AV.den, IV.den]
      exact ⟨_, _, rfl, ⟨rfl, rfl⟩, rfl⟩
    refine (callsR ((hcall wD.heap.size).run _ _ ID _ hden hS2.real hS2.vk)).mono fun e w3 ⟨r, H3, φ3, I3, v, hr, he, hdv, hS3⟩ => ?_
    subst he
    obtain ⟨st, E', hlb, hno, hcont⟩ := hend _ r H3 hr
    have hs3 := hs2.afterN hnb' hS3 (hlow _ r H3 hr)
    have hd := hS3.real.dom b
    rw [hlb] at hd
    cases hp : φ3 b with
    | none => rw [hp] at hd; cases hd
    | some p0 =>
      have hat := hS3.real.own b _ p0 hlb hp
      simp only [Ob.at] at hat
      obtain ⟨rfl, T, D', fid', h1, h2, h3⟩ := hat
      have hnbusy : st.state ≠ .busy := by
        cases st with
        | busy => exact hcont.elim
        | ready => simp [LpSt.state]
        | done c => simp [LpSt.state]
      refine ⟨_, _, run_endLoop h2 hnbusy, ?_⟩
      have hoff := hS3.real.off b _ hp
      have hSf := hs3.st.forget b hno
      obtain ⟨hSo, ko⟩ := hSf.putOut (o' := .loop { state := .exhausted, pending := st.pend, fn := fid', tmps := T, params := ps.toArray, assign := child 0 (codeAt C.fn p), body := child 1 (codeAt C.fn p), defers := D' }) h2 hoff.1 (fun b' hb' => by
        simp only [updn] at hb'
        by_cases e : b' = b
        · simp [e] at hb'
        · rw [if_neg e] at hb'
          exact e (hS3.real.inj b' b _ hb' hp)) (.inr hSD.ext.size)
      have hs4 : Sim C (updn φ3 b) I3 (killGE nb E) (hdel b H3) { a with defers := markl ++ a.defers } (w3.putObj wD.heap.size (.loop { state := .exhausted, pending := st.pend, fn := fid', tmps := T, params := ps.toArray, assign := child 0 (codeAt C.fn p), body := child 1 (codeAt C.fn p), defers := D' })) :=
        ⟨hs3.dfr.mono ko.im ko.I, hs3.siz, fun i x hx => by
          obtain ⟨u, hu, hdu⟩ := hs3.env i x hx
          exact ⟨u, hu, ko.den (AV.men_den (fun b' hb' => by simp [updn, hb']) x u (killGE_men hbn E i x hx) hdu)⟩, hSo⟩
      cases st with
      | busy => exact hcont.elim
      | ready =>
        simp only [rangeEnd] at hcont
        unfold AE at hcont
        exact hcont _ _ _ _ hs4
      | done c =>
        simp only [LpSt.pend]
        cases c with
        | ret =>
          simp only [rangeEnd] at hcont
          unfold AE at hcont
          exact wpIn_ret (hcont _ _ _ _ hs4)
        | exit id =>
          simp only [rangeEnd] at hcont
          unfold AE at hcont
          exact wpIn_exit (hcont _ _ _ _ hs4)
        | _ => exact hcont.elim
theorem AP.rangeB (nb b0 b : Nat) {p : List Nat} {t : Tmp} {ps : List Tmp} {as bd : Code} {f : FuncId} {fs caps : List AV} (EL : Env) {R : Nat → AV → Heap → Prop}
    (hc : codeAt C.fn p = .rangeFunc (.tmp t) ps.toArray as bd) (hcal : lk E t = some (.fn f fs caps)) (hnb : Nat.ble C.B.nb nb = true) (hEL : Sub E EL) (hrd : rdOk C H b0) (hb : nidx nb H = b)
    (hcall : ∀ l, ACallN C.P nb f (fs ++ [Yl l] ++ caps) ((b, .lp l C.n .ready C.fn p ps EL) :: H) (R l))
    (hend : ∀ l r H', R l r H' → lowSame nb ((b, .lp l C.n .ready C.fn p ps EL) :: H) H' ∧ ∃ st E', lk H' b = some (.lp l C.n st C.fn p ps E') ∧ noMen b (hdel b H') = true ∧ rangeEnd C K (killGE nb E) (hdel b H') st) : AP C p K E H := by
  subst hb
  exact AP.range nb b0 EL hc hcal hnb hEL hrd hcall (fun l r H' h => (hend l r H' h).1) (fun l r H' h => (hend l r H' h).2)
def lowB (nb : Nat) (H H' : Heap) : Bool := (List.range nb).all fun b => (lk H' b).isSome == (lk H b).isSome
theorem lowSame.of (nb : Nat) (H H' : Heap) (h : lowB nb H H' = true) : lowSame nb H H' := fun b hb => by
  have := List.all_eq_true.1 h b (List.mem_range.2 hb)
  simpa using this
end
attribute [go_sem] rangeEnd
end Go.AL
end

section
namespace Go.AL
open Go
section
variable {C : Cx} {K : List PK} {E : Env} {H : Heap}
theorem AQ.skip {ds : List (Nat × Nat)} {i : Nat} {o : Oper} {os : List Oper} (hok : dstOk C.n (o :: os) = true) (hG : gd ds E o.guard = some false) (h : vq C K os (dsPut o.dst i ds) (i + 1) (putE o.dst (.opt false .top) E) H) : AQ C ds i (o :: os) K E H :=
  AQ.guard_no (dstOk_cons hok).1 hG (AQ.go (dstOk_cons hok).2 h)
end
attribute [go_sem] Bool.bne_false Bool.bne_true
end Go.AL
end

section
namespace Go.AL
open Go
def stepE : Exit → List PK → Option (Sum (List Nat) Exit × List PK)
  | .normal, .seq q :: K => some (.inl q, K)
  | .normal, .blk _ :: K => some (.inr .normal, K)
  | .normal, .sc :: K => some (.inr .normal, K)
  | .exit id, .seq _ :: K => some (.inr (.exit id), K)
  | .exit id, .blk id' :: K => bif id == id' then some (.inr .normal, K) else some (.inr (.exit id), K)
  | .exit id, .sc :: K => some (.inr (.exit id), K)
  | .exit id, .lp _ :: K => some (.inr (.exit id), K)
  | .ret, .seq _ :: K => some (.inr .ret, K)
  | .ret, .blk _ :: K => some (.inr .ret, K)
  | .ret, .sc :: K => some (.inr .ret, K)
  | .ret, .lp _ :: K => some (.inr .ret, K)
  | _, _ => none
def stepP (fn : Func) (p : List Nat) (K : List PK) : Option (Sum (List Nat) Exit × List PK) :=
  match codeAt fn p with
  | .seq _ _ => some (.inl (0 :: p), .seq (1 :: p) :: K)
  | .block id _ => some (.inl (0 :: p), .blk id :: K)
  | .scope _ => some (.inl (0 :: p), .sc :: K)
  | .skip => some (.inr .normal, K)
  | .ret => some (.inr .ret, K)
  | .exit id => some (.inr (.exit id), K)
  | .label _ => some (.inr .normal, K)
  | _ => none
def nrm (fn : Func) : Nat → Sum (List Nat) Exit → List PK → Sum (List Nat) Exit × List PK
  | 0, s, K => (s, K)
  | n + 1, .inl p, K => match stepP fn p K with
    | some (s, K') => nrm fn n s K'
    | none => (.inl p, K)
  | n + 1, .inr e, K => match stepE e K with
    | some (s, K') => nrm fn n s K'
    | none => (.inr e, K)
def nrmP (fn : Func) (p : List Nat) (K : List PK) : Option (Sum (List Nat) Exit × List PK) :=
  match stepP fn p K with
  | some (s, K') => some (nrm fn 99 s K')
  | none => none
def nrmE (fn : Func) (e : Exit) (K : List PK) : Option (Sum (List Nat) Exit × List PK) :=
  match stepE e K with
  | some (s, K') => some (nrm fn 99 s K')
  | none => none
def AS (C : Cx) (s : Sum (List Nat) Exit) (K : List PK) (E : Env) (H : Heap) : Prop := match s with
  | .inl p => AP C p K E H
  | .inr e => AE C e K E H
section
variable {C : Cx} {K K' : List PK} {E : Env} {H : Heap}
theorem stepE_sound {e : Exit} {s : Sum (List Nat) Exit} (hs : stepE e K = some (s, K')) (h : AS C s K' E H) : AE C e K E H := by
  unfold stepE at hs
  split at hs
  all_goals first
    | (cases hs; done)
    | (cases hs; first | exact AE.seq h | exact AE.blk h | exact AE.sc h | exact AE.seq_exit h | exact AE.sc_exit h | exact AE.lp_exit h | exact AE.seq_ret h | exact AE.blk_ret h | exact AE.sc_ret h | exact AE.lp_ret h)
    | skip
  rename_i id id' K0
  cases hb : (id == id') with
  | true =>
    rw [hb] at hs
    cases hs
    have : id = id' := by simpa using hb
    subst this
    exact AE.blk_exit h
  | false =>
    rw [hb] at hs
    cases hs
    exact AE.blk_exit_ne hb h
theorem stepP_sound {p : List Nat} {s : Sum (List Nat) Exit} (hs : stepP C.fn p K = some (s, K')) (h : AS C s K' E H) : AP C p K E H := by
  unfold stepP at hs
  split at hs
  all_goals first
    | (cases hs; done)
    | (cases hs; rename_i hc; first | exact AP.seq hc h | exact AP.block hc h | exact AP.scope hc h | exact AP.skip hc h | exact AP.ret hc h | exact AP.exit hc h | exact AP.label hc h)
theorem nrm_sound : ∀ (n : Nat) (s s' : Sum (List Nat) Exit) (K K' : List PK), nrm C.fn n s K = (s', K') → AS C s' K' E H → AS C s K E H
  | 0, s, s', K, K', hs, h => by cases hs; exact h
  | n + 1, .inl p, s', K, K', hs, h => by
    simp only [nrm] at hs
    cases h1 : stepP C.fn p K with
    | none => rw [h1] at hs; cases hs; exact h
    | some q =>
      obtain ⟨s1, K1⟩ := q
      rw [h1] at hs
      exact stepP_sound h1 (nrm_sound n s1 s' K1 K' hs h)
  | n + 1, .inr e, s', K, K', hs, h => by
    simp only [nrm] at hs
    cases h1 : stepE e K with
    | none => rw [h1] at hs; cases hs; exact h
    | some q =>
      obtain ⟨s1, K1⟩ := q
      rw [h1] at hs
      exact stepE_sound h1 (nrm_sound n s1 s' K1 K' hs h)
theorem nrmP_sound {p : List Nat} {s : Sum (List Nat) Exit} (hs : nrmP C.fn p K = some (s, K')) (h : AS C s K' E H) : AP C p K E H := by
  unfold nrmP at hs
  cases h1 : stepP C.fn p K with
  | none => rw [h1] at hs; cases hs
  | some q =>
    obtain ⟨s1, K1⟩ := q
    rw [h1] at hs
    exact stepP_sound h1 (nrm_sound 99 s1 s K1 K' (Option.some.inj hs) h)
theorem nrmE_sound {e : Exit} {s : Sum (List Nat) Exit} (hs : nrmE C.fn e K = some (s, K')) (h : AS C s K' E H) : AE C e K E H := by
  unfold nrmE at hs
  cases h1 : stepE e K with
  | none => rw [h1] at hs; cases hs
  | some q =>
    obtain ⟨s1, K1⟩ := q
    rw [h1] at hs
    exact stepE_sound h1 (nrm_sound 99 s1 s K1 K' (Option.some.inj hs) h)
theorem xPP {p p' : List Nat} (hs : nrmP C.fn p K = some (.inl p', K')) (h : AP C p' K' E H) : AP C p K E H := nrmP_sound hs h
theorem xPE {p : List Nat} {e : Exit} (hs : nrmP C.fn p K = some (.inr e, K')) (h : AE C e K' E H) : AP C p K E H := nrmP_sound hs h
theorem xEP {p' : List Nat} {e : Exit} (hs : nrmE C.fn e K = some (.inl p', K')) (h : AP C p' K' E H) : AE C e K E H := nrmE_sound hs h
theorem xEE {e e' : Exit} (hs : nrmE C.fn e K = some (.inr e', K')) (h : AE C e' K' E H) : AE C e K E H := nrmE_sound hs h
end
attribute [go_sem] List.all_cons List.all_nil Value.oneCell'
end Go.AL
end

section
namespace Go.AL
open Go
def quietOp (o : Oper) : Bool := match o.op with
  | .move _ | .assign _ | .pick _ _ _ | .build _ _ | .load _ _ | .nilCheck _ | .binOp _ _ _ _ _ | .unOp _ _ _ | .convert _ _ _ | .slice _ _ _ _ _ | .fieldAddr _ _ _ | .field _ _ _ | .indexAddr _ _ _ | .index _ _ _ | .extract _ _ => true
  | .call { callee := .builtin b, .. } => match b with
    | .len | .min | .max => true
    | _ => false
  | _ => false
section
variable {C : Cx} {K : List PK} {E : Env} {H : Heap} {p : List Nat}
end
end Go.AL
end

section
namespace Go.AL
open Go
def hdels : List Nat → Heap → Heap
  | [], H => H
  | b :: l, H => hdels l (hdel b H)
def dropOk : List Nat → AV → Heap → Bool
  | [], _, _ => true
  | b :: l, r, H => noMen b (hdel b H) && !(AV.men b r) && dropOk l r (hdel b H)
theorem den_drop {B : Bs} {I : Nat → Prop} {w : World} {r : AV} {v : Value} : ∀ (l : List Nat) (φ : Phi) (H : Heap), dropOk l r H = true → AV.den w φ I r v → St B φ I H w → ∃ φ', AV.den w φ' I r v ∧ St B φ' I (hdels l H) w
  | [], φ, H, _, hd, hS => ⟨φ, hd, hS⟩
  | b :: l, φ, H, hk, hd, hS => by
    simp only [dropOk, Bool.and_eq_true, Bool.not_eq_true'] at hk
    exact den_drop l (updn φ b) (hdel b H) hk.2 (AV.men_den (fun b' hb => by simp [updn, hb]) r v hk.1.2 hd) (hS.forget b hk.1.1)
section
variable {C : Cx} {E : Env} {H : Heap}
theorem AE.retD (l : List Nat) {sc : Prop} {xs : List AV} (h : resAV C.P E H C.fn.results.toList = some (sc, xs)) (hsc : sc) (hk : dropOk l (tupOf xs) H = true) (hR : C.R (tupOf xs) (hdels l H)) : AE C .ret [] E H := by
  unfold AE
  intro φ I a w hs
  refine hs.leave fun w' hS hE => ?_
  obtain ⟨v, hv, hd⟩ := results_run hE hS.real h hsc
  obtain ⟨φ', hd', hS'⟩ := den_drop l φ H hk hd hS
  exact ⟨v, hv, tupOf xs, hdels l H, φ', I, v, hR, rfl, hd', hS'⟩
theorem AE.forgets {e : Exit} {K : List PK} : ∀ (l : List Nat) {E : Env} {H : Heap}, dropOk l .top H = true → AE C e K (l.foldl (fun E b => killE b E) E) (hdels l H) → AE C e K E H
  | [], _, _, _, h => h
  | b :: l, E, H, hk, h => by
    simp only [dropOk, Bool.and_eq_true, Bool.not_eq_true'] at hk
    exact AE.forget b hk.1.1 (AE.forgets l hk.2 h)
end
attribute [go_sem] hdels dropOk List.foldl_cons List.foldl_nil
end Go.AL
end

section
namespace Go.AL
open Go
theorem AQ.nx {C Cn : Cx} {K : List PK} {ops : List Oper} {n : Nat} {R P es : List Nat} {ts : List Tree} {ds ds' : List (Nat × Nat)} {i : Nat} {E : Env} {H : Heap} (hC : Cn = C.nr)
    (h : vR C ops H R ds' E ∧ vP C ops H (fun ds E => match es with
      | [] => vq C K (ops.drop n) [] n E H
      | _ :: _ => vds C K ops n es ts ds E H) P ds' E) :
    AQ Cn ds i [] [.lp (SJv C (vd C K ops n (.node R P es ts) ds')), .bot (pOut C K ops)] E H := by
  subst hC
  exact AQ.next (vd_node h)
end Go.AL
end

section
namespace Go.AL
open Go
def rowsLe (rows rows' : List (List IV)) : Prop := ∀ (w : World) (I : Nat → Prop) (vss : List (List Value)), IV.denss w I rows vss → IV.denss w I rows' vss
section
variable {C : Cx} {K : List PK} {E : Env} {H : Heap}
end
theorem nil_sl {w : World} {I : Nat → Prop} {es : Nat} {u : Value} (h : IV.den w I (.v (.slice none 0 0)) u) : IV.den w I (.sl es []) u := by
  simp only [IV.den] at h ⊢
  obtain ⟨rfl, _⟩ := h
  exact ⟨none, 0, [], rfl, Nat.le_refl _, by simp [IV.denss], (fun vs h => absurd h (List.not_mem_nil)), fun h => absurd rfl h⟩
end Go.AL
end

section
namespace Go.AL
open Go
def vg (C : Cx) (H : Heap) (k : List (Nat × Nat) → Env → Prop) : List Oper → List (Nat × Nat) → Nat → Env → Prop
  | [], ds, _, E => k ds E
  | o :: os, ds, i, E => match gd ds E o.guard with
    | none => False
    | some G => match avalG C.P E H o.op G with
      | none => False
      | some (sc, v) => (G = true → sc) ∧ vg C H k os (dsPut o.dst i ds) (i + 1) (putE o.dst (wrap o.guard G v) E)
theorem vg_vP {C : Cx} {ops : List Oper} {H : Heap} {k : List (Nat × Nat) → Env → Prop} : ∀ (rest : List Oper) (ds : List (Nat × Nat)) (i : Nat) (E : Env), (∀ j, rest[j]? = ops[i + j]?) → vg C H k rest ds i E → vP C ops H k (List.range' i rest.length) ds E
  | [], ds, i, E, _, h => by simpa [vP, vg] using h
  | o :: os, ds, i, E, hr, h => by
    have h0 : ops[i]? = some o := by have := hr 0; simpa using this.symm
    simp only [List.length_cons, List.range'_succ, vP, h0]
    simp only [vg] at h
    revert h
    cases gd ds E o.guard with
    | none => exact fun h => h
    | some G =>
      simp only
      cases avalG C.P E H o.op G with
      | none => exact fun h => h
      | some q =>
        obtain ⟨sc, v⟩ := q
        simp only
        exact fun h => ⟨h.1, vg_vP os _ _ _ (fun j => by have := hr (j + 1); rw [show i + 1 + j = i + (j + 1) by omega]; simpa using this) h.2⟩
def drawT (n : Nat) : Tree := .node [] (List.range' 0 n) [] []
section
variable {C : Cx} {K : List PK} {E : Env} {H : Heap} {p : List Nat}
theorem AP.drawQ {id : Nat} {ops : List Oper} (hc : codeAt C.fn p = .region id ops.toArray true) (hq0 : ops.all quietOp = true) (hq : (dstOk C.n ops && drawB ops ops.length (drawT ops.length) && C.P.follows .mixedOrders) = true)
    (h : vg C H (fun _ En => AQ C [] ops.length [] K En H) ops [] 0 E) : AP C p K E H := by
  simp only [Bool.and_eq_true] at hq
  refine AP.drawE ops.length (drawT ops.length) hq.2 hc hq.1.1 hq.1.2 ?_
  refine vd_node ⟨trivial, ?_⟩
  refine vg_vP ops [] 0 E (fun j => by rw [Nat.zero_add]) ?_
  simp only [List.drop_length, vq]
  exact h
end
attribute [go_sem] vg
end Go.AL
end

section
namespace Go.AL
open Go
section
variable {C : Cx} {E : Env} {H : Heap}
section
variable {K : List PK}
end
end
end Go.AL
end

section
namespace Go.AL
open Go
def reorder : List Nat → Heap → Heap
  | [], _ => []
  | b :: l, H => match lk H b with
    | some o => (b, o) :: reorder l H
    | none => reorder l H
def covers (ids : List Nat) : Heap → Bool
  | [] => true
  | (b, _) :: r => inL ids b && covers ids r
theorem inL_lk : ∀ (l : List Nat) (b : Nat), inL l b = true → ∀ H : Heap, lk (reorder l H) b = lk H b
  | [], b, h, H => by simp [inL] at h
  | c :: l, b, h, H => by
    simp only [inL] at h
    simp only [reorder]
    cases hb : Nat.beq c b with
    | true =>
      have := Nat.eq_of_beq_eq_true hb
      subst this
      cases hl : lk H c with
      | some o => simp [lk]
      | none =>
        simp only
        cases hi : inL l c with
        | true => rw [inL_lk l c hi H, hl]
        | false => exact lk_reorder_none l c hi H
    | false =>
      rw [hb] at h
      simp only [cond_false] at h
      cases hl : lk H c with
      | some o => simp only [lk, hb, cond_false]; exact inL_lk l b h H
      | none => simp only; exact inL_lk l b h H
where
  lk_reorder_none : ∀ (l : List Nat) (b : Nat), inL l b = false → ∀ H : Heap, lk (reorder l H) b = none
    | [], b, _, H => rfl
    | c :: l, b, h, H => by
      simp only [inL] at h
      cases hb : Nat.beq c b with
      | true => rw [hb] at h; simp at h
      | false =>
        rw [hb] at h
        simp only [cond_false] at h
        simp only [reorder]
        cases hl : lk H c with
        | some o => simp only [lk, hb, cond_false]; exact lk_reorder_none l b h H
        | none => simp only; exact lk_reorder_none l b h H
theorem covers_lk (ids : List Nat) : ∀ (H : Heap) (b : Nat), covers ids H = true → inL ids b = false → lk H b = none
  | [], b, _, _ => rfl
  | (c, o) :: r, b, h, hb => by
    simp only [covers, Bool.and_eq_true] at h
    simp only [lk]
    cases hc : Nat.beq c b with
    | true =>
      have := Nat.eq_of_beq_eq_true hc
      subst this
      rw [h.1] at hb; cases hb
    | false => simp only [cond_false]; exact covers_lk ids r b h.2 hb
theorem reorder_lk {ids : List Nat} {H : Heap} (h : covers ids H = true) (b : Nat) : lk H b = lk (reorder ids H) b := by
  cases hb : inL ids b with
  | true => exact (inL_lk ids b hb H).symm
  | false => rw [covers_lk ids H b h hb, inL_lk.lk_reorder_none ids b hb H]
section
variable {C : Cx} {K : List PK} {E : Env} {H : Heap}
theorem AE.order {e : Exit} (ids : List Nat) (hc : covers ids H = true) (h : AE C e K E (reorder ids H)) : AE C e K E H := AE.perm _ (reorder_lk hc) h
theorem AP.order {p : List Nat} (ids : List Nat) (hc : covers ids H = true) (h : AP C p K E (reorder ids H)) : AP C p K E H := AP.perm _ (reorder_lk hc) h
theorem AQ.order {ds : List (Nat × Nat)} {i : Nat} {rest : List Oper} (ids : List Nat) (hc : covers ids H = true) (h : AQ C ds i rest K E (reorder ids H)) : AQ C ds i rest K E H := AQ.perm _ (reorder_lk hc) h
end
attribute [go_sem] reorder Sh.lit
end Go.AL
end

section
namespace Go.AL
open Go Go.MapKept
/-- the keys are all of a kind that the model compares at once -/
def KeysOk (d : TypeDesc) (ks : List Value) : Prop := ∀ k ∈ ks, IsKey d k
theorem adens_len' {w : World} {φ : Phi} {I : Nat → Prop} {cs : List AV} {us : List Value} (h : AV.dens w φ I cs us) : us.length = cs.length := adens_len cs us h
section
variable {P : Program} {w : World} {φ : Phi} {I : Nat → Prop} {H : Heap} {b : Nat} {ks : List Value} {cs : List AV}
theorem map_open (hR : Real w φ I H) (hH : lk H b = some (.var (.map ks) cs)) {u : Value} (hu : AV.den w φ I (.mp b) u) :
    ∃ g es clock, u = .map (some g) ∧ φ b = some (some g) ∧ w.heap[g]? = some (.map es clock) ∧ es.toList.map (·.key) = ks ∧ AV.dens w φ I cs (es.toList.map (·.val)) ∧ Births es clock := by
  simp only [AV.den] at hu
  obtain ⟨g, hg, rfl⟩ := hu
  have := hR.own b _ _ hH hg
  simp only [Ob.at, Sh.has] at this
  obtain ⟨g', us, hgg, ⟨es, clock, h1, h2, h3, h5⟩, h4, _⟩ := this
  cases hgg
  subst h3
  exact ⟨g, es, clock, rfl, hg, h1, h2, h4, h5⟩
end
section
variable {C : Cx} {K : List PK} {E : Env} {H : Heap}
theorem map_find {d : TypeDesc} {es : Array MapEntry} {ks : List Value} {kv : Value} (hes : es.toList.map (·.key) = ks) (hks : KeysOk d ks) (hk : IsKey d kv) :
    (Instr.findNow d kv es.toList 0 = some none ∧ kv ∉ ks) ∨ ∃ j e, Instr.findNow d kv es.toList 0 = some (some (j, e.val)) ∧ es.toList[j]? = some e ∧ e.key = kv ∧ ks[j]? = some kv := by
  subst hes
  rcases findNow_spec hk es.toList 0 (fun x hx => hks _ (List.mem_map.2 ⟨x, hx, rfl⟩)) with ⟨h1, h2⟩ | ⟨j, e, h1, h2, h3⟩
  · exact .inl ⟨h1, fun h => by obtain ⟨x, hx, e⟩ := List.mem_map.1 h; exact h2 x hx e⟩
  · exact .inr ⟨j, e, by rw [Nat.zero_add] at h1; exact h1, h2, h3, by rw [List.getElem?_map, h2, ← h3]; rfl⟩
theorem AQ.lookF (j : Nat) {ds : List (Nat × Nat)} {i : Nat} {d : Option Nat} {ty t kt et : TypeId} {pos : String} {af : Array Edge} {os : List Oper} {m k : Operand} {ok : Bool} {b : Nat} {ks : List Value} {cs : List AV} {kv : Value} {x : AV} {dk : TypeDesc}
    (hok : dstOk C.n ({ dst := d, op := .lookup t m k ok, type := ty, pos := pos, after := af, guard := none } :: os) = true)
    (hm : ev E m = some (.mp b)) (hk : ev E k = some (.im (.v kv))) (hH : lk H b = some (.var (.map ks) cs)) (ht : C.P.underlying t = some (.map kt et)) (hd : C.P.underlying kt = some dk)
    (hks : KeysOk dk ks) (hkk : IsKey dk kv) (hin : kv ∈ ks) (hj : ∀ i, ks[i]? = some kv → i = j) (hx : cs[j]? = some x)
    (h : vq C K os (dsPut d i ds) (i + 1) (putE d (bif ok then .tup [x, .im (.v (.bool true))] else x) E) H) :
    AQ C ds i ({ dst := d, op := .lookup t m k ok, type := ty, pos := pos, after := af, guard := none } :: os) K E H := by
  refine AQ.val (bif ok then .tup [x, .im (.v (.bool true))] else x) hok rfl (fun φ I a w hs => ?_) h
  obtain ⟨g, es, clock, hme, hg, hh, hke, hde, hbi⟩ := map_open hs.st.real hH (ev_sound hs.env hm)
  have hkv := ev_sound hs.env hk
  simp only [AV.den, IV.den] at hkv
  rcases map_find hke hks hkk with ⟨_, h2⟩ | ⟨j', e, h1, h2, h3, h4⟩
  · exact absurd hin h2
  · have := hj j' h4
    subst this
    obtain ⟨v, hv, hdv⟩ := adens_get cs _ j' x hde hx
    have hve : v = e.val := by rw [List.getElem?_map, h2] at hv; cases hv; rfl
    subst hve
    have hrun : (Instr.lookup t (a.eval m) (a.eval k) ok).run C.P w = .ok (if ok then .tuple #[e.val, .bool true] else e.val) w := by
      rw [hme, hkv.1]
      cases ok <;> simp [Instr.lookup, run_underlying ht, MapKept.run_getObj_map hh, run_checkKey hd hkk, run_findKey hd h1, Result.andThen]
    refine ⟨if ok then .tuple #[e.val, .bool true] else e.val, by simp only [execOp, Sem.run_bind, Sem.run_map, hrun, Result.andThen_ok, Sem.run_pure], ?_⟩
    cases ok with
    | true => simp only [cond_true, if_true, AV.den, AV.dens]; exact ⟨_, ⟨_, _, rfl, hdv, _, _, rfl, by simp only [IV.den]; exact ⟨trivial, rfl⟩, rfl⟩, rfl⟩
    | false => simpa using hdv
theorem AQ.lookN {ds : List (Nat × Nat)} {i : Nat} {d : Option Nat} {ty t kt et : TypeId} {pos : String} {af : Array Edge} {os : List Oper} {m k : Operand} {ok : Bool} {b : Nat} {ks : List Value} {cs : List AV} {kv z : Value} {dk : TypeDesc}
    (hok : dstOk C.n ({ dst := d, op := .lookup t m k ok, type := ty, pos := pos, after := af, guard := none } :: os) = true)
    (hm : ev E m = some (.mp b)) (hk : ev E k = some (.im (.v kv))) (hH : lk H b = some (.var (.map ks) cs)) (ht : C.P.underlying t = some (.map kt et)) (hd : C.P.underlying kt = some dk)
    (hks : KeysOk dk ks) (hkk : IsKey dk kv) (hin : kv ∉ ks) (hz : (C.P.info? et).bind (·.zero) = some z) (hz1 : z.oneCell' = true)
    (h : vq C K os (dsPut d i ds) (i + 1) (putE d (bif ok then .tup [.im (.v z), .im (.v (.bool false))] else .im (.v z)) E) H) :
    AQ C ds i ({ dst := d, op := .lookup t m k ok, type := ty, pos := pos, after := af, guard := none } :: os) K E H := by
  refine AQ.val (bif ok then .tup [.im (.v z), .im (.v (.bool false))] else .im (.v z)) hok rfl (fun φ I a w hs => ?_) h
  obtain ⟨g, es, clock, hme, hg, hh, hke, hde, hbi⟩ := map_open hs.st.real hH (ev_sound hs.env hm)
  have hkv := ev_sound hs.env hk
  simp only [AV.den, IV.den] at hkv
  rcases map_find hke hks hkk with ⟨h1, _⟩ | ⟨j', e, h1, h2, h3, h4⟩
  · have hzr : (zeroValue et).run C.P w = .ok z w := by
      cases hi : C.P.info? et with
      | none => rw [hi] at hz; cases hz
      | some inf =>
        rw [hi] at hz
        simp only [Option.bind_some] at hz
        simp [zeroValue, typeInfo, hi, hz]
    have hrun : (Instr.lookup t (a.eval m) (a.eval k) ok).run C.P w = .ok (if ok then .tuple #[z, .bool false] else z) w := by
      rw [hme, hkv.1]
      cases ok <;> simp [Instr.lookup, run_underlying ht, MapKept.run_getObj_map hh, run_checkKey hd hkk, run_findKey hd h1, hzr, Result.andThen]
    refine ⟨if ok then .tuple #[z, .bool false] else z, by simp only [execOp, Sem.run_bind, Sem.run_map, hrun, Result.andThen_ok, Sem.run_pure], ?_⟩
    cases ok with
    | true => simp only [cond_true, if_true, AV.den, AV.dens, IV.den]; exact ⟨_, ⟨_, _, rfl, ⟨rfl, hz1⟩, _, _, rfl, ⟨rfl, rfl⟩, rfl⟩, rfl⟩
    | false => simp only [cond_false, Bool.false_eq_true, if_false, AV.den, IV.den]; exact ⟨trivial, hz1⟩
  · exact absurd (List.mem_of_getElem? h4) hin
theorem AQ.mlen {ds : List (Nat × Nat)} {i : Nat} {d : Option Nat} {ty t kt et : TypeId} {pos : String} {af : Array Edge} {os : List Oper} {m : Operand} {b : Nat} {ks : List Value} {cs : List AV}
    (hok : dstOk C.n ({ dst := d, op := .call { callee := .builtin .len, args := #[m], argTypes := #[t] }, type := ty, pos := pos, after := af, guard := none } :: os) = true)
    (hm : ev E m = some (.mp b)) (hH : lk H b = some (.var (.map ks) cs)) (ht : C.P.underlying t = some (.map kt et))
    (h : vq C K os (dsPut d i ds) (i + 1) (putE d (.im (.v (.int .i64 ks.length))) E) H) :
    AQ C ds i ({ dst := d, op := .call { callee := .builtin .len, args := #[m], argTypes := #[t] }, type := ty, pos := pos, after := af, guard := none } :: os) K E H := by
  refine AQ.val (.im (.v (.int .i64 ks.length))) hok rfl (fun φ I a w hs => ?_) h
  obtain ⟨g, es, clock, hme, hg, hh, hke, hde, hbi⟩ := map_open hs.st.real hH (ev_sound hs.env hm)
  have hsz : es.size = ks.length := by rw [← hke]; simp
  have hrun : (Builtin.len_ #[t] ty #[a.eval m]).run C.P w = .ok (.int .i64 es.size) w := by
    rw [hme]
    simp [Builtin.len_, run_underlying ht, MapKept.run_getObj_map hh, Result.andThen, goInt]
  refine ⟨.int .i64 es.size, by simp only [execOp, resolve, invoke, builtin, Sem.run_bind, Sem.run_pure, Result.andThen_ok, List.map_toArray, List.map_cons, List.map_nil, hrun], ?_⟩
  simp only [AV.den, IV.den, hsz]
  exact ⟨trivial, rfl⟩
end
theorem births_push {es : Array MapEntry} {clock : Nat} {k v : Value} (h : Births es clock) : Births (es.push { key := k, val := v, born := clock }) (clock + 1) := by
  refine ⟨?_, fun e he => ?_⟩
  · rw [Array.toList_push, List.map_append, List.nodup_append]
    refine ⟨h.1, by simp, fun a ha b hb => ?_⟩
    obtain ⟨e, he, rfl⟩ := List.mem_map.1 ha
    have := h.2 e he
    have hb : b = clock := by simpa using hb
    omega
  · rw [Array.toList_push, List.mem_append] at he
    rcases he with he | he
    · have := h.2 e he; omega
    · have : e = { key := k, val := v, born := clock } := by simpa using he
      rw [this]; exact Nat.lt_succ_self _
theorem births_set {es es' : Array MapEntry} {clock j : Nat} {e : MapEntry} {k v : Value} (hj : es.toList[j]? = some e) (hs : es'.toList = es.toList.set j { e with key := k, val := v }) (h : Births es clock) : Births es' clock := by
  have hb : es'.toList.map (·.born) = es.toList.map (·.born) := by
    rw [hs, List.map_set]
    refine List.ext_getElem? fun i => ?_
    rw [List.getElem?_set]
    split
    · rename_i hij
      subst hij
      split
      · rw [List.getElem?_map, hj]; rfl
      · rename_i hl
        rw [List.length_map] at hl
        rw [List.getElem?_eq_none (by rw [List.length_map]; omega)]
    · rfl
  refine ⟨by rw [hb]; exact h.1, fun x hx => ?_⟩
  have : x.born ∈ es'.toList.map (·.born) := List.mem_map.2 ⟨x, hx, rfl⟩
  rw [hb] at this
  obtain ⟨y, hy, e2⟩ := List.mem_map.1 this
  rw [← e2]; exact h.2 y hy
section
variable {w : World} {φ : Phi} {I : Nat → Prop} {l : Nat} {es : Array MapEntry} {clock : Nat} {o' : Obj}
theorem shaped_putM (hl : w.heap[l]? = some (.map es clock)) (g n : Nat) (h : shaped w g n) : shaped (w.putObj l o') g n := by
  obtain ⟨c, e, hc, hn⟩ := h
  have hg : g ≠ l := fun h => by subst h; rw [hl] at hc; cases hc
  exact ⟨c, e, (World.putObj_heap_other hg).trans hc, hn⟩
theorem keeps_putM (hl : w.heap[l]? = some (.map es clock)) (hI : ¬ I l) : Keeps w φ I (w.putObj l o') φ I :=
  ⟨fun g hg => World.putObj_heap_other (fun e => hI (e ▸ hg)), fun _ h => h, fun _ _ h => h, fun _ g n _ => shaped_putM hl g n⟩
theorem ext_putM {own : Nat → Prop} (hl : w.heap[l]? = some (.map es clock)) (ho : own l) : Ext own w (w.putObj l o') :=
  ⟨by simp, fun g _ hn => World.putObj_heap_other (fun e => hn (e ▸ ho)), fun g c e fz hc => ⟨c, fz, (World.putObj_heap_other (fun e => by subst e; rw [hl] at hc; cases hc)).trans hc, rfl⟩, rfl, rfl, rfl⟩
theorem St.putM {B : Bs} {H : Heap} (h : St B φ I H w) {b : Nat} (hb : φ b = some (some l)) (hl : w.heap[l]? = some (.map es clock)) {ob0 ob : Ob} (hlb : lk H b = some ob0) (hat : ob.at (w.putObj l o') φ I (some l)) :
    St B φ I (hset H b ob) (w.putObj l o') ∧ Keeps w φ I (w.putObj l o') φ I := by
  have hI : ¬ I l := (h.real.off b l hb).1
  have k : Keeps w φ I (w.putObj l o') φ I := keeps_putM hl hI
  refine ⟨⟨⟨fun b' => ?_, fun b' o p hl' hp => ?_, fun b' g hp => ?_, h.real.inj, fun g hg => ?_⟩, h.ext.trans (ext_putM (own := fun g => g = l) hl rfl) (fun g hg => by subst hg; exact h.ownx b _ hb), h.ownx, h.immx, h.immo, fun b' p o hlt h0 hl' => ?_⟩, k⟩
  · by_cases hbb : b' = b
    · subst hbb; rw [lk_hset_same H b' _ hlb, hb]; rfl
    · rw [lk_hset_other H b b' _ hbb]; exact h.real.dom b'
  · by_cases hbb : b' = b
    · subst hbb
      rw [lk_hset_same H b' _ hlb] at hl'; cases hl'
      rw [hb] at hp; cases hp
      exact hat
    · rw [lk_hset_other H b b' _ hbb] at hl'
      exact Ob.at_mono k.im k.I k.phi k.sh (fun g hg => World.putObj_heap_other (fun e => by subst e; subst hg; exact hbb (h.real.inj b' b g hp hb))) (h.real.own b' o p hl' hp)
  · have := h.real.off b' g hp
    exact ⟨this.1, by simpa using this.2⟩
  · have := h.real.imm g hg
    simpa using this
  · by_cases hbb : b' = b
    · subst hbb; exact h.phx b' p ob0 hlt h0 hlb
    · rw [lk_hset_other H b b' _ hbb] at hl'; exact h.phx b' p o hlt h0 hl'
end
theorem dens_snoc {w : World} {φ : Phi} {I : Nat → Prop} {x : AV} {u : Value} (hx : AV.den w φ I x u) : ∀ (cs : List AV) (us : List Value), AV.dens w φ I cs us → AV.dens w φ I (cs ++ [x]) (us ++ [u])
  | [], us, h => by simp only [AV.dens] at h; subst h; simp only [List.nil_append, AV.dens]; exact ⟨u, [], rfl, hx, rfl⟩
  | y :: cs, us, h => by
    simp only [AV.dens] at h
    obtain ⟨v, vs, rfl, h1, h2⟩ := h
    simp only [List.cons_append, AV.dens]
    exact ⟨v, _, rfl, h1, dens_snoc hx cs vs h2⟩
theorem dens_setAt {w : World} {φ : Phi} {I : Nat → Prop} {x : AV} {u : Value} (hx : AV.den w φ I x u) : ∀ (cs : List AV) (us : List Value) (j : Nat), AV.dens w φ I cs us → AV.dens w φ I (cs.set j x) (us.set j u)
  | [], us, j, h => by simp only [AV.dens] at h; subst h; simp [AV.dens]
  | y :: cs, us, 0, h => by
    simp only [AV.dens] at h
    obtain ⟨v, vs, rfl, h1, h2⟩ := h
    simp only [List.set_cons_zero, AV.dens]
    exact ⟨u, vs, rfl, hx, h2⟩
  | y :: cs, us, j + 1, h => by
    simp only [AV.dens] at h
    obtain ⟨v, vs, rfl, h1, h2⟩ := h
    simp only [List.set_cons_succ, AV.dens]
    exact ⟨v, _, rfl, h1, dens_setAt hx cs vs j h2⟩
section
variable {C : Cx} {K : List PK} {E : Env} {H : Heap}
theorem AQ.mmake {ds : List (Nat × Nat)} {i : Nat} {d : Option Nat} {ty t : TypeId} {pos : String} {af : Array Edge} {os : List Oper}
    (hok : dstOk C.n ({ dst := d, op := .makeMap t none, type := ty, pos := pos, after := af, guard := none } :: os) = true)
    (h : vq C K os (dsPut d i ds) (i + 1) (putE d (.mp (nidx C.B.nb H)) E) ((nidx C.B.nb H, .var (.map []) []) :: H)) :
    AQ C ds i ({ dst := d, op := .makeMap t none, type := ty, pos := pos, after := af, guard := none } :: os) K E H := by
  obtain ⟨hd, hok'⟩ := dstOk_cons hok
  have hgo := AQ.go hok' h
  unfold AQ at hgo ⊢
  refine AO.step fun ops φ I a w hds _ hs Kn hKn => ?_
  have hnx := nidx_ge C.B.nb H
  obtain ⟨h1, h2⟩ := hs.st.alloc_ob (ob := .map #[] 0) (o := .var (.map []) []) (nid_fresh C.B.nb H) hnx.1 (by
    simp only [Ob.at, Sh.has, Sh.one, AV.dens]
    exact ⟨_, [], rfl, ⟨#[], 0, by simpa using al_new w _, rfl, rfl, List.nodup_nil, fun _ h => by cases h⟩, rfl, trivial⟩)
  rw [if_pos (by simp [Region.wanted])]
  unfold Oper.wp
  have hrun : (execOp a.eval { dst := d, op := .makeMap t none, type := ty, pos := pos, after := af, guard := none }).run C.P w = .ok (.value (.map (some w.heap.size))) (w.alloc (.map #[] 0)) := by
    have hmm : (Instr.makeMap t none).run C.P w = .ok (.map (some w.heap.size)) (w.alloc (.map #[] 0)) := rfl
    simp only [execOp, Option.map_none, Sem.run_bind, Sem.run_map, hmm, Result.andThen_ok, Sem.run_pure]
  rw [hrun, Oper.upon_value]
  exact hKn _ _ _ I _ _ hgo (hs.put h1 h2 hd (by simp only [AV.den, upd]; exact ⟨_, by simp, rfl⟩))
theorem AQ.msetN {ds : List (Nat × Nat)} {i : Nat} {ty t kt et : TypeId} {pos : String} {af : Array Edge} {os : List Oper} {m k x : Operand} {b : Nat} {ks : List Value} {cs : List AV} {kv : Value} {xv : AV} {dk : TypeDesc}
    (hok : dstOk C.n ({ dst := none, op := .mapUpdate t m k x, type := ty, pos := pos, after := af, guard := none } :: os) = true)
    (hm : ev E m = some (.mp b)) (hk : ev E k = some (.im (.v kv))) (hx : ev E x = some xv) (hH : lk H b = some (.var (.map ks) cs)) (ht : C.P.underlying t = some (.map kt et)) (hd : C.P.underlying kt = some dk)
    (hks : KeysOk dk ks) (hkk : IsKey dk kv) (hin : kv ∉ ks)
    (h : vq C K os ds (i + 1) E (hset H b (.var (.map (ks ++ [kv])) (cs ++ [xv])))) :
    AQ C ds i ({ dst := none, op := .mapUpdate t m k x, type := ty, pos := pos, after := af, guard := none } :: os) K E H := by
  obtain ⟨hdst, hok'⟩ := dstOk_cons hok
  have hgo := AQ.go hok' h
  unfold AQ at hgo ⊢
  refine AO.step fun ops φ I a w hds _ hs Kn hKn => ?_
  obtain ⟨g, es, clock, hme, hg, hh, hke, hde, hbi⟩ := map_open hs.st.real hH (ev_sound hs.env hm)
  have hkv := ev_sound hs.env hk
  simp only [AV.den, IV.den] at hkv
  have hxv := ev_sound hs.env hx
  rcases map_find hke hks hkk with ⟨h1, _⟩ | ⟨j', e, h1, h2, h3, h4⟩
  · rw [if_pos (by simp [Region.wanted])]
    unfold Oper.wp
    have hlt : g < w.heap.size := (hs.st.real.off b g hg).2
    have hrun : (Instr.mapUpdate t (a.eval m) (a.eval k) (a.eval x)).run C.P w = .ok () (w.putObj g (.map (es.push { key := kv, val := a.eval x, born := clock }) (clock + 1))) := by
      rw [hme, hkv.1]
      simp [Instr.mapUpdate, run_underlying ht, MapKept.run_getObj_map hh, run_checkKey hd hkk, run_findKey hd h1, MapKept.run_setObj_map _ hh, Result.andThen, World.putObj]
    have hrun2 : (execOp a.eval { dst := none, op := .mapUpdate t m k x, type := ty, pos := pos, after := af, guard := none }).run C.P w = .ok .skip (w.putObj g (.map (es.push { key := kv, val := a.eval x, born := clock }) (clock + 1))) := by
      simp only [execOp, Sem.run_bind, Sem.run_map, hrun, Result.andThen_ok, Sem.run_pure]
    rw [hrun2, Oper.upon_skip]
    obtain ⟨hS, hkp⟩ := hs.st.putM (o' := .map (es.push { key := kv, val := a.eval x, born := clock }) (clock + 1)) (ob := .var (.map (ks ++ [kv])) (cs ++ [xv])) hg hh hH (by
      simp only [Ob.at, Sh.has, Sh.one]
      refine ⟨g, es.toList.map (·.val) ++ [a.eval x], rfl, ⟨_, _, World.putObj_heap_same hlt, by simp [hke], by simp, births_push hbi⟩, ?_, trivial⟩
      have hK := keeps_putM (φ := φ) (o' := .map (es.push { key := kv, val := a.eval x, born := clock }) (clock + 1)) hh (hs.st.real.off b g hg).1
      exact AV.dens_mono hK.im hK.I hK.phi hK.sh _ _ (dens_snoc hxv cs _ hde))
    exact hKn _ _ φ I _ _ hgo (hs.put hS hkp hdst (v := .top) (by simp only [AV.den]))
  · exact absurd (List.mem_of_getElem? h4) hin
theorem AQ.msetF (j : Nat) {ds : List (Nat × Nat)} {i : Nat} {ty t kt et : TypeId} {pos : String} {af : Array Edge} {os : List Oper} {m k x : Operand} {b : Nat} {ks : List Value} {cs : List AV} {kv : Value} {xv : AV} {dk : TypeDesc}
    (hok : dstOk C.n ({ dst := none, op := .mapUpdate t m k x, type := ty, pos := pos, after := af, guard := none } :: os) = true)
    (hm : ev E m = some (.mp b)) (hk : ev E k = some (.im (.v kv))) (hx : ev E x = some xv) (hH : lk H b = some (.var (.map ks) cs)) (ht : C.P.underlying t = some (.map kt et)) (hd : C.P.underlying kt = some dk)
    (hks : KeysOk dk ks) (hkk : IsKey dk kv) (hin : kv ∈ ks) (hj : ∀ i, ks[i]? = some kv → i = j)
    (h : vq C K os ds (i + 1) E (hset H b (.var (.map ks) (cs.set j xv)))) :
    AQ C ds i ({ dst := none, op := .mapUpdate t m k x, type := ty, pos := pos, after := af, guard := none } :: os) K E H := by
  obtain ⟨hdst, hok'⟩ := dstOk_cons hok
  have hgo := AQ.go hok' h
  unfold AQ at hgo ⊢
  refine AO.step fun ops φ I a w hds _ hs Kn hKn => ?_
  obtain ⟨g, es, clock, hme, hg, hh, hke, hde, hbi⟩ := map_open hs.st.real hH (ev_sound hs.env hm)
  have hkv := ev_sound hs.env hk
  simp only [AV.den, IV.den] at hkv
  have hxv := ev_sound hs.env hx
  rcases map_find hke hks hkk with ⟨_, h2⟩ | ⟨j', e, h1, h2, h3, h4⟩
  · exact absurd hin h2
  · have := hj j' h4
    subst this
    rw [if_pos (by simp [Region.wanted])]
    unfold Oper.wp
    have hlt : g < w.heap.size := (hs.st.real.off b g hg).2
    have hje : es[j']? = some e := by simpa using h2
    have hrun : (Instr.mapUpdate t (a.eval m) (a.eval k) (a.eval x)).run C.P w = .ok () (w.putObj g (.map (es.modify j' fun e => { e with key := kv, val := a.eval x }) clock)) := by
      rw [hme, hkv.1]
      simp [Instr.mapUpdate, run_underlying ht, MapKept.run_getObj_map hh, run_checkKey hd hkk, run_findKey hd h1, hje, h3, run_keyThatStays hkk, MapKept.run_setObj_map _ hh, Result.andThen, World.putObj]
    have hrun2 : (execOp a.eval { dst := none, op := .mapUpdate t m k x, type := ty, pos := pos, after := af, guard := none }).run C.P w = .ok .skip (w.putObj g (.map (es.modify j' fun e => { e with key := kv, val := a.eval x }) clock)) := by
      simp only [execOp, Sem.run_bind, Sem.run_map, hrun, Result.andThen_ok, Sem.run_pure]
    rw [hrun2, Oper.upon_skip]
    have hmk : (es.modify j' fun e => { e with key := kv, val := a.eval x }).toList = es.toList.set j' { e with key := kv, val := a.eval x } := by
      rw [Array.toList_modify]
      exact modify_set h2
    obtain ⟨hS, hkp⟩ := hs.st.putM (o' := .map (es.modify j' fun e => { e with key := kv, val := a.eval x }) clock) (ob := .var (.map ks) (cs.set j' xv)) hg hh hH (by
      simp only [Ob.at, Sh.has, Sh.one]
      refine ⟨g, (es.toList.map (·.val)).set j' (a.eval x), rfl, ⟨_, _, World.putObj_heap_same hlt, ?_, ?_, births_set h2 hmk hbi⟩, ?_, trivial⟩
      · rw [hmk, List.map_set, hke]
        exact set_same h4
      · rw [hmk, List.map_set]
      · have hK := keeps_putM (φ := φ) (o' := .map (es.modify j' fun e => { e with key := kv, val := a.eval x }) clock) hh (hs.st.real.off b g hg).1
        exact AV.dens_mono hK.im hK.I hK.phi hK.sh _ _ (dens_setAt hxv cs _ j' hde))
    exact hKn _ _ φ I _ _ hgo (hs.put hS hkp hdst (v := .top) (by simp only [AV.den]))
where
  modify_set {α : Type} {f : α → α} {x : α} : ∀ {l : List α} {j : Nat}, l[j]? = some x → l.modify j f = l.set j (f x)
    | [], _, h => by simp at h
    | y :: l, 0, h => by simp at h; subst h; rfl
    | y :: l, j + 1, h => by simp only [List.getElem?_cons_succ] at h; simp only [List.modify_succ_cons, List.set_cons_succ]; rw [modify_set h]
  set_same {α : Type} {x : α} : ∀ {l : List α} {j : Nat}, l[j]? = some x → l.set j x = l
    | [], _, h => by simp at h
    | y :: l, 0, h => by simp at h; subst h; rfl
    | y :: l, j + 1, h => by simp only [List.getElem?_cons_succ] at h; simp only [List.set_cons_succ]; rw [set_same h]
end
end Go.AL
end

section
namespace Go.AL
open Go Go.MapKept
section
variable {C : Cx} {K : List PK} {E : Env} {H : Heap}
end
end Go.AL
end

section
namespace Go.AL
open Go
/-- the own heap told in another form -/
theorem St.reob {B : Bs} {φ : Phi} {I : Nat → Prop} {H : Heap} {w : World} (h : St B φ I H w) {b : Nat} {o o' : Ob} (hl : lk H b = some o) (hd : ∀ p, φ b = some p → o.at w φ I p → o'.at w φ I p) :
    St B φ I (hset H b o') w := by
  refine ⟨⟨fun b' => ?_, fun b' o2 p hl' hp => ?_, h.real.off, h.real.inj, h.real.imm⟩, h.ext, h.ownx, h.immx, h.immo, fun b' p o2 hlt h0 hl' => ?_⟩
  · by_cases hbb : b' = b
    · subst hbb; rw [lk_hset_same H b' _ hl, h.real.dom b', hl]; rfl
    · rw [lk_hset_other H b b' _ hbb]; exact h.real.dom b'
  · by_cases hbb : b' = b
    · subst hbb
      rw [lk_hset_same H b' _ hl] at hl'
      cases hl'
      exact hd p hp (h.real.own b' _ p hl hp)
    · rw [lk_hset_other H b b' _ hbb] at hl'; exact h.real.own b' o2 p hl' hp
  · by_cases hbb : b' = b
    · subst hbb; exact h.phx b' p _ hlt h0 hl
    · rw [lk_hset_other H b b' _ hbb] at hl'; exact h.phx b' p o2 hlt h0 hl'
theorem St.hext {B : Bs} {φ : Phi} {I : Nat → Prop} {H H' : Heap} {w : World} (h : St B φ I H w) (he : ∀ b, lk H b = lk H' b) : St B φ I H' w :=
  ⟨⟨fun b => by rw [h.real.dom b, he b], fun b o p hl hp => h.real.own b o p ((he b).trans hl) hp, h.real.off, h.real.inj, h.real.imm⟩, h.ext, h.ownx, h.immx, h.immo, fun b p o hlt h0 hl => h.phx b p o hlt h0 ((he b).trans hl)⟩
section
variable {C : Cx} {K : List PK} {E : Env} {H : Heap}
theorem AE.hext {e : Exit} (H' : Heap) (he : ∀ b, lk H b = lk H' b) (h : AE C e K E H') : AE C e K E H := by
  unfold AE at h ⊢
  exact fun φ I a w hs => h _ _ _ _ ⟨hs.dfr, hs.siz, hs.env, hs.st.hext he⟩
theorem AP.hext {p : List Nat} (H' : Heap) (he : ∀ b, lk H b = lk H' b) (h : AP C p K E H') : AP C p K E H := by
  unfold AP at h ⊢
  exact fun φ I a w hs => h _ _ _ _ ⟨hs.dfr, hs.siz, hs.env, hs.st.hext he⟩
theorem AQ.hext {ds : List (Nat × Nat)} {i : Nat} {rest : List Oper} (H' : Heap) (he : ∀ b, lk H b = lk H' b) (h : AQ C ds i rest K E H') : AQ C ds i rest K E H := by
  unfold AQ at h ⊢
  exact fun ops h1 h2 φ I a w hs => h ops h1 h2 _ _ _ _ ⟨hs.dfr, hs.siz, hs.env, hs.st.hext he⟩
end
end Go.AL
end

section
namespace Go.AL
open Go
section
variable {C : Cx} {K : List PK} {E : Env} {H : Heap}
end
end Go.AL
end

section
namespace Go.AL
open Go
variable {es : Nat} {el : TypeId}
section
variable {C : Cx} {K : List PK} {E : Env}
end
end Go.AL
end

section
namespace Go.AL
open Go
section
variable {C : Cx} {K : List PK} {E : Env} {H : Heap}
theorem deadOf_nil {Hc : Heap} : ∀ (m : List (Nat × Nat)), (∀ b c, (b, c) ∈ m → (lk Hc b).isSome = true) → deadOf Hc m = []
  | [], _ => rfl
  | (b, c) :: r, h => by
    have h1 := h b c (by simp)
    obtain ⟨o, ho⟩ := Option.isSome_iff_exists.1 h1
    simp only [deadOf, ho]
    exact deadOf_nil r fun b' c' hb => h b' c' (by simp [hb])
theorem lk_is_mem : ∀ (m : List (Nat × Nat)) (b c : Nat), (b, c) ∈ m → (lk m b).isSome = true
  | [], _, _, h => by cases h
  | (b', c') :: r, b, c, h => by
    simp only [lk]
    cases hb : Nat.beq b' b with
    | true => rfl
    | false =>
      rcases List.mem_cons.1 h with h | h
      · cases h; simp at hb
      · simpa using lk_is_mem r b c h
theorem AQ.callF (m : List (Nat × Nat)) {ds : List (Nat × Nat)} {i : Nat} {d : Option Nat} {ty : TypeId} {pos : String} {af : Array Edge} {os : List Oper} {cal : Operand} {f : FuncId} {fs caps : List AV} {xs : List Operand} {ats : Array TypeId} {l argsc : List AV} {Hc : Heap} {r : AV}
    (hok : dstOk C.n ({ dst := d, op := .call { callee := .value cal, args := xs.toArray, argTypes := ats }, type := ty, pos := pos, after := af, guard := none } :: os) = true)
    (hcal : ev E cal = some (.fn f fs caps)) (hl : evs E xs = some l) (hgs : gs l = true)
    (hkeys : keysM m = keysH Hc) (hnk : nodupB (keysM m) = true) (hnv : nodupB (valsM m) = true) (hpass : ∀ k, passes (rho m k) H Hc)
    (hargs : ∀ k, AV.rns (rho m k) argsc = fs ++ l.map AV.st ++ caps) (hr : ∀ k, AV.rn (rho m k) r = r) (hc : ACall C.P f argsc Hc (fun r' H' => H' = Hc ∧ r' = r))
    (h : vq C K os (dsPut d i ds) (i + 1) (putE d r E) H) :
    AQ C ds i ({ dst := d, op := .call { callee := .value cal, args := xs.toArray, argTypes := ats }, type := ty, pos := pos, after := af, guard := none } :: os) K E H := by
  have hH : Hand m (nidx C.B.nb H) H Hc := ⟨hkeys, hnk, hnv, hpass _, fun b o hb => by have := nid_gt H b o hb; have := (nidx_ge C.B.nb H).2; omega⟩
  refine AQ.callHA m hok hcal hl hgs hkeys hnk hnv (hpass _) (hargs _) hc fun r' H1 ⟨e1, e2⟩ => ?_
  subst e1; subst e2
  have hdead : deadOf H1 m = [] := deadOf_nil m fun b c hb => by rw [← hH.dom]; exact lk_is_mem m b c hb
  rw [hdead, hr]
  refine ⟨rfl, AQ.hext H (fun c => ?_) (AQ.go (dstOk_cons hok).2 h)⟩
  rcases Nat.lt_or_ge c (nidx C.B.nb H) with hlt | hge
  · rw [hH.lk_old hlt]
    cases hi : invm m c with
    | none => rfl
    | some b =>
      obtain ⟨o, h1, h2⟩ := hH.get (hH.in_inv hi)
      simp only [h1, h2, Option.map_some]
  · obtain ⟨b, rfl⟩ := Nat.exists_eq_add_of_le hge
    rw [hH.lk_new b]
    have hn : lk H (nidx C.B.nb H + b) = none := by
      cases hq : lk H (nidx C.B.nb H + b) with
      | none => rfl
      | some o => have := hH.fresh _ _ hq; omega
    rw [hn]
    cases hm : lk m b with
    | some c => rfl
    | none =>
      have := hH.dom b
      rw [hm] at this
      cases hq : lk H1 b with
      | none => rfl
      | some o => rw [hq] at this; cases this
end
end Go.AL
end

section
namespace Go.AL
open Go
section
variable {C : Cx} {K : List PK} {E : Env} {H : Heap}
def cellsLe (cs cs' : List AV) : Prop := ∀ (w : World) (φ : Phi) (I : Nat → Prop) (us : List Value), AV.dens w φ I cs us → AV.dens w φ I cs' us
theorem cellsLe.refl (cs : List AV) : cellsLe cs cs := fun _ _ _ _ h => h
theorem cellsLe.cons {x : AV} {cs cs' : List AV} (h : cellsLe cs cs') : cellsLe (x :: cs) (x :: cs') := fun w φ I us hd => by
  simp only [AV.dens] at hd ⊢
  obtain ⟨u, us', e, h1, h2⟩ := hd
  exact ⟨u, us', e, h1, h w φ I us' h2⟩
theorem cellsLe.nil {es : Nat} {cs cs' : List AV} (h : cellsLe cs cs') : cellsLe (.im (.v (.slice none 0 0)) :: cs) (.im (.sl es []) :: cs') := fun w φ I us hd => by
  simp only [AV.dens] at hd ⊢
  obtain ⟨u, us', e, h1, h2⟩ := hd
  exact ⟨u, us', e, by simp only [AV.den] at h1 ⊢; exact nil_sl h1, h w φ I us' h2⟩
theorem St.cellsW {B : Bs} {φ : Phi} {I : Nat → Prop} {H : Heap} {w : World} (h : St B φ I H w) {b : Nat} {e : Sh} {cs cs' : List AV} (hl : lk H b = some (.var e cs)) (hc : cellsLe cs cs') : St B φ I (hset H b (.var e cs')) w :=
  h.reob hl fun p _ ho => by
    simp only [Ob.at] at ho ⊢
    obtain ⟨g, us, h1, h2, h3, h4⟩ := ho
    exact ⟨g, us, h1, h2, hc w φ I us h3, h4⟩
theorem AE.cellsW {e : Exit} (b : Nat) (cs' : List AV) {s : Sh} {cs : List AV} (hl : lk H b = some (.var s cs)) (hc : cellsLe cs cs') (h : AE C e K E (hset H b (.var s cs'))) : AE C e K E H := by
  unfold AE at h ⊢
  exact fun φ I a w hs => h _ _ _ _ ⟨hs.dfr, hs.siz, hs.env, hs.st.cellsW hl hc⟩
theorem AP.cellsW {p : List Nat} (b : Nat) (cs' : List AV) {s : Sh} {cs : List AV} (hl : lk H b = some (.var s cs)) (hc : cellsLe cs cs') (h : AP C p K E (hset H b (.var s cs'))) : AP C p K E H := by
  unfold AP at h ⊢
  exact fun φ I a w hs => h _ _ _ _ ⟨hs.dfr, hs.siz, hs.env, hs.st.cellsW hl hc⟩
end
end Go.AL
end

section
namespace Go.AL
open Go
section
variable {C : Cx} {K : List PK} {E : Env} {H : Heap}
theorem AQ.step1 (x : AV) (H' : Heap) {ds : List (Nat × Nat)} {i : Nat} {o : Oper} {os : List Oper} (hok : dstOk C.n (o :: os) = true) (hg : o.guard = none)
    (hex : ∀ φ I a w, Sim C φ I E H a w → ∃ u w' φ' I', (execOp a.eval o).run C.P w = .ok (.value u) w' ∧ AV.den w' φ' I' x u ∧ St C.B φ' I' H' w' ∧ Keeps w φ I w' φ' I')
    (h : vq C K os (dsPut o.dst i ds) (i + 1) (putE o.dst x E) H') : AQ C ds i (o :: os) K E H := by
  obtain ⟨hd, hok'⟩ := dstOk_cons hok
  have hgo := AQ.go hok' h
  unfold AQ at hgo ⊢
  refine AO.step (o := o) fun ops φ I a w hds _ hs Kn hKn => ?_
  have hw : Region.wanted o (yielded ops a.tmps) = true := by simp [Region.wanted, hg]
  rw [if_pos hw]
  obtain ⟨u, w', φ', I', hrun, hden, hS, hK⟩ := hex φ I a w hs
  unfold Oper.wp
  rw [hrun, Oper.upon_value]
  exact hKn _ _ φ' I' _ _ hgo (hs.put hS hK hd hden)
def vqN (C : Cx) (K : List PK) : Nat → List Oper → List (Nat × Nat) → Nat → Env → Heap → Prop
  | 0, os, ds, i, E, H => AQ C ds i os K E H
  | _ + 1, [], ds, i, E, H => AQ C ds i [] K E H
  | n + 1, o :: os, ds, i, E, H => match gd ds E o.guard with
    | none => AQ C ds i (o :: os) K E H
    | some G => match aval C.P E H o.op with
      | some (sc, v) => (G = true → sc) ∧ vqN C K n os (dsPut o.dst i ds) (i + 1) (putE o.dst (wrap o.guard G v) E) H
      | none => match o.guard with
        | some _ => AQ C ds i (o :: os) K E H
        | none => match aeff C.P C.B.nb C.ob E H o with
          | some (sc, v, H') => sc ∧ vqN C K n os (dsPut o.dst i ds) (i + 1) (putE o.dst v E) H'
          | none => AQ C ds i (o :: os) K E H
end
attribute [go_sem] vqN
end Go.AL
end

section
namespace Go.AL
open Go
def lentI (φ : Phi) (I : Nat → Prop) (g : Nat) : Prop := I g ∨ ∃ b, φ b = some (some g)
def Lent (H : Heap) (x : AV) (y : IV) : Prop := ∀ (w : World) (φ : Phi) (I : Nat → Prop), Real w φ I H → ∀ u, AV.den w φ I x u → IV.den w (lentI φ I) y u
def LentC (H : Heap) (xs : List AV) (ys : List IV) : Prop := ∀ (w : World) (φ : Phi) (I : Nat → Prop), Real w φ I H → ∀ us, AV.dens w φ I xs us → IV.dens w (lentI φ I) ys us
def LentA (H : Heap) (x y : AV) : Prop := ∀ (w : World) (φ : Phi) (I : Nat → Prop), Real w φ I H → ∀ u, AV.den w φ I x u → AV.den w (fun _ => none) (lentI φ I) y u
def LentAs (H : Heap) (xs ys : List AV) : Prop := ∀ (w : World) (φ : Phi) (I : Nat → Prop), Real w φ I H → ∀ us, AV.dens w φ I xs us → AV.dens w (fun _ => none) (lentI φ I) ys us
theorem LentC.nil {H : Heap} : LentC H [] [] := fun _ _ _ _ us h => by simpa only [AV.dens, IV.dens] using h
theorem LentC.cons {H : Heap} {x : AV} {y : IV} {xs : List AV} {ys : List IV} (h : Lent H x y) (h' : LentC H xs ys) : LentC H (x :: xs) (y :: ys) := fun w φ I hR us hd => by
  simp only [AV.dens] at hd
  obtain ⟨u, us', rfl, h1, h2⟩ := hd
  simp only [IV.dens]
  exact ⟨u, us', rfl, h w φ I hR u h1, h' w φ I hR us' h2⟩
theorem LentAs.nil {H : Heap} : LentAs H [] [] := fun _ _ _ _ us h => by simpa only [AV.dens] using h
theorem LentAs.cons {H : Heap} {x y : AV} {xs ys : List AV} (h : LentA H x y) (h' : LentAs H xs ys) : LentAs H (x :: xs) (y :: ys) := fun w φ I hR us hd => by
  simp only [AV.dens] at hd ⊢
  obtain ⟨u, us', rfl, h1, h2⟩ := hd
  exact ⟨u, us', rfl, h w φ I hR u h1, h' w φ I hR us' h2⟩
theorem Lent.im {H : Heap} (x : IV) : Lent H (.im x) x := fun w φ I hR u hd => by
  simp only [AV.den] at hd
  exact IV.den_mono0 (fun _ _ _ _ h => h) (fun g hg => .inl hg) x u hd
theorem LentA.of {H : Heap} {x : AV} {y : IV} (h : Lent H x y) : LentA H x (.im y) := fun w φ I hR u hd => by
  simp only [AV.den]; exact h w φ I hR u hd
theorem LentA.im {H : Heap} (x : IV) : LentA H (.im x) (.im x) := LentA.of (Lent.im x)
theorem LentA.agg {H : Heap} {xs ys : List AV} (h : LentAs H xs ys) : LentA H (.agg xs) (.agg ys) := fun w φ I hR u hd => by
  simp only [AV.den] at hd ⊢
  obtain ⟨us, h1, h2⟩ := hd
  exact ⟨us, h w φ I hR us h1, h2⟩
theorem LentA.fn {H : Heap} {f : FuncId} {xs ys as bs : List AV} (h : LentAs H xs ys) (h' : LentAs H as bs) : LentA H (.fn f xs as) (.fn f ys bs) := fun w φ I hR u hd => by
  simp only [AV.den] at hd ⊢
  obtain ⟨us, vs, h1, h2, h3⟩ := hd
  exact ⟨us, vs, h w φ I hR us h1, h' w φ I hR vs h2, h3⟩
theorem Lent.os {H : Heap} {b es i n : Nat} {el : TypeId} {rows : List (List IV)} (hl : lk H b = some (.vec el es rows)) (hn : i + n ≤ rows.length) : Lent H (.os b es i n) (.sl es ((rows.drop i).take n)) := fun w φ I hR u hd => by
  obtain ⟨p, hp⟩ : ∃ p, φ b = some p := by
    have := hR.dom b
    rw [hl] at this
    cases hq : φ b with
    | none => rw [hq] at this; cases this
    | some p => exact ⟨p, rfl⟩
  have hat := hR.own b _ p hl hp
  simp only [Ob.at] at hat
  have hb : (φ b = some none ∧ rows = []) ∨ ∃ g vss, φ b = some (some g) ∧ lentI φ I g ∧ IV.denss w I rows vss ∧ (∀ vs ∈ vss, vs.length = es) ∧ cellsAt w g 0 vss.flatten := by
    rcases hat with ⟨rfl, hr⟩ | ⟨g, vss, rest, rfl, hheap, hd, hlv⟩
    · exact .inl ⟨hp, hr⟩
    · refine .inr ⟨g, vss, hp, .inr ⟨b, hp⟩, hd, hlv, fun j u hu => ?_⟩
      have hlt : j < vss.flatten.length := by
        rcases Nat.lt_or_ge j vss.flatten.length with h | h
        · exact h
        · rw [List.getElem?_eq_none h] at hu; cases hu
      simp only [World.cell?, hheap, Option.isSome_none, Bool.false_eq_true, if_false, List.getElem?_toArray, Nat.zero_add]
      rw [List.getElem?_append_left hlt]; exact hu
  have := frz_den (φ' := φ) (I' := lentI φ I) (b := b) (es := es) (rows := rows) (fun _ _ => rfl) (fun g hg => .inl hg) hb (.os b es i n) u (by simpa [frzC] using hn) hd
  simpa [frz, AV.den] using this
theorem Lent.ob {H : Heap} {b : Nat} {e : TypeId} {cs : List AV} {ys : List IV} (o : Nat) (hl : lk H b = some (.var (.cell e) cs)) (hc : LentC H cs ys) : Lent H (.ob b o) (.pt (ys.drop o)) := fun w φ I hR u hd => by
  simp only [AV.den] at hd
  obtain ⟨g, hg, rfl⟩ := hd
  have hat := hR.own b _ _ hl hg
  simp only [Ob.at, Sh.has] at hat
  obtain ⟨g', us, hgg, hheap, hds, _⟩ := hat
  cases hgg
  simp only [IV.den]
  refine ⟨g, o, us.drop o, rfl, .inr ⟨b, hg⟩, idens_drop o _ _ (hc w φ I hR us hds), fun j u hj => ?_⟩
  rw [List.getElem?_drop] at hj
  simp only [World.cell?, hheap, Option.isSome_none, Bool.false_eq_true, if_false, List.getElem?_toArray]
  exact hj
theorem Lent.ob0 {H : Heap} {b : Nat} {e : TypeId} {cs : List AV} {ys : List IV} (hl : lk H b = some (.var (.cell e) cs)) (hc : LentC H cs ys) : Lent H (.ob b 0) (.pt ys) := Lent.ob 0 hl hc
def IV.plain : IV → Bool
  | .v _ => true
  | .sl _ [] => true
  | _ => false
def IV.plains : List IV → Bool
  | [] => true
  | x :: xs => x.plain && IV.plains xs
def rowsPlain (rows : List (List IV)) : Prop := ∀ r ∈ rows, IV.plains r = true
mutual
def AV.plain : AV → Bool
  | .im x => x.plain
  | .ar xs => IV.plains xs
  | .agg xs => AV.plainL xs
  | .tup xs => AV.plainL xs
  | .fn _ xs ys => AV.plainL xs && AV.plainL ys
  | .opt _ x => AV.plain x
  | .wr _ x => AV.plain x
  | _ => true
def AV.plainL : List AV → Bool
  | [] => true
  | x :: xs => AV.plain x && AV.plainL xs
end
def Ob.plain : Ob → Prop
  | .var _ cs => AV.plainL cs = true
  | .vec _ _ rows => rowsPlain rows
  | .lp .. => False
def addH (k : Nat) : Heap → Heap → Heap
  | [], H => H
  | (b, o) :: r, H => (k + b, rnO (fun c => k + c) o) :: addH k r H
attribute [go_sem] addH AV.plain AV.plainL IV.plain IV.plains
section
variable {C : Cx} {K : List PK} {E : Env} {H : Heap}
end
end Go.AL
end

section
namespace Go.AL
open Go
section
variable {C : Cx} {K : List PK} {E : Env} {H : Heap}
theorem AQ.ownCell {ds : List (Nat × Nat)} {i : Nat} {rest : List Oper} (b off : Nat) (el : TypeId) (es : Nat) {e : Sh} {cs : List AV} (hl : lk H b = some (.var e cs)) (hc : cs[off]? = some (.im (.v (.slice none 0 0))))
    (h : AQ C ds i rest K E ((nidx C.B.nb H, .vec el es []) :: hset H b (.var e (cs.set off (.os (nidx C.B.nb H) es 0 0))))) : AQ C ds i rest K E H := by
  unfold AQ at h ⊢
  exact fun ops h1 h2 φ I a w hs => by
    obtain ⟨φ', hs'⟩ := hs.ownCell hl hc el es
    exact h ops h1 h2 _ _ _ _ hs'
end
section
variable {C : Cx} {K K' : List PK} {E : Env} {H : Heap} {p p' : List Nat} {e e' : Exit} {ds : List (Nat × Nat)} {i : Nat} {os : List Oper}
theorem xA (h : AP C p' K' E H) (hs : nrmP C.fn p K = some (.inl p', K') := by exact rfl)  : AP C p K E H := xPP hs h
theorem xB (h : AE C e K' E H) (hs : nrmP C.fn p K = some (.inr e, K') := by exact rfl)  : AP C p K E H := xPE hs h
theorem xC (h : AP C p' K' E H) (hs : nrmE C.fn e K = some (.inl p', K') := by exact rfl)  : AE C e K E H := xEP hs h
theorem xE (h : AE C e' K' E H) (hs : nrmE C.fn e K = some (.inr e', K') := by exact rfl)  : AE C e K E H := xEE hs h
theorem xD (h : AE C .normal K (keepE C.kp E) H) : AQ C ds i [] K E H := AQ.done h
theorem xK {o : Oper} (h : vq C K os (dsPut o.dst i ds) (i + 1) (putE o.dst (.opt false .top) E) H) (hok : dstOk C.n (o :: os) = true := by kernel_rfl) (hG : gd ds E o.guard = some false := by exact rfl)  : AQ C ds i (o :: os) K E H := AQ.skip hok hG h
theorem xS {d : Option Nat} {ty s dt e : TypeId} {x : Operand} {pos : String} {af : Array Edge} {l : List UInt8}
    (h : vq C K os (dsPut d i ds) (i + 1) (putE d (.im (.sl 1 (byteR l))) E) H) (hok : dstOk C.n ({ dst := d, op := .convert s dt x, type := ty, pos := pos, after := af, guard := none } :: os) = true := by kernel_rfl)
    (hx : ev E x = some (Sv l) := by exact rfl) (hs : (C.P.underlying s).isSome = true := by exact rfl) (hd : tk C.P dt = .slice e := by exact rfl) (he : tk C.P e = .int .u8 := by exact rfl)
     :
    AQ C ds i ({ dst := d, op := .convert s dt x, type := ty, pos := pos, after := af, guard := none } :: os) K E H := AQ.s2b hok hx hs hd he h
theorem xM {d : Option Nat} {ty t e : TypeId} {x : Operand} {pos : String} {af : Array Edge} {b es n : Nat} {el : TypeId} {rows : List (List IV)}
    (h : vq C K os (dsPut d i ds) (i + 1) (putE d (.im (.sl es rows)) (killE b E)) (hdel b H)) (hok : dstOk C.n ({ dst := d, op := .convert t t x, type := ty, pos := pos, after := af, guard := none } :: os) = true := by kernel_rfl)
    (hx : ev E x = some (.os b es 0 n) := by exact rfl) (hl : lk H b = some (.vec el es rows) := by exact rfl) (hn : n = rows.length := by exact rfl) (hne : Nat.beq n 0 = false := by exact rfl) (hno : noMen b (hdel b H) = true := by exact rfl) (hd : tk C.P t = .slice e := by exact rfl) (he : tk C.P e = .int .u8 := by exact rfl)
     :
    AQ C ds i ({ dst := d, op := .convert t t x, type := ty, pos := pos, after := af, guard := none } :: os) K E H := AQ.mark hok hx hl hn hne hno hd he h
theorem xT {t : Tmp} {x y : Code} (ht : AP C (0 :: p) K E H) (hc : codeAt C.fn p = .cond (.tmp t) x y := by exact rfl) (hb : lk E t = some (.im (.v (.bool true))) := by exact rfl)  : AP C p K E H := AP.cond_true hc hb ht
theorem xF {t : Tmp} {x y : Code} (hf : AP C (1 :: p) K E H) (hc : codeAt C.fn p = .cond (.tmp t) x y := by exact rfl) (hb : lk E t = some (.im (.v (.bool false))) := by exact rfl)  : AP C p K E H := AP.cond_false hc hb hf
theorem xR {id : Nat} {ops : List Oper} (h : vq C K ops [] 0 E H) (hc : codeAt C.fn p = .region id ops.toArray false := by exact rfl) (hok : dstOk C.n ops = true := by kernel_rfl)  : AP C p K E H := AP.region hc hok h
theorem xW {id : Nat} {ops : List Oper} (h : vg C H (fun _ En => AQ C [] ops.length [] K En H) ops [] 0 E) (hc : codeAt C.fn p = .region id ops.toArray true := by exact rfl) (hq0 : ops.all quietOp = true := by exact rfl) (hq : (dstOk C.n ops && drawB ops ops.length (drawT ops.length) && C.P.follows .mixedOrders) = true := by kernel_rfl)
     : AP C p K E H := AP.drawQ hc hq0 hq h
end
end Go.AL
end

section
namespace Go.AL
open Go Go.RowKit Go.Lib
section
variable {P : Program} {w : World}
end
section
variable {C : Cx} {K : List KI} {E : Env} {H : Heap}
end
section
variable {C : Cx} {K : List PK} {E : Env} {H : Heap}
end
section
variable {C : Cx} {K : List PK} {E : Env} {H : Heap}
end
end Go.AL
end

section
namespace Go.AL
open Go
section
variable {C : Cx} {K : List PK} {E : Env} {H : Heap}
theorem envOk_st {w : World} {φ : Phi} {I : Nat → Prop} {a : Act} (he : EnvOk w φ I E a) : EnvOk w φ I (stE E) a := fun j x hx => by
  obtain ⟨y, hy, rfl⟩ := stE_lk E j x hx
  obtain ⟨u, hu, hd⟩ := he j y hy
  exact ⟨u, hu, stV_den hd⟩
def effS (C : Cx) (K : List PK) (E : Env) (H : Heap) (ds : List (Nat × Nat)) (i : Nat) (o : Oper) (os : List Oper) : Prop :=
  match aeff C.P C.B.nb C.ob (stE E) H o with
  | some (sc, v, H') => sc ∧ vq C K os (dsPut o.dst i ds) (i + 1) (putE o.dst v E) H'
  | none => False
theorem AQ.effS {ds : List (Nat × Nat)} {i : Nat} {o : Oper} {os : List Oper} (hok : dstOk C.n (o :: os) = true) (hg : o.guard = none) (h : effS C K E H ds i o os) : AQ C ds i (o :: os) K E H := by
  unfold AL.effS at h
  split at h
  · rename_i sc v H' he
    obtain ⟨hsc, hnext⟩ := h
    obtain ⟨hd, hok'⟩ := dstOk_cons hok
    have hao := AQ.go hok' hnext
    unfold AQ at hao ⊢
    refine AO.step (o := o) fun ops φ I a w hds _ hs Kn hKn => ?_
    have hw : Region.wanted o (yielded ops a.tmps) = true := by simp [Region.wanted, hg]
    rw [if_pos hw]
    obtain ⟨nx, w', φ', I', hrun, hnx, hS, hk⟩ := aeff_sound (P := C.P) (envOk_st hs.env) hs.st he hsc
    unfold Oper.wp
    rw [hrun]
    rcases hnx with ⟨u, rfl, hden⟩ | ⟨rfl, hden⟩
    · rw [Oper.upon_value]
      exact hKn _ _ φ' I' _ _ hao (hs.put hS hk hd hden)
    · rw [Oper.upon_skip]
      exact hKn _ _ φ' I' _ _ hao (hs.put hS hk hd hden)
  · exact h.elim
end
attribute [go_sem] effS
end Go.AL
end

section
namespace Go.AL
open Go
section
variable {C : Cx} {K : List PK} {E : Env} {H : Heap}
theorem rep_flat (l : List Value) : ∀ (n i : Nat), i < n * l.length → (List.replicate n l).flatten[i]? = l[i % l.length]?
  | 0, i, h => by simp at h
  | n + 1, i, h => by
    rw [List.replicate_succ, List.flatten_cons]
    rcases Nat.lt_or_ge i l.length with hi | hi
    · rw [List.getElem?_append_left hi, Nat.mod_eq_of_lt hi]
    · rw [List.getElem?_append_right hi, rep_flat l n (i - l.length) (by rw [Nat.add_mul] at h; omega), ← Nat.mod_eq_sub_mod hi]
theorem zeroCells_flat (z : Array Value) (n : Nat) : (Builtin.zeroCells z n).toList = (List.replicate n z.toList).flatten := by
  refine List.ext_getElem? fun i => ?_
  rcases Nat.lt_or_ge i (n * z.size) with h | h
  · have hz : 0 < z.size := by
      rcases Nat.eq_zero_or_pos z.size with h0 | h0
      · rw [h0] at h; simp at h
      · exact h0
    rw [rep_flat _ _ _ (by simpa using h)]
    have hm : i % z.size < z.size := Nat.mod_lt _ hz
    simp [Builtin.zeroCells, h, hm]
  · rw [List.getElem?_eq_none (by simp [Builtin.zeroCells]; exact h), List.getElem?_eq_none (by simp; exact h)]
theorem St.putRows {B : Bs} {φ : Phi} {I : Nat → Prop} {w : World} (hS : St B φ I H w) {b g j es : Nat} {e : TypeId} {rows xs : List (List IV)} {vss ws : List (List Value)} {rest : List Value}
    (hH : lk H b = some (.vec e es rows)) (hb : φ b = some (some g)) (hcell : w.heap[g]? = some (.cells (vss.flatten ++ rest).toArray e (0, 0))) (hd : IV.denss w I rows vss) (hv1 : ∀ v ∈ vss, v.length = es)
    (hx : IV.denss w I xs ws) (hw1 : ∀ v ∈ ws, v.length = es) (hj : j + xs.length ≤ rows.length) :
    St B φ I (hset H b (.vec e es (rows.take j ++ xs ++ rows.drop (j + xs.length)))) (w.setRow g ((vss.flatten ++ rest).toArray.toList.take (j * es) ++ ws.flatten ++ (vss.flatten ++ rest).toArray.toList.drop (j * es + ws.flatten.length)).toArray) ∧
      Keeps w φ I (w.setRow g ((vss.flatten ++ rest).toArray.toList.take (j * es) ++ ws.flatten ++ (vss.flatten ++ rest).toArray.toList.drop (j * es + ws.flatten.length)).toArray) φ I := by
  have hlen := denss_len rows vss hd
  have hwl := denss_len xs ws hx
  have hfl := flat_len vss es hv1
  have hfw := flat_len ws es hw1
  have hle : j * es + ws.length * es ≤ vss.length * es := by rw [← Nat.add_mul]; exact Nat.mul_le_mul_right _ (by omega)
  have hcs : (vss.flatten ++ rest).toArray.toList.take (j * es) ++ ws.flatten ++ (vss.flatten ++ rest).toArray.toList.drop (j * es + ws.flatten.length) = (vss.take j ++ ws ++ vss.drop (j + ws.length)).flatten ++ rest := by
    have e1 : (vss.take j).flatten = vss.flatten.take (j * es) := flat_take j vss es hv1 (by omega)
    have e2 : (vss.drop (j + ws.length)).flatten = vss.flatten.drop ((j + ws.length) * es) := flat_drop (j + ws.length) vss es hv1 (by omega)
    rw [List.flatten_append, List.flatten_append, e1, e2, hfw, Nat.add_mul]
    simp only [List.toList_toArray]
    rw [List.take_append_of_le_length (by omega), List.drop_append_of_le_length (by omega)]
    simp
  have hsz : ((vss.flatten ++ rest).toArray.toList.take (j * es) ++ ws.flatten ++ (vss.flatten ++ rest).toArray.toList.drop (j * es + ws.flatten.length)).toArray.size = (vss.flatten ++ rest).toArray.size := by
    simp only [List.size_toArray, List.toList_toArray, List.length_append, List.length_take, List.length_drop]
    omega
  refine hS.write (o' := .vec e es (rows.take j ++ xs ++ rows.drop (j + xs.length))) hH hb hcell hsz (fun _ _ e => by cases e) ?_
  rw [hcs]
  simp only [Ob.at]
  refine .inr ⟨g, _, rest, rfl, setRow_heap w g _ _ e (0, 0) hcell, ?_, fun vs hvs => ?_⟩
  · have hI : ∀ g', I g' → (w.setRow g ((vss.take j ++ ws ++ vss.drop (j + ws.length)).flatten ++ rest).toArray).heap[g']? = w.heap[g']? := fun g' hg' => setRow_other w g g' _ (fun e => by subst e; exact (hS.real.off b g' hb).1 hg')
    refine IV.denss_mono hI (fun _ h => h) _ _ ?_
    rw [hwl]
    exact denss_append _ _ _ _ (denss_append _ _ _ _ (denss_take j _ _ hd) hx) (denss_drop _ _ _ hd)
  · simp only [List.mem_append] at hvs
    rcases hvs with (hvs | hvs) | hvs
    · exact hv1 vs (List.mem_of_mem_take hvs)
    · exact hw1 vs hvs
    · exact hv1 vs (List.mem_of_mem_drop hvs)
theorem dens_vs {w : World} {I : Nat → Prop} : ∀ (zs : List Value), (∀ z ∈ zs, z.oneCell' = true) → IV.dens w I (zs.map IV.v) zs
  | [], _ => by simp [IV.dens]
  | z :: zs, h => by
    simp only [List.map_cons, IV.dens, IV.den]
    exact ⟨z, zs, rfl, ⟨rfl, h z (by simp)⟩, dens_vs zs fun y hy => h y (by simp [hy])⟩
theorem denss_reps {w : World} {I : Nat → Prop} {zs : List Value} (hz : ∀ z ∈ zs, z.oneCell' = true) : ∀ n, IV.denss w I (List.replicate n (zs.map IV.v)) (List.replicate n zs)
  | 0 => by simp [IV.denss]
  | n + 1 => by
    simp only [List.replicate_succ, IV.denss]
    exact ⟨_, _, rfl, dens_vs zs hz, denss_reps hz n⟩
theorem AQ.clear {ds : List (Nat × Nat)} {i : Nat} {d : Option Nat} {ty t e e' : TypeId} {x : Operand} {pos : String} {af : Array Edge} {os : List Oper} {b j n es : Nat} {rows : List (List IV)} {zs : List Value}
    (hok : dstOk C.n ({ dst := d, op := .call { callee := .builtin .clear, args := #[x], argTypes := #[t] }, type := ty, pos := pos, after := af, guard := none } :: os) = true)
    (hx : ev E x = some (.os b es j n)) (hH : lk H b = some (.vec e es rows)) (ht : tk C.P t = .slice e') (hz : zro C.P e' = some zs) (hes : zs.length = es) (hz1 : (zs.all Value.oneCell') = true)
    (h : (0 < n ∧ j + n ≤ rows.length) ∧ vq C K os (dsPut d i ds) (i + 1) (putE d .top E) (hset H b (.vec e es (rows.take j ++ List.replicate n (zs.map IV.v) ++ rows.drop (j + n))))) :
    AQ C ds i ({ dst := d, op := .call { callee := .builtin .clear, args := #[x], argTypes := #[t] }, type := ty, pos := pos, after := af, guard := none } :: os) K E H := by
  obtain ⟨⟨h1, h2⟩, h⟩ := h
  refine AQ.step1 _ _ hok rfl (fun φ I a w hs => ?_) h
  have hxv := ev_sound hs.env hx
  simp only [AV.den] at hxv
  rcases hxv with ⟨_, _, hn0, _⟩ | ⟨g, c, hb, hu, h4, h5, h6⟩
  · omega
  have hown := hs.st.real.own b _ _ hH hb
  simp only [Ob.at] at hown
  rcases hown with ⟨hn, _⟩ | ⟨g', vss, rest, hg, hcell, hd, hv1⟩
  · cases hn
  cases hg
  obtain ⟨iz, zv, hi, hiz, hzc⟩ := zro_info hz
  have hone := List.all_eq_true.1 hz1
  have hlen := denss_len rows vss hd
  have hfl := flat_len vss es hv1
  obtain ⟨hS, hK⟩ := hs.st.putRows (j := j) (xs := List.replicate n (zs.map IV.v)) hH hb hcell hd hv1 (denss_reps hone n) (fun v hv => by rw [List.eq_of_mem_replicate hv, hes]) (by rw [List.length_replicate]; exact h2)
  have hzl : (Builtin.zeroCells zv.cells n).toList = (List.replicate n zs).flatten := by rw [zeroCells_flat, hzc]
  have hrl : (List.replicate n zs).flatten.length = n * es := by rw [flat_len _ es (fun v hv => by rw [List.eq_of_mem_replicate hv, hes]), List.length_replicate]
  have hfit : j * es + n * es ≤ (vss.flatten ++ rest).toArray.size := by
    have e : (vss.flatten ++ rest).toArray.size = vss.flatten.length + rest.length := by simp only [List.size_toArray, List.length_append]
    have : j * es + n * es ≤ vss.length * es := by rw [← Nat.add_mul]; exact Nat.mul_le_mul_right _ (by omega)
    omega
  have hst := run_storeCells_at C.P g (j * es) e (List.replicate n zs).flatten 0 (vss.flatten ++ rest).toArray w hcell (by rw [hrl]; omega) (fun v hv => by
    obtain ⟨l, hl, hvl⟩ := List.mem_flatten.1 hv
    rw [List.eq_of_mem_replicate hl] at hvl
    exact hone v hvl)
  rw [Nat.add_zero] at hst
  rw [List.length_replicate] at hS
  refine ⟨.tuple #[], _, φ, I, ?_, ?_, hS, hK⟩
  · have hn0 : n ≠ 0 := by omega
    obtain ⟨n', rfl⟩ : ∃ n', n = n' + 1 := ⟨n - 1, by omega⟩
    simp [execOp, resolve, invoke, builtin, Builtin.clear_, hu, run_underlying (und_slice ht), zeroValue, typeInfo, hi, hiz, hzl, hst]
  · simp only [AV.den]
end
end Go.AL
end

section
namespace Go.AL
open Go
section
variable {C : Cx} {K : List PK} {E : Env} {H : Heap}
theorem AQ.cellsW {ds : List (Nat × Nat)} {i : Nat} {rest : List Oper} (b : Nat) (cs' : List AV) {s : Sh} {cs : List AV} (hl : lk H b = some (.var s cs)) (hc : cellsLe cs cs') (h : AQ C ds i rest K E (hset H b (.var s cs'))) : AQ C ds i rest K E H := by
  unfold AQ at h ⊢
  exact fun ops h1 h2 φ I a w hs => h ops h1 h2 _ _ _ _ ⟨hs.dfr, hs.siz, hs.env, hs.st.cellsW hl hc⟩
end
end Go.AL
end

section
namespace Go.AL
open Go
section
variable {C : Cx} {K : List PK} {E : Env} {H : Heap}
def AEX (C : Cx) (r : AV) (K : List PK) (E : Env) (H : Heap) : Prop :=
  ∀ φ I a w v, Sim C φ I E H a w → AV.den w φ I r v → denK C (K.map (PK.ki C.fn)) (.panic [{ v := v, recovered := false }]) a w
def noBot : List PK → Bool
  | [] => true
  | .bot _ :: _ => false
  | .seq _ :: K => noBot K
  | .blk _ :: K => noBot K
  | .lp _ :: K => noBot K
  | .sc :: K => noBot K
theorem denK_panic : ∀ (K : List PK), noBot K = true → ∀ c a w, botPost C (.panic c) a w → denK C (K.map (PK.ki C.fn)) (.panic c) a w
  | [], _, _, _, _, h => h
  | .seq _ :: K, hK, c, a, w, h => denK_panic K hK c a w h
  | .blk _ :: K, hK, c, a, w, h => denK_panic K hK c a w h
  | .lp _ :: K, hK, c, a, w, h => denK_panic K hK c a w h
  | .sc :: K, hK, c, a, w, h => denK_panic K hK c a w h
  | .bot _ :: _, hK, _, _, _, _ => by cases hK
theorem panicsAt (l : List Nat) {r : AV} {v : Value} {φ : Phi} {I : Nat → Prop} {a : Act} {w : World} (hdf : Marks C.ds C.B.w0.heap.size w I a.defers) (hst : St C.B φ I H w) (hdv : AV.den w φ I r v) (hk : dropOk l r H = true) (hX : C.X r (hdels l H)) : botPost C (.panic [{ v := v, recovered := false }]) a w := by
  intro hds
  obtain ⟨ms, h1, h2, h3, _⟩ := hdf
  rw [h1, hds, List.filterMap_nil, List.append_nil]
  have key : ∀ (ms : List Nat) (w : World), ms.Nodup → (∀ D ∈ ms, C.B.w0.heap.size ≤ D ∧ w.heap[D]? = some (.deferred (some []))) → St C.B φ I H w → AV.den w φ I r v →
      LeavesInM Fence.wide 3 C.P C.fn a.tmps (CPostX C) (ms.map markOf) (.panicking [{ v := v, recovered := false }]) w := by
    intro ms
    induction ms with
    | nil =>
      intro w _ _ hS hd
      simp only [List.map_nil, LeavesInM, LeavesIn]
      obtain ⟨φ', hd', hS'⟩ := den_drop l φ H hk hd hS
      exact .inr ⟨r, hdels l H, φ', I, v, hX, rfl, hd', hS'⟩
    | cons D ms ih =>
      intro w hn hd hS hdv
      simp only [List.map_cons, LeavesInM]
      obtain ⟨h1, h2⟩ := hd D (by simp)
      rw [List.nodup_cons] at hn
      refine ⟨by simp, .inl ⟨D, _, rfl, run_takeDeferred h2, ih _ hn.2 (fun D' hD' => ?_) (hS.putD h1 h2) (den_putD h2 r v hdv)⟩⟩
      obtain ⟨h3, h4⟩ := hd D' (by simp [hD'])
      exact ⟨h3, (World.putObj_heap_other (fun e => hn.1 (by rw [← e]; exact hD'))).trans h4⟩
  exact key ms w h2 (fun D hD => (h3 D hD).2) hst hdv
theorem AEX.out (l : List Nat) {r : AV} (hK : noBot K = true) (hk : dropOk l r H = true) (hX : C.X r (hdels l H)) : AEX C r K E H := fun φ I a w v hs hd =>
  denK_panic K hK _ a w (panicsAt l hs.dfr hs.st hd hk hX)
theorem AEX.outR (l : List Nat) {r : AV} {Cn : Cx} {J : Act → World → Prop} {ops : List Oper} (hC : Cn = C.nr) (hK : noBot K = true) (hk : dropOk l r H = true) (hX : C.X r (hdels l H)) : AEX Cn r [.lp J, .bot (pOut C K ops)] E H := fun φ I a w v hs hd => by
  subst hC
  show pOut C K ops (.panic _) a w
  intro a' ha' _ _
  exact denK_panic K hK _ a' w (panicsAt (C := C) (a := a') l (by rw [ha']; exact hs.dfr) hs.st hd hk hX)
theorem keepE_in : ∀ (l : List Nat) (E : Env) (i : Nat) (x : AV), lk (keepE l E) i = some x → i ∈ l
  | [], E, i, x, h => by simp [keepE, lk] at h
  | j :: r, E, i, x, h => by
    rw [keepE] at h
    cases hj : lk E j with
    | none => rw [hj] at h; exact List.mem_cons_of_mem _ (keepE_in r E i x h)
    | some y =>
      rw [hj] at h
      simp only [lk] at h
      cases hb : Nat.beq j i with
      | true => have := Nat.eq_of_beq_eq_true hb; subst this; exact List.mem_cons_self ..
      | false => rw [hb] at h; exact List.mem_cons_of_mem _ (keepE_in r E i x h)
theorem AEX.draw (ids : List Nat) {r : AV} {Cn : Cx} {J : Act → World → Prop} {ops : List Oper} (hC : Cn = C.nr) (hi : (ids.all fun i => ops.all fun o => o.dst != some i) = true) (h : AEX C r K (keepE ids E) H) : AEX Cn r [.lp J, .bot (pOut C K ops)] E H := fun φ I a w v hs hd => by
  subst hC
  show pOut C K ops (.panic _) a w
  intro a' h1 h2 h3
  refine h φ I a' w v ⟨by rw [h1]; exact hs.dfr, by rw [h2]; exact hs.siz, fun i x hx => ?_, hs.st⟩ hd
  obtain ⟨u, hu, hdu⟩ := hs.env i x (keepE_sub ids E i x hx)
  refine ⟨u, (h3 i fun o ho e => ?_).trans hu, hdu⟩
  have := List.all_eq_true.1 (List.all_eq_true.1 hi i (keepE_in ids E i x hx)) o ho
  rw [e] at this
  simp at this
theorem ACallX.walk {P : Program} {f : FuncId} {fn : Func} {c : Code} {n nb : Nat} {args : List AV} {H : Heap} {R X : AV → Heap → Prop} (kp ob : List Nat) (hf : P.funcs[f]? = some fn) (hb : fn.body = some c) (hn : fn.ntmps = n)
    (hname : enters P f = true) (hargs : Nat.ble args.length n = true) (hnb : nid H = nb)
    (h : ∀ (w : World) (own I0 : Nat → Prop) (φ0 : Phi) (lay : Lay P ⟨w, own, I0, φ0, nb⟩), AP ⟨P, fn, n, ⟨w, own, I0, φ0, nb⟩, kp, ob, R, none, X, [], lay⟩ [] [] (enum 0 args) H) : ACallX P f args H R X :=
  ACallX.intro kp ob hf hb hn hname hargs hnb fun w own I0 φ0 lay => by
    have := h w own I0 φ0 lay
    unfold AP at this
    simp only [codeAt, hb, Option.getD_some] at this
    exact this
theorem ACallX.mono {P : Program} {f : FuncId} {args : List AV} {H : Heap} {R R' X X' : AV → Heap → Prop} (h : ACallX P f args H R X) (hr : ∀ r H', R r H' → R' r H') (hx : ∀ r H', X r H' → X' r H') : ACallX P f args H R' X' :=
  ⟨h.ent, fun w φ I vs hd hR hV => (h.run w φ I vs hd hR hV).mono fun _ _ h => by
    rcases h with ⟨r, H', φ', I', v, h1, h2⟩ | ⟨r, H', φ', I', v, h1, h2⟩
    · exact .inl ⟨r, H', φ', I', v, hr _ _ h1, h2⟩
    · exact .inr ⟨r, H', φ', I', v, hx _ _ h1, h2⟩⟩
theorem AQ.callHX (m : List (Nat × Nat)) {ds : List (Nat × Nat)} {i : Nat} {d : Option Nat} {ty : TypeId} {pos : String} {af : Array Edge} {os : List Oper} {cal : Operand} {f : FuncId} {fs caps : List AV} {xs : List Operand} {ats : Array TypeId} {l argsc : List AV} {Hc : Heap} {R X : AV → Heap → Prop}
    (hok : dstOk C.n ({ dst := d, op := .call { callee := .value cal, args := xs.toArray, argTypes := ats }, type := ty, pos := pos, after := af, guard := none } :: os) = true)
    (hcal : ev E cal = some (.fn f fs caps)) (hl : evs E xs = some l) (hgs : gs l = true)
    (hkeys : keysM m = keysH Hc) (hnk : nodupB (keysM m) = true) (hnv : nodupB (valsM m) = true) (hpass : passes (rho m (nidx C.B.nb H)) H Hc)
    (hargs : AV.rns (rho m (nidx C.B.nb H)) argsc = fs ++ l.map AV.st ++ caps) (hc : ACallX C.P f argsc Hc R X)
    (hx : ∀ r H1, X r H1 → noMens (deadOf H1 m) (hrest m H) = true ∧ AEX C (AV.rn (rho m (nidx C.B.nb H)) r) K (killEs (deadOf H1 m) E) (mergeH m (nidx C.B.nb H) H H1))
    (h : ∀ r H1, R r H1 → noMens (deadOf H1 m) (hrest m H) = true ∧ AQ C (dsPut d i ds) (i + 1) os K (putE d (AV.rn (rho m (nidx C.B.nb H)) r) (killEs (deadOf H1 m) E)) (mergeH m (nidx C.B.nb H) H H1)) :
    AQ C ds i ({ dst := d, op := .call { callee := .value cal, args := xs.toArray, argTypes := ats }, type := ty, pos := pos, after := af, guard := none } :: os) K E H := by
  obtain ⟨hd, hok'⟩ := dstOk_cons hok
  generalize hk : nidx C.B.nb H = k at *
  have hH : Hand m k H Hc := ⟨hkeys, hnk, hnv, hpass, fun b o hb => by have := nid_gt H b o hb; have := (nidx_ge C.B.nb H).2; omega⟩
  have hgo := h
  unfold AQ at hgo ⊢
  refine AO.step (o := { dst := d, op := .call { callee := .value cal, args := xs.toArray, argTypes := ats }, type := ty, pos := pos, after := af, guard := none }) fun ops φ I a w hds _ hs Kn hKn => ?_
  have hw : Region.wanted { dst := d, op := .call { callee := .value cal, args := xs.toArray, argTypes := ats }, type := ty, pos := pos, after := af, guard := none } (yielded ops a.tmps) = true := by simp [Region.wanted]
  rw [if_pos hw]
  have hcv := ev_sound hs.env hcal
  simp only [AV.den] at hcv
  obtain ⟨fus, us, hfus, hus, hcalv⟩ := hcv
  have hden : AV.dens w φ I (fs ++ l.map AV.st ++ caps) (fus ++ xs.map a.eval ++ us) := AQ.callHA.adens_append _ _ _ _ (AQ.callHA.adens_append _ _ _ _ hfus (evs_sound hs.env _ _ hl hgs)) hus
  rw [← hargs] at hden
  have hden' := AV.rns_back (ρ := rho m k) (φ := fun b => φ (rho m k b)) (fun _ => rfl) _ _ hden
  have hrun : (execOp a.eval { dst := d, op := .call { callee := .value cal, args := xs.toArray, argTypes := ats }, type := ty, pos := pos, after := af, guard := none }).run C.P w = .ok (.enter f (fus ++ xs.map a.eval ++ us).toArray) w := by
    have : execOp a.eval { dst := d, op := .call { callee := .value cal, args := xs.toArray, argTypes := ats }, type := ty, pos := pos, after := af, guard := none } = (do let d ← Deferred.ofValue (a.eval cal) (xs.toArray.map a.eval); invoke d.target d.args) := rfl
    rw [this, hcalv, ofValue_fn (t := ty) hc.ent]
    simp
  unfold Oper.wp
  rw [hrun, Oper.upon_enter]
  have hsim : ∀ r H1 φ1 I1 v w', noMens (deadOf H1 m) (hrest m H) = true → AV.den w' φ1 I1 r v → St ⟨w, ownB fun b => φ (rho m k b), I, fun b => φ (rho m k b), nid Hc⟩ φ1 I1 H1 w' →
      Sim C (φaft m k φ φ1) I1 (killEs (deadOf H1 m) E) (mergeH m k H H1) a w' ∧ AV.den w' (φaft m k φ φ1) I1 (AV.rn (rho m k) r) v := fun r H1 φ1 I1 v w' hnm hdv hS => by
    obtain ⟨hS1, hf, hkI, hI, hsh⟩ := hH.after (by have := (nidx_ge C.B.nb H).1; omega) hs.st hS hnm
    refine ⟨⟨hs.dfr.mono hkI hI, hs.siz, fun j x hx => ?_, hS1⟩, AV.rn_den (φ' := φaft m k φ φ1) (fun b p hb => hH.fwd (φ := φ) hb) r v hdv⟩
    obtain ⟨y, hy, hyd⟩ := killEs_lk (w := w) (I := I) _ φ E j x hx
    obtain ⟨u, hu, hd⟩ := hs.env j y hy
    exact ⟨u, hu, AV.den_mono hkI hI hf hsh x u (hyd u hd)⟩
  refine (hc.run w (fun b => φ (rho m k b)) I _ hden' (hH.real hs.st) hs.st.vk).mono fun e w' he => ?_
  rcases he with ⟨r, H1, φ1, I1, v, hr, he, hdv, hS⟩ | ⟨r, H1, φ1, I1, v, hr, he, hdv, hS⟩
  · subst he
    obtain ⟨hnm, hcont⟩ := hgo r H1 hr
    obtain ⟨hs2, hrd⟩ := hsim r H1 φ1 I1 v w' hnm hdv hS
    exact hKn _ _ (φaft m k φ φ1) I1 _ _ hcont (hs2.put hs2.st (Keeps.refl w' (φaft m k φ φ1) I1) hd hrd)
  · subst he
    obtain ⟨hnm, hcont⟩ := hx r H1 hr
    obtain ⟨hs2, hrd⟩ := hsim r H1 φ1 I1 v w' hnm hdv hS
    exact hcont _ _ _ _ _ hs2 hrd
theorem AQ.panic {ds : List (Nat × Nat)} {i : Nat} {d : Option Nat} {ty : TypeId} {pos : String} {af : Array Edge} {os : List Oper} {x : Operand} {t : TypeId} {y : AV}
    (hx : ev E x = some (.wr (.iface t) y)) (h : AEX C (.wr (.iface t) y) K E H) :
    AQ C ds i ({ dst := d, op := .panic x, type := ty, pos := pos, after := af, guard := none } :: os) K E H := by
  unfold AQ
  refine AO.step (o := { dst := d, op := .panic x, type := ty, pos := pos, after := af, guard := none }) fun ops φ I a w hds _ hs Kn hKn => ?_
  rw [if_pos (by simp [Region.wanted])]
  have hv := ev_sound hs.env hx
  have hv0 := hv
  simp only [AV.den, WK.rel] at hv
  obtain ⟨v, hu, _⟩ := hv
  have hrun : (execOp a.eval { dst := d, op := .panic x, type := ty, pos := pos, after := af, guard := none }).run C.P w = .halt (.panic (a.eval x)) w := by
    have e : execOp a.eval { dst := d, op := .panic x, type := ty, pos := pos, after := af, guard := none } = (do pure (.value (← Instr.panic (a.eval x))) : Sem Next) := rfl
    rw [e, hu]
    rfl
  unfold Oper.wp
  rw [hrun]
  exact h φ I a w _ hs hv0
end
end Go.AL
end

section
namespace Go.AL
open Go
/-- what 'defer u()' lays by -/
def dOf : Value → Deferred
  | .func fn fus us => { target := .fn fn us, args := fus }
  | _ => { target := .nil, args := #[] }
def botD (C : Cx) : Exit → Act → World → Prop
  | .normal, a, w | .ret, a, w => LeavesInM Fence.wide 3 C.P C.fn a.tmps (CPostX C) a.defers .returning w
  | .panic c, a, w => LeavesInM Fence.wide 3 C.P C.fn a.tmps (CPostX C) a.defers (.panicking c) w
  | _, _, _ => False
def modeOf : Option AV → Value → FrameMode
  | none, _ => .returning
  | some _, v => .panicking [{ v := v, recovered := false }]
structure ADef (P : Program) (f : FuncId) (args : List AV) (H : Heap) (r : Option AV) (R : Heap → Prop) : Prop where
  ent : enters P f = true
  run : ∀ (w : World) (φ : Phi) (I : Nat → Prop) (vs : List Value) (v : Value), AV.dens w φ I args vs → Real w φ I H → VK P w I → (∀ r0, r = some r0 → AV.den w φ I r0 v) →
    CallsDIn Fence.wide 2 P f vs.toArray (modeOf r v) w (fun e u' w' => ∃ H' φ' I' x, R H' ∧ e = .returned x ∧ settle u' = .returning ∧ St ⟨w, ownB φ, I, φ, nid H⟩ φ' I' H' w')
section
variable {C : Cx} {K : List PK} {E : Env} {H : Heap}
theorem denK_ds (D : List (Option Deferred)) : ∀ (K : List PK), noBot K = false → denK { C with ds := D } (K.map (PK.ki C.fn)) = denK C (K.map (PK.ki C.fn))
  | [], h => by cases h
  | .bot _ :: _, _ => rfl
  | .seq q :: K, h => by
    have ih := denK_ds D K h
    funext e a w
    simp only [List.map_cons, PK.ki, denK, ih]
  | .blk _ :: K, h => by
    have ih := denK_ds D K h
    funext e a w
    simp only [List.map_cons, PK.ki, denK, ih]
  | .lp _ :: K, h => by
    have ih := denK_ds D K h
    funext e a w
    simp only [List.map_cons, PK.ki, denK, ih]
  | .sc :: K, h => by
    have ih := denK_ds D K h
    funext e a w
    simp only [List.map_cons, PK.ki, denK, ih]
theorem AQ.defer {ds : List (Nat × Nat)} {i : Nat} {ty : TypeId} {pos : String} {af : Array Edge} {os : List Oper} {t : Tmp} {ats : Array TypeId} {f : FuncId} {fs caps : List AV}
    (hK : noBot K = false) (hds : C.ds = [none]) (hl : lk E t = some (.fn f fs caps))
    (h : ∀ u, AQ { C with ds := [some (dOf u)] } (dsPut none i ds) (i + 1) os K ((t, .wr (.exact u) (.fn f fs caps)) :: E) H) :
    AQ C ds i ({ dst := none, op := .defer { callee := .value (.tmp t), args := #[], argTypes := ats }, type := ty, pos := pos, after := af, guard := none } :: os) K E H := by
  unfold AQ AO at h ⊢
  intro ops h1 h2 φ I a w hs
  have hv := ev_sound hs.env (x := .tmp t) hl
  obtain ⟨v, hvv⟩ : ∃ v, a.eval (.tmp t) = v := ⟨_, rfl⟩
  rw [hvv] at hv
  have hv0 := hv
  simp only [AV.den] at hv0
  obtain ⟨fus, us, hfus, hus, hfv⟩ := hv0
  unfold wpL
  rw [if_pos (by simp [Region.wanted])]
  refine .inl ?_
  have hrun : (execOp a.eval { dst := none, op := .defer { callee := .value (.tmp t), args := #[], argTypes := ats }, type := ty, pos := pos, after := af, guard := none }).run C.P w = .ok (.defer (dOf v)) w := by
    have e : execOp a.eval { dst := none, op := .defer { callee := .value (.tmp t), args := #[], argTypes := ats }, type := ty, pos := pos, after := af, guard := none } = (do let d ← Deferred.ofValue (a.eval (.tmp t)) ((#[] : Array Operand).map a.eval); pure (.defer d) : Sem Next) := rfl
    rw [e, hvv, hfv]
    simp [Deferred.ofValue, Sem.run_bind, dOf]
  unfold Oper.wp
  rw [hrun, Oper.upon_defer]
  have hh := h v ops (fun j d hj => h1 j d (by simpa [dsPut] using hj)) (fun j o hj => by
    have := h2 (j + 1) o (by simpa using hj)
    rwa [show i + 1 + j = i + (j + 1) by omega]) φ I ({ a with defers := dOf v :: a.defers }) w
  rw [denK_ds _ K hK] at hh
  obtain ⟨ms, g1, g2, g3, g4⟩ := hs.dfr
  have hms := g4 (by rw [hds]; simp)
  have had : a.defers = [] := by rw [g1, hms, hds]; rfl
  refine hh ⟨?_, hs.siz, fun j x hx => ?_, hs.st⟩
  · refine ⟨[], ?_, List.nodup_nil, (fun D hD => by cases hD), fun _ => rfl⟩
    show dOf v :: a.defers = _
    rw [had]; rfl
  · simp only [lk] at hx
    cases hb : Nat.beq t j with
    | true =>
      rw [hb] at hx
      have := Nat.eq_of_beq_eq_true hb
      subst this
      simp only [cond_true, Option.some.injEq] at hx
      subst hx
      obtain ⟨u, hu, _⟩ := hs.env t _ hl
      refine ⟨u, hu, ?_⟩
      have hue : a.eval (.tmp t) = u := by simp [Act.eval, hu]
      rw [hvv] at hue
      subst hue
      rw [AV.den]
      exact ⟨v, ⟨rfl, rfl⟩, hv⟩
    | false =>
      rw [hb] at hx
      exact hs.env j x hx
def LV (C : Cx) (E : Env) (H : Heap) : Prop := ∀ φ I a w, St C.B φ I H w → EnvOk w φ I E a → LeavesInM Fence.wide 3 C.P C.fn a.tmps (CPostX C) [] .returning w
theorem LV.retD (l : List Nat) {sc : Prop} {xs : List AV} (h : resAV C.P E H C.fn.results.toList = some (sc, xs)) (hsc : sc) (hk : dropOk l (tupOf xs) H = true) (hR : C.R (tupOf xs) (hdels l H)) : LV C E H := fun φ I a w hS hE => by
  simp only [LeavesInM, LeavesIn]
  obtain ⟨v, hv, hd⟩ := results_run hE hS.real h hsc
  obtain ⟨φ', hd', hS'⟩ := den_drop l φ H hk hd hS
  exact ⟨v, hv, .inl ⟨tupOf xs, hdels l H, φ', I, v, hR, rfl, hd', hS'⟩⟩
theorem run_invoke {P : Program} {f : FuncId} {fus us : Array Value} {w : World} (hent : enters P f = true) : (invoke (.fn (.func f) us) fus).run P w = .ok (.enter f (fus ++ us)) w := by
  simp only [invoke]
  exact run_callFunc hent _ w
theorem leavesD (m : List (Nat × Nat)) {t : Tmp} {u : Value} {f : FuncId} {fs caps argsc : List AV} {Hc : Heap} {r : Option AV} {RD : Heap → Prop}
    (hds : C.ds = [some (dOf u)]) (hl : lk E t = some (.wr (.exact u) (.fn f fs caps)))
    (hkeys : keysM m = keysH Hc) (hnk : nodupB (keysM m) = true) (hnv : nodupB (valsM m) = true) (hpass : passes (rho m (nidx C.B.nb H)) H Hc)
    (hargs : AV.rns (rho m (nidx C.B.nb H)) argsc = fs ++ caps) (hc : ADef C.P f argsc Hc r RD)
    (h : ∀ H1, RD H1 → noMens (deadOf H1 m) (hrest m H) = true ∧ LV C (killEs (deadOf H1 m) E) (mergeH m (nidx C.B.nb H) H H1))
    {φ : Phi} {I : Nat → Prop} {a : Act} {w : World} (hs : Sim C φ I E H a w) (v : Value) (hr : ∀ r0, r = some r0 → AV.den w φ I (AV.rn (rho m (nidx C.B.nb H)) r0) v) :
    LeavesInM Fence.wide 3 C.P C.fn a.tmps (CPostX C) a.defers (modeOf r v) w := by
  obtain ⟨ms, g1, g2, g3, g4⟩ := hs.dfr
  have hms := g4 (by rw [hds]; simp)
  have had : a.defers = [dOf u] := by rw [g1, hms, hds]; rfl
  rw [had]
  generalize hk : nidx C.B.nb H = k at *
  have hH : Hand m k H Hc := ⟨hkeys, hnk, hnv, hpass, fun b o hb => by have := nid_gt H b o hb; have := (nidx_ge C.B.nb H).2; omega⟩
  obtain ⟨u', hu', hd'⟩ := hs.env t _ hl
  simp only [AV.den, WK.rel] at hd'
  obtain ⟨v', ⟨rfl, rfl⟩, fus, us, hfus, hus, hfv⟩ := hd'
  have hden : AV.dens w φ I (fs ++ caps) (fus ++ us) := AQ.callHA.adens_append _ _ _ _ hfus hus
  rw [← hargs] at hden
  have hden' := AV.rns_back (ρ := rho m k) (φ := fun b => φ (rho m k b)) (fun _ => rfl) _ _ hden
  subst hfv
  simp only [LeavesInM]
  refine ⟨by cases r <;> simp [modeOf], .inr ⟨fun h => (by cases h), .func f, us.toArray, f, (fus ++ us).toArray, rfl, ?_, fun _ _ => trivial, ?_⟩⟩
  · show (invoke (.fn (.func f) us.toArray) fus.toArray).run C.P w = _
    rw [run_invoke hc.ent, List.append_toArray]
  · refine (hc.run w (fun b => φ (rho m k b)) I (fus ++ us) v hden' (hH.real hs.st) hs.st.vk (fun r0 hr0 => AV.rn_back (ρ := rho m k) (φ := fun b => φ (rho m k b)) (fun _ => rfl) _ _ (hr r0 hr0))).mono fun e u' w' he => ?_
    obtain ⟨H1, φ1, I1, x, hR1, rfl, hset, hS⟩ := he
    show LeavesInM Fence.wide 3 C.P C.fn a.tmps (CPostX C) [] (settle u') w'
    rw [hset]
    obtain ⟨hnm, hlv⟩ := h H1 hR1
    obtain ⟨hS1, hf, hkI, hI, hsh⟩ := hH.after (by have := (nidx_ge C.B.nb H).1; omega) hs.st hS hnm
    refine hlv _ _ a w' hS1 fun j y hy => ?_
    obtain ⟨z, hz, hzd⟩ := killEs_lk (w := w) (I := I) _ φ E j y hy
    obtain ⟨q, hq, hqd⟩ := hs.env j z hz
    exact ⟨q, hq, AV.den_mono hkI hI hf hsh y q (hzd q hqd)⟩
theorem AE.leaveD (m : List (Nat × Nat)) {C0 : Cx} {e : Exit} {t : Tmp} {u : Value} {f : FuncId} {fs caps argsc : List AV} {Hc : Heap} {RD : Heap → Prop}
    (he : e = .ret ∨ e = .normal) (hds : C.ds = [some (dOf u)]) (hl : lk E t = some (.wr (.exact u) (.fn f fs caps)))
    (hkeys : keysM m = keysH Hc) (hnk : nodupB (keysM m) = true) (hnv : nodupB (valsM m) = true) (hpass : passes (rho m (nidx C.B.nb H)) H Hc)
    (hargs : AV.rns (rho m (nidx C.B.nb H)) argsc = fs ++ caps) (hc : ADef C.P f argsc Hc none RD)
    (h : ∀ H1, RD H1 → noMens (deadOf H1 m) (hrest m H) = true ∧ LV C (killEs (deadOf H1 m) E) (mergeH m (nidx C.B.nb H) H H1)) (hC : botD C0 = botD C := by rfl) : AE C e [.bot (botD C0)] E H := by
  unfold AE
  intro φ I a w hs
  have := leavesD m hds hl hkeys hnk hnv hpass hargs hc h hs undef (fun _ h => by cases h)
  rw [hC]
  rcases he with rfl | rfl <;> exact this
theorem AEX.leaveD (m : List (Nat × Nat)) {C0 : Cx} {K' : List PK} {r : AV} {t : Tmp} {u : Value} {f : FuncId} {fs caps argsc : List AV} {Hc : Heap} {RD : Heap → Prop}
    (hds : C.ds = [some (dOf u)]) (hl : lk E t = some (.wr (.exact u) (.fn f fs caps)))
    (hkeys : keysM m = keysH Hc) (hnk : nodupB (keysM m) = true) (hnv : nodupB (valsM m) = true) (hpass : passes (rho m (nidx C.B.nb H)) H Hc)
    (hargs : AV.rns (rho m (nidx C.B.nb H)) argsc = fs ++ caps) (hc : ADef C.P f argsc Hc (some r) RD) (hrr : AV.rn (rho m (nidx C.B.nb H)) r = r)
    (h : ∀ H1, RD H1 → noMens (deadOf H1 m) (hrest m H) = true ∧ LV C (killEs (deadOf H1 m) E) (mergeH m (nidx C.B.nb H) H H1)) (hK : noBot K' = true) (hC : botD C0 = botD C := by rfl) : AEX C r (K' ++ [.bot (botD C0)]) E H := by
  intro φ I a w v hs hd
  have h0 := leavesD m hds hl hkeys hnk hnv hpass hargs hc h hs v (fun r0 h => by cases h; rw [hrr]; exact hd)
  have key : ∀ (K' : List PK), noBot K' = true → denK C ((K' ++ [PK.bot (botD C0)]).map (PK.ki C.fn)) (.panic [{ v := v, recovered := false }]) a w := fun K' => by
    induction K' with
    | nil => intro _; rw [hC]; exact h0
    | cons x K' ih =>
      intro hK
      cases x with
      | bot Q => cases hK
      | _ => exact ih hK
  exact key K' hK
theorem ACallX.walkD {P : Program} {f : FuncId} {fn : Func} {c : Code} {n nb : Nat} {args : List AV} {H : Heap} {R X : AV → Heap → Prop} (kp ob : List Nat) (hf : P.funcs[f]? = some fn) (hb : fn.body = some c) (hn : fn.ntmps = n)
    (hname : enters P f = true) (hargs : Nat.ble args.length n = true) (hnb : nid H = nb)
    (h : ∀ (w : World) (own I0 : Nat → Prop) (φ0 : Phi) (lay : Lay P ⟨w, own, I0, φ0, nb⟩), AP ⟨P, fn, n, ⟨w, own, I0, φ0, nb⟩, kp, ob, R, none, X, [none], lay⟩ [] [.bot (botD ⟨P, fn, n, ⟨w, own, I0, φ0, nb⟩, kp, ob, R, none, X, [none], lay⟩)] (enum 0 args) H) : ACallX P f args H R X := by
  refine ⟨hname, fun w φ I vs hd hR hV => ?_⟩
  subst hnb
  have hl := adens_len args vs hd
  have hal := Nat.le_of_ble_eq_true hargs
  have h0 := h w (ownB φ) I φ (hR.lay hV _)
  unfold AP at h0
  simp only [codeAt, hb, Option.getD_some] at h0
  have h1 := h0 φ I { tmps := vs.toArray ++ Array.replicate (fn.ntmps - vs.toArray.size) undef, defers := [] } w ⟨Marks.nil, ?_, fun i x hx => ?_, real_st hR _⟩
  · refine callsIn_wide.1 (callsIn_of_wp_marks (F := Fence.wide) (n := 3) hf hb trivial (Go.wpIn_mono (F := Fence.wide) h1 fun e a w he => ?_))
    cases e with
    | normal => exact he
    | ret => exact he
    | panic c => exact he
    | _ => exact he.elim
  · simp only [Array.size_append, List.size_toArray, Array.size_replicate, hn]; omega
  · obtain ⟨j, rfl, hj⟩ := enum_lk args 0 i x hx
    obtain ⟨u, hu, hdu⟩ := adens_get args vs j x hd hj
    refine ⟨u, ?_, hdu⟩
    have hlt : j < vs.length := by
      rcases Nat.lt_or_ge j vs.length with h | h
      · exact h
      · rw [List.getElem?_eq_none h] at hu; cases hu
    rw [Nat.zero_add, Array.getElem?_append_left (by simpa using hlt)]
    simpa using hu
end
end Go.AL
end

section
namespace Go.AL
open Go
def botQ (C : Cx) : Exit → Act → World → Prop
  | .normal, a, w | .ret, a, w => a.defers = [] ∧ ∃ v, (results C.fn a.tmps).run C.P w = .ok v w ∧ CPost C.B C.R (.returned v) w
  | _, _, _ => False
def recAV : Option AV → AV
  | none => .im (.v .nilIface)
  | some r => r
section
variable {C : Cx} {K : List PK} {E : Env} {H : Heap}
theorem AE.retQ (l : List Nat) {e : Exit} {C0 : Cx} {sc : Prop} {xs : List AV} (he : e = .ret ∨ e = .normal) (hds : C.ds = [none]) (h : resAV C.P E H C.fn.results.toList = some (sc, xs)) (hsc : sc) (hk : dropOk l (tupOf xs) H = true) (hR : C.R (tupOf xs) (hdels l H)) (hC : botQ C0 = botQ C := by rfl) : AE C e [.bot (botQ C0)] E H := by
  unfold AE
  intro φ I a w hs
  obtain ⟨ms, g1, g2, g3, g4⟩ := hs.dfr
  have hms := g4 (by rw [hds]; simp)
  have had : a.defers = [] := by rw [g1, hms, hds]; rfl
  obtain ⟨v, hv, hd⟩ := results_run hs.env hs.st.real h hsc
  obtain ⟨φ', hd', hS'⟩ := den_drop l φ H hk hd hs.st
  rw [hC]
  have : a.defers = [] ∧ ∃ v, (results C.fn a.tmps).run C.P w = .ok v w ∧ CPost C.B C.R (.returned v) w := ⟨had, v, hv, tupOf xs, hdels l H, φ', I, v, hR, rfl, hd', hS'⟩
  rcases he with rfl | rfl <;> exact this
theorem wpIn_two {P : Program} {c : Code} {Q : Exit → Act → World → Prop} {a : Act} {w : World} (h : c.wpIn Fence.wide 3 P Q a w) : c.wpIn Fence.wide 2 P Q a w := wpIn_wide.2 (wpIn_wide.1 h)
theorem ADef.walk {P : Program} {f : FuncId} {fn : Func} {c2 : Code} {n nb id d0 d1 : Nat} {o0 o1 : Oper} {args : List AV} {H : Heap} {r : Option AV} {RD : Heap → Prop} (kp ob : List Nat) (hf : P.funcs[f]? = some fn)
    (hb : fn.body = some (.seq (.region id #[o0, o1] false) c2)) (hn : fn.ntmps = n)
    (ho0 : (match o0.op with | .call c => (match c.callee with | .builtin .recover => c.args.size == 0 | _ => false) | _ => false) = true ∧ o0.dst = some d0 ∧ o0.guard = none)
    (ho1 : o1.op = .assign (.tmp d0) ∧ o1.dst = some d1 ∧ o1.guard = none) (hd : (Nat.blt d0 n && Nat.blt d1 n) = true)
    (hname : enters P f = true) (hargs : Nat.ble args.length n = true) (hnb : nid H = nb)
    (h : ∀ (w : World) (own I0 : Nat → Prop) (φ0 : Phi) (lay : Lay P ⟨w, own, I0, φ0, nb⟩), AP ⟨P, fn, n, ⟨w, own, I0, φ0, nb⟩, kp, ob, fun _ H' => RD H', none, fun _ _ => False, [none], lay⟩ [1] [.bot (botQ ⟨P, fn, n, ⟨w, own, I0, φ0, nb⟩, kp, ob, fun _ H' => RD H', none, fun _ _ => False, [none], lay⟩)] ((d1, recAV r) :: (d0, recAV r) :: enum 0 args) H) : ADef P f args H r RD := by
  refine ⟨hname, fun w φ I vs v hden hR hV hr => ?_⟩
  subst hnb
  have hl := adens_len args vs hden
  have hal := Nat.le_of_ble_eq_true hargs
  simp only [Bool.and_eq_true, Nat.blt_eq] at hd
  obtain ⟨⟨hop0, hdst0, hg0⟩, hop1, hdst1, hg1⟩ := And.intro ho0 ho1
  have h0 := h w (ownB φ) I φ (hR.lay hV _)
  unfold AP at h0
  obtain ⟨x, hx⟩ : ∃ x, x = (match r with | none => Value.nilIface | some _ => v) := ⟨_, rfl⟩
  obtain ⟨T, hT⟩ : ∃ T : Array Value, T = vs.toArray ++ Array.replicate (fn.ntmps - vs.toArray.size) undef := ⟨_, rfl⟩
  have hTs : T.size = n := by rw [hT]; simp only [Array.size_append, List.size_toArray, Array.size_replicate, hn]; omega
  have hxd : AV.den w φ I (recAV r) x := by
    cases r with
    | none => rw [hx]; simp [recAV, AV.den, IV.den, Value.oneCell']
    | some r0 => rw [hx]; exact hr r0 rfl
  have hsim : Sim ⟨P, fn, n, ⟨w, ownB φ, I, φ, nid H⟩, kp, ob, fun _ H' => RD H', none, fun _ _ => False, [none], hR.lay hV _⟩ φ I ((d1, recAV r) :: (d0, recAV r) :: enum 0 args) H { tmps := (T.setIfInBounds d0 x).setIfInBounds d1 x, defers := [] } w := by
    refine ⟨Marks.nil, by simpa using hTs, fun i y hy => ?_, real_st hR _⟩
    simp only [lk] at hy
    cases hb1 : Nat.beq d1 i with
    | true =>
      rw [hb1] at hy
      have := Nat.eq_of_beq_eq_true hb1
      subst this
      simp only [cond_true, Option.some.injEq] at hy
      subst hy
      exact ⟨x, by simp [hTs, hd.2], hxd⟩
    | false =>
      rw [hb1] at hy
      have hne1 : d1 ≠ i := fun e => by subst e; simp at hb1
      simp only [cond_false] at hy
      cases hb0 : Nat.beq d0 i with
      | true =>
        rw [hb0] at hy
        have := Nat.eq_of_beq_eq_true hb0
        subst this
        simp only [cond_true, Option.some.injEq] at hy
        subst hy
        exact ⟨x, by rw [Array.getElem?_setIfInBounds_ne hne1]; simp [hTs, hd.1], hxd⟩
      | false =>
        rw [hb0] at hy
        have hne0 : d0 ≠ i := fun e => by subst e; simp at hb0
        simp only [cond_false] at hy
        obtain ⟨j, rfl, hj⟩ := enum_lk args 0 i y hy
        obtain ⟨u, hu, hdu⟩ := adens_get args vs j y hden hj
        refine ⟨u, ?_, hdu⟩
        have hlt : j < vs.length := by
          rcases Nat.lt_or_ge j vs.length with h | h
          · exact h
          · rw [List.getElem?_eq_none h] at hu; cases hu
        rw [Array.getElem?_setIfInBounds_ne hne1, Array.getElem?_setIfInBounds_ne hne0, hT, Nat.zero_add, Array.getElem?_append_left (by simpa using hlt)]
        simpa using hu
  have hc2 : codeAt fn [1] = c2 := by simp [codeAt, hb, child]
  have hwalk := h0 φ I _ w hsim
  rw [hc2] at hwalk
  refine callsDIn_of_wpSIn hf hb trivial fun c₀ cs hmode => ?_
  rw [← hT]
  refine wpSIn_seq (wpSIn_region ?_)
  obtain ⟨cs2, hcs2⟩ : ∃ cs2 : List Frame, cs2 = (match r with | none => c₀ :: cs | some _ => { c₀ with mode := .panicking [{ v := v, recovered := true }] } :: cs) := ⟨_, rfl⟩
  have hset : ∃ u', cs2 = { c₀ with mode := u' } :: cs ∧ settle u' = .returning := by
    cases r with
    | none => exact ⟨.returning, by rw [hcs2]; simp only [modeOf] at hmode; rw [← hmode], rfl⟩
    | some r0 => exact ⟨_, hcs2, rfl⟩
  have hfin : c2.wpSIn Fence.wide 2 P (bodyPostS P fn c₀ cs fun e u' w' => ∃ H' φ' I' x, RD H' ∧ e = .returned x ∧ settle u' = .returning ∧ St ⟨w, ownB φ, I, φ, nid H⟩ φ' I' H' w') { tmps := (T.setIfInBounds d0 x).setIfInBounds d1 x, defers := [] } cs2 w := by
    refine wpSIn_of_wpIn rfl (Go.wpIn_mono (wpIn_two hwalk) fun e a' w' he => ?_)
    obtain ⟨u', hu1, hu2⟩ := hset
    cases e with
    | normal =>
      obtain ⟨hd0, v', hv', rr, H', φ', I', vv, hRD, _, _, hS⟩ := he
      exact ⟨hd0, u', hu1, v', hv', H', φ', I', v', hRD, rfl, hu2, hS⟩
    | ret =>
      obtain ⟨hd0, v', hv', rr, H', φ', I', vv, hRD, _, _, hS⟩ := he
      exact ⟨hd0, u', hu1, v', hv', H', φ', I', v', hRD, rfl, hu2, hS⟩
    | _ => exact he.elim
  have hrec : (execOp ({ tmps := T, defers := [] } : Act).eval o0).run P w = .ok .recover w := by
    obtain ⟨dst, op, ty, pos, af, g⟩ := o0
    cases op with
    | call cc =>
      obtain ⟨callee, as, ats⟩ := cc
      simp only at hop0
      cases callee with
      | builtin bb =>
        cases bb <;> first | (simp only at hop0; exact absurd hop0 (by decide)) | rfl
      | _ => simp at hop0
    | _ => simp at hop0
  have hasg : ∀ a : Act, (execOp a.eval o1).run P w = .ok (.value (a.eval (.tmp d0))) w := fun a => by
    obtain ⟨dst, op, ty, pos, af, g⟩ := o1
    simp only at hop1
    subst hop1
    rfl
  have e0 : ({ tmps := T, defers := [] } : Act).put o0.dst x = { tmps := T.setIfInBounds d0 x, defers := [] } := by rw [hdst0]; rfl
  have e1 : ({ tmps := T.setIfInBounds d0 x, defers := [] } : Act).put o1.dst x = { tmps := (T.setIfInBounds d0 x).setIfInBounds d1 x, defers := [] } := by rw [hdst1]; rfl
  have ev0 : ({ tmps := T.setIfInBounds d0 x, defers := [] } : Act).eval (.tmp d0) = x := by simp [Act.eval, hTs, hd.1]
  have hstep : wpOpsSIn Fence.wide 2 P #[o0, o1] (Exit.thenS (c2.wpSIn Fence.wide 2 P (bodyPostS P fn c₀ cs fun e u' w' => ∃ H' φ' I' x, RD H' ∧ e = .returned x ∧ settle u' = .returning ∧ St ⟨w, ownB φ, I, φ, nid H⟩ φ' I' H' w')) (bodyPostS P fn c₀ cs fun e u' w' => ∃ H' φ' I' x, RD H' ∧ e = .returned x ∧ settle u' = .returning ∧ St ⟨w, ownB φ, I, φ, nid H⟩ φ' I' H' w')) [1] (({ tmps := T, defers := [] } : Act).put o0.dst x) cs2 w := by
    simp only [wpOpsSIn, List.getElem?_toArray, List.getElem?_cons_zero, List.getElem?_cons_succ]
    refine ⟨fun _ _ => trivial, ?_⟩
    rw [if_pos (by simp [Region.wanted, hg1]), hasg, e0, ev0]
    show Exit.thenS _ _ Exit.normal (({ tmps := T.setIfInBounds d0 x, defers := [] } : Act).put o1.dst x) cs2 w
    rw [e1]
    exact hfin
  show wpOpsSIn Fence.wide 2 P #[o0, o1] _ [0, 1] _ (c₀ :: cs) w
  rw [wpOpsSIn]
  have hget : (#[o0, o1] : Array Oper)[0]? = some o0 := rfl
  rw [hget]
  refine ⟨fun _ _ => trivial, ?_⟩
  rw [if_pos (by simp [Region.wanted, hg0]), hrec]
  cases r with
  | none =>
    simp only [modeOf] at hmode
    have hrd : recoverD (c₀ :: cs) = none := by simp [recoverD, hmode]
    simp only at hx hcs2
    subst hx
    subst hcs2
    show (match recoverD (c₀ :: cs) with | some (v, cs') => _ | none => _)
    rw [hrd]
    exact hstep
  | some r0 =>
    simp only [modeOf] at hmode
    have hrd : recoverD (c₀ :: cs) = some (v, { c₀ with mode := .panicking [{ v := v, recovered := true }] } :: cs) := by simp [recoverD, hmode]
    simp only at hx hcs2
    subst hx
    subst hcs2
    show (match recoverD (c₀ :: cs) with | some (v, cs') => _ | none => _)
    rw [hrd]
    exact hstep
end
end Go.AL
end

section
namespace Go.AL
open Go
def tkConc : TK → Bool
  | .iface => false
  | .other => false
  | _ => true
theorem und_conc {P : Program} {t : TypeId} (h : tkConc (tk P t) = true) : ∃ u, P.underlying t = some u ∧ ∀ m, u ≠ .interface m := by
  unfold tk at h
  cases hu : P.underlying t with
  | none => rw [hu] at h; cases h
  | some u =>
    refine ⟨u, rfl, fun m e => ?_⟩
    subst e
    rw [hu] at h
    cases h
section
variable {C : Cx} {K : List PK} {E : Env} {H : Heap}
theorem AQ.iface {ds : List (Nat × Nat)} {i : Nat} {d : Option Nat} {ty t : TypeId} {pos : String} {af : Array Edge} {os : List Oper} {x : Operand} {y : AV}
    (hok : dstOk C.n ({ dst := d, op := .makeInterface t x, type := ty, pos := pos, after := af, guard := none } :: os) = true)
    (hx : ev E x = some y) (hg : y.g = true) (ht : tkConc (tk C.P t) = true)
    (h : vq C K os (dsPut d i ds) (i + 1) (putE d (.wr (.iface t) y.st) E) H) :
    AQ C ds i ({ dst := d, op := .makeInterface t x, type := ty, pos := pos, after := af, guard := none } :: os) K E H := by
  obtain ⟨hd, hok'⟩ := dstOk_cons hok
  have hgo := AQ.go hok' h
  unfold AQ at hgo ⊢
  refine AO.step (o := { dst := d, op := .makeInterface t x, type := ty, pos := pos, after := af, guard := none }) fun ops φ I a w hds _ hs Kn hKn => ?_
  rw [if_pos (by simp [Region.wanted])]
  have hv := evs_sound hs.env [x] [y] (by simp [evs, hx]) (by simp [gs, hg])
  simp only [List.map_cons, List.map_nil, AV.dens] at hv
  obtain ⟨v0, us0, h0, hv, _⟩ := hv
  cases h0
  obtain ⟨u, hu, hnI⟩ := und_conc ht
  have hrun : (execOp a.eval { dst := d, op := .makeInterface t x, type := ty, pos := pos, after := af, guard := none }).run C.P w = .ok (.value (.iface t (a.eval x))) w := by
    have e : execOp a.eval { dst := d, op := .makeInterface t x, type := ty, pos := pos, after := af, guard := none } = (do pure (.value (← Instr.makeInterface t (a.eval x))) : Sem Next) := rfl
    rw [e]
    unfold Instr.makeInterface
    cases u <;> first | exact absurd rfl (hnI _) | simp [run_underlying hu]
  unfold Oper.wp
  rw [hrun, Oper.upon_value]
  exact hKn _ _ φ I _ _ hgo (hs.put hs.st (Keeps.refl w φ I) hd ⟨_, rfl, hv⟩)
theorem xI {ds : List (Nat × Nat)} {i : Nat} {d : Option Nat} {ty t : TypeId} {pos : String} {af : Array Edge} {os : List Oper} {x : Operand} {y : AV}
    (h : vq C K os (dsPut d i ds) (i + 1) (putE d (.wr (.iface t) y.st) E) H)
    (hok : dstOk C.n ({ dst := d, op := .makeInterface t x, type := ty, pos := pos, after := af, guard := none } :: os) = true := by kernel_rfl)
    (hx : ev E x = some y := by exact rfl) (hg : y.g = true := by exact rfl) (ht : tkConc (tk C.P t) = true := by exact rfl) :
    AQ C ds i ({ dst := d, op := .makeInterface t x, type := ty, pos := pos, after := af, guard := none } :: os) K E H := AQ.iface hok hx hg ht h
theorem AQ.assertYes {ds : List (Nat × Nat)} {i : Nat} {d : Option Nat} {ty t xt : TypeId} {pos : String} {af : Array Edge} {os : List Oper} {x : Operand} {y : AV}
    (hok : dstOk C.n ({ dst := d, op := .typeAssert x xt t true, type := ty, pos := pos, after := af, guard := none } :: os) = true)
    (hx : ev E x = some (.wr (.iface t) y)) (ht : tkConc (tk C.P t) = true)
    (h : vq C K os (dsPut d i ds) (i + 1) (putE d (.tup [y, .im (.v (.bool true))]) E) H) :
    AQ C ds i ({ dst := d, op := .typeAssert x xt t true, type := ty, pos := pos, after := af, guard := none } :: os) K E H :=
  AQ.val (.tup [y, .im (.v (.bool true))]) hok rfl (fun φ I a w hs => by
    have hv := ev_sound hs.env hx
    simp only [AV.den, WK.rel] at hv
    obtain ⟨v, hu, hv⟩ := hv
    obtain ⟨u, hund, hnI⟩ := und_conc ht
    refine ⟨.tuple #[v, .bool true], ?_, ?_⟩
    · have e : execOp a.eval { dst := d, op := .typeAssert x xt t true, type := ty, pos := pos, after := af, guard := none } = (do pure (.value (← Instr.typeAssert (a.eval x) xt t true)) : Sem Next) := rfl
      rw [e, hu]
      unfold Instr.typeAssert
      cases u <;> first | exact absurd rfl (hnI _) | simp [run_underlying hund]
    · exact ⟨_, ⟨v, [.bool true], rfl, hv, .bool true, [], rfl, (by simp only [AV.den, IV.den]; exact ⟨trivial, rfl⟩), rfl⟩, rfl⟩) h
end
section
variable {P : Program} {Q : Exit → Act → World → Prop} {a : Act} {w : World}
theorem oStep_none {o : Oper} {K : Act → World → Prop} (h : oStep P o a w K Q) : o.wpIn (Fw none) 3 P a w K Q := by
  refine ⟨fun _ _ => trivial, ?_⟩
  have hs : o.semAt (Fw none).round a.eval = execOp a.eval o := Oper.semAt_none _ _
  rw [hs]
  rcases h with h | ⟨l, f, tmps, as, bd, hr, h⟩
  · unfold Oper.wp at h
    generalize (execOp a.eval o).run P w = q at *
    cases q with
    | ok x w' =>
      cases x <;> simp only [Oper.upon, Oper.uponIn] at h ⊢ <;> first
        | exact h
        | exact ⟨fun h => (by cases h), callsR h⟩
        | exact ⟨fun h => (by cases h), rowsR h⟩
        | exact h.elim
    | halt x w' => cases x <;> simp only [Oper.upon, Oper.uponIn] at h ⊢ <;> first | exact h | exact h.elim
  · rw [hr, Oper.uponIn_round]
    exact ⟨fun h => (by cases h), roundsR h⟩
theorem wpL_opsN {ops : Array Oper} : ∀ (l : List Oper) (k : Nat), (∀ j, l[j]? = ops[k + j]?) → ∀ (a : Act) (w : World), wpL P ops Q l a w → wpOpsIn (Fw none) 3 P ops Q (List.range' k l.length) a w
  | [], _, _, _, _, h => h
  | o :: l, k, hl, a, w, h => by
    have h0 : ops[k]? = some o := by simpa using (hl 0).symm
    have ih := wpL_opsN l (k + 1) (fun j => by have := hl (j + 1); simpa [Nat.add_assoc, Nat.add_comm 1 j] using this)
    rw [List.length_cons, List.range'_succ]
    simp only [wpOpsIn, h0]
    simp only [wpL] at h
    split
    · rename_i hw
      rw [if_pos hw] at h
      exact Oper.wpIn_mono (fun a' w' h' => ih a' w' h') (oStep_none h)
    · rename_i hw
      rw [if_neg hw] at h
      exact ⟨fun _ _ => trivial, ih _ _ h⟩
theorem wpN_region {id : Nat} {ops : Array Oper} (h : wpL P ops Q ops.toList a w) : wpR none P (.region id ops false) Q a w := by
  refine wpIn_region ?_
  have := wpL_opsN (ops := ops) ops.toList 0 (by simp) a w h
  rwa [Array.length_toList, ← List.range_eq_range'] at this
end
section
variable {C : Cx} {K : List PK} {E : Env} {H : Heap}
theorem AP.regionD {p : List Nat} {id : Nat} {ops : List Oper} (hrd : C.rd = none) (hc : codeAt C.fn p = .region id ops.toArray false) (h : AQ C [] 0 ops K E H) : AP C p K E H := by
  unfold AP
  rw [hc]
  intro φ I a w hs
  unfold AQ at h
  rw [hrd]
  refine wpN_region (h ops.toArray (fun j d hj => by simp [lk] at hj) (fun j o hj => ?_) φ I a w hs)
  rw [Nat.zero_add]
  simp [hj]
theorem AQ.go1 {ds : List (Nat × Nat)} {i : Nat} {o : Oper} {os : List Oper} {sc : Prop} {v : AV} (hok : dstOk C.n [o] = true) (hg : o.guard = none) (hv : aval C.P E H o.op = some (sc, v)) (hsc : sc)
    (h : AQ C (dsPut o.dst i ds) (i + 1) os K (putE o.dst v E) H) : AQ C ds i (o :: os) K E H := by
  obtain ⟨hd, _⟩ := dstOk_cons hok
  have hao := h
  unfold AQ at hao ⊢
  refine AO.step fun ops φ I a w hds _ hs Kn hKn => ?_
  rw [if_pos (by simp [Region.wanted, hg])]
  obtain ⟨u, hu, hden⟩ := aval_sound hs.env hs.st.real hv hsc
  unfold Oper.wp
  rw [hu, Oper.upon_value]
  exact hKn _ _ φ I _ _ hao (hs.put hs.st (Keeps.refl _ _ _) hd hden)
end
end Go.AL
end

section
namespace Go.AL
open Go
section
variable {C : Cx} {K : List PK} {E : Env} {H : Heap}
end
end Go.AL
end

section
namespace Go.AL
open Go
section
variable {C : Cx} {K : List PK} {E : Env} {H : Heap}
end
end Go.AL
end

section
namespace Go.AL
open Go
section
variable {C : Cx} {K : List PK} {E : Env} {H : Heap}
theorem AE.leaveN {C0 : Cx} {e : Exit} (he : e = .ret ∨ e = .normal) (hds : C.ds = [none]) (h : LV C E H) (hC : botD C0 = botD C := by rfl) : AE C e [.bot (botD C0)] E H := by
  unfold AE
  intro φ I a w hs
  obtain ⟨ms, g1, g2, g3, g4⟩ := hs.dfr
  have hms := g4 (by rw [hds]; simp)
  have had : a.defers = [] := by rw [g1, hms, hds]; rfl
  rw [hC]
  have := h φ I a w hs.st hs.env
  rw [← had] at this
  rcases he with rfl | rfl <;> exact this
end
end Go.AL
end

section
namespace Go.AL
open Go
theorem an {a b : Prop} (x : a) (y : b) : a ∧ b := ⟨x, y⟩
theorem gO {p q : Prop} (hq : q) (h : q → p := by
  intro hq
  repeat (first | refine xA ?_ | refine xB ?_ | refine xC ?_ | refine xE ?_ | refine xD ?_ | refine xK ?_ | refine xS ?_ | refine xM ?_ | refine xT ?_ | refine xF ?_ | ((first | refine xR ?_ | refine xW ?_ | refine vq_id ?_); simp only [go_sem, Nat.reduceAdd, Nat.reduceLeDiff, Nat.reduceSub, Int.reduceToNat, reduceCtorEq]) | (refine ⟨by clear hq; first | omega | (intros; simp_all; done) | (intros; simp_all; omega), ?_⟩; try simp only [go_sem, Nat.reduceAdd, Nat.reduceLeDiff, Nat.reduceSub, Int.reduceToNat, reduceCtorEq]))
  exact hq) : p := h hq
theorem gE {e p q : Prop} (he : e) (hq : q) (h : e → q → p := by
  intro he hq
  repeat (first | refine xA ?_ | refine xB ?_ | refine xC ?_ | refine xE ?_ | refine xD ?_ | refine xK ?_ | refine xS ?_ | refine xM ?_ | refine xT ?_ | refine xF ?_ | ((first | refine xR ?_ | refine xW ?_ | refine vq_id ?_); simp only [go_sem, Nat.reduceAdd, Nat.reduceLeDiff, Nat.reduceSub, Int.reduceToNat, reduceCtorEq, he]) | (refine ⟨by clear hq; first | omega | (intros; simp_all; done) | (intros; simp_all; omega), ?_⟩; try simp only [go_sem, Nat.reduceAdd, Nat.reduceLeDiff, Nat.reduceSub, Int.reduceToNat, reduceCtorEq, he]))
  exact hq) : p := h he hq
theorem sI {p q : Prop} (hq : q) (h : q → p := by
  intro hq
  simp only [go_sem, Nat.reduceAdd, Nat.reduceLeDiff, Nat.reduceSub, Int.reduceToNat, reduceCtorEq]
  exact hq) : p := h hq
theorem sE {e p q : Prop} (he : e) (hq : q) (h : e → q → p := by
  intro he hq
  simp only [go_sem, Nat.reduceAdd, Nat.reduceLeDiff, Nat.reduceSub, Int.reduceToNat, reduceCtorEq, he]
  exact hq) : p := h he hq
theorem sH {p q : Prop} (hq : q) (h : q → p := by
  intro hq
  simp only [go_sem, Nat.reduceAdd, Nat.reduceLeDiff, Nat.reduceSub, Int.reduceToNat, reduceCtorEq, hrest, mergeH, deadOf, killEs]
  exact hq) : p := h hq
section
variable {C : Cx} {K : List PK} {E : Env} {H : Heap} {p : List Nat}
theorem cT {t : Tmp} {x y : Code} (ht : AP C (0 :: p) K E H) (hc : codeAt C.fn p = .cond (.tmp t) x y := by exact rfl) (hb : lk E t = some (.im (.v (.bool true))) := by
  simp only [go_sem, Nat.reduceAdd, Nat.reduceLeDiff, Nat.reduceSub, Int.reduceToNat, reduceCtorEq]
  refine congrArg (fun b => some (AV.im (IV.v (Value.bool b)))) ?_
  (first | (simp only [Bool.or_eq_true, Bool.and_eq_true, Bool.not_eq_true', Bool.not_eq_false', Bool.and_eq_false_iff, Bool.or_eq_false_iff, decide_eq_true_eq, decide_eq_false_iff_not, beq_iff_eq, bne_iff_ne, beq_eq_false_iff_ne, bne_eq_false_iff_eq, ne_eq]; omega) | (simp; done) | (simp; omega) | (simp_all; done) | (simp_all; omega))) : AP C p K E H := AP.cond_true hc hb ht
theorem cF {t : Tmp} {x y : Code} (hf : AP C (1 :: p) K E H) (hc : codeAt C.fn p = .cond (.tmp t) x y := by exact rfl) (hb : lk E t = some (.im (.v (.bool false))) := by
  simp only [go_sem, Nat.reduceAdd, Nat.reduceLeDiff, Nat.reduceSub, Int.reduceToNat, reduceCtorEq]
  refine congrArg (fun b => some (AV.im (IV.v (Value.bool b)))) ?_
  (first | (simp only [Bool.or_eq_true, Bool.and_eq_true, Bool.not_eq_true', Bool.not_eq_false', Bool.and_eq_false_iff, Bool.or_eq_false_iff, decide_eq_true_eq, decide_eq_false_iff_not, beq_iff_eq, bne_iff_ne, beq_eq_false_iff_ne, bne_eq_false_iff_eq, ne_eq]; omega) | (simp; done) | (simp; omega) | (simp_all; done) | (simp_all; omega))) : AP C p K E H := AP.cond_false hc hb hf
end
theorem sU {E E' : Env} (h : Sub E E' := by repeat (first | exact Sub.nil _ | refine Sub.cons rfl ?_)) : Sub E E' := h
end Go.AL
end

section
namespace Go.AL
open Go
theorem ADef.plain {P : Program} {f : FuncId} {fn : Func} {c : Code} {n nb : Nat} {args : List AV} {H : Heap} {RD : Heap → Prop} (kp ob : List Nat) (hf : P.funcs[f]? = some fn) (hb : fn.body = some c) (hn : fn.ntmps = n)
    (hname : enters P f = true) (hargs : Nat.ble args.length n = true) (hnb : nid H = nb)
    (h : ∀ (w : World) (own I0 : Nat → Prop) (φ0 : Phi) (lay : Lay P ⟨w, own, I0, φ0, nb⟩), AP ⟨P, fn, n, ⟨w, own, I0, φ0, nb⟩, kp, ob, fun _ H' => RD H', none, fun _ _ => False, [none], lay⟩ [] [.bot (botQ ⟨P, fn, n, ⟨w, own, I0, φ0, nb⟩, kp, ob, fun _ H' => RD H', none, fun _ _ => False, [none], lay⟩)] (enum 0 args) H) : ADef P f args H none RD := by
  refine ⟨hname, fun w φ I vs v hden hR hV _ => ?_⟩
  subst hnb
  have hl := adens_len args vs hden
  have hal := Nat.le_of_ble_eq_true hargs
  have h0 := h w (ownB φ) I φ (hR.lay hV _)
  unfold AP at h0
  simp only [codeAt, hb, Option.getD_some] at h0
  have hwalk := h0 φ I { tmps := vs.toArray ++ Array.replicate (fn.ntmps - vs.toArray.size) undef, defers := [] } w ⟨Marks.nil, by
    simp only [Array.size_append, List.size_toArray, Array.size_replicate, hn]; omega, fun i x hx => by
    obtain ⟨j, rfl, hj⟩ := enum_lk args 0 i x hx
    obtain ⟨u, hu, hdu⟩ := adens_get args vs j x hden hj
    refine ⟨u, ?_, hdu⟩
    have hlt : j < vs.length := by
      rcases Nat.lt_or_ge j vs.length with h | h
      · exact h
      · rw [List.getElem?_eq_none h] at hu; cases hu
    rw [Nat.zero_add, Array.getElem?_append_left (by simpa using hlt)]
    simpa using hu, real_st hR _⟩
  refine (callsDIn_of_wp (R := fun e w' => ∃ H' φ' I' x, RD H' ∧ e = .returned x ∧ St ⟨w, ownB φ, I, φ, nid H⟩ φ' I' H' w') hf hb trivial (Go.wpIn_mono (wpIn_two hwalk) fun e a' w' he => ?_)).mono fun e u' w' ⟨hu, H', φ', I', x, h1, h2, h3⟩ => ⟨H', φ', I', x, h1, h2, by rw [hu]; rfl, h3⟩
  cases e with
  | normal =>
    obtain ⟨hd0, v', hv', rr, H', φ', I', vv, hRD, _, _, hS⟩ := he
    exact ⟨hd0, v', hv', H', φ', I', v', hRD, rfl, hS⟩
  | ret =>
    obtain ⟨hd0, v', hv', rr, H', φ', I', vv, hRD, _, _, hS⟩ := he
    exact ⟨hd0, v', hv', H', φ', I', v', hRD, rfl, hS⟩
  | _ => exact he.elim
end Go.AL
end

section
namespace Go.AL
open Go
def IVle (a b : IV) : Prop := ∀ (w : World) (I : Nat → Prop) (u : Value), IV.den w I a u → IV.den w I b u
def rowLe (a b : List IV) : Prop := ∀ (w : World) (I : Nat → Prop) (us : List Value), IV.dens w I a us → IV.dens w I b us
def AVle (a b : AV) : Prop := ∀ (w : World) (φ : Phi) (I : Nat → Prop) (u : Value), AV.den w φ I a u → AV.den w φ I b u
theorem IVle.refl (a : IV) : IVle a a := fun _ _ _ h => h
theorem AVle.refl (a : AV) : AVle a a := fun _ _ _ _ h => h
theorem rowLe.refl (a : List IV) : rowLe a a := fun _ _ _ h => h
theorem rowsLe.refl (a : List (List IV)) : rowsLe a a := fun _ _ _ h => h
theorem IVle.nil (es : Nat) : IVle (.v (.slice none 0 0)) (.sl es []) := fun w I u h => nil_sl h
theorem rowLe.cons {x y : IV} {l m : List IV} (h : IVle x y) (h' : rowLe l m) : rowLe (x :: l) (y :: m) := fun w I us hd => by
  simp only [IV.dens] at hd ⊢
  obtain ⟨u, us', e, h1, h2⟩ := hd
  exact ⟨u, us', e, h w I u h1, h' w I us' h2⟩
theorem rowsLe.cons {x y : List IV} {l m : List (List IV)} (h : rowLe x y) (h' : rowsLe l m) : rowsLe (x :: l) (y :: m) := fun w I us hd => by
  simp only [IV.denss] at hd ⊢
  obtain ⟨u, us', e, h1, h2⟩ := hd
  exact ⟨u, us', e, h w I u h1, h' w I us' h2⟩
theorem denss_len2 {w : World} {I : Nat → Prop} : ∀ (l : List (List IV)) (us : List (List Value)), IV.denss w I l us → us.length = l.length
  | [], us, h => by simp only [IV.denss] at h; subst h; rfl
  | x :: l, us, h => by
    simp only [IV.denss] at h
    obtain ⟨u, us', rfl, _, h2⟩ := h
    simp [denss_len2 l us' h2]
theorem IVle.sl {es : Nat} {l m : List (List IV)} (h : rowsLe l m) : IVle (.sl es l) (.sl es m) := fun w I u hd => by
  simp only [IV.den] at hd ⊢
  obtain ⟨p, c, vss, e, hc, h1, h2, h3⟩ := hd
  have hm := h w I vss h1
  have hl : l.length = m.length := by rw [← denss_len2 l vss h1, ← denss_len2 m vss hm]
  refine ⟨p, c, vss, by rw [← hl]; exact e, by omega, hm, h2, fun hne => h3 fun hl0 => hne ?_⟩
  subst hl0
  exact List.eq_nil_of_length_eq_zero hl.symm
theorem AVle.im {a b : IV} (h : IVle a b) : AVle (.im a) (.im b) := fun w φ I u hd => by
  simp only [AV.den] at hd ⊢; exact h w I u hd
theorem cellsLe.cons2 {x y : AV} {l m : List AV} (h : AVle x y) (h' : cellsLe l m) : cellsLe (x :: l) (y :: m) := fun w φ I us hd => by
  simp only [AV.dens] at hd ⊢
  obtain ⟨u, us', e, h1, h2⟩ := hd
  exact ⟨u, us', e, h w φ I u h1, h' w φ I us' h2⟩
theorem AVle.agg {l m : List AV} (h : cellsLe l m) : AVle (.agg l) (.agg m) := fun w φ I u hd => by
  simp only [AV.den] at hd ⊢
  obtain ⟨us, h1, h2⟩ := hd
  exact ⟨us, h w φ I us h1, h2⟩
theorem AVle.tup {l m : List AV} (h : cellsLe l m) : AVle (.tup l) (.tup m) := fun w φ I u hd => by
  simp only [AV.den] at hd ⊢
  obtain ⟨us, h1, h2⟩ := hd
  exact ⟨us, h w φ I us h1, h2⟩
theorem ACall.argLe {P : Program} {f : FuncId} {xs ys : List AV} {H : Heap} {R : AV → Heap → Prop} (h : ACall P f ys H R) (hl : cellsLe xs ys) : ACall P f xs H R :=
  ⟨h.ent, fun w φ I vs hd hR hV => h.run w φ I vs (hl w φ I vs hd) hR hV⟩
theorem ACallX.argLe {P : Program} {f : FuncId} {xs ys : List AV} {H : Heap} {R X : AV → Heap → Prop} (h : ACallX P f ys H R X) (hl : cellsLe xs ys) : ACallX P f xs H R X :=
  ⟨h.ent, fun w φ I vs hd hR hV => h.run w φ I vs (hl w φ I vs hd) hR hV⟩
theorem PFn.argLe {P : Program} {f : FuncId} {xs ys : List AV} {r : AV} (h : PFn P f ys r) (hl : cellsLe xs ys) : PFn P f xs r := ACall.argLe h hl
end Go.AL
end

section
namespace Go.AL
open Go
theorem iden_one1 {w : World} {I : Nat → Prop} : ∀ {x : IV} {u : Value}, IV.den w I x u → u.oneCell' = true
  | .v x, u, h => by simp only [IV.den] at h; rw [h.1]; exact h.2
  | .sl es rows, u, h => by
    simp only [IV.den] at h
    obtain ⟨p, c, vss, rfl, _⟩ := h
    rfl
  | .pt cs, u, h => by
    simp only [IV.den] at h
    obtain ⟨g, off, us, rfl, _⟩ := h
    rfl
  | .fn f fs caps, u, h => by
    simp only [IV.den] at h
    obtain ⟨us, vs, _, _, rfl⟩ := h
    rfl
theorem idens_one1 {w : World} {I : Nat → Prop} : ∀ (cs : List IV) (us : List Value), IV.dens w I cs us → ∀ x ∈ us, x.oneCell' = true
  | [], us, h, x, hx => by simp only [IV.dens] at h; subst h; cases hx
  | c :: cs, us, h, x, hx => by
    simp only [IV.dens] at h
    obtain ⟨u, us', rfl, h1, h2⟩ := h
    rcases List.mem_cons.1 hx with rfl | hx
    · exact iden_one1 h1
    · exact idens_one1 cs us' h2 x hx
theorem idens_map1 {w : World} {φ : Phi} {I : Nat → Prop} : ∀ (cs : List IV) (us : List Value), IV.dens w I cs us → AV.dens w φ I (cs.map .im) us
  | [], us, h => by simp only [IV.dens] at h; subst h; rfl
  | c :: cs, us, h => by
    simp only [IV.dens] at h
    obtain ⟨u, us', rfl, h1, h2⟩ := h
    exact ⟨u, us', rfl, by simp only [AV.den]; exact h1, idens_map1 cs us' h2⟩
theorem AVle.ar (cs : List IV) : AVle (.ar cs) (.agg (cs.map .im)) := fun w φ I u hd => by
  simp only [AV.den] at hd ⊢
  obtain ⟨us, h1, h2⟩ := hd
  exact ⟨us, idens_map1 cs us h1, h2, idens_one1 cs us h1⟩
end Go.AL
end
