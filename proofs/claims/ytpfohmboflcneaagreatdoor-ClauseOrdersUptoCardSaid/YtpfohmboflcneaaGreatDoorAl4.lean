import Derived.Test.YtpfohmboflcneaaGreatDoorAl3
import Derived.Sort.Grow
import Derived.Sort.EncStr
import Derived.Maps.RangeRun
set_option linter.unusedSimpArgs false
set_option linter.unusedVariables false
set_option linter.unnecessarySimpa false
section
namespace Go.AL
open Go Go.Sort Go.Proofs
end Go.AL
end

section
namespace Go.AL
open Go
section
variable {C : Cx} {K : List PK} {E : Env} {H : Heap}
theorem AQ.optT {ds : List (Nat × Nat)} {i : Nat} {os : List Oper} {t : Nat} {x : AV} (h : AQ C ds i os K ((t, x) :: E) H) : AQ C ds i os K ((t, .opt true x) :: E) H :=
  AQ.imp (E' := putE (some t) x E) (fun _ _ _ _ he => putE_imp (d := some t) (x := .opt true x) (fun _ hu => by simp only [AV.den] at hu; exact hu.1 trivial) he) h
theorem AQ.weak {ds : List (Nat × Nat)} {i : Nat} {os : List Oper} {E' : Env} (h : AQ C ds i os K E' H) (hE : Sub E E') : AQ C ds i os K E H := by
  unfold AQ at h ⊢
  intro ops h1 h2 φ I a w hs
  exact h ops h1 h2 φ I a w (hs.sub hE)
end
end Go.AL
end

section
namespace Go.AL
open Go
section
variable {C : Cx} {K : List PK} {E : Env} {H : Heap}
theorem AQ.opt (t : Nat) {ds : List (Nat × Nat)} {i : Nat} {os : List Oper} {x : AV} (hl : lk E t = some (.opt true x)) (h : AQ C ds i os K ((t, x) :: E) H) : AQ C ds i os K E H :=
  AQ.imp (E' := (t, x) :: E) (fun w φ I a he j y hj => by
    by_cases hjt : j = t
    · subst hjt
      rw [lk, Nat.beq_refl, cond_true] at hj
      obtain ⟨u, hu, hd⟩ := he j _ hl
      simp only [AV.den] at hd
      cases hj
      exact ⟨u, hu, hd.1 trivial⟩
    · have : Nat.beq t j = false := by
        cases hb : Nat.beq t j with
        | false => rfl
        | true => exact absurd (Nat.eq_of_beq_eq_true hb).symm hjt
      have hj2 : lk E j = some y := by
        rw [lk] at hj
        first | (rw [this] at hj; exact hj) | (have t2 : Nat.beq j t = false := by (cases hb : Nat.beq j t with | false => rfl | true => exact absurd (Nat.eq_of_beq_eq_true hb) hjt); rw [t2] at hj; exact hj)
      exact he j y hj2) h
end
end Go.AL
end

section
namespace Go.AL
open Go Go.MapKept
/-- the entries of a map by its keys, stamps and values -/
def zipE : List Value → List Nat → List Value → List MapEntry
  | k :: ks, b :: bs, u :: us => { key := k, val := u, born := b } :: zipE ks bs us
  | _, _, _ => []
theorem zipE_es : ∀ l : List MapEntry, zipE (l.map (·.key)) (l.map (·.born)) (l.map (·.val)) = l
  | [] => rfl
  | e :: l => by simp only [List.map_cons, zipE, zipE_es l]
theorem zipE_born : ∀ (ks : List Value) (bs : List Nat) (us : List Value), ks.length = bs.length → us.length = bs.length → (zipE ks bs us).map (·.born) = bs
  | [], [], [], _, _ => rfl
  | k :: ks, b :: bs, u :: us, h1, h2 => by
    simp only [List.length_cons] at h1 h2
    simp only [zipE, List.map_cons, zipE_born ks bs us (by omega) (by omega)]
theorem zipE_key : ∀ (ks : List Value) (bs : List Nat) (us : List Value), ks.length = bs.length → us.length = bs.length → (zipE ks bs us).map (·.key) = ks
  | [], [], [], _, _ => rfl
  | k :: ks, b :: bs, u :: us, h1, h2 => by
    simp only [List.length_cons] at h1 h2
    simp only [zipE, List.map_cons, zipE_key ks bs us (by omega) (by omega)]
theorem zipE_val : ∀ (ks : List Value) (bs : List Nat) (us : List Value), ks.length = bs.length → us.length = bs.length → (zipE ks bs us).map (·.val) = us
  | [], [], [], _, _ => rfl
  | k :: ks, b :: bs, u :: us, h1, h2 => by
    simp only [List.length_cons] at h1 h2
    simp only [zipE, List.map_cons, zipE_val ks bs us (by omega) (by omega)]
theorem zipE_get {ks : List Value} {bs : List Nat} {us : List Value} (h1 : ks.length = bs.length) (h2 : us.length = bs.length) {j : Nat} {e : MapEntry} (h : (zipE ks bs us)[j]? = some e) : ks[j]? = some e.key ∧ bs[j]? = some e.born ∧ us[j]? = some e.val := by
  refine ⟨?_, ?_, ?_⟩
  · rw [← zipE_key ks bs us h1 h2, List.getElem?_map, h]; rfl
  · rw [← zipE_born ks bs us h1 h2, List.getElem?_map, h]; rfl
  · conv => lhs; rw [← zipE_val ks bs us h1 h2]
    rw [List.getElem?_map, h]; rfl
def mapO (ks : List Value) (bs : List Nat) (clock : Nat) (us : List Value) : Obj := .map (zipE ks bs us).toArray clock
def iterO (since : Nat) (seen : List Nat) (c : Nat) (us : List Value) : Obj := .mapIter (match us with | [.map m] => m | _ => none) since seen.toArray c
theorem mapO_mappy (ks : List Value) (bs : List Nat) (clock : Nat) (us : List Value) : Mappy (mapO ks bs clock us) := .inl ⟨_, _, rfl⟩
theorem iterO_mappy (since : Nat) (seen : List Nat) (c : Nat) (us : List Value) : Mappy (iterO since seen c us) := .inr ⟨_, _, _, _, rfl⟩
structure Stamps (ks : List Value) (bs : List Nat) (clock : Nat) : Prop where
  len : ks.length = bs.length
  nd : bs.Nodup
  lt : ∀ n ∈ bs, n < clock
section
variable {C : Cx} {K : List PK} {E : Env} {H : Heap}
theorem AQ.stepP (R : AV → Heap → Prop) {ds : List (Nat × Nat)} {i : Nat} {o : Oper} {os : List Oper} (hok : dstOk C.n (o :: os) = true) (hg : o.guard = none)
    (hex : ∀ φ I a w, Sim C φ I E H a w → ∃ x H' u w' φ' I', R x H' ∧ (execOp a.eval o).run C.P w = .ok (.value u) w' ∧ AV.den w' φ' I' x u ∧ St C.B φ' I' H' w' ∧ Keeps w φ I w' φ' I')
    (h : ∀ x H', R x H' → vq C K os (dsPut o.dst i ds) (i + 1) (putE o.dst x E) H') : AQ C ds i (o :: os) K E H := by
  obtain ⟨hd, hok'⟩ := dstOk_cons hok
  have hgo := fun x H' hx => AQ.go hok' (h x H' hx)
  unfold AQ at hgo ⊢
  refine AO.step (o := o) fun ops φ I a w hds _ hs Kn hKn => ?_
  have hw : Region.wanted o (yielded ops a.tmps) = true := by simp [Region.wanted, hg]
  rw [if_pos hw]
  obtain ⟨x, H', u, w', φ', I', hx, hrun, hden, hS, hK⟩ := hex φ I a w hs
  unfold Oper.wp
  rw [hrun, Oper.upon_value]
  exact hKn _ _ φ' I' _ _ (hgo x H' hx) (hs.put hS hK hd hden)
theorem St.drew {B : Bs} {φ : Phi} {I : Nat → Prop} {w : World} (h : St B φ I H w) : St B φ I H w.drew ∧ Keeps w φ I w.drew φ I := by
  have hx : Ext (fun _ => False) w w.drew := ⟨Nat.le_refl _, fun _ _ _ => rfl, fun _ c _ fz h => ⟨c, fz, h, rfl⟩, rfl, rfl, rfl⟩
  have k : Keeps w φ I w.drew φ I := ⟨fun _ _ => rfl, fun _ h => h, fun _ _ h => h, fun _ g n _ hs => hx.shaped (fun h => h) hs⟩
  refine ⟨⟨⟨h.real.dom, fun b' o' p hl hp => ?_, fun b' g hp => h.real.off b' g hp, h.real.inj, h.real.imm⟩, h.ext.trans hx (fun g hf => hf.elim), h.ownx, h.immx, h.immo, h.phx⟩, k⟩
  exact Ob.at_mono k.im k.I k.phi k.sh (fun g hg => rfl) (h.real.own b' o' p hl hp)
theorem St.putR {B : Bs} {φ : Phi} {I : Nat → Prop} {w : World} {l : Nat} {o0 o' : Obj} (h : St B φ I H w) {b : Nat} (hb : φ b = some (some l)) (hl : w.heap[l]? = some o0) (hm : Mappy o0) {ob0 ob : Ob} (hlb : lk H b = some ob0)
    (hat : (∀ x u, AV.den w φ I x u → AV.den (w.putObj l o') φ I x u) → (w.putObj l o').heap[l]? = some o' → ob.at (w.putObj l o') φ I (some l)) :
    St B φ I (hset H b ob) (w.putObj l o') ∧ Keeps w φ I (w.putObj l o') φ I := by
  have hI : ¬ I l := (h.real.off b l hb).1
  have hlt : l < w.heap.size := (h.real.off b l hb).2
  have hnc : ∀ c e fz, o0 ≠ .cells c e fz := fun c e fz => by rcases hm with ⟨_, _, rfl⟩ | ⟨_, _, _, _, rfl⟩ <;> exact fun h => by cases h
  have hx : Ext (fun g => g = l) w (w.putObj l o') :=
    ⟨by simp, fun g _ hn => World.putObj_heap_other hn, fun g c e fz hc => ⟨c, fz, (World.putObj_heap_other (fun e2 => by subst e2; rw [hl] at hc; cases hc; exact hnc _ _ _ rfl)).trans hc, rfl⟩, rfl, rfl, rfl⟩
  have k : Keeps w φ I (w.putObj l o') φ I := by
    refine ⟨fun g hg => World.putObj_heap_other (fun e => hI (e ▸ hg)), fun _ h => h, fun _ _ h => h, fun _ g n _ hs => ?_⟩
    obtain ⟨c, e, hc, hn⟩ := hs
    have hg : g ≠ l := fun e2 => by subst e2; rw [hl] at hc; cases hc; exact hnc _ _ _ rfl
    exact ⟨c, e, (World.putObj_heap_other hg).trans hc, hn⟩
  refine ⟨⟨⟨fun b' => ?_, fun b' o p hl' hp => ?_, fun b' g hp => ?_, h.real.inj, fun g hg => ?_⟩, h.ext.trans hx (fun g hg => by subst hg; exact h.ownx b _ hb), h.ownx, h.immx, h.immo, fun b' p o hlt2 h0 hl' => ?_⟩, k⟩
  · by_cases hbb : b' = b
    · subst hbb; rw [lk_hset_same H b' _ hlb, hb]; rfl
    · rw [lk_hset_other H b b' _ hbb]; exact h.real.dom b'
  · by_cases hbb : b' = b
    · subst hbb
      rw [lk_hset_same H b' _ hlb] at hl'; cases hl'
      rw [hb] at hp; cases hp
      exact hat (fun x u hx => k.den hx) (World.putObj_heap_same hlt)
    · rw [lk_hset_other H b b' _ hbb] at hl'
      exact Ob.at_mono k.im k.I k.phi k.sh (fun g hg => World.putObj_heap_other (fun e => by subst e; subst hg; exact hbb (h.real.inj b' b g hp hb))) (h.real.own b' o p hl' hp)
  · have := h.real.off b' g hp
    exact ⟨this.1, by simpa using this.2⟩
  · have := h.real.imm g hg
    simpa using this
  · by_cases hbb : b' = b
    · subst hbb; exact h.phx b' p ob0 hlt2 h0 hlb
    · rw [lk_hset_other H b b' _ hbb] at hl'; exact h.phx b' p o hlt2 h0 hl'
theorem St.told {B : Bs} {φ : Phi} {I : Nat → Prop} {w : World} (h : St B φ I H w) {b : Nat} {ob0 ob : Ob} (hlb : lk H b = some ob0) (hat : ∀ p, φ b = some p → ob0.at w φ I p → ob.at w φ I p) : St B φ I (hset H b ob) w := by
  refine ⟨⟨fun b' => ?_, fun b' o p hl' hp => ?_, h.real.off, h.real.inj, h.real.imm⟩, h.ext, h.ownx, h.immx, h.immo, fun b' p o hlt2 h0 hl' => ?_⟩
  · by_cases hbb : b' = b
    · subst hbb
      rw [lk_hset_same H b' _ hlb]
      have := h.real.dom b'
      rw [hlb] at this
      exact this
    · rw [lk_hset_other H b b' _ hbb]; exact h.real.dom b'
  · by_cases hbb : b' = b
    · subst hbb
      rw [lk_hset_same H b' _ hlb] at hl'; cases hl'
      exact hat p hp (h.real.own b' _ p hlb hp)
    · rw [lk_hset_other H b b' _ hbb] at hl'; exact h.real.own b' o p hl' hp
  · by_cases hbb : b' = b
    · subst hbb; exact h.phx b' p ob0 hlt2 h0 hlb
    · rw [lk_hset_other H b b' _ hbb] at hl'; exact h.phx b' p o hlt2 h0 hl'
theorem AQ.mrange {ds : List (Nat × Nat)} {i : Nat} {d : Option Nat} {ty t kt et : TypeId} {pos : String} {af : Array Edge} {os : List Oper} {x : Operand} {b : Nat} {ks : List Value} {cs : List AV}
    (hok : dstOk C.n ({ dst := d, op := .range t x, type := ty, pos := pos, after := af, guard := none } :: os) = true)
    (hx : ev E x = some (.mp b)) (hH : lk H b = some (.var (.map ks) cs)) (ht : C.P.underlying t = some (.map kt et))
    (h : ∀ bs clock, Stamps ks bs clock → vq C K os (dsPut d i ds) (i + 1) (putE d (.ob (nidx C.B.nb H) 0) E) ((nidx C.B.nb H, .var (.raw (iterO clock [] clock)) [.mp b]) :: hset H b (.var (.raw (mapO ks bs clock)) cs))) :
    AQ C ds i ({ dst := d, op := .range t x, type := ty, pos := pos, after := af, guard := none } :: os) K E H := by
  refine AQ.stepP (fun x H' => ∃ bs clock, Stamps ks bs clock ∧ x = .ob (nidx C.B.nb H) 0 ∧ H' = (nidx C.B.nb H, .var (.raw (iterO clock [] clock)) [.mp b]) :: hset H b (.var (.raw (mapO ks bs clock)) cs)) hok rfl (fun φ I a w hs => ?_) ?_
  · obtain ⟨g, es, clock, hme, hg, hh, hke, hde, hbi⟩ := map_open hs.st.real hH (ev_sound hs.env hx)
    have hst : Stamps ks (es.toList.map (·.born)) clock := ⟨by rw [← hke]; simp, hbi.1, fun n hn => by
      obtain ⟨e, he, rfl⟩ := List.mem_map.1 hn
      exact hbi.2 e he⟩
    have h1 := hs.st.told (ob := .var (.raw (mapO ks (es.toList.map (·.born)) clock)) cs) hH (fun p hp hat => by
      rw [hg] at hp; cases hp
      simp only [Ob.at, Sh.has, Sh.one]
      exact ⟨g, es.toList.map (·.val), rfl, ⟨by rw [hh, mapO, ← hke, zipE_es], mapO_mappy _ _ _ _⟩, hde, trivial⟩)
    have hnx := nidx_ge C.B.nb H
    have hfr : lk (hset H b (.var (.raw (mapO ks (es.toList.map (·.born)) clock)) cs)) (nidx C.B.nb H) = none := by
      have hn := nid_fresh C.B.nb H
      have hne : nidx C.B.nb H ≠ b := fun e => by rw [e, hH] at hn; cases hn
      rw [lk_hset_other H b _ _ hne]; exact hn
    have hrun := run_range_map (P := C.P) w t kt et g es clock ht hh
    obtain ⟨h2, h3⟩ := h1.alloc_ob (ob := .mapIter (some g) clock #[] clock) (o := .var (.raw (iterO clock [] clock)) [.mp b]) hfr hnx.1 (by
      have hbne : b ≠ nidx C.B.nb H := fun e => by have := nid_fresh C.B.nb H; rw [← e, hH] at this; cases this
      simp only [Ob.at, Sh.has, Sh.one, AV.dens, AV.den]
      refine ⟨_, [.map (some g)], rfl, ⟨by simpa [iterO] using al_new w _, iterO_mappy _ _ _ _⟩, ⟨_, _, rfl, ⟨g, ?_, rfl⟩, rfl⟩, trivial⟩
      first
        | exact hg
        | (simp [upd, hbne]; exact hg)
        | (simp only [upd]; rw [if_neg hbne]; exact hg))
    refine ⟨.ob (nidx C.B.nb H) 0, _, .pointer (some ⟨w.heap.size, 0, none⟩), w.alloc (.mapIter (some g) clock #[] clock), _, _, ⟨_, _, hst, rfl, rfl⟩, ?_, ?_, h2, h3⟩
    · rw [← hme] at hrun
      simp only [execOp, Sem.run_bind, Sem.run_map, hrun, Result.andThen_ok, Sem.run_pure]
    · simp only [AV.den, upd]; exact ⟨_, by simp, rfl⟩
  · rintro x H' ⟨bs, clock, h1, rfl, rfl⟩
    exact h bs clock h1
theorem leftOf_mem {es : Array MapEntry} {seen : List Nat} {e : MapEntry} (h : e ∈ (leftOf es seen.toArray).toList) : e ∈ es.toList ∧ e.born ∉ seen := by
  unfold leftOf at h
  simp at h
  exact ⟨by simpa using h.1, h.2⟩
theorem leftOf_none {es : Array MapEntry} {seen : List Nat} (h : (leftOf es seen.toArray).size = 0) : ∀ e ∈ es.toList, e.born ∈ seen := fun e he => by
  unfold leftOf at h
  have h1 : Array.filter (fun e => !seen.toArray.contains e.born) es = #[] := Array.eq_empty_of_size_eq_zero h
  rw [Array.filter_eq_empty_iff] at h1
  have := h1 e (by simpa using he)
  simpa using this
theorem AQ.mnext {ds : List (Nat × Nat)} {i : Nat} {d : Option Nat} {ty : TypeId} {pos : String} {af : Array Edge} {os : List Oper} {x : Operand} {b it : Nat} {ks : List Value} {cs : List AV} {bs seen : List Nat} {clock since c0 : Nat}
    (hok : dstOk C.n ({ dst := d, op := .next x false, type := ty, pos := pos, after := af, guard := none } :: os) = true)
    (hx : ev E x = some (.ob it 0)) (hI : lk H it = some (.var (.raw (iterO since seen c0)) [.mp b])) (hH : lk H b = some (.var (.raw (mapO ks bs clock)) cs)) (hst : Stamps ks bs clock) (hsi : since = clock) (hc0 : c0 = clock)
    (hone : ∀ k ∈ ks, k.oneCell' = true) (hcl : cs.length = bs.length)
    (h0 : (∀ n ∈ bs, n ∈ seen) → vq C K os (dsPut d i ds) (i + 1) (putE d (.tup [.im (.v (.bool false))]) E) H)
    (h1 : ∀ (j n : Nat) (k : Value) (y : AV), bs[j]? = some n → n ∉ seen → ks[j]? = some k → cs[j]? = some y → vq C K os (dsPut d i ds) (i + 1) (putE d (.tup [.im (.v (.bool true)), .im (.v k), y]) E) (hset H it (.var (.raw (iterO since (seen ++ [n]) clock)) [.mp b]))) :
    AQ C ds i ({ dst := d, op := .next x false, type := ty, pos := pos, after := af, guard := none } :: os) K E H := by
  subst hsi hc0
  refine AQ.stepP (fun x H' => ((∀ n ∈ bs, n ∈ seen) ∧ x = .tup [.im (.v (.bool false))] ∧ H' = H) ∨ ∃ (j n : Nat) (k : Value) (y : AV), bs[j]? = some n ∧ n ∉ seen ∧ ks[j]? = some k ∧ cs[j]? = some y ∧ x = .tup [.im (.v (.bool true)), .im (.v k), y] ∧ H' = hset H it (.var (.raw (iterO c0 (seen ++ [n]) c0)) [.mp b])) hok rfl (fun φ I a w hs => ?_) ?_
  · have hxv := ev_sound hs.env hx
    simp only [AV.den] at hxv
    obtain ⟨r, hr, hxe⟩ := hxv
    have ho := hs.st.real.own it _ _ hI hr
    simp only [Ob.at, Sh.has, Sh.one, AV.dens, AV.den] at ho
    obtain ⟨r', us, hrr, ⟨ho1, _⟩, ⟨u, us1, rfl, ⟨g, hg, rfl⟩, rfl⟩, _⟩ := ho
    cases hrr
    have hm := hs.st.real.own b _ _ hH hg
    simp only [Ob.at, Sh.has, Sh.one] at hm
    obtain ⟨g', us, hgg, ⟨hm1, _⟩, hm2, _⟩ := hm
    cases hgg
    have hul := adens_len' hm2
    have hlen2 : us.length = bs.length := by omega
    have hb0 := zipE_born ks bs us hst.len hlen2
    have hold : ∀ x ∈ ((zipE ks bs us).toArray).toList, x.born < c0 := fun x hx => hst.lt _ (by rw [← hb0]; exact List.mem_map.2 ⟨x, by simpa using hx, rfl⟩)
    rcases run_next_at (P := C.P) w ty r g c0 c0 seen.toArray (zipE ks bs us).toArray c0 (by rw [ho1]; rfl) (by rw [hm1]; rfl) hold (Nat.le_refl _) with ⟨hz, hrun⟩ | ⟨e, he, w1, hw1, hrun⟩
    · refine ⟨_, H, .tuple #[.bool false], w, φ, I, .inl ⟨fun n hn => ?_, rfl, rfl⟩, ?_, ?_, hs.st, Keeps.refl w φ I⟩
      · rw [← hb0] at hn
        obtain ⟨e, he, rfl⟩ := List.mem_map.1 hn
        exact leftOf_none hz e (by simpa using he)
      · rw [← hxe] at hrun
        simp only [execOp, Sem.run_bind, Sem.run_map, hrun, Result.andThen_ok, Sem.run_pure]
      · simp only [AV.den, AV.dens, IV.den]; exact ⟨_, ⟨_, _, rfl, ⟨rfl, rfl⟩, rfl⟩, rfl⟩
    · obtain ⟨hem, hns⟩ := leftOf_mem he
      have hem : e ∈ zipE ks bs us := by simpa using hem
      obtain ⟨j, hj⟩ := List.mem_iff_getElem?.1 hem
      obtain ⟨hk, hbn, hv⟩ := zipE_get hst.len hlen2 hj
      have hjc : j < cs.length := by
        have := (List.getElem?_eq_some_iff.1 hbn).1
        omega
      obtain ⟨v, hv2, hdv⟩ := adens_get cs us j cs[j] hm2 (List.getElem?_eq_getElem hjc)
      rw [hv] at hv2
      cases hv2
      have hput : Go.ChangeMaps.setBlock w1 r (.mapIter (some g) c0 (seen.toArray.push e.born) c0) = w1.putObj r (.mapIter (some g) c0 (seen.toArray.push e.born) c0) := rfl
      have hw1s : St C.B φ I H w1 ∧ Keeps w φ I w1 φ I := by
        rcases hw1 with rfl | rfl
        · exact ⟨hs.st, Keeps.refl _ φ I⟩
        · exact hs.st.drew
      have hr1 : w1.heap[r]? = some (iterO c0 seen c0 [.map (some g)]) := by rcases hw1 with rfl | rfl <;> exact ho1
      obtain ⟨h2, h3⟩ := hw1s.1.putR (o' := .mapIter (some g) c0 (seen.toArray.push e.born) c0) (ob := .var (.raw (iterO c0 (seen ++ [e.born]) c0)) [.mp b]) hr hr1 (iterO_mappy _ _ _ _) hI (fun hd hh => by
        simp only [Ob.at, Sh.has, Sh.one, AV.dens]
        refine ⟨r, [.map (some g)], rfl, ⟨by rw [hh, iterO]; simp, iterO_mappy _ _ _ _⟩, ⟨_, _, rfl, hd (.mp b) _ ?_, rfl⟩, trivial⟩
        simp only [AV.den]; exact ⟨g, hg, rfl⟩)
      have hkk : Keeps w φ I (w1.putObj r (.mapIter (some g) c0 (seen.toArray.push e.born) c0)) φ I := by
        have a1 := hw1s.2
        exact ⟨fun g hg => (h3.im g hg).trans (a1.im g hg), fun _ h => h, fun _ _ h => h, fun b g n hb hsh => h3.sh b g n hb (a1.sh b g n hb hsh)⟩
      refine ⟨_, _, .tuple #[.bool true, e.key, e.val], _, φ, I, .inr ⟨j, e.born, e.key, cs[j], hbn, hns, hk, List.getElem?_eq_getElem hjc, rfl, rfl⟩, ?_, ?_, h2, hkk⟩
      · rw [← hxe, hput] at hrun
        simp only [execOp, Sem.run_bind, Sem.run_map, hrun, Result.andThen_ok, Sem.run_pure]
      · simp only [AV.den, AV.dens, IV.den]
        exact ⟨_, ⟨_, _, rfl, ⟨rfl, rfl⟩, _, _, rfl, ⟨rfl, hone _ (List.mem_of_getElem? hk)⟩, _, _, rfl, hkk.den hdv, rfl⟩, rfl⟩
  · rintro x H' (⟨h2, rfl, rfl⟩ | ⟨j, n, k, y, h2, h3, h4, h5, rfl, rfl⟩)
    · exact h0 h2
    · exact h1 j n k y h2 h3 h4 h5
theorem AQ.mentry {ds : List (Nat × Nat)} {i : Nat} {d : Option Nat} {ty : TypeId} {pos : String} {af : Array Edge} {os : List Oper} {x : Operand} {b it j n : Nat} {ks : List Value} {cs : List AV} {bs seen : List Nat} {clock since : Nat} {k : Value} {y : AV}
    (hok : dstOk C.n ({ dst := d, op := .entry x, type := ty, pos := pos, after := af, guard := none } :: os) = true)
    (hx : ev E x = some (.ob it 0)) (hI : lk H it = some (.var (.raw (iterO since (seen ++ [n]) clock)) [.mp b])) (hH : lk H b = some (.var (.raw (mapO ks bs clock)) cs)) (hst : Stamps ks bs clock)
    (hone : ∀ k ∈ ks, k.oneCell' = true) (hcl : cs.length = bs.length) (hbn : bs[j]? = some n) (hk : ks[j]? = some k) (hy : cs[j]? = some y)
    (h : vq C K os (dsPut d i ds) (i + 1) (putE d (.tup [.im (.v k), y]) E) H) :
    AQ C ds i ({ dst := d, op := .entry x, type := ty, pos := pos, after := af, guard := none } :: os) K E H := by
  refine AQ.val (.tup [.im (.v k), y]) hok rfl (fun φ I a w hs => ?_) h
  have hxv := ev_sound hs.env hx
  simp only [AV.den] at hxv
  obtain ⟨r, hr, hxe⟩ := hxv
  have ho := hs.st.real.own it _ _ hI hr
  simp only [Ob.at, Sh.has, Sh.one, AV.dens, AV.den] at ho
  obtain ⟨r', us, hrr, ⟨ho1, _⟩, ⟨u, us1, rfl, ⟨g, hg, rfl⟩, rfl⟩, _⟩ := ho
  cases hrr
  have hm := hs.st.real.own b _ _ hH hg
  simp only [Ob.at, Sh.has, Sh.one] at hm
  obtain ⟨g', us, hgg, ⟨hm1, _⟩, hm2, _⟩ := hm
  cases hgg
  have hul := adens_len' hm2
  have hlen2 : us.length = bs.length := by omega
  have hb0 := zipE_born ks bs us hst.len hlen2
  obtain ⟨v, hv2, hdv⟩ := adens_get cs us j y hm2 hy
  have hkj : j < (zipE ks bs us).length := by
    have := congrArg List.length hb0
    rw [List.length_map] at this
    have h2 := (List.getElem?_eq_some_iff.1 hbn).1
    omega
  obtain ⟨e, he⟩ : ∃ e, (zipE ks bs us)[j]? = some e := ⟨_, List.getElem?_eq_getElem hkj⟩
  obtain ⟨e1, e2, e3⟩ := zipE_get hst.len hlen2 he
  rw [hk] at e1; cases e1
  rw [hbn] at e2; cases e2
  rw [hv2] at e3; cases e3
  have hrun := run_entry_at (P := C.P) w r g since seen.toArray (zipE ks bs us).toArray clock e (by rw [ho1, iterO]; simp) (by rw [hm1]; rfl) (by simpa using List.mem_of_getElem? he) (by rw [show (zipE ks bs us).toArray.toList = zipE ks bs us by simp, hb0]; exact hst.nd)
  refine ⟨.tuple #[e.key, e.val], ?_, ?_⟩
  · rw [← hxe] at hrun
    simp only [execOp, Sem.run_bind, Sem.run_map, hrun, Result.andThen_ok, Sem.run_pure]
  · simp only [AV.den, AV.dens, IV.den]
    exact ⟨_, ⟨_, _, rfl, ⟨rfl, hone _ (List.mem_of_getElem? hk)⟩, _, _, rfl, hdv, rfl⟩, rfl⟩
theorem St.mback {B : Bs} {φ : Phi} {I : Nat → Prop} {w : World} (h : St B φ I H w) {b : Nat} {ks : List Value} {bs : List Nat} {clock : Nat} {cs : List AV} (hH : lk H b = some (.var (.raw (mapO ks bs clock)) cs)) (hst : Stamps ks bs clock) (hcl : cs.length = bs.length) : St B φ I (hset H b (.var (.map ks) cs)) w := by
  refine h.told hH fun p hp hat => ?_
  simp only [Ob.at, Sh.has, Sh.one] at hat ⊢
  obtain ⟨g, us, hg, ⟨h1, _⟩, h2, _⟩ := hat
  have hul := adens_len' h2
  have hlen2 : us.length = bs.length := by omega
  have hb0 := zipE_born ks bs us hst.len hlen2
  refine ⟨g, us, hg, ⟨(zipE ks bs us).toArray, clock, h1, by simpa using zipE_key ks bs us hst.len hlen2, by simpa using zipE_val ks bs us hst.len hlen2, by rw [show (zipE ks bs us).toArray.toList = zipE ks bs us by simp, hb0]; exact hst.nd, fun e he => hst.lt _ (by rw [← hb0]; exact List.mem_map.2 ⟨e, by simpa using he, rfl⟩)⟩, h2, trivial⟩
theorem AQ.mback {ds : List (Nat × Nat)} {i : Nat} {rest : List Oper} (b : Nat) {ks : List Value} {bs : List Nat} {clock : Nat} {cs : List AV} (hH : lk H b = some (.var (.raw (mapO ks bs clock)) cs)) (hst : Stamps ks bs clock) (hcl : cs.length = bs.length) (h : AQ C ds i rest K E (hset H b (.var (.map ks) cs))) : AQ C ds i rest K E H := by
  unfold AQ at h ⊢
  exact fun ops h1 h2 φ I a w hs => h ops h1 h2 _ _ _ _ ⟨hs.dfr, hs.siz, hs.env, hs.st.mback hH hst hcl⟩
theorem AE.mback {e : Exit} (b : Nat) {ks : List Value} {bs : List Nat} {clock : Nat} {cs : List AV} (hH : lk H b = some (.var (.raw (mapO ks bs clock)) cs)) (hst : Stamps ks bs clock) (hcl : cs.length = bs.length) (h : AE C e K E (hset H b (.var (.map ks) cs))) : AE C e K E H := by
  unfold AE at h ⊢
  exact fun φ I a w hs => h _ _ _ _ ⟨hs.dfr, hs.siz, hs.env, hs.st.mback hH hst hcl⟩
theorem AP.mback {p : List Nat} (b : Nat) {ks : List Value} {bs : List Nat} {clock : Nat} {cs : List AV} (hH : lk H b = some (.var (.raw (mapO ks bs clock)) cs)) (hst : Stamps ks bs clock) (hcl : cs.length = bs.length) (h : AP C p K E (hset H b (.var (.map ks) cs))) : AP C p K E H := by
  unfold AP at h ⊢
  exact fun φ I a w hs => h _ _ _ _ ⟨hs.dfr, hs.siz, hs.env, hs.st.mback hH hst hcl⟩
end
end Go.AL
end
