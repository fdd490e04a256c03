import Derived.Test.YteacpafhmgdbkaaGreatDoorW2
import Derived.Test.YteacpafhmgdbkaaGreatDoorCards
import Derived.Test.YteacpafhmgdbkaaGreatDoorTie
import Derived.Lib.LaidTab
import Derived.Stop.LaidErr
set_option linter.unusedSimpArgs false
set_option linter.unusedVariables false
set_option linter.unnecessarySimpa false
section
namespace Go.Proofs.YteacpafhmgdbkaaGreatDoor
open Go Go.AL Go.RowKit
set_option maxRecDepth 10000
set_option maxHeartbeats 4000000
theorem wTs_get : ∀ {l : List Tm} {k : Nat} {t : Tm} {b : Int}, wTs l b = 0 → l[k]? = some t → wT t b = 0
  | [], k, t, b, _, h => by simp at h
  | u :: l, 0, t, b, hw, h => by simp at h; subst h; exact (wTs_cons hw).1
  | u :: l, k + 1, t, b, hw, h => by simp at h; exact wTs_get (wTs_cons hw).2 h
theorem wterm_spec (tk ns : List Nm) (t : Tm) (ws : List Nm) (hw : wT t ns.length = 0) (hl : ws.length + (tmW ns t).length ≤ 1000000) (hn : ns.length ≤ 1000000) :
    ACall Tryz.prog 150 [.ob 0 0, tmV t] (wrH 2 3 tk ns ws) (fun r H' => r = .tup [] ∧ H' = wrH 4 3 tk ns (ws ++ tmW ns t)) := by
  have h0 := wT_nm hw
  have he := tmW_eq ns t
  refine ACall.walk [0, 1, 3, 6] [] Tryz.func150 rfl Tryz.ntmps150 (by kernel_rfl) (by rfl) rfl fun W own I0 φ0 lay => ?_
  refine AP.rename 2 4 rfl rfl rfl ?_; refine sI ?_
  refine gO ?_
  refine AP.cond rfl rfl (fun h => ?_) (fun h => ?_)
  · have h : t.nm = [] := by simpa using h
    obtain ⟨hx, hi⟩ := h0.2.1 h
    have hlt : ((ns.length : Int) - 1 - t.ix).toNat < ns.length := by omega
    have w1 := wr (x := (ns.length : Int) - 1) (by omega)
    have w2 := wr (x := (ns.length : Int) - 1 - t.ix) (by omega)
    have hrow := stR_get ns _ hlt
    rw [if_pos h] at he
    have hln : (tmW ns t).length = 1 := by rw [he]; rfl
    rw [he]
    generalize ns.getD ((ns.length : Int) - 1 - t.ix).toNat [] = v at *
    refine gO ?_
    refine AP.drawE 25 (Tree.node [] [0, 1, 2, 3, 4, 5, 6, 7, 8, 9, 10, 11, 12, 13, 14, 15, 16, 17, 18, 19] [20] [Tree.node [0, 1, 2, 3, 4] [] [21] [Tree.node [0] [22, 23] [24] [Tree.node [] [] [] []]]]) (by kernel_rfl) rfl (by kernel_rfl) (by kernel_rfl) ?_
    refine vd_node ?_
    refine sE (an @w1 (an @w2 @hrow)) ?_
    refine ⟨⟨by omega, by omega⟩, by rw [stR_len]; exact hlt, ?_⟩
    repeat' (first | with_reducible exact True.intro | with_reducible refine And.intro (by omega) ?_ | with_reducible refine And.intro ?_ ?_ | (refine AQ.nx rfl ?_; refine sI ?_) | (refine AQ.kill 4 ?_; refine sI ?_; refine AQ.append (hnb := rfl) (rows := stR (ws)) (es := 0) (by kernel_rfl) rfl rfl rfl (by simp only [noMen, AV.mens, AV.men, mens_valsT]; rfl) Tryz.tk67 Tryz.sz9 (by show Option.map _ (zro Tryz.prog 9) = _; rw [Tryz.zr9]; rfl) Tryz.by9 (by rw [stR_len]) (by simp only [stR_len, List.length_cons, List.length_nil]; omega) (by simp only [stR_len, List.length_cons, List.length_nil]; omega) ?_; refine sE @stR_len ?_) | refine AQ.done ?_ | (refine AQ.go (by kernel_rfl) ?_; refine sI ?_; repeat (with_reducible refine And.intro (by omega) ?_); refine AQ.nx rfl ?_; refine sI ?_))
    all_goals
      refine gO ?_
      rw [stR_snc, show ws.length + 1 = (ws ++ [v]).length by simp]
      exact AE.ret rfl trivial ⟨rfl, rfl⟩
  · have h : ¬ t.nm = [] := by simpa using h
    rw [if_neg h] at he
    have hxs := (h0.2.2 h).2.2
    have hln : (tmW ns t).length = (lsW ns t.xs).length + 1 := by rw [he]; rfl
    rw [he]
    refine gO ?_
    refine AP.cut (α := Unit) (fun _ => [(0, .ob 0 0), (3, .im (.pt [Si t.nm, Ii t.ix, .sl 3 (tmR t.xs)]))]) (fun _ => wrH 4 3 tk ns (ws ++ [t.nm])) (fun _ => True) ?_ fun _ _ => ?_
    · skip
      refine AP.drawE 12 (Tree.node [] [0, 1, 2, 3, 4, 5, 6] [7] [Tree.node [0, 1, 2, 3, 4] [] [8] [Tree.node [0] [9, 10] [11] [Tree.node [] [] [] []]]]) (by kernel_rfl) rfl (by kernel_rfl) (by kernel_rfl) ?_
      refine vd_node ?_
      refine sI ?_
      repeat' (first | with_reducible exact True.intro | with_reducible refine And.intro (by omega) ?_ | with_reducible refine And.intro ?_ ?_ | (refine AQ.nx rfl ?_; refine sI ?_) | (refine AQ.kill 4 ?_; refine sI ?_; refine AQ.append (hnb := rfl) (rows := stR (ws)) (es := 0) (by kernel_rfl) rfl rfl rfl (by simp only [noMen, AV.mens, AV.men, mens_valsT]; rfl) Tryz.tk67 Tryz.sz9 (by show Option.map _ (zro Tryz.prog 9) = _; rw [Tryz.zr9]; rfl) Tryz.by9 (by rw [stR_len]) (by simp only [stR_len, List.length_cons, List.length_nil]; omega) (by simp only [stR_len, List.length_cons, List.length_nil]; omega) ?_; refine sE @stR_len ?_) | refine AQ.done ?_ | (refine AQ.go (by kernel_rfl) ?_; refine sI ?_; repeat (with_reducible refine And.intro (by omega) ?_); refine AQ.nx rfl ?_; refine sI ?_))
      all_goals
        rw [stR_snc, show ws.length + 1 = (ws ++ [t.nm]).length by simp]
        exact AE.meet () trivial (sU) rfl
    refine gO ?_
    have hli := wlist_walk tk ns t.xs (ws ++ [t.nm]) (by simp; omega) hn fun k u ws hu hl => wterm_spec tk ns u ws (wTs_get hxs hu) hl hn
    refine AQ.callH [(0, 0), (1, 1), (2, 4), (3, 3)] (by kernel_rfl) rfl rfl rfl rfl rfl rfl (by refine ⟨rfl, ?_, rfl, rfl, trivial⟩; rw [rnO, rns_valsT]; rfl) rfl hli ?_
    rintro r H' ⟨rfl, rfl⟩
    refine ⟨rfl, ?_⟩
    refine sH ?_
    refine AQ.rename 9 4 rfl rfl rfl ?_; refine sI ?_
    refine gO ?_
    refine AE.order [0, 1, 4, 3] rfl ?_
    exact AE.fall rfl trivial ⟨rfl, by rw [List.append_assoc]; rfl⟩
termination_by SizeOf.sizeOf t
decreasing_by exact tm_mem hu
end Go.Proofs.YteacpafhmgdbkaaGreatDoor
end

section
namespace Go.Proofs.YteacpafhmgdbkaaGreatDoor
open Go Go.AL Go.RowKit
set_option maxRecDepth 10000
set_option maxHeartbeats 4000000
def idxS (s : Nm) : List Nm → Int → Int
  | [], _ => -1
  | x :: r, k => if s == x then k else idxS s r (k + 1)
theorem idxS_has (s : Nm) : ∀ (l : List Nm) (k : Int), 0 ≤ k → decide (0 ≤ idxS s l k) = hasS s l
  | [], k, h => rfl
  | x :: r, k, h => by
    rw [idxS, show hasS s (x :: r) = (x == s || hasS s r) from rfl]
    by_cases hx : s = x
    · subst hx; simp [h]
    · have e1 : (s == x) = false := by simpa using hx
      have e2 : (x == s) = false := by simpa using fun h => hx h.symm
      rw [e1, e2, Bool.false_or]
      exact idxS_has s r (k + 1) (by omega)
theorem stR_gt (l : List Nm) (k : Nat) (h : k < l.length) : ∃ t, l[k]? = some t ∧ (stR l).getD k [] = [Si t] := by
  refine ⟨l[k], List.getElem?_eq_getElem h, ?_⟩
  rw [stR_get l k h, List.getD_eq_getElem?_getD, List.getElem?_eq_getElem h]; rfl
theorem indexS_spec (l : List Nm) (s : Nm) (hl : l.length ≤ 1000000000) : PFn Tryz.prog 101 [.im (.sl 1 (stR l)), Sv s] (Iv (idxS s l 0)) := by
  refine ACall.walk [0, 1, 4, 5, 7, 8, 9, 16] [] Tryz.func101 rfl Tryz.ntmps101 (by kernel_rfl) (by rfl) rfl fun W own I0 φ0 lay => ?_
  refine gE @stR_len ?_
  refine AP.loop rfl (α := Nat) (fun k => [(0, .im (.sl 1 (stR l))), (1, Sv s), (7, Iv l.length), (8, Iv k)]) (fun _ => []) (fun k => k ≤ l.length ∧ idxS s l 0 = idxS s (l.drop k) k) (fun k => l.length - k) 0 ⟨by omega, rfl⟩ (sU) rfl fun k ⟨hk, hm⟩ => ?_
  rcases Nat.eq_or_lt_of_le hk with hke | hlt
  · rw [hke, List.drop_length, idxS] at hm
    refine gO ?_
    refine cF ?_
    refine gO ?_
    exact AE.ret0 rfl ⟨rfl, trivial⟩ rfl ⟨rfl, by rw [hm]; rfl⟩
  · obtain ⟨t, ht, hrow⟩ := stR_gt l k hlt
    obtain ⟨h1, e1⟩ := List.getElem?_eq_some_iff.1 ht
    rw [List.drop_eq_getElem_cons h1, e1, idxS] at hm
    have hw := wr (x := (k : Int) + 1) (by omega)
    refine gO ?_
    refine cT ?_
    refine gE (an @hrow @stR_len) ?_
    refine AP.cond rfl rfl (fun h => ?_) (fun h => ?_)
    · rw [if_pos h] at hm
      refine gO ?_
      exact AE.ret0 rfl ⟨rfl, trivial⟩ rfl ⟨rfl, by rw [hm]; rfl⟩
    · rw [if_neg (by simp [h])] at hm
      refine gE @hw ?_
      exact AE.round (k + 1) ⟨by omega, hm⟩ (by omega) (sU) rfl
theorem containsS_spec (l : List Nm) (s : Nm) (hl : l.length ≤ 1000000000) : PFn Tryz.prog 42 [.im (.sl 1 (stR l)), Sv s] (Bv (hasS s l)) := by
  refine ACall.walk [0, 1, 4] [] Tryz.func42 rfl Tryz.ntmps42 (by kernel_rfl) (by rfl) rfl fun W own I0 φ0 lay => ?_
  refine gO ?_
  refine AQ.fn (by kernel_rfl) rfl rfl rfl (indexS_spec l s hl) rfl ?_
  refine gO ?_
  exact AE.ret0 rfl ⟨rfl, trivial⟩ rfl ⟨rfl, by rw [← idxS_has s l 0 (by omega)]; rfl⟩
theorem pigeon {α : Type} : ∀ (l : List α) (f : Nat → α), (∀ i j, f i = f j → i = j) → ∃ n, n ≤ l.length ∧ f n ∉ l
  | [], f, _ => ⟨0, by simp⟩
  | a :: l, f, hf => by
    rcases Classical.em (∃ m, f m = a) with ⟨m, hm⟩ | hno
    · obtain ⟨n, hn, hx⟩ := pigeon l (fun i => if i < m then f i else f (i + 1)) (fun i j h => by
        by_cases hi : i < m <;> by_cases hj : j < m <;> simp only [hi, hj, if_true, if_false] at h <;> have := hf _ _ h <;> omega)
      by_cases hi : n < m
      · simp only [hi, if_true] at hx
        refine ⟨n, by simp; omega, ?_⟩
        rw [List.mem_cons]
        rintro (h | h)
        · have := hf _ _ (h.trans hm.symm); omega
        · exact hx h
      · simp only [hi, if_false] at hx
        refine ⟨n + 1, by simp; omega, ?_⟩
        rw [List.mem_cons]
        rintro (h | h)
        · have := hf _ _ (h.trans hm.symm); omega
        · exact hx h
    · obtain ⟨n, hn, hx⟩ := pigeon l f hf
      refine ⟨n, by simp; omega, ?_⟩
      rw [List.mem_cons]
      rintro (h | h)
      · exact hno ⟨n, h⟩
      · exact hx h
def valD (l : List UInt8) : Nat := l.foldl (fun a d => a * 10 + (d.toNat - 48)) 0
theorem valD_dec : ∀ n : Nat, valD (Lib.decDigits n) = n := by
  intro n
  induction n using Nat.strongRecOn with
  | _ n ih =>
    rw [Lib.decDigits]
    split
    · rename_i h
      simp [valD, UInt8.toNat_ofNat']
      omega
    · rename_i h
      rw [valD, List.foldl_append, ← valD, ih (n / 10) (by omega)]
      simp [UInt8.toNat_ofNat']
      omega
def vN (n : Nat) : Nm := 118 :: Lib.itoa n
theorem vN_inj (i j : Nat) (h : vN i = vN j) : i = j := by
  unfold vN at h
  have h := (List.cons.inj h).2
  rw [Lib.itoa_nonneg, Lib.itoa_nonneg] at h
  have := congrArg valD h
  rwa [valD_dec, valD_dec] at this
theorem hasS_mem {s : Nm} {l : List Nm} : hasS s l = true ↔ s ∈ l := by
  unfold hasS
  rw [List.any_eq_true]
  constructor
  · rintro ⟨x, hx, e⟩
    have : x = s := by simpa using e
    exact this ▸ hx
  · intro h; exact ⟨s, h, by simp⟩
def frV (tk ns : List Nm) (n : Nat) : Bool := !hasS (vN n) tk && !hasS (vN n) ns
theorem frV_ex (tk ns : List Nm) : ∃ n, n ≤ tk.length + ns.length ∧ frV tk ns n = true := by
  obtain ⟨n, hn, hx⟩ := pigeon (tk ++ ns) vN vN_inj
  rw [List.length_append] at hn
  rw [List.mem_append] at hx
  refine ⟨n, hn, ?_⟩
  unfold frV
  have h1 : hasS (vN n) tk = false := by
    cases h : hasS (vN n) tk with
    | false => rfl
    | true => exact absurd (.inl (hasS_mem.1 h)) hx
  have h2 : hasS (vN n) ns = false := by
    cases h : hasS (vN n) ns with
    | false => rfl
    | true => exact absurd (.inr (hasS_mem.1 h)) hx
  rw [h1, h2]; rfl
def vfind (tk ns : List Nm) : Nat → Nat → Nat
  | 0, n => n
  | f + 1, n => if frV tk ns n then n else vfind tk ns f (n + 1)
def vnum (tk ns : List Nm) : Nat := vfind tk ns (tk.length + ns.length + 1) 0
theorem vfind_eq {tk ns : List Nm} {m : Nat} (hm : frV tk ns m = true) : ∀ (f n : Nat), n ≤ m → m < n + f → (∀ j, j < m → frV tk ns j = false) → vfind tk ns f n = m
  | 0, n, h1, h2, _ => by omega
  | f + 1, n, h1, h2, h3 => by
    rw [vfind]
    rcases Nat.eq_or_lt_of_le h1 with h | h
    · subst h; rw [if_pos hm]
    · rw [h3 n h, if_neg (by simp)]
      exact vfind_eq hm f (n + 1) h (by omega) h3
theorem vnum_eq {tk ns : List Nm} {m : Nat} (hm : frV tk ns m = true) (h : ∀ j, j < m → frV tk ns j = false) : vnum tk ns = m := by
  obtain ⟨n, hn, hf⟩ := frV_ex tk ns
  refine vfind_eq hm _ 0 (Nat.zero_le _) ?_ h
  rcases Nat.lt_or_ge n m with h1 | h1
  · rw [h n h1] at hf; cases hf
  · omega
theorem vnum_lt {tk ns : List Nm} {n : Nat} (h : ∀ j, j < n → frV tk ns j = false) : n ≤ tk.length + ns.length := by
  obtain ⟨m, hm, hf⟩ := frV_ex tk ns
  rcases Nat.lt_or_ge m n with h1 | h1
  · rw [h m h1] at hf; cases hf
  · omega
end Go.Proofs.YteacpafhmgdbkaaGreatDoor
end

section
namespace Go.Proofs.YteacpafhmgdbkaaGreatDoor
open Go Go.AL Go.RowKit
set_option maxRecDepth 10000
set_option maxHeartbeats 4000000
theorem dec_len : ∀ n : Nat, (Lib.decDigits n).length ≤ n + 1 := by
  intro n
  induction n using Nat.strongRecOn with
  | _ n ih =>
    rw [Lib.decDigits]
    split
    · simp
    · have := ih (n / 10) (by omega)
      rw [List.length_append, List.length_singleton]; omega
theorem itoa_len (n : Nat) : (Lib.itoa n).length ≤ n + 1 := by rw [Lib.itoa_nonneg]; exact dec_len n
theorem keysS_ok (tk : List Nm) : KeysOk .string (keysS tk) := fun v hv => by
  obtain ⟨p, _, rfl⟩ := List.mem_map.1 hv
  trivial
theorem BA_inj {a b : Nm} (h : BA a = BA b) : a = b := by
  have := congrArg (fun x : ByteArray => x.data.toList) h
  simpa [BA] using this
theorem keysS_uniq {tk : List Nm} (hnd : tk.Nodup) {v : Nm} {i j : Nat} (hj : tk[j]? = some v) (hi : (keysS tk)[i]? = some (.string (BA v))) : i = j := by
  rw [keysS, List.getElem?_map] at hi
  cases h : tk[i]? with
  | none => rw [h] at hi; cases hi
  | some u =>
    rw [h] at hi
    simp only [Option.map_some, Option.some.injEq, Value.string.injEq] at hi
    have hu := BA_inj hi
    subst hu
    obtain ⟨a1, a2⟩ := List.getElem?_eq_some_iff.1 h
    obtain ⟨b1, b2⟩ := List.getElem?_eq_some_iff.1 hj
    rcases Nat.lt_trichotomy i j with h1 | h1 | h1
    · exact absurd (a2.trans b2.symm) (List.pairwise_iff_getElem.1 hnd i j a1 b1 h1)
    · exact h1
    · exact absurd (b2.trans a2.symm) (List.pairwise_iff_getElem.1 hnd j i b1 a1 h1)
theorem keysS_not {tk : List Nm} {v : Nm} (h : hasS v tk = false) : Value.string (BA v) ∉ keysS tk := fun hc => by
  obtain ⟨u, hu, e⟩ := List.mem_map.1 hc
  simp only [Value.string.injEq] at e
  have := BA_inj e
  subst this
  rw [hasS_mem.2 hu] at h; cases h
theorem variable_spec (tk ns ws : List Nm) (h1 : tk.length ≤ 1000000) (h2 : ns.length ≤ 1000000) (hnd : tk.Nodup) :
    ACall Tryz.prog 151 [.ob 0 0] (wrH 2 3 tk ns ws) (fun r H' => r = Sv (vN (vnum tk ns)) ∧ H' = wrH 2 3 tk ns ws) := by
  refine ACall.walk [0, 2, 3, 4, 25] [] Tryz.func151 rfl Tryz.ntmps151 (by kernel_rfl) (by rfl) rfl fun W own I0 φ0 lay => ?_
  refine gO ?_
  refine AP.loop rfl (α := Nat) (fun k => [(0, .ob 0 0), (3, Iv k)]) (fun _ => wrH 2 3 tk ns ws) (fun k => ∀ j, j < k → frV tk ns j = false) (fun k => 2000001 - k) 0 (by intro j hj; omega) (sU) rfl fun k hk => ?_
  have hkb := vnum_lt hk
  have hit := itoa_spec k (by omega)
  have hw := wr (x := (k : Int) + 1) (by omega)
  refine gO ?_
  refine AQ.fn (by kernel_rfl) rfl rfl rfl (hit) rfl ?_
  have hil := itoa_len k
  refine gO ?_
  have e : (118 :: Lib.itoa (k : Int)) = vN k := rfl
  simp only [e]
  clear e hit hil
  obtain ⟨v, hv⟩ : ∃ v, vN k = v := ⟨_, rfl⟩
  have hfr : frV tk ns k = (!hasS v tk && !hasS v ns) := by rw [frV, hv]
  simp only [hv]
  cases ht : hasS v tk with
  | true =>
    have hmem : BA v ∈ tk.map BA := List.mem_map.2 ⟨v, hasS_mem.1 ht, rfl⟩
    obtain ⟨j, hj⟩ := List.mem_iff_getElem?.1 (hasS_mem.1 ht)
    have hkj : (keysS tk)[j]? = some (.string (BA v)) := by rw [keysS, List.getElem?_map, hj]; rfl
    have huq : ∀ i, (keysS tk)[i]? = some (.string (BA v)) → i = j := fun i hi => keysS_uniq hnd hj hi
    have hvj : (valsT tk)[j]? = some (Bv true) := by rw [valsT, List.getElem?_map, hj]; rfl
    refine AQ.lookF j (by kernel_rfl) rfl rfl rfl Tryz.underlying96 Tryz.underlying9 (keysS_ok tk) trivial (List.mem_of_getElem? hkj) huq hvj ?_
    refine sI ?_
    refine gE @hw ?_
    exact AE.round (k + 1) (fun j hj => by
      rcases Nat.lt_or_ge j k with h | h
      · exact hk j h
      · have : j = k := by omega
        subst this; rw [hfr, ht]; rfl) (by omega) (sU) rfl
  | false =>
    refine AQ.lookN (by kernel_rfl) rfl rfl rfl Tryz.underlying96 Tryz.underlying9 (keysS_ok tk) trivial (keysS_not ht) rfl rfl ?_
    refine sI ?_
    refine gO ?_
    refine AQ.guard_yes (by simp only [go_sem]) ?_
    refine AQ.fnL ([.im (.sl 1 (stR ns)), Sv v]) (by kernel_rfl) rfl rfl rfl (LentAs.cons (LentA.of (Lent.osw rfl (by rw [stR_len]))) (LentAs.cons (LentA.im _) LentAs.nil)) (containsS_spec ns v (by omega)) rfl (fun _ => rfl) ?_
    refine sI ?_
    refine gO ?_
    refine AP.cond rfl rfl (fun h => ?_) (fun h => ?_)
    · have h : hasS v ns = false := by simpa using h
      refine gO ?_
      have hvn : vnum tk ns = k := vnum_eq (by rw [hfr, ht, h]; rfl) hk
      exact AE.ret rfl ⟨rfl, trivial⟩ ⟨by rw [hvn, hv]; rfl, rfl⟩
    · have h : hasS v ns = true := by simpa using h
      refine gE @hw ?_
      exact AE.round (k + 1) (fun j hj => by
        rcases Nat.lt_or_ge j k with h1 | h1
        · exact hk j h1
        · have : j = k := by omega
          subst this; rw [hfr, ht, h]; rfl) (by omega) (sU) rfl
end Go.Proofs.YteacpafhmgdbkaaGreatDoor
end

section
namespace Go.Proofs.YteacpafhmgdbkaaGreatDoor
open Go Go.AL Go.RowKit
set_option maxRecDepth 10000
set_option maxHeartbeats 4000000
def sgnL : List Nm := [[], [], [36, 61], [36, 70], [36, 62], [36, 38], [36, 124], [36, 65], [36, 69]]
def sgn (k : Int) : Nm := sgnL.getD k.toNat []
theorem signs_spec : PFn Tryz.prog 149 [] (.ar (sgnL.map fun s => Si s)) := by
  refine ACall.walk [0] [0] Tryz.func149 rfl Tryz.ntmps149 (by kernel_rfl) (by rfl) rfl fun W own I0 φ0 lay => ?_
  refine gO ?_
  exact AE.retD [0] rfl ⟨⟨rfl, rfl⟩, trivial⟩ rfl ⟨rfl, rfl⟩
abbrev wrD (wi ni : Nat) (tk ns ws : List Nm) : Heap := (4, .var 140 [.ob 0 0]) :: wrH wi ni tk ns ws
theorem pop_spec (tk ns ws : List Nm) (v : Nm) (hn : ns.length ≤ 1000000) : ADef Tryz.prog 152 [.ob 4 0] (wrD 2 3 tk (ns ++ [v]) ws) none (fun H' => H' = wrD 2 3 tk ns ws) := by
  have w1 : IntKind.i64.wrap (((ns ++ [v]).length : Int) - 1) = (ns.length : Int) := by
    rw [List.length_append, List.length_singleton, wr (by omega)]; omega
  refine ADef.plain [0] [] Tryz.func152 rfl Tryz.ntmps152 (by kernel_rfl) (by rfl) rfl fun W own I0 φ0 lay => ?_
  refine gO ?_
  refine AP.drawE 15 (Tree.node [] [0, 1, 2, 3, 4, 5, 6, 7, 8, 9, 10, 11, 12, 13] [14] [Tree.node [] [] [] []]) (by kernel_rfl) rfl (by kernel_rfl) (by kernel_rfl) ?_
  refine vd_node ?_
  refine sE (an @w1 @Int.toNat_natCast) ?_
  refine ⟨⟨by omega, by simp; omega⟩, ?_⟩
  repeat' (first | with_reducible exact True.intro | with_reducible refine And.intro (by omega) ?_ | with_reducible refine And.intro ?_ ?_ | (refine AQ.nx rfl ?_; refine sE @wrD.eq_1 ?_) | (fail) | refine AQ.done ?_ | (refine AQ.go (by kernel_rfl) ?_; refine sE @wrD.eq_1 ?_; repeat (with_reducible refine And.intro (by omega) ?_); refine AQ.nx rfl ?_; refine sE @wrD.eq_1 ?_))
  all_goals
    refine gO ?_
    refine AE.trunc 3 ns.length rfl ?_
    refine sI ?_
    rw [show (stR (ns ++ [v])).take ns.length = stR ns by rw [stR_take]; simp]
    exact AE.retQ [] (.inr rfl) rfl rfl trivial rfl rfl
end Go.Proofs.YteacpafhmgdbkaaGreatDoor
end

section
namespace Go.Proofs.YteacpafhmgdbkaaGreatDoor
open Go Go.AL Go.RowKit
set_option maxRecDepth 10000
set_option maxHeartbeats 4000000
mutual
def fmW (tk ns : List Nm) : Fm → List Nm
  | .mk k nm ts ps => if k = 1 then nm :: lsW ns ts else sgn k :: (tmsW ns ts ++ (if k = 7 ∨ k = 8 then vN (vnum tk ns) :: fmsW tk (ns ++ [vN (vnum tk ns)]) ps else fmsW tk ns ps))
def fmsW (tk ns : List Nm) : List Fm → List Nm
  | [] => []
  | f :: l => fmW tk ns f ++ fmsW tk ns l
end
def psW (tk ns : List Nm) (k : Int) (ps : List Fm) : List Nm := if k = 7 ∨ k = 8 then vN (vnum tk ns) :: fmsW tk (ns ++ [vN (vnum tk ns)]) ps else fmsW tk ns ps
theorem fmW_eq (tk ns : List Nm) (f : Fm) : fmW tk ns f = if f.k = 1 then f.nm :: lsW ns f.ts else sgn f.k :: (tmsW ns f.ts ++ psW tk ns f.k f.ps) := by
  cases f with
  | mk k nm ts ps => rw [fmW]; rfl
theorem fmsW_snc (tk ns : List Nm) {t : Fm} : ∀ {l : List Fm} {k : Nat}, l[k]? = some t → fmsW tk ns (l.take (k + 1)) = fmsW tk ns (l.take k) ++ fmW tk ns t
  | [], k, h => by simp at h
  | u :: l, 0, h => by simp at h; subst h; simp [fmsW]
  | u :: l, k + 1, h => by
    simp at h
    rw [List.take_succ_cons, List.take_succ_cons, fmsW, fmsW, fmsW_snc tk ns h, List.append_assoc]
theorem fmsW_app (tk ns : List Nm) (b : List Fm) : ∀ a : List Fm, fmsW tk ns (a ++ b) = fmsW tk ns a ++ fmsW tk ns b
  | [] => by simp [fmsW]
  | t :: a => by rw [List.cons_append, fmsW, fmsW, fmsW_app tk ns b a, List.append_assoc]
theorem fmsW_take (tk ns : List Nm) (l : List Fm) (k : Nat) : (fmsW tk ns (l.take k)).length ≤ (fmsW tk ns l).length := by
  have := congrArg (fmsW tk ns) (List.take_append_drop k l)
  rw [fmsW_app] at this
  rw [← this, List.length_append]; omega
theorem fmW_ge (tk ns : List Nm) (f : Fm) : 1 ≤ (fmW tk ns f).length := by
  rw [fmW_eq]
  split <;> simp
theorem fmsW_ge (tk ns : List Nm) : ∀ l : List Fm, l.length ≤ (fmsW tk ns l).length
  | [] => by simp
  | t :: l => by
    have := fmW_ge tk ns t
    have := fmsW_ge tk ns l
    rw [fmsW, List.length_append, List.length_cons]; omega
theorem shp_k {f : Fm} (h : shp f = true) : 1 ≤ f.k ∧ f.k ≤ 8 := by
  unfold shp at h
  split at h
  · cases h
  · split at h
    · omega
    · split at h
      · omega
      · split at h
        · omega
        · split at h
          · omega
          · split at h
            · omega
            · cases h
theorem wFs_get : ∀ {l : List Fm} {k : Nat} {t : Fm} {b : Int}, wFs l b = 0 → l[k]? = some t → wF t b = 0
  | [], k, t, b, _, h => by simp at h
  | u :: l, 0, t, b, hw, h => by simp at h; subst h; exact (wFs_cons hw).1
  | u :: l, k + 1, t, b, hw, h => by simp at h; exact wFs_get (wFs_cons hw).2 h
theorem wform_walk (tk ns : List Nm) (f : Fm) (ws : List Nm) (hw : wF f ns.length = 0) (htk : tk.length ≤ 1000000) (hnd : tk.Nodup) (hl : ws.length + (fmW tk ns f).length ≤ 1000000) (hn : ns.length + 1 ≤ 1000000)
    (ih : ∀ (k : Nat) (u : Fm) (ns' ws : List Nm), f.ps[k]? = some u → ns'.length ≤ ns.length + 1 → wF u ns'.length = 0 → ws.length + (fmW tk ns' u).length ≤ 1000000 → ACall Tryz.prog 85 [.ob 0 0, fmV u] (wrH 2 3 tk ns' ws) (fun r H' => r = .tup [] ∧ H' = wrH 4 5 tk ns' (ws ++ fmW tk ns' u))) :
    ACallX Tryz.prog 85 [.ob 0 0, fmV f] (wrH 2 3 tk ns ws) (fun r H' => r = .tup [] ∧ H' = wrH 4 5 tk ns (ws ++ fmW tk ns f)) (fun _ _ => False) := by
  obtain ⟨hsh, hwt, hwp⟩ := wF_parts hw
  have hk := shp_k hsh
  have he := fmW_eq tk ns f
  refine ACallX.walkD [0, 1, 2, 3, 5, 6, 8, 11, 41, 42, 43, 44, 53, 76, 78, 79, 80, 81] [2, 5, 8] Tryz.func85 rfl Tryz.ntmps85 (by kernel_rfl) (by rfl) rfl fun W own I0 φ0 lay => ?_
  refine AP.rename 2 4 rfl rfl rfl ?_; refine sI ?_; refine AP.rename 3 5 rfl rfl rfl ?_; refine sI ?_
  refine gO ?_
  refine AP.cond rfl rfl (fun h => ?_) (fun h => ?_)
  · have h : f.k = 1 := by simpa using h
    rw [if_pos h] at he
    have hlen : (fmW tk ns f).length = (lsW ns f.ts).length + 1 := by rw [he]; rfl
    rw [he]
    refine gO ?_
    refine AP.cut (α := Unit) (fun _ => [(2, .ob 6 0), (3, .im (.pt [Ii f.k, Si f.nm, .sl 3 (tmR f.ts), .sl 4 (fmR f.ps)]))]) (fun _ => (6, .var 140 [.ob 0 0]) :: wrH 4 5 tk ns (ws ++ [f.nm])) (fun _ => True) ?_ fun _ _ => ?_
    · skip
      refine AP.drawE 12 (Tree.node [] [0, 1, 2, 3, 4, 5, 6] [7] [Tree.node [0, 1, 2, 3, 4] [] [8] [Tree.node [0] [9, 10] [11] [Tree.node [] [] [] []]]]) (by kernel_rfl) rfl (by kernel_rfl) (by kernel_rfl) ?_
      refine vd_node ?_
      refine sI ?_
      repeat' (first | with_reducible exact True.intro | with_reducible refine And.intro (by omega) ?_ | with_reducible refine And.intro ?_ ?_ | (refine AQ.nx rfl ?_; refine sI ?_) | (refine AQ.kill 4 ?_; refine sI ?_; refine AQ.append (hnb := rfl) (rows := stR (ws)) (es := 0) (by kernel_rfl) rfl rfl rfl (by simp only [noMen, AV.mens, AV.men, mens_valsT]; rfl) Tryz.tk67 Tryz.sz9 (by show Option.map _ (zro Tryz.prog 9) = _; rw [Tryz.zr9]; rfl) Tryz.by9 (by rw [stR_len]) (by simp only [stR_len, List.length_cons, List.length_nil]; omega) (by simp only [stR_len, List.length_cons, List.length_nil]; omega) ?_; refine sE @stR_len ?_) | refine AQ.done ?_ | (refine AQ.go (by kernel_rfl) ?_; refine sI ?_; repeat (with_reducible refine And.intro (by omega) ?_); refine AQ.nx rfl ?_; refine sI ?_))
      all_goals
        rw [stR_snc, show ws.length + 1 = (ws ++ [f.nm]).length by simp]
        exact AE.meet () trivial (sU) rfl
    refine gO ?_
    have hli := wlist_walk tk ns f.ts (ws ++ [f.nm]) (by simp; omega) (by omega) fun k u ws hu hl => wterm_spec tk ns u ws (wTs_get hwt hu) hl (by omega)
    refine AQ.callH [(0, 0), (1, 1), (2, 4), (3, 5)] (by kernel_rfl) rfl rfl rfl rfl rfl rfl (by refine ⟨rfl, ?_, rfl, rfl, trivial⟩; rw [rnO, rns_valsT]; rfl) rfl hli ?_
    rintro r H' ⟨rfl, rfl⟩
    refine ⟨rfl, ?_⟩
    refine sH ?_
    refine AQ.rename 11 4 rfl rfl rfl ?_; refine sI ?_
    refine gO ?_
    refine AE.order [0, 1, 4, 5, 6] rfl ?_
    simp only [go_sem, Nat.reduceAdd, Nat.reduceLeDiff, Nat.reduceSub, Int.reduceToNat, reduceCtorEq, reorder]
    exact AE.leaveN (.inl rfl) rfl <| LV.retD [6] rfl trivial (by simp only [go_sem, Nat.reduceAdd, Nat.reduceLeDiff, Nat.reduceSub, Int.reduceToNat, reduceCtorEq, dropOk, noMen, AV.mens, AV.men, mens_valsT, Bool.or_false]; first | done | rfl) ⟨rfl, by rw [List.append_assoc]; rfl⟩
  · have h : ¬ f.k = 1 := by simpa using h
    rw [if_neg h] at he
    have hlen : (fmW tk ns f).length = 1 + (tmsW ns f.ts).length + (psW tk ns f.k f.ps).length := by rw [he]; simp; omega
    have hkn : f.k.toNat < 9 := by omega
    have hsg : (sgnL.map fun s => Si s).getD f.k.toNat (.v (.bool false)) = Si (sgn f.k) := by
      rw [List.getD_eq_getElem?_getD, List.getElem?_map, sgn, List.getD_eq_getElem?_getD, List.getElem?_eq_getElem (show f.k.toNat < sgnL.length from hkn)]; rfl
    refine gO ?_
    refine AP.cut (α := Unit) (fun _ => [(2, .ob 6 0), (3, .im (.pt [Ii f.k, Si f.nm, .sl 3 (tmR f.ts), .sl 4 (fmR f.ps)]))]) (fun _ => (6, .var 140 [.ob 0 0]) :: wrH 4 5 tk ns (ws ++ [sgn f.k])) (fun _ => True) ?_ fun _ _ => ?_
    · skip
      refine AP.drawE 14 (Tree.node [] [0, 1, 2, 3, 4, 6, 7] [5] [Tree.node [0, 1, 2, 3, 4, 6, 7] [8] [9] [Tree.node [0, 1, 2, 3, 4] [] [10] [Tree.node [0] [11, 12] [13] [Tree.node [] [] [] []]]]]) (by kernel_rfl) rfl (by kernel_rfl) (by kernel_rfl) ?_
      refine vd_node ?_
      refine sI ?_
      refine AQ.fn (by kernel_rfl) rfl rfl rfl (signs_spec) rfl ?_
      refine sI ?_
      refine AQ.nx rfl ?_
      refine sE @hsg ?_
      refine ⟨⟨by omega, by omega, by decide⟩, ?_⟩
      repeat' (first | with_reducible exact True.intro | with_reducible refine And.intro (by omega) ?_ | with_reducible refine And.intro ?_ ?_ | (refine AQ.nx rfl ?_; refine sI ?_) | (refine AQ.kill 4 ?_; refine sI ?_; refine AQ.append (hnb := rfl) (rows := stR (ws)) (es := 0) (by kernel_rfl) rfl rfl rfl (by simp only [noMen, AV.mens, AV.men, mens_valsT]; rfl) Tryz.tk67 Tryz.sz9 (by show Option.map _ (zro Tryz.prog 9) = _; rw [Tryz.zr9]; rfl) Tryz.by9 (by rw [stR_len]) (by simp only [stR_len, List.length_cons, List.length_nil]; omega) (by simp only [stR_len, List.length_cons, List.length_nil]; omega) ?_; refine sE @stR_len ?_) | refine AQ.done ?_ | (refine AQ.go (by kernel_rfl) ?_; refine sI ?_; repeat (with_reducible refine And.intro (by omega) ?_); refine AQ.nx rfl ?_; refine sI ?_))
      all_goals
        rw [stR_snc, show ws.length + 1 = (ws ++ [sgn f.k]).length by simp]
        exact AE.meet () trivial (sU) rfl
    obtain ⟨ws1, hws1⟩ : ∃ w, ws ++ [sgn f.k] = w := ⟨_, rfl⟩
    have hl1 : ws1.length = ws.length + 1 := by rw [← hws1]; simp
    have he2 : ws ++ (sgn f.k :: (tmsW ns f.ts ++ psW tk ns f.k f.ps)) = ws1 ++ tmsW ns f.ts ++ psW tk ns f.k f.ps := by rw [← hws1]; simp
    rw [he, he2]
    rw [hws1]
    clear he2 hws1 hsg
    have hge := tmsW_ge ns f.ts
    refine gE @tmR_len ?_
    refine AP.loop rfl (α := Nat × List Nm) (fun s => [(2, .ob 6 0), (3, .im (.pt [Ii f.k, Si f.nm, .sl 3 (tmR f.ts), .sl 4 (fmR f.ps)])), (41, .im (.sl 3 (tmR f.ts))), (42, Iv f.ts.length), (43, Iv s.1)]) (fun s => (6, .var 140 [.ob 0 0]) :: wrH 4 5 tk ns s.2) (fun s => s.1 ≤ f.ts.length ∧ s.2 = ws1 ++ tmsW ns (f.ts.take s.1)) (fun s => f.ts.length - s.1) (0, ws1) ⟨by omega, by simp [tmsW]⟩ (sU) rfl fun s ⟨hk, hs⟩ => ?_
    obtain ⟨k, s⟩ := s
    simp only at hk hs ⊢
    rcases Nat.eq_or_lt_of_le hk with hke | hlt
    · have hsl : s = ws1 ++ tmsW ns f.ts := by rw [hs, hke, List.take_length]
      rw [← hsl]
      have hsn : s.length = ws1.length + (tmsW ns f.ts).length := by rw [hsl]; simp
      clear hs
      refine gO ?_
      refine cF ?_
      refine gO ?_
      refine AQ.fn (by kernel_rfl) rfl rfl rfl (binds_spec f) rfl ?_
      refine gO ?_
      have hge2 := fmsW_ge tk ns f.ps
      by_cases hb : f.k = 7 ∨ f.k = 8
      · have hbn : bnd f = 1 := by unfold bnd; rw [if_pos hb]
        rw [hbn] at hwp
        rw [psW, if_pos hb] at hlen ⊢
        obtain ⟨v, hv⟩ : ∃ v, vN (vnum tk ns) = v := ⟨_, rfl⟩
        have hvs := variable_spec tk ns s htk (by omega) hnd
        rw [hv] at hlen hvs ⊢
        rw [List.length_cons] at hlen
        have hge3 := fmsW_ge tk (ns ++ [v]) f.ps
        simp only [hbn]
        refine cT ?_
        refine gO ?_
        refine AQ.callH [(0, 0), (1, 1), (2, 4), (3, 5)] (by kernel_rfl) rfl rfl rfl rfl rfl rfl (by refine ⟨rfl, ?_, rfl, rfl, trivial⟩; rw [rnO, rns_valsT]; rfl) rfl hvs ?_
        rintro r H' ⟨rfl, rfl⟩
        refine ⟨rfl, ?_⟩
        refine sH ?_
        refine gO ?_
        refine AP.cut (α := Unit) (fun _ => [(2, .ob 6 0), (3, .im (.pt [Ii f.k, Si f.nm, .sl 3 (tmR f.ts), .sl 4 (fmR f.ps)])), (6, Sv v)]) (fun _ => (6, .var 140 [.ob 0 0]) :: wrH 4 5 tk ns (s ++ [v])) (fun _ => True) ?_ fun _ _ => ?_
        · skip
          refine AP.drawE 11 (Tree.node [] [0, 1, 2, 3, 4, 5] [6] [Tree.node [0, 1, 2, 3, 4] [] [7] [Tree.node [0] [8, 9] [10] [Tree.node [] [] [] []]]]) (by kernel_rfl) rfl (by kernel_rfl) (by kernel_rfl) ?_
          refine vd_node ?_
          refine sI ?_
          repeat' (first | with_reducible exact True.intro | with_reducible refine And.intro (by omega) ?_ | with_reducible refine And.intro ?_ ?_ | (refine AQ.nx rfl ?_; refine sI ?_) | (refine AQ.kill 4 ?_; refine sI ?_; refine AQ.append (hnb := rfl) (rows := stR (s)) (es := 0) (by kernel_rfl) rfl rfl rfl (by simp only [noMen, AV.mens, AV.men, mens_valsT]; rfl) Tryz.tk67 Tryz.sz9 (by show Option.map _ (zro Tryz.prog 9) = _; rw [Tryz.zr9]; rfl) Tryz.by9 (by rw [stR_len]) (by simp only [stR_len, List.length_cons, List.length_nil]; omega) (by simp only [stR_len, List.length_cons, List.length_nil]; omega) ?_; refine sE @stR_len ?_) | refine AQ.done ?_ | (refine AQ.go (by kernel_rfl) ?_; refine sI ?_; repeat (with_reducible refine And.intro (by omega) ?_); refine AQ.nx rfl ?_; refine sI ?_))
          all_goals
            rw [stR_snc, show s.length + 1 = (s ++ [v]).length by simp]
            exact AE.meet () trivial (sU) rfl
        refine gO ?_
        refine AP.cut (α := Unit) (fun _ => [(2, .ob 6 0), (3, .im (.pt [Ii f.k, Si f.nm, .sl 3 (tmR f.ts), .sl 4 (fmR f.ps)]))]) (fun _ => (6, .var 140 [.ob 0 0]) :: wrH 4 5 tk (ns ++ [v]) (s ++ [v])) (fun _ => True) ?_ fun _ _ => ?_
        · skip
          refine AP.drawE 11 (Tree.node [] [0, 1, 2, 3, 4, 5] [6] [Tree.node [0, 1, 2, 3, 4] [] [7] [Tree.node [0] [8, 9] [10] [Tree.node [] [] [] []]]]) (by kernel_rfl) rfl (by kernel_rfl) (by kernel_rfl) ?_
          refine vd_node ?_
          refine sI ?_
          repeat' (first | with_reducible exact True.intro | with_reducible refine And.intro (by omega) ?_ | with_reducible refine And.intro ?_ ?_ | (refine AQ.nx rfl ?_; refine sI ?_) | (refine AQ.kill 5 ?_; refine sI ?_; refine AQ.append (hnb := rfl) (rows := stR (ns)) (es := 0) (by kernel_rfl) rfl rfl rfl (by simp only [noMen, AV.mens, AV.men, mens_valsT]; rfl) Tryz.tk67 Tryz.sz9 (by show Option.map _ (zro Tryz.prog 9) = _; rw [Tryz.zr9]; rfl) Tryz.by9 (by rw [stR_len]) (by simp only [stR_len, List.length_cons, List.length_nil]; omega) (by simp only [stR_len, List.length_cons, List.length_nil]; omega) ?_; refine sE @stR_len ?_) | refine AQ.done ?_ | (refine AQ.go (by kernel_rfl) ?_; refine sI ?_; repeat (with_reducible refine And.intro (by omega) ?_); refine AQ.nx rfl ?_; refine sI ?_))
          all_goals
            rw [stR_snc, show ns.length + 1 = (ns ++ [v]).length by simp]
            exact AE.meet () trivial (sU) rfl
        refine sI ?_
        refine xC ?_
        refine AP.regionD rfl rfl ?_
        refine AQ.go1 (by kernel_rfl) rfl rfl ?_ ?_
        · simp only [go_sem]
          done
        refine sI ?_
        refine AQ.defer rfl rfl rfl fun uu => ?_
        refine sI ?_
        refine gE @fmR_len ?_
        refine AP.loop rfl (α := Nat × List Nm) (fun q => [(2, .ob 6 0), (3, .im (.pt [Ii f.k, Si f.nm, .sl 3 (tmR f.ts), .sl 4 (fmR f.ps)])), (76, .wr (.exact uu) (.fn 152 [] [.ob 6 0])), (78, .im (.sl 4 (fmR f.ps))), (79, Iv f.ps.length), (80, Iv q.1)]) (fun q => (6, .var 140 [.ob 0 0]) :: wrH 4 5 tk (ns ++ [v]) q.2) (fun q => q.1 ≤ f.ps.length ∧ q.2 = s ++ [v] ++ fmsW tk (ns ++ [v]) (f.ps.take q.1)) (fun q => f.ps.length - q.1) (0, s ++ [v]) ⟨by omega, by simp [fmsW]⟩ (sU) rfl fun q ⟨hk2, hq⟩ => ?_
        obtain ⟨j, q⟩ := q
        simp only at hk2 hq ⊢
        rcases Nat.eq_or_lt_of_le hk2 with hje | hjt
        · have hsq : q = s ++ v :: fmsW tk (ns ++ [v]) f.ps := by rw [hq, hje, List.take_length]; simp
          rw [← hsq]
          refine gO ?_
          refine cF ?_
          refine gO ?_
          refine AE.leaveD [(4, 6), (0, 0), (1, 1), (2, 4), (3, 5)] (t := 76) (.inr rfl) rfl rfl rfl rfl rfl (by refine ⟨rfl, rfl, ?_, rfl, rfl, trivial⟩; rw [rnO, rns_valsT]; rfl) rfl (pop_spec tk ns q v (by omega)) ?_
          rintro H1 rfl
          refine ⟨rfl, ?_⟩
          refine sH ?_
          exact LV.retD [6] rfl trivial (by simp only [go_sem, Nat.reduceAdd, Nat.reduceLeDiff, Nat.reduceSub, Int.reduceToNat, reduceCtorEq, dropOk, noMen, AV.mens, AV.men, mens_valsT, Bool.or_false]; first | done | rfl) ⟨rfl, rfl⟩
        · obtain ⟨u, hu, hrow⟩ := fmR_get f.ps j hjt
          have hw := wr (x := (j : Int) + 1) (by omega)
          have hsn2 := fmsW_snc tk (ns ++ [v]) hu
          have htl := fmsW_take tk (ns ++ [v]) f.ps (j + 1)
          have hi := ih j u (ns ++ [v]) q hu (by simp) (by have := wFs_get hwp hu; rwa [show (((ns ++ [v]).length : Nat) : Int) = ns.length + 1 by simp]) (by rw [hsn2, List.length_append] at htl; rw [hq]; simp; omega)
          refine gO ?_
          refine cT ?_
          refine gE (an @hrow @fmR_len) ?_
          refine AQ.callH [(0, 0), (1, 1), (2, 4), (3, 5)] (by kernel_rfl) rfl rfl rfl rfl rfl rfl (by refine ⟨rfl, ?_, rfl, rfl, trivial⟩; rw [rnO, rns_valsT]; rfl) rfl hi ?_
          rintro r H' ⟨rfl, rfl⟩
          refine ⟨rfl, ?_⟩
          refine sH ?_
          refine AQ.rename 12 4 rfl rfl rfl ?_; refine sI ?_; refine AQ.rename 13 5 rfl rfl rfl ?_; refine sI ?_
          refine gE @hw ?_
          refine AE.forgets [7] (by simp only [go_sem, Nat.reduceAdd, Nat.reduceLeDiff, Nat.reduceSub, Int.reduceToNat, reduceCtorEq, dropOk, noMen, AV.mens, AV.men, mens_valsT, Bool.or_false]; first | done | rfl) ?_
          refine sI ?_
          refine AE.order [6, 0, 1, 4, 5] rfl ?_
          exact AE.round (j + 1, q ++ fmW tk (ns ++ [v]) u) ⟨by simp only; omega, by simp only; rw [hq, hsn2, List.append_assoc]⟩ (by simp only; omega) (sU) rfl
      · have hbn : bnd f = 0 := by unfold bnd; rw [if_neg hb]
        rw [hbn, Int.add_zero] at hwp
        rw [psW, if_neg hb] at hlen ⊢
        simp only [hbn]
        refine cF ?_
        refine gE @fmR_len ?_
        refine AP.loop rfl (α := Nat × List Nm) (fun q => [(2, .ob 6 0), (3, .im (.pt [Ii f.k, Si f.nm, .sl 3 (tmR f.ts), .sl 4 (fmR f.ps)])), (78, .im (.sl 4 (fmR f.ps))), (79, Iv f.ps.length), (80, Iv q.1)]) (fun q => (6, .var 140 [.ob 0 0]) :: wrH 4 5 tk ns q.2) (fun q => q.1 ≤ f.ps.length ∧ q.2 = s ++ fmsW tk ns (f.ps.take q.1)) (fun q => f.ps.length - q.1) (0, s) ⟨by omega, by simp [fmsW]⟩ (sU) rfl fun q ⟨hk2, hq⟩ => ?_
        obtain ⟨j, q⟩ := q
        simp only at hk2 hq ⊢
        rcases Nat.eq_or_lt_of_le hk2 with hje | hjt
        · have hsq : q = s ++ fmsW tk ns f.ps := by rw [hq, hje, List.take_length]
          rw [← hsq]
          refine gO ?_
          refine cF ?_
          refine gO ?_
          refine AE.order [0, 1, 4, 5, 6] rfl ?_
          simp only [go_sem, Nat.reduceAdd, Nat.reduceLeDiff, Nat.reduceSub, Int.reduceToNat, reduceCtorEq, reorder]
          exact AE.leaveN (.inr rfl) rfl <| LV.retD [6] rfl trivial (by simp only [go_sem, Nat.reduceAdd, Nat.reduceLeDiff, Nat.reduceSub, Int.reduceToNat, reduceCtorEq, dropOk, noMen, AV.mens, AV.men, mens_valsT, Bool.or_false]; first | done | rfl) ⟨rfl, rfl⟩
        · obtain ⟨u, hu, hrow⟩ := fmR_get f.ps j hjt
          have hw := wr (x := (j : Int) + 1) (by omega)
          have hsn2 := fmsW_snc tk ns hu
          have htl := fmsW_take tk ns f.ps (j + 1)
          have hi := ih j u ns q hu (by omega) (wFs_get hwp hu) (by rw [hsn2, List.length_append] at htl; rw [hq]; simp; omega)
          refine gO ?_
          refine cT ?_
          refine gE (an @hrow @fmR_len) ?_
          refine AQ.callH [(0, 0), (1, 1), (2, 4), (3, 5)] (by kernel_rfl) rfl rfl rfl rfl rfl rfl (by refine ⟨rfl, ?_, rfl, rfl, trivial⟩; rw [rnO, rns_valsT]; rfl) rfl hi ?_
          rintro r H' ⟨rfl, rfl⟩
          refine ⟨rfl, ?_⟩
          refine sH ?_
          refine AQ.rename 12 4 rfl rfl rfl ?_; refine sI ?_; refine AQ.rename 13 5 rfl rfl rfl ?_; refine sI ?_
          refine gE @hw ?_
          refine AE.forgets [7] (by simp only [go_sem, Nat.reduceAdd, Nat.reduceLeDiff, Nat.reduceSub, Int.reduceToNat, reduceCtorEq, dropOk, noMen, AV.mens, AV.men, mens_valsT, Bool.or_false]; first | done | rfl) ?_
          refine sI ?_
          refine AE.order [6, 0, 1, 4, 5] rfl ?_
          exact AE.round (j + 1, q ++ fmW tk ns u) ⟨by simp only; omega, by simp only; rw [hq, hsn2, List.append_assoc]⟩ (by simp only; omega) (sU) rfl
    · obtain ⟨u, hu, hrow⟩ := tmR_get f.ts k hlt
      have hw := wr (x := (k : Int) + 1) (by omega)
      have hsn := tmsW_snc ns hu
      have htl : (tmsW ns (f.ts.take (k + 1))).length ≤ (tmsW ns f.ts).length := by
        have := congrArg (tmsW ns) (List.take_append_drop (k + 1) f.ts)
        rw [tmsW_app] at this
        rw [← this, List.length_append]; omega
      have hi := wterm_spec tk ns u s (wTs_get hwt hu) (by rw [hsn, List.length_append] at htl; rw [hs]; simp; omega) (by omega)
      refine gO ?_
      refine cT ?_
      refine gE (an @hrow @tmR_len) ?_
      refine AQ.callH [(0, 0), (1, 1), (2, 4), (3, 5)] (by kernel_rfl) rfl rfl rfl rfl rfl rfl (by refine ⟨rfl, ?_, rfl, rfl, trivial⟩; rw [rnO, rns_valsT]; rfl) rfl hi ?_
      rintro r H' ⟨rfl, rfl⟩
      refine ⟨rfl, ?_⟩
      refine sH ?_
      refine AQ.rename 12 4 rfl rfl rfl ?_; refine sI ?_
      refine gE @hw ?_
      refine AE.forgets [7] (by simp only [go_sem, Nat.reduceAdd, Nat.reduceLeDiff, Nat.reduceSub, Int.reduceToNat, reduceCtorEq, dropOk, noMen, AV.mens, AV.men, mens_valsT, Bool.or_false]; first | done | rfl) ?_
      refine sI ?_
      refine AE.order [6, 0, 1, 4, 5] rfl ?_
      exact AE.round (k + 1, s ++ tmW ns u) ⟨by simp only; omega, by simp only; rw [hs, hsn, List.append_assoc]⟩ (by simp only; omega) (sU) rfl
theorem wform_spec (tk ns : List Nm) (f : Fm) (ws : List Nm) (hw : wF f ns.length = 0) (htk : tk.length ≤ 1000000) (hnd : tk.Nodup) (hl : ws.length + (fmW tk ns f).length ≤ 1000000) (hn : ns.length + szF f ≤ 1000000) :
    ACall Tryz.prog 85 [.ob 0 0, fmV f] (wrH 2 3 tk ns ws) (fun r H' => r = .tup [] ∧ H' = wrH 4 5 tk ns (ws ++ fmW tk ns f)) := by
  have hz := szF_eq f
  refine (wform_walk tk ns f ws hw htk hnd hl (by omega) fun k u ns' ws' hu hn' hwu hl' => ?_).toA fun _ _ h => h
  have := szFs_get hu
  exact wform_spec tk ns' u ws' hwu htk hnd hl' (by omega)
termination_by SizeOf.sizeOf f
decreasing_by exact fm_mem hu
end Go.Proofs.YteacpafhmgdbkaaGreatDoor
end

section
namespace Go.Proofs.YteacpafhmgdbkaaGreatDoor
open Go Go.AL Go.RowKit
set_option maxRecDepth 10000
set_option maxHeartbeats 4000000
def addK (tk : List Nm) (s : Nm) : List Nm := if hasS s tk then tk else tk ++ [s]
mutual
def tkT : Tm → List Nm → List Nm
  | .mk n _ xs, tk => tkTs xs (if !(n == []) && (xs.length : Int) == 0 then addK tk n else tk)
def tkTs : List Tm → List Nm → List Nm
  | [], tk => tk
  | t :: l, tk => tkTs l (tkT t tk)
end
mutual
def tkF : Fm → List Nm → List Nm
  | .mk _ _ ts ps, tk => tkFs ps (tkTs ts tk)
def tkFs : List Fm → List Nm → List Nm
  | [], tk => tk
  | t :: l, tk => tkFs l (tkF t tk)
end
theorem tkT_eq (t : Tm) (tk : List Nm) : tkT t tk = tkTs t.xs (if !(t.nm == []) && (t.xs.length : Int) == 0 then addK tk t.nm else tk) := by cases t; rw [tkT]; rfl
theorem tkF_eq (f : Fm) (tk : List Nm) : tkF f tk = tkFs f.ps (tkTs f.ts tk) := by cases f; rw [tkF]; rfl
theorem tkTs_drop (l : List Tm) (k : Nat) (t : Tm) (tk : List Nm) (h : l[k]? = some t) : tkTs (l.drop k) tk = tkTs (l.drop (k + 1)) (tkT t tk) := by
  obtain ⟨h1, e1⟩ := List.getElem?_eq_some_iff.1 h
  rw [List.drop_eq_getElem_cons h1, e1, tkTs]
theorem tkFs_drop (l : List Fm) (k : Nat) (t : Fm) (tk : List Nm) (h : l[k]? = some t) : tkFs (l.drop k) tk = tkFs (l.drop (k + 1)) (tkF t tk) := by
  obtain ⟨h1, e1⟩ := List.getElem?_eq_some_iff.1 h
  rw [List.drop_eq_getElem_cons h1, e1, tkFs]
theorem addK_nodup {tk : List Nm} (h : tk.Nodup) (s : Nm) : (addK tk s).Nodup := by
  unfold addK
  cases hs : hasS s tk with
  | true => exact h
  | false =>
    rw [if_neg (by simp)]
    refine List.nodup_append.2 ⟨h, by simp, fun a ha b hb => ?_⟩
    simp at hb
    subst hb
    intro e
    subst e
    rw [hasS_mem.2 ha] at hs; cases hs
theorem addK_len (tk : List Nm) (s : Nm) : (addK tk s).length ≤ tk.length + 1 := by unfold addK; split <;> simp
mutual
theorem tkT_nodup : ∀ (t : Tm) {tk : List Nm}, tk.Nodup → (tkT t tk).Nodup
  | .mk n _ xs, tk, h => by
    rw [tkT]
    refine tkTs_nodup xs ?_
    split
    · exact addK_nodup h _
    · exact h
theorem tkTs_nodup : ∀ (l : List Tm) {tk : List Nm}, tk.Nodup → (tkTs l tk).Nodup
  | [], tk, h => by rw [tkTs]; exact h
  | t :: l, tk, h => by rw [tkTs]; exact tkTs_nodup l (tkT_nodup t h)
end
mutual
theorem tkF_nodup : ∀ (t : Fm) {tk : List Nm}, tk.Nodup → (tkF t tk).Nodup
  | .mk _ _ ts ps, tk, h => by rw [tkF]; exact tkFs_nodup ps (tkTs_nodup ts h)
theorem tkFs_nodup : ∀ (l : List Fm) {tk : List Nm}, tk.Nodup → (tkFs l tk).Nodup
  | [], tk, h => by rw [tkFs]; exact h
  | t :: l, tk, h => by rw [tkFs]; exact tkFs_nodup l (tkF_nodup t h)
end
mutual
theorem tkT_len : ∀ (t : Tm) (tk : List Nm), (tkT t tk).length ≤ tk.length + szT t
  | .mk n _ xs, tk => by
    rw [tkT, szT]
    have := tkTs_len xs (if !(n == []) && (xs.length : Int) == 0 then addK tk n else tk)
    have h2 : (if !(n == []) && (xs.length : Int) == 0 then addK tk n else tk).length ≤ tk.length + 1 := by
      split
      · exact addK_len tk n
      · omega
    omega
theorem tkTs_len : ∀ (l : List Tm) (tk : List Nm), (tkTs l tk).length ≤ tk.length + szTs l
  | [], tk => by rw [tkTs, szTs]; omega
  | t :: l, tk => by
    rw [tkTs, szTs]
    have := tkTs_len l (tkT t tk)
    have := tkT_len t tk
    omega
end
mutual
theorem tkF_len : ∀ (t : Fm) (tk : List Nm), (tkF t tk).length ≤ tk.length + szF t
  | .mk _ _ ts ps, tk => by
    rw [tkF, szF]
    have := tkFs_len ps (tkTs ts tk)
    have := tkTs_len ts tk
    omega
theorem tkFs_len : ∀ (l : List Fm) (tk : List Nm), (tkFs l tk).length ≤ tk.length + szFs l
  | [], tk => by rw [tkFs, szFs]; omega
  | t :: l, tk => by
    rw [tkFs, szFs]
    have := tkFs_len l (tkF t tk)
    have := tkF_len t tk
    omega
end
abbrev tnH (tk : List Nm) : Heap := [(0, .var 140 [.ob 1 0]), (1, .var 142 [nilV, .mp 2, nilV]), (2, .var (.map (keysS tk)) (valsT tk))]
theorem keysS_add (tk : List Nm) (s : Nm) : keysS (tk ++ [s]) = keysS tk ++ [.string (BA s)] := by simp [keysS]
theorem valsT_add (tk : List Nm) (s : Nm) : valsT (tk ++ [s]) = valsT tk ++ [Bv true] := by simp [valsT]
theorem note_spec (tk : List Nm) (s : Nm) (hnd : tk.Nodup) : ACall Tryz.prog 84 [Sv s, .ob 0 0] (tnH tk) (fun r H' => r = .tup [] ∧ H' = tnH (addK tk s)) := by
  refine ACall.walk [0, 1] [] Tryz.func84 rfl Tryz.ntmps84 (by kernel_rfl) (by rfl) rfl fun W own I0 φ0 lay => ?_
  refine gO ?_
  unfold addK
  cases ht : hasS s tk with
  | true =>
    obtain ⟨j, hj⟩ := List.mem_iff_getElem?.1 (hasS_mem.1 ht)
    have hkj : (keysS tk)[j]? = some (.string (BA s)) := by rw [keysS, List.getElem?_map, hj]; rfl
    have huq : ∀ i, (keysS tk)[i]? = some (.string (BA s)) → i = j := fun i hi => keysS_uniq hnd hj hi
    refine AQ.msetF j (by kernel_rfl) rfl rfl rfl rfl Tryz.underlying96 Tryz.underlying9 (keysS_ok tk) trivial (List.mem_of_getElem? hkj) huq ?_
    refine sI ?_
    refine gO ?_
    have e : (valsT tk).set j (Bv true) = valsT tk := by
      obtain ⟨h1, _⟩ := List.getElem?_eq_some_iff.1 hj
      have h2 : j < (valsT tk).length := by rw [valsT, List.length_map]; exact h1
      have h3 : (valsT tk)[j] = Bv true := by simp [valsT]
      rw [← h3]; exact List.set_getElem_self h2
    rw [e]
    exact AE.fall rfl trivial ⟨rfl, rfl⟩
  | false =>
    refine AQ.msetN (by kernel_rfl) rfl rfl rfl rfl Tryz.underlying96 Tryz.underlying9 (keysS_ok tk) trivial (keysS_not ht) ?_
    refine sI ?_
    refine gO ?_
    rw [← keysS_add, ← valsT_add]
    exact AE.fall rfl trivial ⟨rfl, rfl⟩
abbrev lnH (tk : List Nm) : Heap := (4, .var 220 [.fn 147 [] [.ob 3 0, .ob 4 0]]) :: (3, .var 144 [.fn 84 [] [.ob 0 0]]) :: tnH tk
theorem leavesT1_spec (t : Tm) (tk : List Nm) (hnd : tk.Nodup) (hs : tmS t) : ACall Tryz.prog 147 [tmV t, .ob 3 0, .ob 4 0] (lnH tk) (fun r H' => r = .tup [] ∧ H' = lnH (tkT t tk)) := by
  have hs0 := tmS_eq.1 hs
  refine ACall.walk [0, 1, 2, 3, 5, 14, 20, 21, 22, 23] [5] Tryz.func147 rfl Tryz.ntmps147 (by kernel_rfl) (by rfl) rfl fun W own I0 φ0 lay => ?_
  refine gE @tmR_len ?_
  obtain ⟨c, hcd⟩ : ∃ c, (!(t.nm == []) && (t.xs.length : Int) == 0) = c := ⟨_, rfl⟩
  have he := tkT_eq t tk
  rw [hcd] at he
  have hnd1 : (if c then addK tk t.nm else tk).Nodup := by
    split
    · exact addK_nodup hnd _
    · exact hnd
  refine AP.cut (α := Unit) (fun _ => [(1, .ob 3 0), (2, .ob 4 0), (3, .im (tmP t))]) (fun _ => lnH (if c then addK tk t.nm else tk)) (fun _ => True) ?_ fun _ _ => ?_
  · refine AP.cond rfl rfl (fun h => ?_) (fun h => ?_)
    · rw [hcd] at h
      subst h
      refine sE @lnH.eq_1 ?_
      refine gO ?_
      refine AQ.callH [(0, 0), (1, 1), (2, 2)] (by kernel_rfl) rfl rfl rfl rfl rfl rfl (by refine ⟨rfl, rfl, ?_, trivial⟩; rw [rnO, rns_valsT]; rfl) rfl (note_spec tk t.nm hnd) ?_
      rintro r H' ⟨rfl, rfl⟩
      refine ⟨rfl, ?_⟩
      refine sH ?_
      refine gO ?_
      refine AE.order [4, 3, 0, 1, 2] rfl ?_
      exact AE.meet () trivial (sU) rfl
    · rw [hcd] at h
      subst h
      refine gO ?_
      exact AE.meet () trivial (sU) rfl
  · obtain ⟨tk1, htk1⟩ : ∃ x, (if c then addK tk t.nm else tk) = x := ⟨_, rfl⟩
    rw [htk1] at he hnd1 ⊢
    refine gE @tmR_len ?_
    refine AP.loop rfl (α := Nat × List Nm) (fun q => [(1, .ob 3 0), (2, .ob 4 0), (20, .im (.sl 3 (tmR t.xs))), (21, Iv t.xs.length), (22, Iv q.1)]) (fun q => lnH q.2) (fun q => q.1 ≤ t.xs.length ∧ q.2.Nodup ∧ tkT t tk = tkTs (t.xs.drop q.1) q.2) (fun q => t.xs.length - q.1) (0, tk1) ⟨by omega, hnd1, by rw [he, List.drop_zero]⟩ (sU) rfl fun q ⟨hk, hn, hm⟩ => ?_
    obtain ⟨k, m⟩ := q
    simp only at hk hm hn ⊢
    refine sE @lnH.eq_1 ?_
    rcases Nat.eq_or_lt_of_le hk with hke | hlt
    · rw [hke, List.drop_length, tkTs] at hm
      refine gO ?_
      refine cF ?_
      refine gO ?_
      exact AE.fall rfl trivial ⟨rfl, by rw [hm]⟩
    · obtain ⟨u, hu, hrow⟩ := tmR_get t.xs k hlt
      rw [tkTs_drop t.xs k u _ hu] at hm
      have hw := wr (x := (k : Int) + 1) (by omega)
      refine gO ?_
      refine cT ?_
      refine gE @hrow ?_
      refine ⟨by rw [tmR_len]; omega, ?_⟩
      refine gO ?_
      refine AQ.callH [(4, 4), (3, 3), (0, 0), (1, 1), (2, 2)] (by kernel_rfl) rfl rfl rfl rfl rfl rfl (by refine ⟨rfl, rfl, rfl, rfl, ?_, trivial⟩; rw [rnO, rns_valsT]; rfl) rfl (leavesT1_spec u m hn (tmsS_get hs0.2.2 hu)) ?_
      rintro r H' ⟨rfl, rfl⟩
      refine ⟨rfl, ?_⟩
      refine sG @lnH.eq_1 ?_
      refine gE @hw ?_
      refine AE.forgets [5] (by simp only [go_sem, Nat.reduceAdd, Nat.reduceLeDiff, Nat.reduceSub, Int.reduceToNat, reduceCtorEq, dropOk, noMen, AV.mens, AV.men, mens_valsT, Bool.or_false]; first | done | rfl) ?_
      refine sI ?_
      exact AE.round (k + 1, tkT u m) ⟨by simp only; omega, tkT_nodup u hn, hm⟩ (by simp only; omega) (sU) rfl
termination_by SizeOf.sizeOf t
decreasing_by exact tm_mem hu
end Go.Proofs.YteacpafhmgdbkaaGreatDoor
end

section
namespace Go.Proofs.YteacpafhmgdbkaaGreatDoor
open Go Go.AL Go.RowKit
set_option maxRecDepth 10000
set_option maxHeartbeats 4000000
theorem leavesT_spec (F : Fm) (tk : List Nm) (hnd : tk.Nodup) (hs : fmS F) : ACall Tryz.prog 83 [fmV F, .fn 84 [] [.ob 0 0]] (tnH tk) (fun r H' => r = .tup [] ∧ H' = tnH (tkF F tk)) := by
  have hs0 := fmS_eq.1 hs
  have he := tkF_eq F tk
  refine ACall.walk [0, 1, 2, 3, 4, 6, 8, 11, 12, 13, 14, 22, 23, 24, 25] [3, 4, 6, 8] Tryz.func83 rfl Tryz.ntmps83 (by kernel_rfl) (by rfl) rfl fun W own I0 φ0 lay => ?_
  refine gE @tmR_len ?_
  refine AP.loop rfl (α := Nat × List Nm) (fun q => [(2, .im (fmP F)), (3, .ob 3 0), (4, .ob 4 0), (11, .im (.sl 3 (tmR F.ts))), (12, Iv F.ts.length), (13, Iv q.1)]) (fun q => lnH q.2) (fun q => q.1 ≤ F.ts.length ∧ q.2.Nodup ∧ tkTs F.ts tk = tkTs (F.ts.drop q.1) q.2) (fun q => F.ts.length - q.1) (0, tk) ⟨by omega, hnd, by rw [List.drop_zero]⟩ (sU) rfl fun q ⟨hk, hn, hm⟩ => ?_
  obtain ⟨k, m⟩ := q
  simp only at hk hm hn ⊢
  refine sE @lnH.eq_1 ?_
  rcases Nat.eq_or_lt_of_le hk with hke | hlt
  · rw [hke, List.drop_length, tkTs] at hm
    rw [hm] at he
    refine gO ?_
    refine cF ?_
    refine gE @fmR_len ?_
    refine AP.loop rfl (α := Nat × List Nm) (fun q => [(2, .im (fmP F)), (3, .ob 3 0), (22, .im (.sl 4 (fmR F.ps))), (23, Iv F.ps.length), (24, Iv q.1)]) (fun q => lnH q.2) (fun q => q.1 ≤ F.ps.length ∧ q.2.Nodup ∧ tkF F tk = tkFs (F.ps.drop q.1) q.2) (fun q => F.ps.length - q.1) (0, m) ⟨by omega, hn, by rw [List.drop_zero, he]⟩ (sU) rfl fun q ⟨hk, hn, hm⟩ => ?_
    clear he
    obtain ⟨k, m⟩ := q
    simp only at hk hm hn ⊢
    refine sE @lnH.eq_1 ?_
    rcases Nat.eq_or_lt_of_le hk with hke | hlt
    · rw [hke, List.drop_length, tkFs] at hm
      refine gO ?_
      refine cF ?_
      refine gO ?_
      exact AE.fallD [4, 3] rfl trivial (by simp only [go_sem, Nat.reduceAdd, Nat.reduceLeDiff, Nat.reduceSub, Int.reduceToNat, reduceCtorEq, dropOk, noMen, AV.mens, AV.men, mens_valsT, Bool.or_false]; first | done | rfl) ⟨rfl, by rw [hm]; rfl⟩
    · obtain ⟨u, hu, hrow⟩ := fmR_get F.ps k hlt
      rw [tkFs_drop F.ps k u _ hu] at hm
      have hw := wr (x := (k : Int) + 1) (by omega)
      refine gO ?_
      refine cT ?_
      refine gE (an @hrow @fmR_len) ?_
      refine AQ.callH [(0, 0), (1, 1), (2, 2)] (by kernel_rfl) rfl rfl rfl rfl rfl rfl (by refine ⟨rfl, rfl, ?_, trivial⟩; rw [rnO, rns_valsT]; rfl) rfl (leavesT_spec u m hn (fmsS_get hs0.2.2.2.2 hu)) ?_
      rintro r H' ⟨rfl, rfl⟩
      refine ⟨rfl, ?_⟩
      refine sH ?_
      refine gE @hw ?_
      refine AE.forgets [5] (by simp only [go_sem, Nat.reduceAdd, Nat.reduceLeDiff, Nat.reduceSub, Int.reduceToNat, reduceCtorEq, dropOk, noMen, AV.mens, AV.men, mens_valsT, Bool.or_false]; first | done | rfl) ?_
      refine sI ?_
      refine AE.order [4, 3, 0, 1, 2] rfl ?_
      exact AE.round (k + 1, tkF u m) ⟨by simp only; omega, tkF_nodup u hn, hm⟩ (by simp only; omega) (sU) rfl
  · obtain ⟨u, hu, hrow⟩ := tmR_get F.ts k hlt
    rw [tkTs_drop F.ts k u _ hu] at hm
    have hw := wr (x := (k : Int) + 1) (by omega)
    refine gO ?_
    refine cT ?_
    refine gE (an @hrow @tmR_len) ?_
    refine AQ.callH [(4, 4), (3, 3), (0, 0), (1, 1), (2, 2)] (by kernel_rfl) rfl rfl rfl rfl rfl rfl (by refine ⟨rfl, rfl, rfl, rfl, ?_, trivial⟩; rw [rnO, rns_valsT]; rfl) rfl (leavesT1_spec u m hn (tmsS_get hs0.2.2.1 hu)) ?_
    rintro r H' ⟨rfl, rfl⟩
    refine ⟨rfl, ?_⟩
    refine sG @lnH.eq_1 ?_
    refine gE @hw ?_
    refine AE.forgets [5] (by simp only [go_sem, Nat.reduceAdd, Nat.reduceLeDiff, Nat.reduceSub, Int.reduceToNat, reduceCtorEq, dropOk, noMen, AV.mens, AV.men, mens_valsT, Bool.or_false]; first | done | rfl) ?_
    refine sI ?_
    exact AE.round (k + 1, tkT u m) ⟨by simp only; omega, tkT_nodup u hn, hm⟩ (by simp only; omega) (sU) rfl
termination_by SizeOf.sizeOf F
decreasing_by exact fm_mem hu
end Go.Proofs.YteacpafhmgdbkaaGreatDoor
end

section
namespace Go.Proofs.YteacpafhmgdbkaaGreatDoor
open Go Go.AL Go.RowKit
set_option maxRecDepth 10000
set_option maxHeartbeats 4000000
def okW (L : Nat) (l : List Nm) : Prop := ∀ w ∈ l, w.length ≤ L
theorem okW.nil {L : Nat} : okW L [] := fun _ h => by cases h
theorem okW.cons {L : Nat} {x : Nm} {l : List Nm} (h1 : x.length ≤ L) (h2 : okW L l) : okW L (x :: l) := fun w h => by
  rcases List.mem_cons.1 h with h | h
  · exact h ▸ h1
  · exact h2 w h
theorem okW.app {L : Nat} {l m : List Nm} (h1 : okW L l) (h2 : okW L m) : okW L (l ++ m) := fun w h => by
  rcases List.mem_append.1 h with h | h
  · exact h1 w h
  · exact h2 w h
theorem okW.get {L : Nat} {l : List Nm} (h : okW L l) (i : Nat) : (l.getD i []).length ≤ L := by
  rw [List.getD_eq_getElem?_getD]
  cases hx : l[i]? with
  | none => simp
  | some x => exact h x (List.mem_of_getElem? hx)
theorem join_len (L : Nat) : ∀ l : List Nm, okW L l → (joinB l).length ≤ (L + 1) * l.length
  | [], _ => by simp [joinB, Lib.join_nil]
  | x :: r, h => by
    have hx := h x (List.mem_cons_self ..)
    have ht : ∀ r : List Nm, okW L r → (Lib.joinTail [32] r).length ≤ (L + 1) * r.length := fun r => by
      induction r with
      | nil => intro _; simp [Lib.joinTail]
      | cons y r ih =>
        intro h
        have := ih fun w hw => h w (List.mem_cons_of_mem _ hw)
        have hy := h y (List.mem_cons_self ..)
        simp only [Lib.joinTail, List.map_cons, List.flatten_cons, List.length_append, List.length_cons, List.length_nil] at this ⊢
        rw [Nat.mul_add]; omega
    have := ht r fun w hw => h w (List.mem_cons_of_mem _ hw)
    rw [joinB, Lib.join_cons, List.length_append, List.length_cons, Nat.mul_add]; omega
mutual
theorem tmW_ok {L : Nat} (hL : 60 ≤ L) {ns : List Nm} (hn : okW L ns) (b : Int) : ∀ t : Tm, wT t b = 0 → okW L (tmW ns t)
  | .mk nm ix xs, h => by
    have h0 := wT_nm h
    simp only [Tm.nm, Tm.xs] at h0
    rw [tmW]
    split
    · exact okW.cons (hn.get _) okW.nil
    · rename_i hnm
      refine okW.cons (by omega) ?_
      split
      · exact okW.nil
      · exact okW.cons (by simp; omega) ((tmsW_ok hL hn b xs (h0.2.2 hnm).2.2).app (okW.cons (by simp; omega) okW.nil))
theorem tmsW_ok {L : Nat} (hL : 60 ≤ L) {ns : List Nm} (hn : okW L ns) (b : Int) : ∀ l : List Tm, wTs l b = 0 → okW L (tmsW ns l)
  | [], _ => by rw [tmsW]; exact okW.nil
  | t :: l, h => by
    rw [tmsW]
    exact (tmW_ok hL hn b t (wTs_cons h).1).app (tmsW_ok hL hn b l (wTs_cons h).2)
end
theorem lsW_ok {L : Nat} (hL : 60 ≤ L) {ns : List Nm} (hn : okW L ns) (b : Int) (l : List Tm) (h : wTs l b = 0) : okW L (lsW ns l) := by
  unfold lsW
  split
  · exact okW.nil
  · exact okW.cons (by simp; omega) ((tmsW_ok hL hn b l h).app (okW.cons (by simp; omega) okW.nil))
theorem vN_len (tk ns : List Nm) : (vN (vnum tk ns)).length ≤ tk.length + ns.length + 2 := by
  obtain ⟨m, hm, hf⟩ := frV_ex tk ns
  have hle : vnum tk ns ≤ tk.length + ns.length := by
    rcases Classical.em (∀ j, j < m → frV tk ns j = false) with h | h
    · rw [vnum_eq hf h]; exact hm
    · obtain ⟨j, hj, hfj, hmin⟩ : ∃ j, j < m ∧ frV tk ns j = true ∧ ∀ i, i < j → frV tk ns i = false := by
        clear hf hm
        induction m with
        | zero => exact absurd (fun j hj => by omega) h
        | succ m ih =>
          rcases Classical.em (∀ j, j < m → frV tk ns j = false) with h2 | h2
          · refine ⟨m, by omega, ?_, h2⟩
            cases hb : frV tk ns m with
            | true => rfl
            | false =>
              exact absurd (fun j hj => by
                rcases Nat.lt_or_ge j m with h3 | h3
                · exact h2 j h3
                · rw [show j = m by omega, hb]) h
          · obtain ⟨j, hj, a, b⟩ := ih h2
            exact ⟨j, by omega, a, b⟩
      rw [vnum_eq hfj hmin]; omega
  have := itoa_len (vnum tk ns)
  rw [vN, List.length_cons]; omega
theorem sgn_len (k : Int) : (sgn k).length ≤ 2 := by
  have : okW 2 sgnL := by unfold okW; decide
  exact this.get _
mutual
theorem fmW_ok {L : Nat} (hL : 60 ≤ L) (tk : List Nm) : ∀ (f : Fm) {ns : List Nm} (b : Int), okW L ns → wF f b = 0 → tk.length + ns.length + szF f + 2 ≤ L → okW L (fmW tk ns f)
  | .mk k nm ts ps, ns, b, hn, h, hs => by
    obtain ⟨hsh, hwt, hwp⟩ := wF_parts h
    simp only [Fm.ts, Fm.ps] at hwt hwp
    rw [szF] at hs
    rw [fmW]
    split
    · rename_i hk
      refine okW.cons ?_ (lsW_ok hL hn b ts hwt)
      have hnm : isNm nm = true := by
        unfold shp at hsh
        simp only [Fm.k, Fm.nm, hk] at hsh
        rw [if_neg (by simp), if_pos trivial] at hsh
        simp only [Bool.and_eq_true] at hsh
        exact hsh.1
      have := (isNm_len hnm).1
      omega
    · refine okW.cons (by have := sgn_len k; omega) ((tmsW_ok hL hn b ts hwt).app ?_)
      have hv := vN_len tk ns
      split
      · refine okW.cons (by omega) (fmsW_ok hL tk ps _ (hn.app (okW.cons (by omega) okW.nil)) hwp (by simp; omega))
      · exact fmsW_ok hL tk ps _ hn hwp (by omega)
theorem fmsW_ok {L : Nat} (hL : 60 ≤ L) (tk : List Nm) : ∀ (l : List Fm) {ns : List Nm} (b : Int), okW L ns → wFs l b = 0 → tk.length + ns.length + szFs l + 2 ≤ L → okW L (fmsW tk ns l)
  | [], ns, b, _, _, _ => by rw [fmsW]; exact okW.nil
  | f :: l, ns, b, hn, h, hs => by
    rw [szFs] at hs
    rw [fmsW]
    exact (fmW_ok hL tk f b hn (wFs_cons h).1 (by omega)).app (fmsW_ok hL tk l b hn (wFs_cons h).2 (by omega))
end
mutual
theorem fmW_len (tk : List Nm) : ∀ (f : Fm) (ns : List Nm), (fmW tk ns f).length ≤ 3 * szF f
  | .mk k nm ts ps, ns => by
    rw [fmW, szF]
    have h1 := lsW_len ns ts
    have h2 := tmsW_len ns ts
    split
    · rw [List.length_cons]; omega
    · rw [List.length_cons, List.length_append]
      split
      · have := fmsW_len tk ps (ns ++ [vN (vnum tk ns)])
        rw [List.length_cons]; omega
      · have := fmsW_len tk ps ns
        omega
theorem fmsW_len (tk : List Nm) : ∀ (l : List Fm) (ns : List Nm), (fmsW tk ns l).length ≤ 3 * szFs l
  | [], ns => by simp [fmsW]
  | f :: l, ns => by
    rw [fmsW, szFs, List.length_append]
    have := fmW_len tk f ns
    have := fmsW_len tk l ns
    omega
end
end Go.Proofs.YteacpafhmgdbkaaGreatDoor
end

section
namespace Go.Proofs.YteacpafhmgdbkaaGreatDoor
open Go Go.AL Go.RowKit
set_option maxRecDepth 10000
set_option maxHeartbeats 4000000
@[go_sem] theorem frzs_valsT (b es : Nat) (rows : List (List IV)) : ∀ l : List Nm, frzs b es rows (valsT l) = valsT l
  | [] => rfl
  | _ :: l => by rw [valsT, List.map_cons, frzs, ← valsT, frzs_valsT b es rows l]; rfl
@[go_sem] theorem frzCs_valsT (b : Nat) (rows : List (List IV)) : ∀ l : List Nm, frzCs b rows (valsT l) = True
  | [] => rfl
  | _ :: l => by rw [valsT, List.map_cons, frzCs, ← valsT, frzCs_valsT b rows l]; simp [frzC]
def wdF (f : Fm) : List Nm := fmW (tkF f []) [] f
def txF (f : Fm) : Nm × Int := if unF f 0 = 0 then (if 40000 < (joinB (wdF f)).length then ([], 15) else (joinB (wdF f), 0)) else ([], unF f 0)
theorem text_spec (f : Fm) (hs : fmS f) : PFn Tryz.prog 33 [fmV f] (.tup [Sv (txF f).1, Iv (txF f).2]) := by
  obtain ⟨q, hq⟩ : ∃ q, txF f = q := ⟨_, rfl⟩
  rw [hq]
  unfold txF at hq
  have hwl := well_at f hs
  refine ACall.walk [0, 1, 2, 3, 4, 5, 6, 10, 28] [5, 14] Tryz.func33 rfl Tryz.ntmps33 (by kernel_rfl) (by rfl) rfl fun W own I0 φ0 lay => ?_
  refine gO ?_
  refine AQ.fn (by kernel_rfl) rfl rfl rfl (hwl) rfl ?_
  refine gO ?_
  refine AP.cond rfl rfl (fun h => ?_) (fun h => ?_)
  · have h : ¬ unF f 0 = 0 := by simpa using h
    rw [if_neg h] at hq
    subst hq
    refine gO ?_
    exact AE.ret0 rfl ⟨rfl, rfl, trivial⟩ rfl ⟨rfl, rfl⟩
  · have h : unF f 0 = 0 := by simpa using h
    rw [if_pos h] at hq
    have hf := un_fit h
    have hwl := fmW_len (tkF f []) f []
    have htl := tkF_len f []
    have hnd : (tkF f []).Nodup := tkF_nodup f List.nodup_nil
    have hok := fmW_ok (L := 4000 + 4000 + 2) (by omega) (tkF f []) f (ns := []) 0 okW.nil hf.2.2 (by simp at htl ⊢; omega)
    have hjl := join_len _ _ hok
    have hjb : (joinB (fmW (tkF f []) [] f)).length ≤ 1000000000 := by
      have : (4000 + 4000 + 2 + 1) * (fmW (tkF f []) [] f).length ≤ 8003 * 12000 := Nat.mul_le_mul_left _ (by omega)
      omega
    have hlv := leavesT_spec f [] List.nodup_nil hs
    have hwf := wform_spec (tkF f []) [] f [] hf.2.2 (by simp at htl; omega) hnd (by simp; omega) (by simp; omega)
    have hwd : wdF f = fmW (tkF f []) [] f := rfl
    rw [hwd] at hq
    rw [List.nil_append] at hwf
    generalize hws : fmW (tkF f []) [] f = ws at *
    have hjs := join_spec ws (by omega) hjb
    clear hok hjl hjb
    generalize tkF f [] = tk at *
    refine gO ?_
    refine AQ.mmake (by kernel_rfl) ?_
    refine sI ?_
    refine gO ?_
    refine AQ.callH [(0, 2), (1, 1), (2, 0)] (by kernel_rfl) rfl rfl rfl rfl rfl rfl (by exact ⟨rfl, rfl, rfl, trivial⟩) rfl hlv ?_
    rintro r H' ⟨rfl, rfl⟩
    refine ⟨rfl, ?_⟩
    refine sH ?_
    refine AQ.ownCell 1 0 9 1 rfl rfl ?_
    refine sI ?_
    refine AQ.ownCell 1 2 9 1 rfl rfl ?_
    refine sI ?_
    refine gO ?_
    refine AQ.callH [(0, 1), (1, 0), (2, 3), (3, 4)] (by kernel_rfl) rfl rfl rfl rfl rfl rfl (by refine ⟨rfl, ?_, rfl, rfl, trivial⟩; rw [rnO, rns_valsT]; rfl) rfl hwf ?_
    rintro r H' ⟨rfl, rfl⟩
    refine ⟨rfl, ?_⟩
    refine sH ?_
    refine gO ?_
    refine AQ.freeze 9 (el := 9) (es := 1) (rows := stR ws) rfl (by simp only [go_sem, Nat.reduceAdd, Nat.reduceLeDiff, Nat.reduceSub, Int.reduceToNat, reduceCtorEq, stR_len]; first | done | trivial | omega | (simp; done) | (simp; omega)) (by simp only [go_sem, Nat.reduceAdd, Nat.reduceLeDiff, Nat.reduceSub, Int.reduceToNat, reduceCtorEq, stR_len]; first | done | trivial | omega | (simp; done) | (simp; omega)) ?_; simp only [go_sem, Nat.reduceAdd, Nat.reduceLeDiff, Nat.reduceSub, Int.reduceToNat, reduceCtorEq, stR_len]
    rw [stT ws ws.length (Nat.le_refl _)]
    refine AQ.fn (by kernel_rfl) rfl rfl rfl (hjs) rfl ?_
    refine gO ?_
    refine AP.cond rfl rfl (fun h4 => ?_) (fun h4 => ?_)
    · have h4 : 40000 < (joinB ws).length := by simp only [decide_eq_true_eq] at h4; omega
      rw [if_pos h4] at hq
      subst hq
      refine gO ?_
      exact AE.retD [2, 1, 0, 10] rfl ⟨rfl, rfl, trivial⟩ (by simp only [go_sem, Nat.reduceAdd, Nat.reduceLeDiff, Nat.reduceSub, Int.reduceToNat, reduceCtorEq, dropOk, noMen, AV.mens, AV.men, mens_valsT, Bool.or_false]; first | done | rfl) ⟨rfl, rfl⟩
    · have h4 : ¬ 40000 < (joinB ws).length := by simp only [decide_eq_false_iff_not] at h4; omega
      rw [if_neg h4] at hq
      subst hq
      refine gO ?_
      exact AE.retD [2, 1, 0, 10] rfl ⟨rfl, rfl, trivial⟩ (by simp only [go_sem, Nat.reduceAdd, Nat.reduceLeDiff, Nat.reduceSub, Int.reduceToNat, reduceCtorEq, dropOk, noMen, AV.mens, AV.men, mens_valsT, Bool.or_false]; first | done | rfl) ⟨rfl, rfl⟩
end Go.Proofs.YteacpafhmgdbkaaGreatDoor
end

section
namespace Go.Proofs.YteacpafhmgdbkaaGreatDoor
open Go Go.AL Go.RowKit
set_option maxRecDepth 10000
set_option maxHeartbeats 4000000
def exP : Fm := .mk 1 [112] [] []
def exD : Dv := .mk 3 0 [] (.mk [] 0 []) exP [.mk 1 0 [] (.mk [] 0 []) (.mk 0 [] [] []) []]
theorem ex_check : ckC [] [] exD = .ok (conn 4 [exP, exP]) := by kernel_rfl
theorem ex_text : txF (conn 4 [exP, exP]) = ([36, 62, 32, 112, 32, 112], 0) := by kernel_rfl
theorem exD_S : dvS exD := by
  simp only [exD, exP, dvS, dvsS, tmS, tmsS, fmS, fmsS]
  simp
theorem check_ex : PFn Tryz.prog 13 [.im (.sl 4 (fmR [])), .im (.sl 4 (fmR [])), dvV exD] (rsV (.ok (conn 4 [exP, exP]))) := by
  have h := (check_walk [] [] exD exD_S fmsS_nil fmsS_nil (by simp) (by simp) (fun _ => by decide)).toA fun _ _ h => h
  rw [ex_check] at h
  exact h.mono fun r H' ⟨a, b⟩ => ⟨b, a⟩
theorem text_ex : PFn Tryz.prog 33 [fmV (conn 4 [exP, exP])] (.tup [Sv [36, 62, 32, 112, 32, 112], Iv 0]) := by
  have h := text_spec (conn 4 [exP, exP]) (by simp only [exP, fmS, fmsS, tmsS]; simp)
  rw [ex_text] at h
  exact h
abbrev exV : AV := .agg [Iv 4, Sv [], .im (.sl 3 []), .im (.sl 4 [[Ii 1, Si [112], .sl 3 [], .sl 4 []], [Ii 1, Si [112], .sl 3 [], .sl 4 []]])]
theorem awake_spec : PFn Tryz.prog 12 [] (Bv true) := by
  have hc0 : PFn Tryz.prog 13 [.im (.sl 4 []), .im (.sl 4 []), .agg [Iv 3, Iv 0, Sv [], Sv [], Iv 0, .im (.sl 3 []), Iv 1, Sv [112], .im (.sl 3 []), .im (.sl 4 []), .im (.sl 11 [[Ii 1, Ii 0, Si [], Si [], Ii 0, .sl 3 [], Ii 0, Si [], .sl 3 [], .sl 4 [], .sl 11 []]])]] (.tup [exV, .im (.sl 1 []), Iv 0]) := check_ex
  have hc := hc0.argLe (xs := [nilV, nilV, .agg [Iv 3, Iv 0, Sv [], Sv [], Iv 0, nilV, Iv 1, Sv [112], nilV, nilV, .im (.sl 11 [[Ii 1, Ii 0, Si [], Si [], Ii 0, .v (.slice none 0 0), Ii 0, Si [], .v (.slice none 0 0), .v (.slice none 0 0), .v (.slice none 0 0)]])]]) (by repeat' (first | with_reducible exact AVle.refl _ | with_reducible exact IVle.refl _ | exact IVle.nil _ | with_reducible exact cellsLe.refl _ | with_reducible exact rowLe.refl _ | with_reducible exact rowsLe.refl _ | refine cellsLe.cons2 ?_ ?_ | refine AVle.agg ?_ | refine AVle.im ?_ | refine IVle.sl ?_ | refine rowsLe.cons ?_ ?_ | refine rowLe.cons ?_ ?_))
  have ht : PFn Tryz.prog 33 [exV] (.tup [Sv [36, 62, 32, 112, 32, 112], Iv 0]) := text_ex
  refine ACall.walk [0, 1, 2, 4, 5, 6] [1, 2] Tryz.func12 rfl Tryz.ntmps12 (by kernel_rfl) (by rfl) rfl fun W own I0 φ0 lay => ?_
  refine gO ?_
  refine AQ.fn (by kernel_rfl) rfl rfl rfl (hc) rfl ?_
  refine gO ?_
  refine AQ.fn (by kernel_rfl) rfl rfl rfl (ht) rfl ?_
  refine gO ?_
  exact AE.retD [1, 0] rfl ⟨rfl, trivial⟩ rfl ⟨rfl, rfl⟩
end Go.Proofs.YteacpafhmgdbkaaGreatDoor
end

section
namespace Go.Proofs.YteacpafhmgdbkaaGreatDoor
open Go Go.AL Go.RowKit
set_option maxRecDepth 10000
set_option maxHeartbeats 4000000
abbrev rrA (f : Fm) (p : List Int) (e : Int) : List AV := [Iv f.k, Sv f.nm, .im (.sl 3 (tmR f.ts)), .im (.sl 4 (fmR f.ps)), .im (.sl 1 (rowsI .i64 p)), Iv e]
def rF : Rs → Fm
  | .ok f => f
  | .bad _ _ => fm0
def rP : Rs → List Int
  | .ok _ => []
  | .bad p _ => p
def rE : Rs → Int
  | .ok _ => 0
  | .bad _ e => e
abbrev rrV (q : Rs) : AV := .agg (rrA (rF q) (rP q) (rE q))
theorem failR_spec (p : List Int) (e : Int) : PFn Tryz.prog 124 [.im (.sl 1 (rowsI .i64 p)), Iv e] (rrV (.bad p e)) := by
  refine ACall.walk [0, 1, 4] [4] Tryz.func124 rfl Tryz.ntmps124 (by kernel_rfl) (by rfl) rfl fun W own I0 φ0 lay => ?_
  refine gO ?_
  refine AE.cellsW 0 (rrA fm0 p e) rfl (cellsLe.cons (cellsLe.cons (cellsLe.nil (cellsLe.nil (cellsLe.refl _))))) ?_
  refine sI ?_
  exact AE.retD [0] rfl ⟨⟨rfl, Nat.le_of_ble_eq_true (by kernel_rfl)⟩, trivial⟩ rfl ⟨rfl, rfl⟩
def fin (p : List Int) (f : Fm) : Rs := chk (unF f 0 == 0) p 15 (.ok f)
theorem finish_spec (f : Fm) (p : List Int) (hs : fmS f) (hz : szF f ≤ 1000000000) : PFn Tryz.prog 126 [fmV f, .im (.sl 1 (rowsI .i64 p))] (rrV (fin p f)) := by
  refine ACall.walk [0, 1, 2, 4, 7] [4] Tryz.func126 rfl Tryz.ntmps126 (by kernel_rfl) (by rfl) rfl fun W own I0 φ0 lay => ?_
  refine gO ?_
  refine AQ.fn (by kernel_rfl) rfl rfl rfl (wellR_spec f hs hz) rfl ?_
  refine gO ?_
  refine AP.cond rfl rfl (fun h => ?_) (fun h => ?_)
  · have h : (unF f 0 == 0) = false := by simpa using h
    refine gO ?_
    refine AQ.fn (by kernel_rfl) rfl rfl rfl (failR_spec p 15) rfl ?_
    refine gO ?_
    exact AE.retD [0] rfl ⟨⟨rfl, Nat.le_of_ble_eq_true (by kernel_rfl)⟩, trivial⟩ rfl ⟨rfl, by rw [fin, h]; rfl⟩
  · have h : (unF f 0 == 0) = true := by simpa using h
    refine gO ?_
    refine AE.cellsW 0 (rrA f [] 0) rfl (cellsLe.cons (cellsLe.cons (cellsLe.cons (cellsLe.cons (cellsLe.nil (cellsLe.refl _)))))) ?_
    refine sI ?_
    exact AE.retD [0] rfl ⟨⟨rfl, Nat.le_of_ble_eq_true (by kernel_rfl)⟩, trivial⟩ rfl ⟨rfl, by rw [fin, h]; rfl⟩
theorem pair_spec (k : Int) (f g : Fm) : PFn Tryz.prog 130 [Iv k, fmV f, fmV g] (fmV (conn k [f, g])) := by
  refine ACall.walk [0, 1, 2, 4, 5, 6] [6] Tryz.func130 rfl Tryz.ntmps130 (by kernel_rfl) (by rfl) rfl fun W own I0 φ0 lay => ?_
  refine gO ?_
  refine AE.cellsW 0 [Iv k, Sv [], .im (.sl 3 []), .im (.sl 4 [fmRow f, fmRow g])] rfl (cellsLe.cons (cellsLe.cons (cellsLe.nil (cellsLe.refl _)))) ?_
  refine sI ?_
  refine AE.retD [0] rfl ⟨⟨rfl, Nat.le_of_ble_eq_true (by kernel_rfl)⟩, trivial⟩ rfl ⟨rfl, ?_⟩
  show _ = AV.agg [Iv k, Sv [], .im (.sl 3 (tmR [])), .im (.sl 4 (fmR [f, g]))]
  rw [fmR_two]; rfl
theorem down_spec (p : List Int) (i : Int) (hl : p.length ≤ 10000000) : PFn Tryz.prog 131 [.im (.sl 1 (rowsI .i64 p)), Iv i] (.im (.sl 1 (rowsI .i64 (p ++ [i])))) := by
  refine ACall.walk [0, 1, 4] [] Tryz.func131 rfl Tryz.ntmps131 (by kernel_rfl) (by rfl) rfl fun W own I0 φ0 lay => ?_
  refine gO ?_
  refine AQ.append (hnb := rfl) (rows := []) (es := 0) (by kernel_rfl) rfl rfl rfl (by rfl) Tryz.tk33 Tryz.sz3 (by show Option.map _ (zro Tryz.prog 3) = _; rw [Tryz.zr3]; rfl) Tryz.by3 (by first | rfl | (simp only [rowsI_len, List.length_cons, List.length_nil]; done) | (simp only [rowsI_len, List.length_cons, List.length_nil]; omega)) (by simp only [rowsI_len, List.length_cons, List.length_nil]; omega) (by simp only [rowsI_len, List.length_cons, List.length_nil]; omega) ?_
  refine sE (an @List.nil_append.{0} @rowsI_len) ?_
  refine gO ?_
  refine AQ.append (hnb := rfl) (rows := rowsI .i64 p) (es := 0) (by kernel_rfl) rfl rfl rfl (by rfl) Tryz.tk33 Tryz.sz3 (by show Option.map _ (zro Tryz.prog 3) = _; rw [Tryz.zr3]; rfl) Tryz.by3 (by first | rfl | (simp only [rowsI_len, List.length_cons, List.length_nil]; done) | (simp only [rowsI_len, List.length_cons, List.length_nil]; omega)) (by simp only [rowsI_len, List.length_cons, List.length_nil]; omega) (by simp only [rowsI_len, List.length_cons, List.length_nil]; omega) ?_
  refine gE (an @rowsI_app @rowsI_len) ?_
  refine AE.freeze 0 (el := 3) (es := 1) (rows := rowsI .i64 (p ++ [i])) rfl (by simp only [go_sem, Nat.reduceAdd, Nat.reduceLeDiff, Nat.reduceSub, Int.reduceToNat, reduceCtorEq, rowsI_len, List.length_append]; first | done | trivial | omega | (simp; done) | (simp; omega)) (by simp only [go_sem, Nat.reduceAdd, Nat.reduceLeDiff, Nat.reduceSub, Int.reduceToNat, reduceCtorEq, rowsI_len, List.length_append]; first | done | trivial | omega | (simp; done) | (simp; omega)) ?_; simp only [go_sem, Nat.reduceAdd, Nat.reduceLeDiff, Nat.reduceSub, Int.reduceToNat, reduceCtorEq, rowsI_len, List.length_append]
  exact AE.ret0 rfl ⟨rfl, trivial⟩ rfl ⟨rfl, by rw [List.take_of_length_le (by rw [rowsI_len, List.length_append]; simp)]; rfl⟩
theorem with_spec (l : List Fm) (f : Fm) (hl : l.length ≤ 10000000) : PFn Tryz.prog 129 [.im (.sl 4 (fmR l)), fmV f] (.im (.sl 4 (fmR (l ++ [f])))) := by
  refine ACall.walk [0, 1, 3, 4] [] Tryz.func129 rfl Tryz.ntmps129 (by kernel_rfl) (by rfl) rfl fun W own I0 φ0 lay => ?_
  refine gO ?_
  refine AP.drawE 7 (Tree.node [] [1, 3] [0, 4] [Tree.node [1, 3] [] [2, 4] [Tree.node [3] [] [4] [Tree.node [] [] [5] [Tree.node [] [6] [] []]], Tree.node [1] [] [2] [Tree.node [] [] [5] [Tree.node [] [6] [] []]]], Tree.node [1] [] [0] [Tree.node [1] [] [2] [Tree.node [] [] [5] [Tree.node [] [6] [] []]]]]) (by kernel_rfl) rfl (by kernel_rfl) (by kernel_rfl) ?_
  refine vd_node ?_
  refine sI ?_
  repeat' (first | with_reducible exact True.intro | with_reducible refine And.intro (by omega) ?_ | with_reducible refine And.intro ?_ ?_ | (refine AQ.nx rfl ?_; refine sE (an @List.nil_append.{0} @fmR_len) ?_) | (refine AQ.append (hnb := rfl) (rows := []) (es := 3) (by kernel_rfl) rfl rfl rfl (by rfl) Tryz.tk38 Tryz.sz40 (by show Option.map _ (zro Tryz.prog 40) = _; rw [Tryz.zr40]; rfl) Tryz.by40 (by first | rfl | (simp only [fmR_len, List.length_cons, List.length_nil]; done) | (simp only [fmR_len, List.length_cons, List.length_nil]; omega)) (by simp only [fmR_len, List.length_cons, List.length_nil]; omega) (by simp only [fmR_len, List.length_cons, List.length_nil]; omega) ?_; refine sE (an @List.nil_append.{0} @fmR_len) ?_) | (refine AQ.append (hnb := rfl) (rows := fmR l) (es := 3) (by kernel_rfl) rfl rfl rfl (by rfl) Tryz.tk38 Tryz.sz40 (by show Option.map _ (zro Tryz.prog 40) = _; rw [Tryz.zr40]; rfl) Tryz.by40 (by first | rfl | (simp only [fmR_len, List.length_cons, List.length_nil]; done) | (simp only [fmR_len, List.length_cons, List.length_nil]; omega)) (by simp only [fmR_len, List.length_cons, List.length_nil]; omega) (by simp only [fmR_len, List.length_cons, List.length_nil]; omega) ?_; refine sE @fmR_len ?_) | refine AQ.done ?_ | (refine AQ.go (by kernel_rfl) ?_; refine sE (an @List.nil_append.{0} @fmR_len) ?_; repeat (with_reducible refine And.intro (by omega) ?_); refine AQ.nx rfl ?_; refine sE (an @List.nil_append.{0} @fmR_len) ?_))
  all_goals refine gO ?_
  all_goals rw [show fmR l ++ [[IV.v (.int .i64 f.k), Si f.nm, .sl 3 (tmR f.ts), .sl 4 (fmR f.ps)]] = fmR (l ++ [f]) from (fmR_add l f).symm]
  all_goals refine AE.freeze 0 (el := 40) (es := 4) (rows := fmR (l ++ [f])) rfl (by simp only [go_sem, Nat.reduceAdd, Nat.reduceLeDiff, Nat.reduceSub, Int.reduceToNat, reduceCtorEq, fmR_len, List.length_append]; first | done | trivial | omega | (simp; done) | (simp; omega)) (by simp only [go_sem, Nat.reduceAdd, Nat.reduceLeDiff, Nat.reduceSub, Int.reduceToNat, reduceCtorEq, fmR_len, List.length_append]; first | done | trivial | omega | (simp; done) | (simp; omega)) ?_; simp only [go_sem, Nat.reduceAdd, Nat.reduceLeDiff, Nat.reduceSub, Int.reduceToNat, reduceCtorEq, fmR_len, List.length_append]
  all_goals exact AE.ret0 rfl ⟨rfl, trivial⟩ rfl ⟨rfl, by rw [List.take_of_length_le (by rw [fmR_len, List.length_append]; simp)]; rfl⟩
end Go.Proofs.YteacpafhmgdbkaaGreatDoor
end

section
namespace Go.Proofs.YteacpafhmgdbkaaGreatDoor
open Go Go.AL Go.RowKit
set_option maxRecDepth 10000
set_option maxHeartbeats 4000000
theorem r_cases {r : Int} (h : 1 ≤ r ∧ r ≤ 18) : (r = 1 ∨ r = 2 ∨ r = 3 ∨ r = 4 ∨ r = 5 ∨ r = 6 ∨ r = 7 ∨ r = 8 ∨ r = 9 ∨ r = 10 ∨ r = 11 ∨ r = 12 ∨ r = 13 ∨ r = 14 ∨ r = 15 ∨ r = 16 ∨ r = 17 ∨ r = 18) := by omega
theorem kids_spec (r : Int) : PFn Tryz.prog 123 [Iv r] (Iv (kidN r)) := by
  by_cases h : 1 ≤ r ∧ r ≤ 18
  rotate_left
  · skip
    have e := kidN_out h
    have n1 : (r == 1) = false := by simp; omega
    have n2 : (r == 2) = false := by simp; omega
    have n3 : (r == 3) = false := by simp; omega
    have n4 : (r == 4) = false := by simp; omega
    have n5 : (r == 5) = false := by simp; omega
    have n6 : (r == 6) = false := by simp; omega
    have n7 : (r == 7) = false := by simp; omega
    have n8 : (r == 8) = false := by simp; omega
    have n9 : (r == 9) = false := by simp; omega
    have n10 : (r == 10) = false := by simp; omega
    have n11 : (r == 11) = false := by simp; omega
    have n12 : (r == 12) = false := by simp; omega
    have n13 : (r == 13) = false := by simp; omega
    have n14 : (r == 14) = false := by simp; omega
    have n15 : (r == 15) = false := by simp; omega
    have n16 : (r == 16) = false := by simp; omega
    have n17 : (r == 17) = false := by simp; omega
    have n18 : (r == 18) = false := by simp; omega
    rw [e]
    clear h e
    refine ACall.walk [0, 2, 3, 4, 8, 19, 24] [] Tryz.func123 rfl Tryz.ntmps123 (by kernel_rfl) (by rfl) rfl fun W own I0 φ0 lay => ?_
    refine gE (an @n1 (an @n2 (an @n3 (an @n4 (an @n5 (an @n6 (an @n7 (an @n8 (an @n9 (an @n10 (an @n11 (an @n12 (an @n13 (an @n14 (an @n15 (an @n16 (an @n17 @n18))))))))))))))))) ?_
    exact AE.ret0 rfl ⟨rfl, trivial⟩ rfl ⟨rfl, rfl⟩
  rcases r_cases h with h | h | h | h | h | h | h | h | h | h | h | h | h | h | h | h | h | h
  all_goals
    subst h
    refine ACall.walk [0, 2, 3, 4, 8, 19, 24] [] Tryz.func123 rfl Tryz.ntmps123 (by kernel_rfl) (by rfl) rfl fun W own I0 φ0 lay => ?_
    repeat (first | refine xA ?_ | refine xB ?_ | refine xC ?_ | refine xE ?_ | refine xD ?_ | refine xK ?_ | refine xS ?_ | refine xM ?_ | refine xT ?_ | refine xF ?_ | ((first | refine xR ?_ | refine xW ?_ | refine vq_id ?_); simp only [go_sem, Nat.reduceAdd, Nat.reduceLeDiff, Nat.reduceSub, Int.reduceToNat, reduceCtorEq, Int.reduceBEq]) | (refine ⟨by first | omega | (intros; simp_all; done) | (intros; simp_all; omega), ?_⟩; try simp only [go_sem, Nat.reduceAdd, Nat.reduceLeDiff, Nat.reduceSub, Int.reduceToNat, reduceCtorEq, Int.reduceBEq]))
    exact AE.ret0 rfl ⟨rfl, trivial⟩ rfl ⟨rfl, rfl⟩
end Go.Proofs.YteacpafhmgdbkaaGreatDoor
end

section
namespace Go.Proofs.YteacpafhmgdbkaaGreatDoor
open Go Go.AL Go.RowKit
set_option maxRecDepth 10000
set_option maxHeartbeats 4000000
theorem fields_spec (d : Dv) (hS : dvS d) (hf : szF d.f ≤ 1000000000) (ht : szT d.t ≤ 1000000000) : PFn Tryz.prog 125 [dvV d] (Iv (fieldE d.r d.nm d.t d.f)) := by
  have hs0 := dvS_eq.1 hS
  have e1 := wellR_spec d.f hs0.2.2.1 hf
  have e2 := underR_spec d.f 1 hs0.2.2.1 hf (by omega)
  have e3 := wellTermR_spec d.t hs0.2.1 ht
  have e4 := isSym_ref d.nm hs0.1.1
  obtain ⟨r, hr⟩ : ∃ r, d.r = r := ⟨_, rfl⟩
  have n3 : (d.r == 3) = (r == 3) := by rw [hr]
  have n8 : (d.r == 8) = (r == 8) := by rw [hr]
  have n9 : (d.r == 9) = (r == 9) := by rw [hr]
  have n11 : (d.r == 11) = (r == 11) := by rw [hr]
  have n12 : (d.r == 12) = (r == 12) := by rw [hr]
  have n13 : (d.r == 13) = (r == 13) := by rw [hr]
  have n14 : (d.r == 14) = (r == 14) := by rw [hr]
  have n15 : (d.r == 15) = (r == 15) := by rw [hr]
  have n16 : (d.r == 16) = (r == 16) := by rw [hr]
  have n17 : (d.r == 17) = (r == 17) := by rw [hr]
  have n18 : (d.r == 18) = (r == 18) := by rw [hr]
  by_cases h : 1 ≤ r ∧ r ≤ 18
  rotate_left
  · skip
    have e : fieldE d.r d.nm d.t d.f = 0 := by
      rw [hr]; unfold fieldE
      rw [if_neg (by omega), if_neg (by omega), if_neg (by omega), if_neg (by omega), if_neg (by omega)]
    rw [show (r == 3) = false by simp; omega] at n3
    rw [show (r == 8) = false by simp; omega] at n8
    rw [show (r == 9) = false by simp; omega] at n9
    rw [show (r == 11) = false by simp; omega] at n11
    rw [show (r == 12) = false by simp; omega] at n12
    rw [show (r == 13) = false by simp; omega] at n13
    rw [show (r == 14) = false by simp; omega] at n14
    rw [show (r == 15) = false by simp; omega] at n15
    rw [show (r == 16) = false by simp; omega] at n16
    rw [show (r == 17) = false by simp; omega] at n17
    rw [show (r == 18) = false by simp; omega] at n18
    rw [e]
    clear h e hr
    refine ACall.walk [0, 1, 2, 3, 5, 6, 15, 20, 26, 32, 37, 43] [] Tryz.func125 rfl Tryz.ntmps125 (by kernel_rfl) (by rfl) rfl fun W own I0 φ0 lay => ?_
    refine gE (an @n3 (an @n8 (an @n9 (an @n11 (an @n12 (an @n13 (an @n14 (an @n15 (an @n16 (an @n17 @n18)))))))))) ?_
    exact AE.ret0 rfl ⟨rfl, trivial⟩ rfl ⟨rfl, rfl⟩
  rcases r_cases h with h | h | h | h | h | h | h | h | h | h | h | h | h | h | h | h | h | h
  all_goals
    subst h
    refine ACall.walk [0, 1, 2, 3, 5, 6, 15, 20, 26, 32, 37, 43] [] Tryz.func125 rfl Tryz.ntmps125 (by kernel_rfl) (by rfl) rfl fun W own I0 φ0 lay => ?_
    refine gI (an @n3 (an @n8 (an @n9 (an @n11 (an @n12 (an @n13 (an @n14 (an @n15 (an @n16 (an @n17 @n18)))))))))) ?_
    first
      | exact AE.ret0 rfl ⟨rfl, trivial⟩ rfl ⟨rfl, by rw [hr]; rfl⟩
      | (refine AQ.fn (by kernel_rfl) rfl rfl rfl (e2) rfl ?_; (refine gO ?_); exact AE.ret0 rfl ⟨rfl, trivial⟩ rfl ⟨rfl, by rw [hr]; rfl⟩)
      | (refine AQ.fn (by kernel_rfl) rfl rfl rfl (e3) rfl ?_; (refine gO ?_); exact AE.ret0 rfl ⟨rfl, trivial⟩ rfl ⟨rfl, by rw [hr]; rfl⟩)
      | (refine AQ.fn (by kernel_rfl) rfl rfl rfl (e1) rfl ?_; (refine gO ?_); exact AE.ret0 rfl ⟨rfl, trivial⟩ rfl ⟨rfl, by rw [hr]; rfl⟩)
      | skip
  · refine AQ.fn (by kernel_rfl) rfl rfl rfl (e4) rfl ?_
    refine gO ?_
    refine AP.cond rfl rfl (fun h => ?_) (fun h => ?_)
    · refine gO ?_
      exact AE.ret0 rfl ⟨rfl, trivial⟩ rfl ⟨rfl, by rw [hr]; show _ = Iv (if isNm d.nm then 0 else 2); rw [show isNm d.nm = false by simpa using h]; rfl⟩
    · refine gO ?_
      exact AE.ret0 rfl ⟨rfl, trivial⟩ rfl ⟨rfl, by rw [hr]; show _ = Iv (if isNm d.nm then 0 else 2); rw [show isNm d.nm = true by simpa using h]; rfl⟩
  · refine AQ.fn (by kernel_rfl) rfl rfl rfl (e1) rfl ?_
    refine gO ?_
    refine AP.cond rfl rfl (fun h => ?_) (fun h => ?_)
    · have h : ¬ unF d.f 0 = 0 := by simpa using h
      refine gO ?_
      exact AE.ret0 rfl ⟨rfl, trivial⟩ rfl ⟨rfl, by rw [hr]; show _ = Iv (if unF d.f 0 = 0 then clT d.t else unF d.f 0); rw [if_neg h]; rfl⟩
    · have h : unF d.f 0 = 0 := by simpa using h
      refine gO ?_
      refine AQ.fn (by kernel_rfl) rfl rfl rfl (e3) rfl ?_
      refine gO ?_
      exact AE.ret0 rfl ⟨rfl, trivial⟩ rfl ⟨rfl, by rw [hr]; show _ = Iv (if unF d.f 0 = 0 then clT d.t else unF d.f 0); rw [if_pos h]; rfl⟩
  · refine AQ.fn (by kernel_rfl) rfl rfl rfl (e4) rfl ?_
    refine gO ?_
    refine AP.cond rfl rfl (fun h => ?_) (fun h => ?_)
    · refine gO ?_
      exact AE.ret0 rfl ⟨rfl, trivial⟩ rfl ⟨rfl, by rw [hr]; show _ = Iv (if isNm d.nm then 0 else 2); rw [show isNm d.nm = false by simpa using h]; rfl⟩
    · refine gO ?_
      exact AE.ret0 rfl ⟨rfl, trivial⟩ rfl ⟨rfl, by rw [hr]; show _ = Iv (if isNm d.nm then 0 else 2); rw [show isNm d.nm = true by simpa using h]; rfl⟩
end Go.Proofs.YteacpafhmgdbkaaGreatDoor
end

section
namespace Go.Proofs.YteacpafhmgdbkaaGreatDoor
open Go Go.AL Go.RowKit
set_option maxRecDepth 10000
set_option maxHeartbeats 4000000
theorem un_S2 {f g : Fm} {b c : Int} {k : Int} (h : unF f b = 0) (h2 : unF g c = 0) : fmS (conn k [f, g]) := conn_S (fmsS_two (un_S h) (un_S h2)) (by simp)
theorem simple1_spec (th ax : List Fm) (d : Dv) (a : Fm) (p : List Int) (r : Int) (hr : d.r = r) (hrr : r = 3 ∨ r = 8 ∨ r = 9) (ha : unF a 0 = 0) (hf : unF d.f 0 = 0) :
    PFn Tryz.prog 132 [.im (.sl 4 (fmR th)), .im (.sl 4 (fmR ax)), dvV d, .im (.sl 4 [fmRow a]), .im (.sl 1 (rowsI .i64 p))] (rrV (ruleSF th ax r d.nm d.t d.f a fm0 p)) := by
  have s1 := un_fit ha
  have s2 := un_fit hf
  have n3 : (d.r == 3) = (r == 3) := by rw [hr]
  have n4 : (d.r == 4) = (r == 4) := by rw [hr]
  have n5 : (d.r == 5) = (r == 5) := by rw [hr]
  have n6 : (d.r == 6) = (r == 6) := by rw [hr]
  have n7 : (d.r == 7) = (r == 7) := by rw [hr]
  have n8 : (d.r == 8) = (r == 8) := by rw [hr]
  have n9 : (d.r == 9) = (r == 9) := by rw [hr]
  have n11 : (d.r == 11) = (r == 11) := by rw [hr]
  have n12 : (d.r == 12) = (r == 12) := by rw [hr]
  have n13 : (d.r == 13) = (r == 13) := by rw [hr]
  have n14 : (d.r == 14) = (r == 14) := by rw [hr]
  have n15 : (d.r == 15) = (r == 15) := by rw [hr]
  have n18 : (d.r == 18) = (r == 18) := by rw [hr]
  rcases hrr with h | h | h
  all_goals
    subst h
    refine ACall.walk [0, 1, 2, 3, 4, 7, 10, 11, 16, 17, 25, 39, 45, 54, 59, 68, 76, 84, 89, 93, 104, 116, 120, 130, 147, 151, 168] [10, 11] Tryz.func132 rfl Tryz.ntmps132 (by kernel_rfl) (by rfl) rfl fun W own I0 φ0 lay => ?_
    refine gI (an @n3 (an @n4 (an @n5 (an @n6 (an @n7 (an @n8 (an @n9 (an @n11 (an @n12 (an @n13 (an @n14 (an @n15 (an @n18 @List.getD_cons_zero.{0}))))))))))))) ?_
    first
      | (refine AQ.fn (by kernel_rfl) rfl rfl rfl (pair_spec 4 d.f a) rfl ?_; (refine gO ?_); refine AQ.fn (by kernel_rfl) rfl rfl rfl (finish_spec (conn 4 [d.f, a]) p (un_S2 hf ha) (by rw [conn_sz, szFs, szFs, szFs]; omega)) rfl ?_; (refine gO ?_); exact AE.retD [1, 0] rfl ⟨⟨rfl, Nat.le_of_ble_eq_true (by kernel_rfl)⟩, trivial⟩ rfl ⟨rfl, rfl⟩)
      | (refine AQ.fn (by kernel_rfl) rfl rfl rfl (pair_spec 6 a d.f) rfl ?_; (refine gO ?_); refine AQ.fn (by kernel_rfl) rfl rfl rfl (finish_spec (conn 6 [a, d.f]) p (un_S2 ha hf) (by rw [conn_sz, szFs, szFs, szFs]; omega)) rfl ?_; (refine gO ?_); exact AE.retD [1, 0] rfl ⟨⟨rfl, Nat.le_of_ble_eq_true (by kernel_rfl)⟩, trivial⟩ rfl ⟨rfl, rfl⟩)
      | (refine AQ.fn (by kernel_rfl) rfl rfl rfl (pair_spec 6 d.f a) rfl ?_; (refine gO ?_); refine AQ.fn (by kernel_rfl) rfl rfl rfl (finish_spec (conn 6 [d.f, a]) p (un_S2 hf ha) (by rw [conn_sz, szFs, szFs, szFs]; omega)) rfl ?_; (refine gO ?_); exact AE.retD [1, 0] rfl ⟨⟨rfl, Nat.le_of_ble_eq_true (by kernel_rfl)⟩, trivial⟩ rfl ⟨rfl, rfl⟩)
end Go.Proofs.YteacpafhmgdbkaaGreatDoor
end

section
namespace Go.Proofs.YteacpafhmgdbkaaGreatDoor
open Go Go.AL Go.RowKit
set_option maxRecDepth 10000
set_option maxHeartbeats 4000000
theorem bind_fin (p : List Int) {g : Fm} (h : unF g 0 = 0) : Rs.bind (.ok g) (ruleSF.fin' p) = .ok g := by
  show chk (unF g 0 == 0) p 15 (.ok g) = _
  rw [h]; rfl
theorem simple67_spec (th ax : List Fm) (d : Dv) (a : Fm) (p : List Int) (r : Int) (hr : d.r = r) (hrr : r = 6 ∨ r = 7) (ha : unF a 0 = 0) :
    PFn Tryz.prog 132 [.im (.sl 4 (fmR th)), .im (.sl 4 (fmR ax)), dvV d, .im (.sl 4 [fmRow a]), .im (.sl 1 (rowsI .i64 p))] (rrV (ruleSF th ax r d.nm d.t d.f a fm0 p)) := by
  have n3 : (d.r == 3) = (r == 3) := by rw [hr]
  have n4 : (d.r == 4) = (r == 4) := by rw [hr]
  have n5 : (d.r == 5) = (r == 5) := by rw [hr]
  have n6 : (d.r == 6) = (r == 6) := by rw [hr]
  have n7 : (d.r == 7) = (r == 7) := by rw [hr]
  have n8 : (d.r == 8) = (r == 8) := by rw [hr]
  have n9 : (d.r == 9) = (r == 9) := by rw [hr]
  have n11 : (d.r == 11) = (r == 11) := by rw [hr]
  have n12 : (d.r == 12) = (r == 12) := by rw [hr]
  have n13 : (d.r == 13) = (r == 13) := by rw [hr]
  have n14 : (d.r == 14) = (r == 14) := by rw [hr]
  have n15 : (d.r == 15) = (r == 15) := by rw [hr]
  have n18 : (d.r == 18) = (r == 18) := by rw [hr]
  by_cases hk : a.k = 5
  · obtain ⟨x, y, hp, hx, hy⟩ := un_two ha (.inr (.inl hk))
    have hb : (a.k == 5) = true := by rw [hk]; rfl
    have hq : fmR a.ps = [fmRow x, fmRow y] := by rw [hp, fmR_two]
    rcases hrr with h | h
    · subst h
      have w : IntKind.i64.wrap (d.r - 6) = 0 := by rw [hr]; rfl
      have e : ruleSF th ax 6 d.nm d.t d.f a fm0 p = .ok x := by
        show Rs.bind (chk (a.k == 5) p 271 (.ok (part a 0))) _ = _
        rw [hb, show part a 0 = x by rw [part, hp]; rfl]
        exact bind_fin p hx
      rw [e]
      refine ACall.walk [0, 1, 2, 3, 4, 7, 10, 11, 16, 17, 25, 39, 45, 54, 59, 68, 76, 84, 89, 93, 104, 116, 120, 130, 147, 151, 168] [10, 11] Tryz.func132 rfl Tryz.ntmps132 (by kernel_rfl) (by rfl) rfl fun W own I0 φ0 lay => ?_
      refine gI (an @n3 (an @n4 (an @n5 (an @n6 (an @n7 (an @n8 (an @n9 (an @n11 (an @n12 (an @n13 (an @n14 (an @n15 (an @n18 @List.getD_cons_zero.{0}))))))))))))) ?_
      rw [hq]
      refine AP.cond rfl rfl (fun h => ?_) (fun h => ?_)
      · repeat (first | refine xA ?_ | refine xB ?_ | refine xC ?_ | refine xE ?_ | refine xD ?_ | refine xK ?_ | refine xS ?_ | refine xM ?_ | refine xT ?_ | refine xF ?_ | ((first | refine xR ?_ | refine xW ?_ | refine vq_id ?_); simp only [go_sem, Nat.reduceAdd, Nat.reduceLeDiff, Nat.reduceSub, Int.reduceToNat, reduceCtorEq, w, List.getD_cons_zero, List.getD_cons_succ]) | (refine ⟨by first | omega | (intros; simp_all; done) | (intros; simp_all; omega), ?_⟩; try simp only [go_sem, Nat.reduceAdd, Nat.reduceLeDiff, Nat.reduceSub, Int.reduceToNat, reduceCtorEq, w, List.getD_cons_zero, List.getD_cons_succ]))
        refine AE.cellsW 0 (rrA x [] 0) rfl (cellsLe.cons (cellsLe.cons (cellsLe.cons (cellsLe.cons (cellsLe.nil (cellsLe.refl _)))))) ?_
        refine sI ?_
        exact AE.retD [1, 0] rfl ⟨⟨rfl, Nat.le_of_ble_eq_true (by kernel_rfl)⟩, trivial⟩ rfl ⟨rfl, rfl⟩
      · rw [hb] at h; cases h
    · subst h
      have w : IntKind.i64.wrap (d.r - 6) = 1 := by rw [hr]; rfl
      have e : ruleSF th ax 7 d.nm d.t d.f a fm0 p = .ok y := by
        show Rs.bind (chk (a.k == 5) p 271 (.ok (part a 1))) _ = _
        rw [hb, show part a 1 = y by rw [part, hp]; rfl]
        exact bind_fin p hy
      rw [e]
      refine ACall.walk [0, 1, 2, 3, 4, 7, 10, 11, 16, 17, 25, 39, 45, 54, 59, 68, 76, 84, 89, 93, 104, 116, 120, 130, 147, 151, 168] [10, 11] Tryz.func132 rfl Tryz.ntmps132 (by kernel_rfl) (by rfl) rfl fun W own I0 φ0 lay => ?_
      refine gI (an @n3 (an @n4 (an @n5 (an @n6 (an @n7 (an @n8 (an @n9 (an @n11 (an @n12 (an @n13 (an @n14 (an @n15 (an @n18 @List.getD_cons_zero.{0}))))))))))))) ?_
      rw [hq]
      refine AP.cond rfl rfl (fun h => ?_) (fun h => ?_)
      · repeat (first | refine xA ?_ | refine xB ?_ | refine xC ?_ | refine xE ?_ | refine xD ?_ | refine xK ?_ | refine xS ?_ | refine xM ?_ | refine xT ?_ | refine xF ?_ | ((first | refine xR ?_ | refine xW ?_ | refine vq_id ?_); simp only [go_sem, Nat.reduceAdd, Nat.reduceLeDiff, Nat.reduceSub, Int.reduceToNat, reduceCtorEq, w, List.getD_cons_zero, List.getD_cons_succ]) | (refine ⟨by first | omega | (intros; simp_all; done) | (intros; simp_all; omega), ?_⟩; try simp only [go_sem, Nat.reduceAdd, Nat.reduceLeDiff, Nat.reduceSub, Int.reduceToNat, reduceCtorEq, w, List.getD_cons_zero, List.getD_cons_succ]))
        refine AE.cellsW 0 (rrA y [] 0) rfl (cellsLe.cons (cellsLe.cons (cellsLe.cons (cellsLe.cons (cellsLe.nil (cellsLe.refl _)))))) ?_
        refine sI ?_
        exact AE.retD [1, 0] rfl ⟨⟨rfl, Nat.le_of_ble_eq_true (by kernel_rfl)⟩, trivial⟩ rfl ⟨rfl, rfl⟩
      · rw [hb] at h; cases h
  · have hb : (a.k == 5) = false := by simp [hk]
    rcases hrr with h | h
    all_goals
      subst h
      have e : ruleSF th ax d.r d.nm d.t d.f a fm0 p = .bad p 271 := by
        rw [hr]
        show Rs.bind (chk (a.k == 5) p 271 _) _ = _
        rw [hb]; rfl
      rw [← hr, e]
      refine ACall.walk [0, 1, 2, 3, 4, 7, 10, 11, 16, 17, 25, 39, 45, 54, 59, 68, 76, 84, 89, 93, 104, 116, 120, 130, 147, 151, 168] [10, 11] Tryz.func132 rfl Tryz.ntmps132 (by kernel_rfl) (by rfl) rfl fun W own I0 φ0 lay => ?_
      refine gI (an @n3 (an @n4 (an @n5 (an @n6 (an @n7 (an @n8 (an @n9 (an @n11 (an @n12 (an @n13 (an @n14 (an @n15 (an @n18 @List.getD_cons_zero.{0}))))))))))))) ?_
      refine AP.cond rfl rfl (fun h => ?_) (fun h => ?_)
      · rw [hb] at h; cases h
      · refine gO ?_
        refine AQ.fn (by kernel_rfl) rfl rfl rfl (failR_spec p 271) rfl ?_
        refine gO ?_
        exact AE.retD [1, 0] rfl ⟨⟨rfl, Nat.le_of_ble_eq_true (by kernel_rfl)⟩, trivial⟩ rfl ⟨rfl, rfl⟩
theorem simple1112_spec (th ax : List Fm) (d : Dv) (a : Fm) (p : List Int) (r : Int) (hr : d.r = r) (hrr : r = 11 ∨ r = 12) (hf : unF d.f 0 = 0) :
    PFn Tryz.prog 132 [.im (.sl 4 (fmR th)), .im (.sl 4 (fmR ax)), dvV d, .im (.sl 4 [fmRow a]), .im (.sl 1 (rowsI .i64 p))] (rrV (ruleSF th ax r d.nm d.t d.f a fm0 p)) := by
  have n3 : (d.r == 3) = (r == 3) := by rw [hr]
  have n4 : (d.r == 4) = (r == 4) := by rw [hr]
  have n5 : (d.r == 5) = (r == 5) := by rw [hr]
  have n6 : (d.r == 6) = (r == 6) := by rw [hr]
  have n7 : (d.r == 7) = (r == 7) := by rw [hr]
  have n8 : (d.r == 8) = (r == 8) := by rw [hr]
  have n9 : (d.r == 9) = (r == 9) := by rw [hr]
  have n11 : (d.r == 11) = (r == 11) := by rw [hr]
  have n12 : (d.r == 12) = (r == 12) := by rw [hr]
  have n13 : (d.r == 13) = (r == 13) := by rw [hr]
  have n14 : (d.r == 14) = (r == 14) := by rw [hr]
  have n15 : (d.r == 15) = (r == 15) := by rw [hr]
  have n18 : (d.r == 18) = (r == 18) := by rw [hr]
  have e0 : ruleSF th ax r d.nm d.t d.f a fm0 p = (chk (a.k == 3) p 271 (.ok d.f)).bind (ruleSF.fin' p) := by
    rcases hrr with h | h
    all_goals
      subst h
      rfl
  rw [e0]
  by_cases hk : a.k = 3
  · have hb : (a.k == 3) = true := by rw [hk]; rfl
    rw [hb, chk_t rfl, bind_fin p hf]
    rcases hrr with h | h
    all_goals
      subst h
      refine ACall.walk [0, 1, 2, 3, 4, 7, 10, 11, 16, 17, 25, 39, 45, 54, 59, 68, 76, 84, 89, 93, 104, 116, 120, 130, 147, 151, 168] [10, 11] Tryz.func132 rfl Tryz.ntmps132 (by kernel_rfl) (by rfl) rfl fun W own I0 φ0 lay => ?_
      refine gI (an @n3 (an @n4 (an @n5 (an @n6 (an @n7 (an @n8 (an @n9 (an @n11 (an @n12 (an @n13 (an @n14 (an @n15 (an @n18 @List.getD_cons_zero.{0}))))))))))))) ?_
      refine AP.cond rfl rfl (fun h => ?_) (fun h => ?_)
      · refine gO ?_
        refine AE.cellsW 0 (rrA d.f [] 0) rfl (cellsLe.cons (cellsLe.cons (cellsLe.cons (cellsLe.cons (cellsLe.nil (cellsLe.refl _)))))) ?_
        refine sI ?_
        exact AE.retD [1, 0] rfl ⟨⟨rfl, Nat.le_of_ble_eq_true (by kernel_rfl)⟩, trivial⟩ rfl ⟨rfl, rfl⟩
      · rw [hb] at h; cases h
  · have hb : (a.k == 3) = false := by simp [hk]
    rw [hb, chk_f (by simp)]
    show PFn _ _ _ (rrV (.bad p 271))
    rcases hrr with h | h
    all_goals
      subst h
      refine ACall.walk [0, 1, 2, 3, 4, 7, 10, 11, 16, 17, 25, 39, 45, 54, 59, 68, 76, 84, 89, 93, 104, 116, 120, 130, 147, 151, 168] [10, 11] Tryz.func132 rfl Tryz.ntmps132 (by kernel_rfl) (by rfl) rfl fun W own I0 φ0 lay => ?_
      refine gI (an @n3 (an @n4 (an @n5 (an @n6 (an @n7 (an @n8 (an @n9 (an @n11 (an @n12 (an @n13 (an @n14 (an @n15 (an @n18 @List.getD_cons_zero.{0}))))))))))))) ?_
      refine AP.cond rfl rfl (fun h => ?_) (fun h => ?_)
      · rw [hb] at h; cases h
      · refine gO ?_
        refine AQ.fn (by kernel_rfl) rfl rfl rfl (failR_spec p 271) rfl ?_
        refine gO ?_
        exact AE.retD [1, 0] rfl ⟨⟨rfl, Nat.le_of_ble_eq_true (by kernel_rfl)⟩, trivial⟩ rfl ⟨rfl, rfl⟩
theorem simple14_spec (th ax : List Fm) (d : Dv) (a : Fm) (p : List Int) (r : Int) (hr : d.r = r) (hrr : r = 14) (ha : unF a 0 = 0) (ht : clT d.t = 0) :
    PFn Tryz.prog 132 [.im (.sl 4 (fmR th)), .im (.sl 4 (fmR ax)), dvV d, .im (.sl 4 [fmRow a]), .im (.sl 1 (rowsI .i64 p))] (rrV (ruleSF th ax r d.nm d.t d.f a fm0 p)) := by
  have n3 : (d.r == 3) = (r == 3) := by rw [hr]
  have n4 : (d.r == 4) = (r == 4) := by rw [hr]
  have n5 : (d.r == 5) = (r == 5) := by rw [hr]
  have n6 : (d.r == 6) = (r == 6) := by rw [hr]
  have n7 : (d.r == 7) = (r == 7) := by rw [hr]
  have n8 : (d.r == 8) = (r == 8) := by rw [hr]
  have n9 : (d.r == 9) = (r == 9) := by rw [hr]
  have n11 : (d.r == 11) = (r == 11) := by rw [hr]
  have n12 : (d.r == 12) = (r == 12) := by rw [hr]
  have n13 : (d.r == 13) = (r == 13) := by rw [hr]
  have n14 : (d.r == 14) = (r == 14) := by rw [hr]
  have n15 : (d.r == 15) = (r == 15) := by rw [hr]
  have n18 : (d.r == 18) = (r == 18) := by rw [hr]
  have e0 : ruleSF th ax r d.nm d.t d.f a fm0 p = (chk (a.k == 7) p 271 (.ok (opn d.t (part a 0)))).bind (ruleSF.fin' p) := by subst hrr; rfl
  rw [e0]
  subst hrr
  by_cases hk : a.k = 7
  · obtain ⟨x, hp, hx⟩ := un_quant ha (.inl hk)
    have hb : (a.k == 7) = true := by rw [hk]; rfl
    have hq : fmR a.ps = [fmRow x] := by rw [hp, fmR_one]
    have hxf := un_fit hx
    rw [hb, chk_t rfl, show part a 0 = x by rw [part, hp]; rfl]
    have hi := instance_spec x d.t (fmL_sz x (by omega)) (by omega)
    rw [chF_opn d.t x 0 _ hxf.2.2] at hi
    have hfin := finish_spec (opn d.t x) p (opn_S (cl_S ht) (un_S hx)) (by have := opn_sz (cl_fit ht).1 hxf.1; omega)
    show PFn _ _ _ (rrV (fin p (opn d.t x)))
    generalize fin p (opn d.t x) = q at *
    unfold opn at hfin
    refine ACall.walk [0, 1, 2, 3, 4, 7, 10, 11, 16, 17, 25, 39, 45, 54, 59, 68, 76, 84, 89, 93, 104, 116, 120, 130, 147, 151, 168] [10, 11] Tryz.func132 rfl Tryz.ntmps132 (by kernel_rfl) (by rfl) rfl fun W own I0 φ0 lay => ?_
    refine gI (an @n3 (an @n4 (an @n5 (an @n6 (an @n7 (an @n8 (an @n9 (an @n11 (an @n12 (an @n13 (an @n14 (an @n15 (an @n18 @List.getD_cons_zero.{0}))))))))))))) ?_
    rw [hq]
    refine AP.cond rfl rfl (fun h => ?_) (fun h => ?_)
    · refine gO ?_
      refine AP.drawE 10 (Tree.node [] [0, 1, 2, 3, 4, 5, 7] [6] [Tree.node [7] [] [8] [Tree.node [] [] [9] [Tree.node [] [] [] []]]]) (by kernel_rfl) rfl (by kernel_rfl) (by kernel_rfl) ?_
      refine vd_node ?_
      refine sE @List.getD_cons_zero.{0} ?_
      refine ⟨by omega, ?_⟩
      refine AQ.fn (by kernel_rfl) rfl rfl rfl (hi) rfl ?_
      refine sI ?_
      refine AQ.nx rfl ?_
      refine sI ?_
      refine AQ.fn (by kernel_rfl) rfl rfl rfl (hfin) rfl ?_
      refine sI ?_
      refine AQ.nx rfl ?_
      refine sI ?_
      refine AQ.go (by kernel_rfl) ?_
      refine sI ?_
      refine AQ.nx rfl ?_
      refine sI ?_
      refine AQ.done ?_
      refine gO ?_
      exact AE.retD [1, 0] rfl ⟨⟨rfl, Nat.le_of_ble_eq_true (by kernel_rfl)⟩, trivial⟩ rfl ⟨rfl, rfl⟩
    · rw [hb] at h; cases h
  · have hb : (a.k == 7) = false := by simp [hk]
    rw [hb, chk_f (by simp)]
    show PFn _ _ _ (rrV (.bad p 271))
    refine ACall.walk [0, 1, 2, 3, 4, 7, 10, 11, 16, 17, 25, 39, 45, 54, 59, 68, 76, 84, 89, 93, 104, 116, 120, 130, 147, 151, 168] [10, 11] Tryz.func132 rfl Tryz.ntmps132 (by kernel_rfl) (by rfl) rfl fun W own I0 φ0 lay => ?_
    refine gI (an @n3 (an @n4 (an @n5 (an @n6 (an @n7 (an @n8 (an @n9 (an @n11 (an @n12 (an @n13 (an @n14 (an @n15 (an @n18 @List.getD_cons_zero.{0}))))))))))))) ?_
    refine AP.cond rfl rfl (fun h => ?_) (fun h => ?_)
    · rw [hb] at h; cases h
    · refine gO ?_
      refine AQ.fn (by kernel_rfl) rfl rfl rfl (failR_spec p 271) rfl ?_
      refine gO ?_
      exact AE.retD [1, 0] rfl ⟨⟨rfl, Nat.le_of_ble_eq_true (by kernel_rfl)⟩, trivial⟩ rfl ⟨rfl, rfl⟩
end Go.Proofs.YteacpafhmgdbkaaGreatDoor
end

section
namespace Go.Proofs.YteacpafhmgdbkaaGreatDoor
open Go Go.AL Go.RowKit
set_option maxRecDepth 10000
set_option maxHeartbeats 4000000
theorem ocFs_append (nm : Nm) : ∀ a b : List Fm, ocFs nm (a ++ b) = (ocFs nm a || ocFs nm b)
  | [], b => by rw [List.nil_append, ocFs, Bool.false_or]
  | x :: a, b => by rw [List.cons_append, ocFs, ocFs, ocFs_append nm a b, Bool.or_assoc]
theorem dens_last {w : World} {φ : Phi} {I : Nat → Prop} {x y : AV} (h : ∀ u, AV.den w φ I x u → AV.den w φ I y u) : ∀ (l m : List AV) (us : List Value), AV.dens w φ I (l ++ x :: m) us → AV.dens w φ I (l ++ y :: m) us
  | [], m, us, hd => by
    simp only [List.nil_append, AV.dens] at hd ⊢
    obtain ⟨u, us', e, h1, h2⟩ := hd
    exact ⟨u, us', e, h u h1, h2⟩
  | z :: l, m, us, hd => by
    simp only [List.cons_append, AV.dens] at hd ⊢
    obtain ⟨u, us', e, h1, h2⟩ := hd
    exact ⟨u, us', e, h1, dens_last h l m us' h2⟩
theorem den_agg_at {w : World} {φ : Phi} {I : Nat → Prop} {x y : AV} (l m : List AV) (h : ∀ u, AV.den w φ I x u → AV.den w φ I y u) (v : Value) (hd : AV.den w φ I (.agg (l ++ x :: m)) v) : AV.den w φ I (.agg (l ++ y :: m)) v := by
  simp only [AV.den] at hd ⊢
  obtain ⟨us, h1, h2⟩ := hd
  exact ⟨us, dens_last h l m us h1, h2⟩
theorem abstR_spec (F : Fm) (nm : Nm) (hnm : nm ≠ []) (hs : fmL F) (hz : szF F ≤ 1000000000) : PFn Tryz.prog 77 [fmV F, .agg [Bv false, Bv true, Sv nm, Sv [], Iv 0, nilV], Iv 0] (fmV (abst nm F)) := by
  have hc := change_spec ⟨false, true, nm, .mk [] 0 []⟩ F 0 hs (by omega)
  rw [chF_abst nm hnm] at hc
  exact PFn.argW hc fun w φ I vs hd => dens_last (fun u hu => den_agg_at [Bv false, Bv true, Sv nm, Sv [], Iv 0] [] (nil_told 3 w φ I) u hu) [fmV F] [Iv 0] vs hd
theorem finish_told (f : Fm) (p : List Int) (x y : AV) (hx : x = nilV ∧ f.ts = [] ∧ y = .im (.sl 4 (fmR f.ps)) ∨ y = nilV ∧ f.ps = [] ∧ x = .im (.sl 3 (tmR f.ts))) (hs : fmS f) (hz : szF f ≤ 1000000000) : PFn Tryz.prog 126 [.agg [Iv f.k, Sv f.nm, x, y], .im (.sl 1 (rowsI .i64 p))] (rrV (fin p f)) := by
  have hc := finish_spec f p hs hz
  unfold fmV at hc
  rcases hx with ⟨h1, h2, h3⟩ | ⟨h1, h2, h3⟩
  · subst h1; subst h3
    rw [h2] at hc
    exact PFn.argW hc fun w φ I vs hd => dens_last (fun u hu => den_agg_at [Iv f.k, Sv f.nm] [.im (.sl 4 (fmR f.ps))] (nil_told 3 w φ I) u hu) [] [.im (.sl 1 (rowsI .i64 p))] vs hd
  · subst h1; subst h3
    rw [h2] at hc
    exact PFn.argW hc fun w φ I vs hd => dens_last (fun u hu => den_agg_at [Iv f.k, Sv f.nm, .im (.sl 3 (tmR f.ts))] [] (nil_told 4 w φ I) u hu) [] [.im (.sl 1 (rowsI .i64 p))] vs hd
theorem simple13_spec (th ax : List Fm) (d : Dv) (a : Fm) (p : List Int) (r : Int) (hr : d.r = r) (hrr : r = 13) (ha : unF a 0 = 0) (hnm : d.nm ≠ []) (hth : fmsS th) (hax : fmsS ax) (hl1 : th.length ≤ 1000000000) (hl2 : ax.length ≤ 1000000000)
    (hz1 : ∀ (k : Nat) (u : Fm), th[k]? = some u → szF u ≤ 1000000) (hz2 : ∀ (k : Nat) (u : Fm), ax[k]? = some u → szF u ≤ 1000000) :
    PFn Tryz.prog 132 [.im (.sl 4 (fmR th)), .im (.sl 4 (fmR ax)), dvV d, .im (.sl 4 [fmRow a]), .im (.sl 1 (rowsI .i64 p))] (rrV (ruleSF th ax r d.nm d.t d.f a fm0 p)) := by
  have n3 : (d.r == 3) = (r == 3) := by rw [hr]
  have n4 : (d.r == 4) = (r == 4) := by rw [hr]
  have n5 : (d.r == 5) = (r == 5) := by rw [hr]
  have n6 : (d.r == 6) = (r == 6) := by rw [hr]
  have n7 : (d.r == 7) = (r == 7) := by rw [hr]
  have n8 : (d.r == 8) = (r == 8) := by rw [hr]
  have n9 : (d.r == 9) = (r == 9) := by rw [hr]
  have n11 : (d.r == 11) = (r == 11) := by rw [hr]
  have n12 : (d.r == 12) = (r == 12) := by rw [hr]
  have n13 : (d.r == 13) = (r == 13) := by rw [hr]
  have n14 : (d.r == 14) = (r == 14) := by rw [hr]
  have n15 : (d.r == 15) = (r == 15) := by rw [hr]
  have n18 : (d.r == 18) = (r == 18) := by rw [hr]
  have e0 : ruleSF th ax r d.nm d.t d.f a fm0 p = (chk (!ocFs d.nm (th ++ ax)) p 272 (.ok (conn 7 [abst d.nm a]))).bind (ruleSF.fin' p) := by subst hrr; rfl
  rw [e0, ocFs_append]
  subst hrr
  have haf := un_fit ha
  have h1 := occursR_spec d.nm th hl1 hth hz1
  have h2 := occursR_spec d.nm ax hl2 hax hz2
  have h3 := abstR_spec a d.nm hnm (fmL_sz a (by omega)) (by omega)
  have hsz := abst_sz (nm := d.nm) (f := a)
  have h4 := finish_told (conn 7 [abst d.nm a]) p nilV (.im (.sl 4 (fmR [abst d.nm a]))) (.inl ⟨rfl, rfl, rfl⟩) (conn_S (fmsS_one (abst_S (un_S ha))) (by simp)) (by rw [conn_sz, szFs, szFs]; omega)
  rw [fmR_one] at h4
  generalize hq : fin p (conn 7 [abst d.nm a]) = q at *
  generalize abst d.nm a = x at *
  generalize ho1 : ocFs d.nm th = o1 at *
  generalize ho2 : ocFs d.nm ax = o2 at *
  cases o1 with
  | true =>
    show PFn _ _ _ (rrV (.bad p 272))
    refine ACall.walk [0, 1, 2, 3, 4, 7, 10, 11, 16, 17, 25, 39, 45, 54, 59, 68, 76, 84, 89, 93, 104, 116, 120, 130, 147, 151, 168] [10, 11] Tryz.func132 rfl Tryz.ntmps132 (by kernel_rfl) (by rfl) rfl fun W own I0 φ0 lay => ?_
    refine gI (an @n3 (an @n4 (an @n5 (an @n6 (an @n7 (an @n8 (an @n9 (an @n11 (an @n12 (an @n13 (an @n14 (an @n15 (an @n18 @List.getD_cons_zero.{0}))))))))))))) ?_
    refine AQ.fn (by kernel_rfl) rfl rfl rfl (h1) rfl ?_
    refine gO ?_
    refine AQ.fn (by kernel_rfl) rfl rfl rfl (failR_spec p 272) rfl ?_
    refine gO ?_
    exact AE.retD [1, 0] rfl ⟨⟨rfl, Nat.le_of_ble_eq_true (by kernel_rfl)⟩, trivial⟩ rfl ⟨rfl, rfl⟩
  | false =>
    cases o2 with
    | true =>
      show PFn _ _ _ (rrV (.bad p 272))
      refine ACall.walk [0, 1, 2, 3, 4, 7, 10, 11, 16, 17, 25, 39, 45, 54, 59, 68, 76, 84, 89, 93, 104, 116, 120, 130, 147, 151, 168] [10, 11] Tryz.func132 rfl Tryz.ntmps132 (by kernel_rfl) (by rfl) rfl fun W own I0 φ0 lay => ?_
      refine gI (an @n3 (an @n4 (an @n5 (an @n6 (an @n7 (an @n8 (an @n9 (an @n11 (an @n12 (an @n13 (an @n14 (an @n15 (an @n18 @List.getD_cons_zero.{0}))))))))))))) ?_
      refine AQ.fn (by kernel_rfl) rfl rfl rfl (h1) rfl ?_
      refine gO ?_
      refine AQ.guard_yes (by simp only [go_sem]) ?_
      refine AQ.fn (by kernel_rfl) rfl rfl rfl (h2) rfl ?_
      refine gO ?_
      refine AQ.fn (by kernel_rfl) rfl rfl rfl (failR_spec p 272) rfl ?_
      refine gO ?_
      exact AE.retD [1, 0] rfl ⟨⟨rfl, Nat.le_of_ble_eq_true (by kernel_rfl)⟩, trivial⟩ rfl ⟨rfl, rfl⟩
    | false =>
      show PFn _ _ _ (rrV (fin p (conn 7 [x])))
      rw [hq]
      refine ACall.walk [0, 1, 2, 3, 4, 7, 10, 11, 16, 17, 25, 39, 45, 54, 59, 68, 76, 84, 89, 93, 104, 116, 120, 130, 147, 151, 168] [10, 11] Tryz.func132 rfl Tryz.ntmps132 (by kernel_rfl) (by rfl) rfl fun W own I0 φ0 lay => ?_
      refine gI (an @n3 (an @n4 (an @n5 (an @n6 (an @n7 (an @n8 (an @n9 (an @n11 (an @n12 (an @n13 (an @n14 (an @n15 (an @n18 @List.getD_cons_zero.{0}))))))))))))) ?_
      refine AQ.fn (by kernel_rfl) rfl rfl rfl (h1) rfl ?_
      refine gO ?_
      refine AQ.guard_yes (by simp only [go_sem]) ?_
      refine AQ.fn (by kernel_rfl) rfl rfl rfl (h2) rfl ?_
      refine gO ?_
      refine AQ.fn (by kernel_rfl) rfl rfl rfl (h3) rfl ?_
      refine gO ?_
      refine AQ.fn (by kernel_rfl) rfl rfl rfl (h4) rfl ?_
      refine gO ?_
      exact AE.retD [1, 0] rfl ⟨⟨rfl, Nat.le_of_ble_eq_true (by kernel_rfl)⟩, trivial⟩ rfl ⟨rfl, rfl⟩
end Go.Proofs.YteacpafhmgdbkaaGreatDoor
end

section
namespace Go.Proofs.YteacpafhmgdbkaaGreatDoor
open Go Go.AL Go.RowKit
set_option maxRecDepth 10000
set_option maxHeartbeats 4000000
theorem simple15_spec (th ax : List Fm) (d : Dv) (a : Fm) (p : List Int) (r : Int) (hr : d.r = r) (hrr : r = 15) (ha : unF a 0 = 0) (hf : unF d.f 0 = 0) (ht : clT d.t = 0) :
    PFn Tryz.prog 132 [.im (.sl 4 (fmR th)), .im (.sl 4 (fmR ax)), dvV d, .im (.sl 4 [fmRow a]), .im (.sl 1 (rowsI .i64 p))] (rrV (ruleSF th ax r d.nm d.t d.f a fm0 p)) := by
  have n3 : (d.r == 3) = (r == 3) := by rw [hr]
  have n4 : (d.r == 4) = (r == 4) := by rw [hr]
  have n5 : (d.r == 5) = (r == 5) := by rw [hr]
  have n6 : (d.r == 6) = (r == 6) := by rw [hr]
  have n7 : (d.r == 7) = (r == 7) := by rw [hr]
  have n8 : (d.r == 8) = (r == 8) := by rw [hr]
  have n9 : (d.r == 9) = (r == 9) := by rw [hr]
  have n11 : (d.r == 11) = (r == 11) := by rw [hr]
  have n12 : (d.r == 12) = (r == 12) := by rw [hr]
  have n13 : (d.r == 13) = (r == 13) := by rw [hr]
  have n14 : (d.r == 14) = (r == 14) := by rw [hr]
  have n15 : (d.r == 15) = (r == 15) := by rw [hr]
  have n18 : (d.r == 18) = (r == 18) := by rw [hr]
  have e0 : ruleSF th ax r d.nm d.t d.f a fm0 p = (chk (d.f.k == 8 && eqF a (opn d.t (part d.f 0))) p 271 (.ok d.f)).bind (ruleSF.fin' p) := by subst hrr; rfl
  rw [e0]
  subst hrr
  by_cases hk : d.f.k = 8
  · obtain ⟨x, hp, hx⟩ := un_quant hf (.inr hk)
    have hb : (d.f.k == 8) = true := by rw [hk]; rfl
    have hr1 : fmR d.f.ps = [fmRow x] := by rw [hp, fmR_one]
    have hg0 : (fmR d.f.ps).getD 0 [] = fmRow x := by rw [hr1]; rfl
    have hl0 : (fmR d.f.ps).length = 1 := by rw [hr1]; rfl
    have hxf := un_fit hx
    rw [hb, Bool.true_and, show part d.f 0 = x by rw [part, hp]; rfl]
    have hi := instance_spec x d.t (fmL_sz x (by omega)) (by omega)
    rw [chF_opn d.t x 0 _ hxf.2.2] at hi
    have hs := sameR_spec a (mapF (leafO d.t) x 0) (un_S ha)
    unfold opn
    generalize mapF (leafO d.t) x 0 = y at *
    cases he : eqF a y with
    | true =>
      rw [he] at hs
      rw [chk_t rfl, bind_fin p hf]
      refine ACall.walk [0, 1, 2, 3, 4, 7, 10, 11, 16, 17, 25, 39, 45, 54, 59, 68, 76, 84, 89, 93, 104, 116, 120, 130, 147, 151, 168] [10, 11] Tryz.func132 rfl Tryz.ntmps132 (by kernel_rfl) (by rfl) rfl fun W own I0 φ0 lay => ?_
      refine gI (an @n3 (an @n4 (an @n5 (an @n6 (an @n7 (an @n8 (an @n9 (an @n11 (an @n12 (an @n13 (an @n14 (an @n15 (an @n18 @List.getD_cons_zero.{0}))))))))))))) ?_
      refine AP.drawE 16 (Tree.node [] [0, 1, 2, 3, 4, 5, 6, 7, 8, 9, 10, 11, 12] [13] [Tree.node [5] [] [14] [Tree.node [] [15] [] []]]) (by kernel_rfl) rfl (by kernel_rfl) (by kernel_rfl) ?_
      refine vd_node ?_
      refine sE (an @hb (an @hg0 @hl0)) ?_
      refine ⟨by omega, ?_⟩
      refine AQ.guard_yes (by simp only [go_sem]) ?_
      refine AQ.fn (by kernel_rfl) rfl rfl rfl (hi) rfl ?_
      refine sI ?_
      refine AQ.nx rfl ?_
      refine sI ?_
      refine AQ.guard_yes (by simp only [go_sem]) ?_
      refine AQ.fn (by kernel_rfl) rfl rfl rfl (hs) rfl ?_
      refine sI ?_
      refine AQ.nx rfl ?_
      refine sI ?_
      refine AQ.done ?_
      refine gO ?_
      refine AE.cellsW 0 (rrA d.f [] 0) rfl (cellsLe.cons (cellsLe.cons (cellsLe.cons (cellsLe.cons (cellsLe.nil (cellsLe.refl _)))))) ?_
      refine sI ?_
      exact AE.retD [1, 0] rfl ⟨⟨rfl, Nat.le_of_ble_eq_true (by kernel_rfl)⟩, trivial⟩ rfl ⟨rfl, rfl⟩
    | false =>
      rw [he] at hs
      rw [chk_f (by simp)]
      show PFn _ _ _ (rrV (.bad p 271))
      refine ACall.walk [0, 1, 2, 3, 4, 7, 10, 11, 16, 17, 25, 39, 45, 54, 59, 68, 76, 84, 89, 93, 104, 116, 120, 130, 147, 151, 168] [10, 11] Tryz.func132 rfl Tryz.ntmps132 (by kernel_rfl) (by rfl) rfl fun W own I0 φ0 lay => ?_
      refine gI (an @n3 (an @n4 (an @n5 (an @n6 (an @n7 (an @n8 (an @n9 (an @n11 (an @n12 (an @n13 (an @n14 (an @n15 (an @n18 @List.getD_cons_zero.{0}))))))))))))) ?_
      refine AP.drawE 16 (Tree.node [] [0, 1, 2, 3, 4, 5, 6, 7, 8, 9, 10, 11, 12] [13] [Tree.node [5] [] [14] [Tree.node [] [15] [] []]]) (by kernel_rfl) rfl (by kernel_rfl) (by kernel_rfl) ?_
      refine vd_node ?_
      refine sE (an @hb (an @hg0 @hl0)) ?_
      refine ⟨by omega, ?_⟩
      refine AQ.guard_yes (by simp only [go_sem]) ?_
      refine AQ.fn (by kernel_rfl) rfl rfl rfl (hi) rfl ?_
      refine sI ?_
      refine AQ.nx rfl ?_
      refine sI ?_
      refine AQ.guard_yes (by simp only [go_sem]) ?_
      refine AQ.fn (by kernel_rfl) rfl rfl rfl (hs) rfl ?_
      refine sI ?_
      refine AQ.nx rfl ?_
      refine sI ?_
      refine AQ.done ?_
      refine gO ?_
      refine AQ.fn (by kernel_rfl) rfl rfl rfl (failR_spec p 271) rfl ?_
      refine gO ?_
      exact AE.retD [1, 0] rfl ⟨⟨rfl, Nat.le_of_ble_eq_true (by kernel_rfl)⟩, trivial⟩ rfl ⟨rfl, rfl⟩
  · have hb : (d.f.k == 8) = false := by simp [hk]
    rw [hb, Bool.false_and, chk_f (by simp)]
    show PFn _ _ _ (rrV (.bad p 271))
    refine ACall.walk [0, 1, 2, 3, 4, 7, 10, 11, 16, 17, 25, 39, 45, 54, 59, 68, 76, 84, 89, 93, 104, 116, 120, 130, 147, 151, 168] [10, 11] Tryz.func132 rfl Tryz.ntmps132 (by kernel_rfl) (by rfl) rfl fun W own I0 φ0 lay => ?_
    refine gI (an @n3 (an @n4 (an @n5 (an @n6 (an @n7 (an @n8 (an @n9 (an @n11 (an @n12 (an @n13 (an @n14 (an @n15 (an @n18 @List.getD_cons_zero.{0}))))))))))))) ?_
    refine AP.drawE 16 (Tree.node [] [0, 1, 2, 3, 4, 5, 6, 7, 8, 9, 10, 11, 12] [13] [Tree.node [5] [] [14] [Tree.node [] [15] [] []]]) (by kernel_rfl) rfl (by kernel_rfl) (by kernel_rfl) ?_
    refine vd_node ?_
    refine sI ?_
    rw [hb]
    refine And.intro (fun h => by cases h) (And.intro (fun h => by cases h) ?_)
    refine AQ.skip (by kernel_rfl) rfl ?_
    refine sI ?_
    refine AQ.nx rfl ?_
    refine sI ?_
    refine AQ.skip (by kernel_rfl) rfl ?_
    refine sI ?_
    refine AQ.nx rfl ?_
    refine sI ?_
    refine AQ.done ?_
    refine gO ?_
    refine AQ.fn (by kernel_rfl) rfl rfl rfl (failR_spec p 271) rfl ?_
    refine gO ?_
    exact AE.retD [1, 0] rfl ⟨⟨rfl, Nat.le_of_ble_eq_true (by kernel_rfl)⟩, trivial⟩ rfl ⟨rfl, rfl⟩
theorem simple5_spec (th ax : List Fm) (d : Dv) (a b : Fm) (p : List Int) (r : Int) (hr : d.r = r) (hrr : r = 5) (ha : unF a 0 = 0) (hb : unF b 0 = 0) :
    PFn Tryz.prog 132 [.im (.sl 4 (fmR th)), .im (.sl 4 (fmR ax)), dvV d, .im (.sl 4 [fmRow a, fmRow b]), .im (.sl 1 (rowsI .i64 p))] (rrV (ruleSF th ax r d.nm d.t d.f a b p)) := by
  have s1 := un_fit ha
  have s2 := un_fit hb
  have n3 : (d.r == 3) = (r == 3) := by rw [hr]
  have n4 : (d.r == 4) = (r == 4) := by rw [hr]
  have n5 : (d.r == 5) = (r == 5) := by rw [hr]
  have n6 : (d.r == 6) = (r == 6) := by rw [hr]
  have n7 : (d.r == 7) = (r == 7) := by rw [hr]
  have n8 : (d.r == 8) = (r == 8) := by rw [hr]
  have n9 : (d.r == 9) = (r == 9) := by rw [hr]
  have n11 : (d.r == 11) = (r == 11) := by rw [hr]
  have n12 : (d.r == 12) = (r == 12) := by rw [hr]
  have n13 : (d.r == 13) = (r == 13) := by rw [hr]
  have n14 : (d.r == 14) = (r == 14) := by rw [hr]
  have n15 : (d.r == 15) = (r == 15) := by rw [hr]
  have n18 : (d.r == 18) = (r == 18) := by rw [hr]
  subst hrr
  refine ACall.walk [0, 1, 2, 3, 4, 7, 10, 11, 16, 17, 25, 39, 45, 54, 59, 68, 76, 84, 89, 93, 104, 116, 120, 130, 147, 151, 168] [10, 11] Tryz.func132 rfl Tryz.ntmps132 (by kernel_rfl) (by rfl) rfl fun W own I0 φ0 lay => ?_
  refine gI (an @n3 (an @n4 (an @n5 (an @n6 (an @n7 (an @n8 (an @n9 (an @n11 (an @n12 (an @n13 (an @n14 (an @n15 (an @n18 @List.getD_cons_zero.{0}))))))))))))) ?_
  refine AP.drawE 8 (Tree.node [] [0, 1, 2, 3, 5] [4] [Tree.node [5] [] [6] [Tree.node [] [] [7] [Tree.node [] [] [] []]]]) (by kernel_rfl) rfl (by kernel_rfl) (by kernel_rfl) ?_
  refine vd_node ?_
  refine sE (an @List.getD_cons_zero.{0} @List.getD_cons_succ.{0}) ?_
  refine ⟨by omega, ?_⟩
  refine AQ.fn (by kernel_rfl) rfl rfl rfl (pair_spec 5 a b) rfl ?_
  refine sI ?_
  refine AQ.nx rfl ?_
  refine sI ?_
  refine AQ.fn (by kernel_rfl) rfl rfl rfl (finish_spec (conn 5 [a, b]) p (un_S2 ha hb) (by rw [conn_sz, szFs, szFs, szFs]; omega)) rfl ?_
  refine sI ?_
  refine AQ.nx rfl ?_
  refine sI ?_
  refine AQ.go (by kernel_rfl) ?_
  refine sI ?_
  refine AQ.nx rfl ?_
  refine sI ?_
  refine AQ.done ?_
  refine gO ?_
  exact AE.retD [1, 0] rfl ⟨⟨rfl, Nat.le_of_ble_eq_true (by kernel_rfl)⟩, trivial⟩ rfl ⟨rfl, rfl⟩
theorem simple4_spec (th ax : List Fm) (d : Dv) (a b : Fm) (p : List Int) (r : Int) (hr : d.r = r) (hrr : r = 4) (ha : unF a 0 = 0) :
    PFn Tryz.prog 132 [.im (.sl 4 (fmR th)), .im (.sl 4 (fmR ax)), dvV d, .im (.sl 4 [fmRow a, fmRow b]), .im (.sl 1 (rowsI .i64 p))] (rrV (ruleSF th ax r d.nm d.t d.f a b p)) := by
  have n3 : (d.r == 3) = (r == 3) := by rw [hr]
  have n4 : (d.r == 4) = (r == 4) := by rw [hr]
  have n5 : (d.r == 5) = (r == 5) := by rw [hr]
  have n6 : (d.r == 6) = (r == 6) := by rw [hr]
  have n7 : (d.r == 7) = (r == 7) := by rw [hr]
  have n8 : (d.r == 8) = (r == 8) := by rw [hr]
  have n9 : (d.r == 9) = (r == 9) := by rw [hr]
  have n11 : (d.r == 11) = (r == 11) := by rw [hr]
  have n12 : (d.r == 12) = (r == 12) := by rw [hr]
  have n13 : (d.r == 13) = (r == 13) := by rw [hr]
  have n14 : (d.r == 14) = (r == 14) := by rw [hr]
  have n15 : (d.r == 15) = (r == 15) := by rw [hr]
  have n18 : (d.r == 18) = (r == 18) := by rw [hr]
  have e0 : ruleSF th ax r d.nm d.t d.f a b p = (chk (a.k == 4 && eqF (part a 0) b) p 271 (.ok (part a 1))).bind (ruleSF.fin' p) := by subst hrr; rfl
  rw [e0]
  subst hrr
  by_cases hk : a.k = 4
  · obtain ⟨x, y, hp, hx, hy⟩ := un_two ha (.inl hk)
    have hb : (a.k == 4) = true := by rw [hk]; rfl
    have hr1 : fmR a.ps = [fmRow x, fmRow y] := by rw [hp, fmR_two]
    rw [hb, Bool.true_and, show part a 0 = x by rw [part, hp]; rfl, show part a 1 = y by rw [part, hp]; rfl]
    have hs := sameR_spec x b (un_S hx)
    cases he : eqF x b with
    | true =>
      rw [he] at hs
      rw [chk_t rfl, bind_fin p hy]
      refine ACall.walk [0, 1, 2, 3, 4, 7, 10, 11, 16, 17, 25, 39, 45, 54, 59, 68, 76, 84, 89, 93, 104, 116, 120, 130, 147, 151, 168] [10, 11] Tryz.func132 rfl Tryz.ntmps132 (by kernel_rfl) (by rfl) rfl fun W own I0 φ0 lay => ?_
      refine gI (an @n3 (an @n4 (an @n5 (an @n6 (an @n7 (an @n8 (an @n9 (an @n11 (an @n12 (an @n13 (an @n14 (an @n15 (an @n18 @List.getD_cons_zero.{0}))))))))))))) ?_
      rw [hr1]
      refine AP.drawE 13 (Tree.node [] [0, 1, 2, 3, 4, 5, 6, 7, 8, 9, 10] [11] [Tree.node [] [12] [] []]) (by kernel_rfl) rfl (by kernel_rfl) (by kernel_rfl) ?_
      refine vd_node ?_
      refine sE (an @hb (an @List.getD_cons_zero.{0} @List.getD_cons_succ.{0})) ?_
      refine ⟨by omega, by omega, ?_⟩
      refine AQ.guard_yes (by simp only [go_sem]) ?_
      refine AQ.fn (by kernel_rfl) rfl rfl rfl (hs) rfl ?_
      refine sI ?_
      refine AQ.nx rfl ?_
      refine sI ?_
      refine AQ.done ?_
      refine gE (an @List.getD_cons_zero.{0} @List.getD_cons_succ.{0}) ?_
      refine AE.cellsW 0 (rrA y [] 0) rfl (cellsLe.cons (cellsLe.cons (cellsLe.cons (cellsLe.cons (cellsLe.nil (cellsLe.refl _)))))) ?_
      refine sI ?_
      exact AE.retD [1, 0] rfl ⟨⟨rfl, Nat.le_of_ble_eq_true (by kernel_rfl)⟩, trivial⟩ rfl ⟨rfl, rfl⟩
    | false =>
      rw [he] at hs
      rw [chk_f (by simp)]
      show PFn _ _ _ (rrV (.bad p 271))
      refine ACall.walk [0, 1, 2, 3, 4, 7, 10, 11, 16, 17, 25, 39, 45, 54, 59, 68, 76, 84, 89, 93, 104, 116, 120, 130, 147, 151, 168] [10, 11] Tryz.func132 rfl Tryz.ntmps132 (by kernel_rfl) (by rfl) rfl fun W own I0 φ0 lay => ?_
      refine gI (an @n3 (an @n4 (an @n5 (an @n6 (an @n7 (an @n8 (an @n9 (an @n11 (an @n12 (an @n13 (an @n14 (an @n15 (an @n18 @List.getD_cons_zero.{0}))))))))))))) ?_
      rw [hr1]
      refine AP.drawE 13 (Tree.node [] [0, 1, 2, 3, 4, 5, 6, 7, 8, 9, 10] [11] [Tree.node [] [12] [] []]) (by kernel_rfl) rfl (by kernel_rfl) (by kernel_rfl) ?_
      refine vd_node ?_
      refine sE (an @hb (an @List.getD_cons_zero.{0} @List.getD_cons_succ.{0})) ?_
      refine ⟨by omega, by omega, ?_⟩
      refine AQ.guard_yes (by simp only [go_sem]) ?_
      refine AQ.fn (by kernel_rfl) rfl rfl rfl (hs) rfl ?_
      refine sI ?_
      refine AQ.nx rfl ?_
      refine sI ?_
      refine AQ.done ?_
      refine gO ?_
      refine AQ.fn (by kernel_rfl) rfl rfl rfl (failR_spec p 271) rfl ?_
      refine gO ?_
      exact AE.retD [1, 0] rfl ⟨⟨rfl, Nat.le_of_ble_eq_true (by kernel_rfl)⟩, trivial⟩ rfl ⟨rfl, rfl⟩
  · have hb : (a.k == 4) = false := by simp [hk]
    rw [hb, Bool.false_and, chk_f (by simp)]
    show PFn _ _ _ (rrV (.bad p 271))
    refine ACall.walk [0, 1, 2, 3, 4, 7, 10, 11, 16, 17, 25, 39, 45, 54, 59, 68, 76, 84, 89, 93, 104, 116, 120, 130, 147, 151, 168] [10, 11] Tryz.func132 rfl Tryz.ntmps132 (by kernel_rfl) (by rfl) rfl fun W own I0 φ0 lay => ?_
    refine gI (an @n3 (an @n4 (an @n5 (an @n6 (an @n7 (an @n8 (an @n9 (an @n11 (an @n12 (an @n13 (an @n14 (an @n15 (an @n18 @List.getD_cons_zero.{0}))))))))))))) ?_
    refine AP.drawE 13 (Tree.node [] [0, 1, 2, 3, 4, 5, 6, 7, 8, 9, 10] [11] [Tree.node [] [12] [] []]) (by kernel_rfl) rfl (by kernel_rfl) (by kernel_rfl) ?_
    refine vd_node ?_
    refine sI ?_
    rw [hb]
    refine And.intro (fun h => by cases h) (And.intro (fun h => by cases h) (And.intro (fun h => by cases h) (And.intro (fun h => by cases h) ?_)))
    refine AQ.skip (by kernel_rfl) rfl ?_
    refine sI ?_
    refine AQ.nx rfl ?_
    refine sI ?_
    refine AQ.done ?_
    refine gO ?_
    refine AQ.fn (by kernel_rfl) rfl rfl rfl (failR_spec p 271) rfl ?_
    refine gO ?_
    exact AE.retD [1, 0] rfl ⟨⟨rfl, Nat.le_of_ble_eq_true (by kernel_rfl)⟩, trivial⟩ rfl ⟨rfl, rfl⟩
end Go.Proofs.YteacpafhmgdbkaaGreatDoor
end

section
namespace Go.Proofs.YteacpafhmgdbkaaGreatDoor
open Go Go.AL Go.RowKit
set_option maxRecDepth 10000
set_option maxHeartbeats 4000000
theorem simple18_spec (th ax : List Fm) (d : Dv) (a b : Fm) (p : List Int) (r : Int) (hr : d.r = r) (hrr : r = 18) (ha : unF a 0 = 0) (hbw : unF b 0 = 0) (hf : unF d.f 1 = 0) :
    PFn Tryz.prog 132 [.im (.sl 4 (fmR th)), .im (.sl 4 (fmR ax)), dvV d, .im (.sl 4 [fmRow a, fmRow b]), .im (.sl 1 (rowsI .i64 p))] (rrV (ruleSF th ax r d.nm d.t d.f a b p)) := by
  have n3 : (d.r == 3) = (r == 3) := by rw [hr]
  have n4 : (d.r == 4) = (r == 4) := by rw [hr]
  have n5 : (d.r == 5) = (r == 5) := by rw [hr]
  have n6 : (d.r == 6) = (r == 6) := by rw [hr]
  have n7 : (d.r == 7) = (r == 7) := by rw [hr]
  have n8 : (d.r == 8) = (r == 8) := by rw [hr]
  have n9 : (d.r == 9) = (r == 9) := by rw [hr]
  have n11 : (d.r == 11) = (r == 11) := by rw [hr]
  have n12 : (d.r == 12) = (r == 12) := by rw [hr]
  have n13 : (d.r == 13) = (r == 13) := by rw [hr]
  have n14 : (d.r == 14) = (r == 14) := by rw [hr]
  have n15 : (d.r == 15) = (r == 15) := by rw [hr]
  have n18 : (d.r == 18) = (r == 18) := by rw [hr]
  have e0 : ruleSF th ax r d.nm d.t d.f a b p = (chk (a.k == 2 && eqF b (opn (side a 0) d.f)) p 271 (.ok (opn (side a 1) d.f))).bind (ruleSF.fin' p) := by subst hrr; rfl
  rw [e0]
  subst hrr
  by_cases hk : a.k = 2
  · obtain ⟨x, y, hp, hx, hy⟩ := un_eq ha hk
    have hb : (a.k == 2) = true := by rw [hk]; rfl
    have hr1 : tmR a.ts = [tmRow x, tmRow y] := by rw [hp, tmR_two]
    have hxf := un_fit hf
    rw [hb, Bool.true_and, show side a 0 = x by rw [side, hp]; rfl, show side a 1 = y by rw [side, hp]; rfl]
    have hi := instance_spec d.f x (fmL_sz d.f (by omega)) (by omega)
    rw [chF_opn x d.f 0 _ hxf.2.2] at hi
    have hi2 := instance_spec d.f y (fmL_sz d.f (by omega)) (by omega)
    rw [chF_opn y d.f 0 _ hxf.2.2] at hi2
    have hfin := finish_spec (opn y d.f) p (opn_S (cl_S hy) (un_S hf)) (by have := opn_sz (cl_fit hy).1 hxf.1; omega)
    have hs := sameR_spec b (mapF (leafO x) d.f 0) (un_S hbw)
    have e1 : Rs.bind (.ok (opn y d.f)) (ruleSF.fin' p) = fin p (opn y d.f) := rfl
    cases he : eqF b (opn x d.f) with
    | true =>
      unfold opn at he hfin e1
      rw [he] at hs
      rw [chk_t rfl]
      unfold opn
      rw [e1]
      generalize hq : fin p (mapF (leafO y) d.f 0) = q at *
      generalize mapF (leafO x) d.f 0 = z at *
      generalize mapF (leafO y) d.f 0 = z2 at *
      refine ACall.walk [0, 1, 2, 3, 4, 7, 10, 11, 16, 17, 25, 39, 45, 54, 59, 68, 76, 84, 89, 93, 104, 116, 120, 130, 147, 151, 168] [10, 11] Tryz.func132 rfl Tryz.ntmps132 (by kernel_rfl) (by rfl) rfl fun W own I0 φ0 lay => ?_
      refine gI (an @n3 (an @n4 (an @n5 (an @n6 (an @n7 (an @n8 (an @n9 (an @n11 (an @n12 (an @n13 (an @n14 (an @n15 (an @n18 @List.getD_cons_zero.{0}))))))))))))) ?_
      rw [hr1]
      refine AP.drawE 16 (Tree.node [] [0, 1, 2, 3, 4, 5, 6, 7, 8, 9, 10, 11, 12] [13] [Tree.node [4, 5, 6] [] [14] [Tree.node [] [15] [] []]]) (by kernel_rfl) rfl (by kernel_rfl) (by kernel_rfl) ?_
      refine vd_node ?_
      refine sE (an @hb (an @List.getD_cons_zero.{0} @List.getD_cons_succ.{0})) ?_
      refine ⟨by omega, by omega, ?_⟩
      refine AQ.guard_yes (by simp only [go_sem]) ?_
      refine AQ.fn (by kernel_rfl) rfl rfl rfl (hi) rfl ?_
      refine sI ?_
      refine AQ.nx rfl ?_
      refine sE (an @List.getD_cons_zero.{0} @List.getD_cons_succ.{0}) ?_
      refine ⟨by omega, ?_⟩
      refine AQ.guard_yes (by simp only [go_sem]) ?_
      refine AQ.fn (by kernel_rfl) rfl rfl rfl (hs) rfl ?_
      refine sI ?_
      refine AQ.nx rfl ?_
      refine sI ?_
      refine AQ.done ?_
      refine gO ?_
      refine AP.drawE 10 (Tree.node [] [0, 1, 2, 3, 4, 5, 7] [6] [Tree.node [7] [] [8] [Tree.node [] [] [9] [Tree.node [] [] [] []]]]) (by kernel_rfl) rfl (by kernel_rfl) (by kernel_rfl) ?_
      refine vd_node ?_
      refine sE (an @List.getD_cons_zero.{0} @List.getD_cons_succ.{0}) ?_
      refine ⟨by omega, ?_⟩
      refine AQ.fn (by kernel_rfl) rfl rfl rfl (hi2) rfl ?_
      refine sI ?_
      refine AQ.nx rfl ?_
      refine sI ?_
      refine AQ.fn (by kernel_rfl) rfl rfl rfl (hfin) rfl ?_
      refine sI ?_
      refine AQ.nx rfl ?_
      refine sI ?_
      refine AQ.go (by kernel_rfl) ?_
      refine sI ?_
      refine AQ.nx rfl ?_
      refine sI ?_
      refine AQ.done ?_
      refine gO ?_
      exact AE.retD [1, 0] rfl ⟨⟨rfl, Nat.le_of_ble_eq_true (by kernel_rfl)⟩, trivial⟩ rfl ⟨rfl, rfl⟩
    | false =>
      unfold opn at he
      rw [he] at hs
      rw [chk_f (by simp)]
      show PFn _ _ _ (rrV (.bad p 271))
      clear hfin e1 hi2
      generalize mapF (leafO x) d.f 0 = z at *
      refine ACall.walk [0, 1, 2, 3, 4, 7, 10, 11, 16, 17, 25, 39, 45, 54, 59, 68, 76, 84, 89, 93, 104, 116, 120, 130, 147, 151, 168] [10, 11] Tryz.func132 rfl Tryz.ntmps132 (by kernel_rfl) (by rfl) rfl fun W own I0 φ0 lay => ?_
      refine gI (an @n3 (an @n4 (an @n5 (an @n6 (an @n7 (an @n8 (an @n9 (an @n11 (an @n12 (an @n13 (an @n14 (an @n15 (an @n18 @List.getD_cons_zero.{0}))))))))))))) ?_
      rw [hr1]
      refine AP.drawE 16 (Tree.node [] [0, 1, 2, 3, 4, 5, 6, 7, 8, 9, 10, 11, 12] [13] [Tree.node [4, 5, 6] [] [14] [Tree.node [] [15] [] []]]) (by kernel_rfl) rfl (by kernel_rfl) (by kernel_rfl) ?_
      refine vd_node ?_
      refine sE (an @hb (an @List.getD_cons_zero.{0} @List.getD_cons_succ.{0})) ?_
      refine ⟨by omega, by omega, ?_⟩
      refine AQ.guard_yes (by simp only [go_sem]) ?_
      refine AQ.fn (by kernel_rfl) rfl rfl rfl (hi) rfl ?_
      refine sI ?_
      refine AQ.nx rfl ?_
      refine sE (an @List.getD_cons_zero.{0} @List.getD_cons_succ.{0}) ?_
      refine ⟨by omega, ?_⟩
      refine AQ.guard_yes (by simp only [go_sem]) ?_
      refine AQ.fn (by kernel_rfl) rfl rfl rfl (hs) rfl ?_
      refine sI ?_
      refine AQ.nx rfl ?_
      refine sI ?_
      refine AQ.done ?_
      refine gO ?_
      refine AQ.fn (by kernel_rfl) rfl rfl rfl (failR_spec p 271) rfl ?_
      refine gO ?_
      exact AE.retD [1, 0] rfl ⟨⟨rfl, Nat.le_of_ble_eq_true (by kernel_rfl)⟩, trivial⟩ rfl ⟨rfl, rfl⟩
  · have hb : (a.k == 2) = false := by simp [hk]
    rw [hb, Bool.false_and, chk_f (by simp)]
    show PFn _ _ _ (rrV (.bad p 271))
    refine ACall.walk [0, 1, 2, 3, 4, 7, 10, 11, 16, 17, 25, 39, 45, 54, 59, 68, 76, 84, 89, 93, 104, 116, 120, 130, 147, 151, 168] [10, 11] Tryz.func132 rfl Tryz.ntmps132 (by kernel_rfl) (by rfl) rfl fun W own I0 φ0 lay => ?_
    refine gI (an @n3 (an @n4 (an @n5 (an @n6 (an @n7 (an @n8 (an @n9 (an @n11 (an @n12 (an @n13 (an @n14 (an @n15 (an @n18 @List.getD_cons_zero.{0}))))))))))))) ?_
    refine AP.drawE 16 (Tree.node [] [0, 1, 2, 3, 4, 5, 6, 7, 8, 9, 10, 11, 12] [13] [Tree.node [4, 5, 6] [] [14] [Tree.node [] [15] [] []]]) (by kernel_rfl) rfl (by kernel_rfl) (by kernel_rfl) ?_
    refine vd_node ?_
    refine sI ?_
    rw [hb]
    refine And.intro (fun h => by cases h) (And.intro (fun h => by cases h) (And.intro (fun h => by cases h) (And.intro (fun h => by cases h) ?_)))
    refine AQ.skip (by kernel_rfl) rfl ?_
    refine sI ?_
    refine AQ.nx rfl ?_
    refine sI ?_
    refine And.intro ⟨fun h => h.elim, fun h => h.elim⟩ ?_
    refine AQ.skip (by kernel_rfl) rfl ?_
    refine sI ?_
    refine AQ.nx rfl ?_
    refine sI ?_
    refine AQ.done ?_
    refine gO ?_
    refine AQ.fn (by kernel_rfl) rfl rfl rfl (failR_spec p 271) rfl ?_
    refine gO ?_
    exact AE.retD [1, 0] rfl ⟨⟨rfl, Nat.le_of_ble_eq_true (by kernel_rfl)⟩, trivial⟩ rfl ⟨rfl, rfl⟩
end Go.Proofs.YteacpafhmgdbkaaGreatDoor
end

section
namespace Go.Proofs.YteacpafhmgdbkaaGreatDoor
open Go Go.AL Go.RowKit
set_option maxRecDepth 10000
set_option maxHeartbeats 4000000
def nzE : Rs → Prop
  | .ok _ => True
  | .bad _ e => e ≠ 0
theorem nzE.chk {b : Bool} {p : List Int} {e : Int} {r : Rs} (he : b = false → e ≠ 0) (hr : nzE r) : nzE (chk b p e r) := by
  cases b
  · exact he rfl
  · exact hr
theorem nzE.bind {r : Rs} {k : Fm → Rs} (hr : nzE r) (hk : ∀ g, nzE (k g)) : nzE (r.bind k) := by
  cases r
  · exact hk _
  · exact hr
theorem ruleK_nz {th ax : List Fm} {r ix : Int} {nm : List UInt8} {t : Tm} {f : Fm} {K : List KF} {p : List Int} (hK : ∀ i fu, nzE (kidK K ax p i fu)) : nzE (ruleK th ax r ix nm t f K p) := by
  unfold ruleK
  by_cases h1 : r = 1
  · rw [if_pos h1]; exact nzE.chk (fun _ => by decide) (trivial)
  rw [if_neg h1]
  by_cases h2 : r = 2
  · rw [if_pos h2]; exact nzE.chk (fun _ => by decide) (trivial)
  rw [if_neg h2]
  by_cases h3 : r = 3
  · rw [if_pos h3]; exact (hK _ _).bind fun _ => trivial
  rw [if_neg h3]
  by_cases h4 : r = 4
  · rw [if_pos h4]; exact (hK _ _).bind fun _ => (hK _ _).bind fun _ => nzE.chk (fun _ => by decide) (trivial)
  rw [if_neg h4]
  by_cases h5 : r = 5
  · rw [if_pos h5]; exact (hK _ _).bind fun _ => (hK _ _).bind fun _ => trivial
  rw [if_neg h5]
  by_cases h6 : r = 6
  · rw [if_pos h6]; exact (hK _ _).bind fun _ => nzE.chk (fun _ => by decide) (trivial)
  rw [if_neg h6]
  by_cases h7 : r = 7
  · rw [if_pos h7]; exact (hK _ _).bind fun _ => nzE.chk (fun _ => by decide) (trivial)
  rw [if_neg h7]
  by_cases h8 : r = 8
  · rw [if_pos h8]; exact (hK _ _).bind fun _ => trivial
  rw [if_neg h8]
  by_cases h9 : r = 9
  · rw [if_pos h9]; exact (hK _ _).bind fun _ => trivial
  rw [if_neg h9]
  by_cases h10 : r = 10
  · rw [if_pos h10]; exact (hK _ _).bind fun _ => nzE.chk (fun _ => by decide) ((hK _ _).bind fun _ => (hK _ _).bind fun _ => nzE.chk (fun _ => by decide) (trivial))
  rw [if_neg h10]
  by_cases h11 : r = 11
  · rw [if_pos h11]; exact (hK _ _).bind fun _ => nzE.chk (fun _ => by decide) (trivial)
  rw [if_neg h11]
  by_cases h12 : r = 12
  · rw [if_pos h12]; exact (hK _ _).bind fun _ => nzE.chk (fun _ => by decide) (trivial)
  rw [if_neg h12]
  by_cases h13 : r = 13
  · rw [if_pos h13]; exact (hK _ _).bind fun _ => nzE.chk (fun _ => by decide) (trivial)
  rw [if_neg h13]
  by_cases h14 : r = 14
  · rw [if_pos h14]; exact (hK _ _).bind fun _ => nzE.chk (fun _ => by decide) (trivial)
  rw [if_neg h14]
  by_cases h15 : r = 15
  · rw [if_pos h15]; exact (hK _ _).bind fun _ => nzE.chk (fun _ => by decide) (trivial)
  rw [if_neg h15]
  by_cases h16 : r = 16
  · rw [if_pos h16]; exact (hK _ _).bind fun _ => nzE.chk (fun _ => by decide) (nzE.chk (fun _ => by decide) ((hK _ _).bind fun _ => nzE.chk (fun _ => by decide) (trivial)))
  rw [if_neg h16]
  by_cases h17 : r = 17
  · rw [if_pos h17]; exact trivial
  rw [if_neg h17]
  exact (hK _ _).bind fun _ => (hK _ _).bind fun _ => nzE.chk (fun _ => by decide) (trivial)
theorem ccF_nz (th ax : List Fm) (d : Dv) (p : List Int) : nzE (ccF th d ax p) := by
  rw [ccF_eq, stepK]
  refine nzE.chk (fun _ => by decide) (nzE.chk (fun h => by simpa using h) (nzE.bind (ruleK_nz fun i fu => ?_) fun g => nzE.chk (fun _ => by decide) trivial))
  by_cases hi : i < d.ks.length
  · have hk := List.getElem?_eq_getElem hi
    rw [kidK_get hk]
    exact ccF_nz th (ax ++ fu) d.ks[i] (p ++ [(i : Int)])
  · rw [kidK, List.getD_eq_getElem?_getD, List.getElem?_eq_none (by rw [ccFs_len]; omega)]
    show (1 : Int) ≠ 0
    decide
termination_by SizeOf.sizeOf d
decreasing_by exact dv_mem hk
theorem kidK_nz (th ax fu : List Fm) (ks : List Dv) (p : List Int) (i : Nat) : nzE (kidK (ccFs th ks) ax p i fu) := by
  by_cases hi : i < ks.length
  · rw [kidK_get (List.getElem?_eq_getElem hi)]
    exact ccF_nz _ _ _ _
  · rw [kidK, List.getD_eq_getElem?_getD, List.getElem?_eq_none (by rw [ccFs_len]; omega)]
    show (1 : Int) ≠ 0
    decide
def fuK (r : Int) (f : Fm) : List Fm := if r = 3 then [f] else if r = 12 then [conn 4 [f, conn 3 []]] else []
theorem rule_one (th ax : List Fm) (r ix : Int) (nm : List UInt8) (t : Tm) (f : Fm) (K : List KF) (p : List Int) (h : r = 3 ∨ r = 6 ∨ r = 7 ∨ r = 8 ∨ r = 9 ∨ r = 11 ∨ r = 12 ∨ r = 13 ∨ r = 14 ∨ r = 15) :
    ruleK th ax r ix nm t f K p = (kidK K ax p 0 (fuK r f)).bind fun a => ruleS th ax r nm t f a fm0 p := by
  rcases h with h | h | h | h | h | h | h | h | h | h <;> subst h <;> rfl
theorem rule_two (th ax : List Fm) (r ix : Int) (nm : List UInt8) (t : Tm) (f : Fm) (K : List KF) (p : List Int) (h : r = 4 ∨ r = 5 ∨ r = 18) :
    ruleK th ax r ix nm t f K p = (kidK K ax p 0 []).bind fun a => (kidK K ax p 1 []).bind fun b => ruleS th ax r nm t f a b p := by
  rcases h with h | h | h <;> subst h <;> rfl
theorem bind_assoc (r : Rs) (k : Fm → Rs) (k2 : Fm → Rs) : (r.bind k).bind k2 = r.bind fun a => (k a).bind k2 := by cases r <;> rfl
end Go.Proofs.YteacpafhmgdbkaaGreatDoor
end

section
namespace Go.Proofs.YteacpafhmgdbkaaGreatDoor
open Go Go.AL Go.RowKit
set_option maxRecDepth 10000
set_option maxHeartbeats 4000000
structure KR (th ax : List Fm) (d : Dv) (p : List Int) : Prop where
  S : dvS d
  fz : szF d.f ≤ 1000000
  tz : szT d.t ≤ 1000000
  tW : ∀ (k : Nat) (u : Fm), th[k]? = some u → unF u 0 = 0
  tl : th.length ≤ 1000000
  al : ax.length ≤ 1000000
  pl : p.length ≤ 1000000
  aS : fmsS ax
  az : ∀ (k : Nat) (u : Fm), ax[k]? = some u → szF u ≤ 1000000
  kl : d.ks.length ≤ 1000000
  kr : ∀ (i : Nat) (k : Dv) (fu : List Fm), d.ks[i]? = some k → fu.length ≤ 1 → fmsS fu → (∀ (j : Nat) (u : Fm), fu[j]? = some u → szF u ≤ 1000000) →
    PFn Tryz.prog 60 [.im (.sl 4 (fmR th)), .im (.sl 4 (fmR (ax ++ fu))), dvV k, .im (.sl 1 (rowsI .i64 (p ++ [(i : Int)])))] (rrV (kidK (ccFs th d.ks) ax p i fu))
abbrev zR : List AV := [Iv 0, Sv [], nilV, nilV, nilV, Iv 0]
theorem KR.get {th ax : List Fm} {d : Dv} {p : List Int} (K : KR th ax d p) (i : Nat) (hi : i < d.ks.length) (fu : List Fm) (h1 : fu.length ≤ 1) (h2 : fmsS fu) (h3 : ∀ (j : Nat) (u : Fm), fu[j]? = some u → szF u ≤ 1000000) :
    ∃ k, (dvR d.ks).getD i [] = dvRow k ∧ PFn Tryz.prog 60 [.im (.sl 4 (fmR th)), .im (.sl 4 (fmR (ax ++ fu))), dvV k, .im (.sl 1 (rowsI .i64 (p ++ [(i : Int)])))] (rrV (kidK (ccFs th d.ks) ax p i fu)) := by
  obtain ⟨k, hk, hrow⟩ := dvR_get d.ks i hi
  exact ⟨k, hrow, K.kr i k fu hk h1 h2 h3⟩
theorem KR.get0 {th ax : List Fm} {d : Dv} {p : List Int} (K : KR th ax d p) (i : Nat) (hi : i < d.ks.length) :
    ∃ k, (dvR d.ks).getD i [] = dvRow k ∧ PFn Tryz.prog 60 [.im (.sl 4 (fmR th)), .im (.sl 4 (fmR ax)), dvV k, .im (.sl 1 (rowsI .i64 (p ++ [(i : Int)])))] (rrV (kidK (ccFs th d.ks) ax p i [])) := by
  obtain ⟨k, hrow, h⟩ := K.get i hi [] (by simp) fmsS_nil (by simp)
  rw [List.append_nil] at h
  exact ⟨k, hrow, h⟩
theorem orOutR_spec (th ax : List Fm) (d : Dv) (p : List Int) (K : KR th ax d p) (hn : d.ks.length = 3) :
    PFn Tryz.prog 127 [.im (.sl 4 (fmR th)), .im (.sl 4 (fmR ax)), dvV d, .im (.sl 1 (rowsI .i64 p))] (rrV ((kidK (ccFs th d.ks) ax p 0 []).bind fun g => chk (g.k == 6) p 271 ((kidK (ccFs th d.ks) ax p 1 [part g 0]).bind fun a => (kidK (ccFs th d.ks) ax p 2 [part g 1]).bind fun b => chk (eqF a b) p 271 (.ok a)))) := by
  obtain ⟨k0, hrow0, hk0⟩ := K.get0 0 (by omega)
  have hnz0 := kidK_nz th ax [] d.ks p 0
  have hw0 : ∀ g, kidK (ccFs th d.ks) ax p 0 [] = .ok g → unF g 0 = 0 := fun g h => kidK_ok h
  generalize kidK (ccFs th d.ks) ax p 0 [] = q0 at *
  have hd0 := down_spec p 0 (by have := K.pl; omega)
  have hl := K.pl
  refine ACall.walk [0, 1, 2, 3, 6, 8, 9, 10, 11, 23, 28, 48, 67, 74] [8, 9, 10, 11] Tryz.func127 rfl Tryz.ntmps127 (by kernel_rfl) (by rfl) rfl fun W own I0 φ0 lay => ?_
  refine gO ?_
  refine AP.cut (α := Unit) (fun _ => [(0, .im (.sl 4 (fmR th))), (1, .im (.sl 4 (fmR ax))), (3, .im (.sl 1 (rowsI .i64 p))), (6, .im (dvP d)), (8, .ob 0 0), (9, .ob 1 0)]) (fun _ => [(1, .var 116 (rrA (rF q0) (rP q0) (rE q0))), (0, .var 116 zR)]) (fun _ => True) ?_ fun _ _ => ?_
  · skip
    refine AP.drawE 11 (Tree.node [] [0, 1, 2, 3, 4, 5, 6] [7, 9] [Tree.node [0, 1, 2, 3, 4, 5] [] [8, 9] [Tree.node [] [] [9] [Tree.node [] [] [10] [Tree.node [] [] [] []]], Tree.node [0, 1, 2, 3, 4, 5] [] [8] [Tree.node [] [] [10] [Tree.node [] [] [] []]]], Tree.node [0, 1, 2, 3, 4, 5, 6] [] [7] [Tree.node [0, 1, 2, 3, 4, 5] [] [8] [Tree.node [] [] [10] [Tree.node [] [] [] []]]]]) (by kernel_rfl) rfl (by kernel_rfl) (by kernel_rfl) ?_
    refine vd_node ?_
    refine sE (an @hrow0 @dvR_len) ?_
    refine And.intro (by omega) ?_
    repeat' (first | with_reducible exact True.intro | with_reducible refine And.intro (by omega) ?_ | with_reducible refine And.intro ?_ ?_ | (refine AQ.nx rfl ?_; refine sE (an @hrow0 @dvR_len) ?_) | ((with_reducible show AQ _ _ _ ({ dst := _, op := Op.call { callee := Callee.value (Operand.func 131), args := _, argTypes := _ }, type := _, pos := _, after := _, guard := _ } :: _) _ _ _); refine AQ.fn (by kernel_rfl) rfl rfl rfl (hd0) rfl ?_; refine sI ?_) | ((with_reducible show AQ _ _ _ ({ dst := _, op := Op.call { callee := Callee.value (Operand.func 60), args := _, argTypes := _ }, type := _, pos := _, after := _, guard := _ } :: _) _ _ _); refine AQ.fn (by kernel_rfl) rfl rfl rfl (hk0) rfl ?_; refine sI ?_) | refine AQ.done ?_ | (refine AQ.go (by kernel_rfl) ?_; refine sE (an @hrow0 @dvR_len) ?_; repeat (with_reducible refine And.intro (by omega) ?_); refine AQ.nx rfl ?_; refine sE (an @hrow0 @dvR_len) ?_))
    all_goals exact AE.meet () trivial (sU) rfl
  cases q0 with
  | bad p' e' =>
    have hnz0 : ¬ e' = 0 := hnz0
    simp only [go_sem, Nat.reduceAdd, Nat.reduceLeDiff, Nat.reduceSub, Int.reduceToNat, reduceCtorEq, rF, rP, rE]
    refine gO ?_
    refine AP.cond rfl rfl (fun h => ?_) (fun h => ?_)
    · refine gO ?_
      exact AE.retD [1, 0] rfl ⟨⟨rfl, Nat.le_of_ble_eq_true (by kernel_rfl)⟩, trivial⟩ rfl ⟨rfl, rfl⟩
    · exact absurd (by simpa using h) hnz0
  | ok g =>
    have hg := hw0 g rfl
    simp only [go_sem, Nat.reduceAdd, Nat.reduceLeDiff, Nat.reduceSub, Int.reduceToNat, reduceCtorEq, rF, rP, rE]
    repeat (first | refine xA ?_ | refine xB ?_ | refine xC ?_ | refine xE ?_ | refine xD ?_ | refine xK ?_ | refine xS ?_ | refine xM ?_ | refine xT ?_ | refine xF ?_ | ((first | refine xR ?_ | refine xW ?_ | refine vq_id ?_); simp only [go_sem, Nat.reduceAdd, Nat.reduceLeDiff, Nat.reduceSub, Int.reduceToNat, reduceCtorEq, Int.reduceBNe]) | (refine ⟨by first | omega | (intros; simp_all; done) | (intros; simp_all; omega), ?_⟩; try simp only [go_sem, Nat.reduceAdd, Nat.reduceLeDiff, Nat.reduceSub, Int.reduceToNat, reduceCtorEq, Int.reduceBNe]))
    refine AP.cond rfl rfl (fun h => ?_) (fun h => ?_)
    · have h : (g.k == 6) = false := by simpa using h
      show AP _ _ _ _ _
      refine gO ?_
      refine AQ.fn (by kernel_rfl) rfl rfl rfl (failR_spec p 271) rfl ?_
      refine gO ?_
      refine AE.retD [1, 0] rfl ⟨⟨rfl, Nat.le_of_ble_eq_true (by kernel_rfl)⟩, trivial⟩ rfl ⟨rfl, ?_⟩
      rw [Rs.bind, chk_f (by simp [h])]; rfl
    have h : (g.k == 6) = true := by simpa using h
    obtain ⟨x, y, hp, hx, hy⟩ := un_two hg (.inr (.inr (by simpa using h)))
    have hr1 : fmR g.ps = [fmRow x, fmRow y] := by rw [hp, fmR_two]
    have hxf := un_fit hx
    have hyf := un_fit hy
    obtain ⟨k1, hrow1, hk1⟩ := K.get 1 (by omega) [x] (by simp) (fmsS_one (un_S hx)) (fun j u hu => by
      cases j with
      | zero => simp at hu; subst hu; omega
      | succ j => simp at hu)
    obtain ⟨k2, hrow2, hk2⟩ := K.get 2 (by omega) [y] (by simp) (fmsS_one (un_S hy)) (fun j u hu => by
      cases j with
      | zero => simp at hu; subst hu; omega
      | succ j => simp at hu)
    have hd1 := down_spec p 1 (by omega)
    have hd2 := down_spec p 2 (by omega)
    have hwx := with_spec ax x (by have := K.al; omega)
    have hwy := with_spec ax y (by have := K.al; omega)
    rw [Rs.bind, h, chk_t rfl, show part g 0 = x by rw [part, hp]; rfl, show part g 1 = y by rw [part, hp]; rfl]
    have hnz1 := kidK_nz th ax [x] d.ks p 1
    have hw1 : ∀ g, kidK (ccFs th d.ks) ax p 1 [x] = .ok g → unF g 0 = 0 := fun g h => kidK_ok h
    have hnz2 := kidK_nz th ax [y] d.ks p 2
    have hw2 : ∀ g, kidK (ccFs th d.ks) ax p 2 [y] = .ok g → unF g 0 = 0 := fun g h => kidK_ok h
    generalize kidK (ccFs th d.ks) ax p 1 [x] = q1 at *
    generalize kidK (ccFs th d.ks) ax p 2 [y] = q2 at *
    have hg0 : (fmR g.ps).getD 0 [] = fmRow x := by rw [hr1]; rfl
    have hg1 : (fmR g.ps).getD 1 [] = fmRow y := by rw [hr1]; rfl
    have hl0 : (fmR g.ps).length = 2 := by rw [hr1]; rfl
    refine gO ?_
    refine AP.cut (α := Unit) (fun _ => [(0, .im (.sl 4 (fmR th))), (1, .im (.sl 4 (fmR ax))), (3, .im (.sl 1 (rowsI .i64 p))), (6, .im (dvP d)), (8, .ob 0 0), (9, .ob 1 0), (10, .ob 2 0)]) (fun _ => [(2, .var 116 (rrA (rF q1) (rP q1) (rE q1))), (1, .var 116 (rrA g [] 0)), (0, .var 116 zR)]) (fun _ => True) ?_ fun _ _ => ?_
    · skip
      refine AP.drawE 17 (Tree.node [] [0, 1, 2, 3, 4, 5, 6, 8, 9, 10, 11, 12] [7, 15] [Tree.node [0, 8, 9, 10, 11, 12] [] [13, 15] [Tree.node [0, 8, 9, 10, 11] [] [14, 15] [Tree.node [] [] [15] [Tree.node [] [] [16] [Tree.node [] [] [] []]], Tree.node [0, 8, 9, 10, 11] [] [14] [Tree.node [] [] [16] [Tree.node [] [] [] []]]], Tree.node [0, 8, 9, 10, 11, 12] [] [13] [Tree.node [0, 8, 9, 10, 11] [] [14] [Tree.node [] [] [16] [Tree.node [] [] [] []]]]], Tree.node [0, 1, 2, 3, 4, 5, 6, 8, 9, 10, 11, 12] [] [7] [Tree.node [0, 8, 9, 10, 11, 12] [] [13] [Tree.node [0, 8, 9, 10, 11] [] [14] [Tree.node [] [] [16] [Tree.node [] [] [] []]]]]]) (by kernel_rfl) rfl (by kernel_rfl) (by kernel_rfl) ?_
      refine vd_node ?_
      refine sE (an @hrow1 (an @dvR_len (an @hg0 @hl0))) ?_
      refine And.intro (by omega) ?_
      repeat' (first | with_reducible exact True.intro | with_reducible refine And.intro (by omega) ?_ | with_reducible refine And.intro ?_ ?_ | (refine AQ.nx rfl ?_; refine sE (an @hrow1 (an @dvR_len (an @hg0 @hl0))) ?_) | ((with_reducible show AQ _ _ _ ({ dst := _, op := Op.call { callee := Callee.value (Operand.func 129), args := _, argTypes := _ }, type := _, pos := _, after := _, guard := _ } :: _) _ _ _); refine AQ.fn (by kernel_rfl) rfl rfl rfl (hwx) rfl ?_; refine sI ?_) | ((with_reducible show AQ _ _ _ ({ dst := _, op := Op.call { callee := Callee.value (Operand.func 131), args := _, argTypes := _ }, type := _, pos := _, after := _, guard := _ } :: _) _ _ _); refine AQ.fn (by kernel_rfl) rfl rfl rfl (hd1) rfl ?_; refine sI ?_) | ((with_reducible show AQ _ _ _ ({ dst := _, op := Op.call { callee := Callee.value (Operand.func 60), args := _, argTypes := _ }, type := _, pos := _, after := _, guard := _ } :: _) _ _ _); refine AQ.fn (by kernel_rfl) rfl rfl rfl (hk1) rfl ?_; refine sI ?_) | refine AQ.done ?_ | (refine AQ.go (by kernel_rfl) ?_; refine sE (an @hrow1 (an @dvR_len (an @hg0 @hl0))) ?_; repeat (with_reducible refine And.intro (by omega) ?_); refine AQ.nx rfl ?_; refine sE (an @hrow1 (an @dvR_len (an @hg0 @hl0))) ?_))
      all_goals exact AE.meet () trivial (sU) rfl
    cases q1 with
    | bad p' e' =>
      have hnz1 : ¬ e' = 0 := hnz1
      simp only [go_sem, Nat.reduceAdd, Nat.reduceLeDiff, Nat.reduceSub, Int.reduceToNat, reduceCtorEq, rF, rP, rE]
      refine gO ?_
      refine AP.cond rfl rfl (fun h => ?_) (fun h => ?_)
      · refine gO ?_
        exact AE.retD [2, 1, 0] rfl ⟨⟨rfl, Nat.le_of_ble_eq_true (by kernel_rfl)⟩, trivial⟩ rfl ⟨rfl, rfl⟩
      · exact absurd (by simpa using h) hnz1
    | ok a =>
      have ha := hw1 a rfl
      simp only [go_sem, Nat.reduceAdd, Nat.reduceLeDiff, Nat.reduceSub, Int.reduceToNat, reduceCtorEq, rF, rP, rE]
      repeat (first | refine xA ?_ | refine xB ?_ | refine xC ?_ | refine xE ?_ | refine xD ?_ | refine xK ?_ | refine xS ?_ | refine xM ?_ | refine xT ?_ | refine xF ?_ | ((first | refine xR ?_ | refine xW ?_ | refine vq_id ?_); simp only [go_sem, Nat.reduceAdd, Nat.reduceLeDiff, Nat.reduceSub, Int.reduceToNat, reduceCtorEq, Int.reduceBNe]) | (refine ⟨by first | omega | (intros; simp_all; done) | (intros; simp_all; omega), ?_⟩; try simp only [go_sem, Nat.reduceAdd, Nat.reduceLeDiff, Nat.reduceSub, Int.reduceToNat, reduceCtorEq, Int.reduceBNe]))
      refine AP.cut (α := Unit) (fun _ => [(0, .im (.sl 4 (fmR th))), (1, .im (.sl 4 (fmR ax))), (3, .im (.sl 1 (rowsI .i64 p))), (8, .ob 0 0), (10, .ob 2 0), (11, .ob 3 0)]) (fun _ => [(3, .var 116 (rrA (rF q2) (rP q2) (rE q2))), (2, .var 116 (rrA a [] 0)), (1, .var 116 (rrA g [] 0)), (0, .var 116 zR)]) (fun _ => True) ?_ fun _ _ => ?_
      · skip
        refine AP.drawE 17 (Tree.node [] [0, 1, 2, 3, 4, 5, 6, 8, 9, 10, 11, 12] [7, 15] [Tree.node [0, 8, 9, 10, 11, 12] [] [13, 15] [Tree.node [0, 8, 9, 10, 11] [] [14, 15] [Tree.node [] [] [15] [Tree.node [] [] [16] [Tree.node [] [] [] []]], Tree.node [0, 8, 9, 10, 11] [] [14] [Tree.node [] [] [16] [Tree.node [] [] [] []]]], Tree.node [0, 8, 9, 10, 11, 12] [] [13] [Tree.node [0, 8, 9, 10, 11] [] [14] [Tree.node [] [] [16] [Tree.node [] [] [] []]]]], Tree.node [0, 1, 2, 3, 4, 5, 6, 8, 9, 10, 11, 12] [] [7] [Tree.node [0, 8, 9, 10, 11, 12] [] [13] [Tree.node [0, 8, 9, 10, 11] [] [14] [Tree.node [] [] [16] [Tree.node [] [] [] []]]]]]) (by kernel_rfl) rfl (by kernel_rfl) (by kernel_rfl) ?_
        refine vd_node ?_
        refine sE (an @hrow2 (an @dvR_len (an @hg1 @hl0))) ?_
        refine And.intro (by omega) ?_
        repeat' (first | with_reducible exact True.intro | with_reducible refine And.intro (by omega) ?_ | with_reducible refine And.intro ?_ ?_ | (refine AQ.nx rfl ?_; refine sE (an @hrow2 (an @dvR_len (an @hg1 @hl0))) ?_) | ((with_reducible show AQ _ _ _ ({ dst := _, op := Op.call { callee := Callee.value (Operand.func 129), args := _, argTypes := _ }, type := _, pos := _, after := _, guard := _ } :: _) _ _ _); refine AQ.fn (by kernel_rfl) rfl rfl rfl (hwy) rfl ?_; refine sI ?_) | ((with_reducible show AQ _ _ _ ({ dst := _, op := Op.call { callee := Callee.value (Operand.func 131), args := _, argTypes := _ }, type := _, pos := _, after := _, guard := _ } :: _) _ _ _); refine AQ.fn (by kernel_rfl) rfl rfl rfl (hd2) rfl ?_; refine sI ?_) | ((with_reducible show AQ _ _ _ ({ dst := _, op := Op.call { callee := Callee.value (Operand.func 60), args := _, argTypes := _ }, type := _, pos := _, after := _, guard := _ } :: _) _ _ _); refine AQ.fn (by kernel_rfl) rfl rfl rfl (hk2) rfl ?_; refine sI ?_) | refine AQ.done ?_ | (refine AQ.go (by kernel_rfl) ?_; refine sE (an @hrow2 (an @dvR_len (an @hg1 @hl0))) ?_; repeat (with_reducible refine And.intro (by omega) ?_); refine AQ.nx rfl ?_; refine sE (an @hrow2 (an @dvR_len (an @hg1 @hl0))) ?_))
        all_goals exact AE.meet () trivial (sU) rfl
      cases q2 with
      | bad p' e' =>
        have hnz2 : ¬ e' = 0 := hnz2
        simp only [go_sem, Nat.reduceAdd, Nat.reduceLeDiff, Nat.reduceSub, Int.reduceToNat, reduceCtorEq, rF, rP, rE]
        refine gO ?_
        refine AP.cond rfl rfl (fun h => ?_) (fun h => ?_)
        · refine gO ?_
          exact AE.retD [3, 2, 1, 0] rfl ⟨⟨rfl, Nat.le_of_ble_eq_true (by kernel_rfl)⟩, trivial⟩ rfl ⟨rfl, rfl⟩
        · exact absurd (by simpa using h) hnz2
      | ok b =>
        simp only [go_sem, Nat.reduceAdd, Nat.reduceLeDiff, Nat.reduceSub, Int.reduceToNat, reduceCtorEq, rF, rP, rE]
        repeat (first | refine xA ?_ | refine xB ?_ | refine xC ?_ | refine xE ?_ | refine xD ?_ | refine xK ?_ | refine xS ?_ | refine xM ?_ | refine xT ?_ | refine xF ?_ | ((first | refine xR ?_ | refine xW ?_ | refine vq_id ?_); simp only [go_sem, Nat.reduceAdd, Nat.reduceLeDiff, Nat.reduceSub, Int.reduceToNat, reduceCtorEq, Int.reduceBNe]) | (refine ⟨by first | omega | (intros; simp_all; done) | (intros; simp_all; omega), ?_⟩; try simp only [go_sem, Nat.reduceAdd, Nat.reduceLeDiff, Nat.reduceSub, Int.reduceToNat, reduceCtorEq, Int.reduceBNe]))
        refine AQ.fn (by kernel_rfl) rfl rfl rfl (sameR_spec a b (un_S ha)) rfl ?_
        refine gO ?_
        refine AP.cond rfl rfl (fun h => ?_) (fun h => ?_)
        · have h : eqF a b = false := by simpa using h
          refine gO ?_
          refine AQ.fn (by kernel_rfl) rfl rfl rfl (failR_spec p 271) rfl ?_
          refine gO ?_
          refine AE.retD [3, 2, 1, 0] rfl ⟨⟨rfl, Nat.le_of_ble_eq_true (by kernel_rfl)⟩, trivial⟩ rfl ⟨rfl, ?_⟩
          rw [Rs.bind, Rs.bind, chk_f (by simp [h])]; rfl
        · have h : eqF a b = true := by simpa using h
          refine gO ?_
          refine AE.retD [3, 2, 1, 0] rfl ⟨⟨rfl, Nat.le_of_ble_eq_true (by kernel_rfl)⟩, trivial⟩ rfl ⟨rfl, ?_⟩
          rw [Rs.bind, Rs.bind, chk_t h]; rfl
end Go.Proofs.YteacpafhmgdbkaaGreatDoor
end

section
namespace Go.Proofs.YteacpafhmgdbkaaGreatDoor
open Go Go.AL Go.RowKit
set_option maxRecDepth 10000
set_option maxHeartbeats 4000000
theorem someOutR_spec (th ax : List Fm) (d : Dv) (p : List Int) (K : KR th ax d p) (hn : d.ks.length = 2) :
    PFn Tryz.prog 128 [.im (.sl 4 (fmR th)), .im (.sl 4 (fmR ax)), dvV d, .im (.sl 1 (rowsI .i64 p))] (rrV ((kidK (ccFs th d.ks) ax p 0 []).bind fun g => chk (g.k == 8) p 271 (chk (!ocFs d.nm (th ++ ax ++ [g])) p 272 ((kidK (ccFs th d.ks) ax p 1 [opn (.mk d.nm 0 []) (part g 0)]).bind fun c => chk (!ocF d.nm c) p 272 (.ok c))))) := by
  have hS := dvS_eq.1 K.S
  obtain ⟨k0, hrow0, hk0⟩ := K.get0 0 (by omega)
  have hnz0 := kidK_nz th ax [] d.ks p 0
  have hw0 : ∀ g, kidK (ccFs th d.ks) ax p 0 [] = .ok g → unF g 0 = 0 := fun g h => kidK_ok h
  generalize kidK (ccFs th d.ks) ax p 0 [] = q0 at *
  have hd0 := down_spec p 0 (by have := K.pl; omega)
  have hl := K.pl
  have hthS : fmsS th := by
    have := K.tW
    clear hk0 hw0 hnz0 K
    induction th with
    | nil => exact fmsS_nil
    | cons u l ih => rw [fmsS]; exact ⟨un_S (this 0 u rfl), ih (fun k v h => this (k + 1) v (by simpa using h))⟩
  have h1 := occursR_spec d.nm th (by have := K.tl; omega) hthS (fun k u h => by have := un_fit (K.tW k u h); omega)
  have h2 := occursR_spec d.nm ax (by have := K.al; omega) K.aS K.az
  refine ACall.walk [0, 1, 2, 3, 6, 8, 9, 10, 22, 27, 47, 71, 78] [8, 9, 10] Tryz.func128 rfl Tryz.ntmps128 (by kernel_rfl) (by rfl) rfl fun W own I0 φ0 lay => ?_
  refine gO ?_
  refine AP.cut (α := Unit) (fun _ => [(0, .im (.sl 4 (fmR th))), (1, .im (.sl 4 (fmR ax))), (3, .im (.sl 1 (rowsI .i64 p))), (6, .im (dvP d)), (8, .ob 0 0), (9, .ob 1 0)]) (fun _ => [(1, .var 116 (rrA (rF q0) (rP q0) (rE q0))), (0, .var 116 zR)]) (fun _ => True) ?_ fun _ _ => ?_
  · skip
    refine AP.drawE 11 (Tree.node [] [0, 1, 2, 3, 4, 5, 6] [7, 9] [Tree.node [0, 1, 2, 3, 4, 5] [] [8, 9] [Tree.node [] [] [9] [Tree.node [] [] [10] [Tree.node [] [] [] []]], Tree.node [0, 1, 2, 3, 4, 5] [] [8] [Tree.node [] [] [10] [Tree.node [] [] [] []]]], Tree.node [0, 1, 2, 3, 4, 5, 6] [] [7] [Tree.node [0, 1, 2, 3, 4, 5] [] [8] [Tree.node [] [] [10] [Tree.node [] [] [] []]]]]) (by kernel_rfl) rfl (by kernel_rfl) (by kernel_rfl) ?_
    refine vd_node ?_
    refine sE (an @hrow0 @dvR_len) ?_
    refine And.intro (by omega) ?_
    repeat' (first | with_reducible exact True.intro | with_reducible refine And.intro (by omega) ?_ | with_reducible refine And.intro ?_ ?_ | (refine AQ.nx rfl ?_; refine sE (an @hrow0 @dvR_len) ?_) | ((with_reducible show AQ _ _ _ ({ dst := _, op := Op.call { callee := Callee.value (Operand.func 131), args := _, argTypes := _ }, type := _, pos := _, after := _, guard := _ } :: _) _ _ _); refine AQ.fn (by kernel_rfl) rfl rfl rfl (hd0) rfl ?_; refine sI ?_) | ((with_reducible show AQ _ _ _ ({ dst := _, op := Op.call { callee := Callee.value (Operand.func 60), args := _, argTypes := _ }, type := _, pos := _, after := _, guard := _ } :: _) _ _ _); refine AQ.fn (by kernel_rfl) rfl rfl rfl (hk0) rfl ?_; refine sI ?_) | refine AQ.done ?_ | (refine AQ.go (by kernel_rfl) ?_; refine sE (an @hrow0 @dvR_len) ?_; repeat (with_reducible refine And.intro (by omega) ?_); refine AQ.nx rfl ?_; refine sE (an @hrow0 @dvR_len) ?_))
    all_goals exact AE.meet () trivial (sU) rfl
  cases q0 with
  | bad p' e' =>
    have hnz0 : ¬ e' = 0 := hnz0
    simp only [go_sem, Nat.reduceAdd, Nat.reduceLeDiff, Nat.reduceSub, Int.reduceToNat, reduceCtorEq, rF, rP, rE]
    refine gO ?_
    refine AP.cond rfl rfl (fun h => ?_) (fun h => ?_)
    · refine gO ?_
      exact AE.retD [1, 0] rfl ⟨⟨rfl, Nat.le_of_ble_eq_true (by kernel_rfl)⟩, trivial⟩ rfl ⟨rfl, rfl⟩
    · exact absurd (by simpa using h) hnz0
  | ok g =>
    have hg := hw0 g rfl
    simp only [go_sem, Nat.reduceAdd, Nat.reduceLeDiff, Nat.reduceSub, Int.reduceToNat, reduceCtorEq, rF, rP, rE]
    repeat (first | refine xA ?_ | refine xB ?_ | refine xC ?_ | refine xE ?_ | refine xD ?_ | refine xK ?_ | refine xS ?_ | refine xM ?_ | refine xT ?_ | refine xF ?_ | ((first | refine xR ?_ | refine xW ?_ | refine vq_id ?_); simp only [go_sem, Nat.reduceAdd, Nat.reduceLeDiff, Nat.reduceSub, Int.reduceToNat, reduceCtorEq, Int.reduceBNe]) | (refine ⟨by first | omega | (intros; simp_all; done) | (intros; simp_all; omega), ?_⟩; try simp only [go_sem, Nat.reduceAdd, Nat.reduceLeDiff, Nat.reduceSub, Int.reduceToNat, reduceCtorEq, Int.reduceBNe]))
    refine AP.cond rfl rfl (fun h => ?_) (fun h => ?_)
    · have h : (g.k == 8) = false := by simpa using h
      refine gO ?_
      refine AQ.fn (by kernel_rfl) rfl rfl rfl (failR_spec p 271) rfl ?_
      refine gO ?_
      refine AE.retD [1, 0] rfl ⟨⟨rfl, Nat.le_of_ble_eq_true (by kernel_rfl)⟩, trivial⟩ rfl ⟨rfl, ?_⟩
      rw [Rs.bind, chk_f (by simp [h])]; rfl
    have h : (g.k == 8) = true := by simpa using h
    obtain ⟨x, hp, hx⟩ := un_quant hg (.inr (by simpa using h))
    have hr1 : fmR g.ps = [fmRow x] := by rw [hp, fmR_one]
    have hg0 : (fmR g.ps).getD 0 [] = fmRow x := by rw [hr1]; rfl
    have hl0 : (fmR g.ps).length = 1 := by rw [hr1]; rfl
    have hxf := un_fit hx
    have hgf := un_fit hg
    have h3 := occursR_spec d.nm [g] (by simp) (fmsS_one (un_S hg)) (fun j u hu => by
      cases j with
      | zero => simp at hu; subst hu; omega
      | succ j => simp at hu)
    rw [fmR_one] at h3
    rw [Rs.bind, h, chk_t rfl, ocFs_append, ocFs_append, show part g 0 = x by rw [part, hp]; rfl]
    have hos : fmS (opn (.mk d.nm 0 []) x) := opn_S (by rw [tmS, tmsS]; exact ⟨hS.1.1, by simp, trivial⟩) (un_S hx)
    have hoz : szF (opn (.mk d.nm 0 []) x) ≤ szF x * 1 := mapF_sz (g := leafO (.mk d.nm 0 [])) (m := 1) (fun u e => by
      unfold leafO
      split
      · rw [mapT_id, szT, szTs]; omega
      · rw [leafC, szT, szTs]; omega) (by omega) x 0
    have hi := instance_spec x (.mk d.nm 0 []) (fmL_sz x (by omega)) (by omega)
    rw [chF_opn _ x 0 _ hxf.2.2] at hi
    have hi2 : PFn Tryz.prog 72 [fmV x, .agg [Sv d.nm, Iv 0, nilV]] (fmV (opn (.mk d.nm 0 []) x)) :=
      PFn.argW hi fun w φ I vs hd => dens_last (fun u hu => den_agg_at [Sv d.nm, Iv 0] [] (nil_told 3 w φ I) u hu) [fmV x] [] vs hd
    clear hi
    generalize opn (.mk d.nm 0 []) x = o at *
    generalize ho1 : ocFs d.nm th = o1 at *
    generalize ho2 : ocFs d.nm ax = o2 at *
    generalize ho3 : ocFs d.nm [g] = o3 at *
    cases o1 with
    | true =>
      refine gO ?_
      refine AQ.fn (by kernel_rfl) rfl rfl rfl (h1) rfl ?_
      refine gO ?_
      refine AQ.fn (by kernel_rfl) rfl rfl rfl (failR_spec p 272) rfl ?_
      refine gO ?_
      exact AE.retD [1, 0] rfl ⟨⟨rfl, Nat.le_of_ble_eq_true (by kernel_rfl)⟩, trivial⟩ rfl ⟨rfl, rfl⟩
    | false =>
      cases o2 with
      | true =>
        refine gO ?_
        refine AQ.fn (by kernel_rfl) rfl rfl rfl (h1) rfl ?_
        refine gO ?_
        refine AQ.guard_yes (by simp only [go_sem]) ?_
        refine AQ.fn (by kernel_rfl) rfl rfl rfl (h2) rfl ?_
        refine gO ?_
        refine AQ.fn (by kernel_rfl) rfl rfl rfl (failR_spec p 272) rfl ?_
        refine gO ?_
        exact AE.retD [1, 0] rfl ⟨⟨rfl, Nat.le_of_ble_eq_true (by kernel_rfl)⟩, trivial⟩ rfl ⟨rfl, rfl⟩
      | false =>
        cases o3 with
        | true =>
          refine gO ?_
          refine AQ.fn (by kernel_rfl) rfl rfl rfl (h1) rfl ?_
          refine gO ?_
          refine AQ.guard_yes (by simp only [go_sem]) ?_
          refine AQ.fn (by kernel_rfl) rfl rfl rfl (h2) rfl ?_
          refine gO ?_
          refine AQ.guard_yes (by simp only [go_sem]) ?_
          refine AQ.effS (by kernel_rfl) rfl ?_
          simp only [go_sem, Nat.reduceAdd, Nat.reduceLeDiff, Nat.reduceSub, Int.reduceToNat, reduceCtorEq, effS]
          refine gO ?_
          refine AQ.guard_yes (by simp only [go_sem]) ?_
          refine AQ.fn (by kernel_rfl) rfl rfl rfl (h3) rfl ?_
          refine gO ?_
          refine AQ.fn (by kernel_rfl) rfl rfl rfl (failR_spec p 272) rfl ?_
          refine gO ?_
          exact AE.retD [1, 0] rfl ⟨⟨rfl, Nat.le_of_ble_eq_true (by kernel_rfl)⟩, trivial⟩ rfl ⟨rfl, rfl⟩
        | false =>
          refine gO ?_
          refine AQ.fn (by kernel_rfl) rfl rfl rfl (h1) rfl ?_
          refine gO ?_
          refine AQ.guard_yes (by simp only [go_sem]) ?_
          refine AQ.fn (by kernel_rfl) rfl rfl rfl (h2) rfl ?_
          refine gO ?_
          refine AQ.guard_yes (by simp only [go_sem]) ?_
          refine AQ.effS (by kernel_rfl) rfl ?_
          simp only [go_sem, Nat.reduceAdd, Nat.reduceLeDiff, Nat.reduceSub, Int.reduceToNat, reduceCtorEq, effS]
          refine gO ?_
          refine AQ.guard_yes (by simp only [go_sem]) ?_
          refine AQ.fn (by kernel_rfl) rfl rfl rfl (h3) rfl ?_
          refine gO ?_
          obtain ⟨k1, hrow1, hk1⟩ := K.get 1 (by omega) [o] (by simp) (fmsS_one hos) (fun j u hu => by
            cases j with
            | zero => simp at hu; subst hu; omega
            | succ j => simp at hu)
          have hd1 := down_spec p 1 (by omega)
          have hwo := with_spec ax o (by have := K.al; omega)
          show AP _ _ _ _ _
          have hnz1 := kidK_nz th ax [o] d.ks p 1
          have hw1 : ∀ g, kidK (ccFs th d.ks) ax p 1 [o] = .ok g → unF g 0 = 0 := fun g h => kidK_ok h
          generalize kidK (ccFs th d.ks) ax p 1 [o] = q1 at *
          refine gO ?_
          refine AP.cut (α := Unit) (fun _ => [(3, .im (.sl 1 (rowsI .i64 p))), (6, .im (dvP d)), (8, .ob 0 0), (10, .ob 2 0)]) (fun _ => [(2, .var 116 (rrA (rF q1) (rP q1) (rE q1))), (1, .var 116 (rrA g [] 0)), (0, .var 116 zR)]) (fun _ => True) ?_ fun _ _ => ?_
          · skip
            refine AP.drawE 21 (Tree.node [] [0, 1, 2, 3, 4, 5, 6, 7, 8, 9, 12, 13, 14, 15, 16] [10, 19] [Tree.node [0, 1, 12, 13, 14, 15, 16] [] [11, 19] [Tree.node [0, 12, 13, 14, 15, 16] [] [17, 19] [Tree.node [0, 12, 13, 14, 15] [] [18, 19] [Tree.node [] [] [19] [Tree.node [] [] [20] [Tree.node [] [] [] []]], Tree.node [0, 12, 13, 14, 15] [] [18] [Tree.node [] [] [20] [Tree.node [] [] [] []]]], Tree.node [0, 12, 13, 14, 15, 16] [] [17] [Tree.node [0, 12, 13, 14, 15] [] [18] [Tree.node [] [] [20] [Tree.node [] [] [] []]]]], Tree.node [0, 1, 12, 13, 14, 15, 16] [] [11] [Tree.node [0, 12, 13, 14, 15, 16] [] [17] [Tree.node [0, 12, 13, 14, 15] [] [18] [Tree.node [] [] [20] [Tree.node [] [] [] []]]]]], Tree.node [0, 1, 2, 3, 4, 5, 6, 7, 8, 9, 12, 13, 14, 15, 16] [] [10] [Tree.node [0, 1, 12, 13, 14, 15, 16] [] [11] [Tree.node [0, 12, 13, 14, 15, 16] [] [17] [Tree.node [0, 12, 13, 14, 15] [] [18] [Tree.node [] [] [20] [Tree.node [] [] [] []]]]]]]) (by kernel_rfl) rfl (by kernel_rfl) (by kernel_rfl) ?_
            refine vd_node ?_
            refine sE (an @hrow1 (an @dvR_len (an @hg0 @hl0))) ?_
            refine And.intro (by omega) ?_
            repeat' (first | with_reducible exact True.intro | with_reducible refine And.intro (by omega) ?_ | with_reducible refine And.intro ?_ ?_ | (refine AQ.nx rfl ?_; refine sE (an @hrow1 (an @dvR_len (an @hg0 @hl0))) ?_) | ((with_reducible show AQ _ _ _ ({ dst := _, op := Op.call { callee := Callee.value (Operand.func 72), args := _, argTypes := _ }, type := _, pos := _, after := _, guard := _ } :: _) _ _ _); refine AQ.fn (by kernel_rfl) rfl rfl rfl (hi2) rfl ?_; refine sI ?_) | ((with_reducible show AQ _ _ _ ({ dst := _, op := Op.call { callee := Callee.value (Operand.func 129), args := _, argTypes := _ }, type := _, pos := _, after := _, guard := _ } :: _) _ _ _); refine AQ.fn (by kernel_rfl) rfl rfl rfl (hwo) rfl ?_; refine sI ?_) | ((with_reducible show AQ _ _ _ ({ dst := _, op := Op.call { callee := Callee.value (Operand.func 131), args := _, argTypes := _ }, type := _, pos := _, after := _, guard := _ } :: _) _ _ _); refine AQ.fn (by kernel_rfl) rfl rfl rfl (hd1) rfl ?_; refine sI ?_) | ((with_reducible show AQ _ _ _ ({ dst := _, op := Op.call { callee := Callee.value (Operand.func 60), args := _, argTypes := _ }, type := _, pos := _, after := _, guard := _ } :: _) _ _ _); refine AQ.fn (by kernel_rfl) rfl rfl rfl (hk1) rfl ?_; refine sI ?_) | refine AQ.done ?_ | (refine AQ.go (by kernel_rfl) ?_; refine sE (an @hrow1 (an @dvR_len (an @hg0 @hl0))) ?_; repeat (with_reducible refine And.intro (by omega) ?_); refine AQ.nx rfl ?_; refine sE (an @hrow1 (an @dvR_len (an @hg0 @hl0))) ?_))
            all_goals exact AE.meet () trivial (sU) rfl
          cases q1 with
          | bad p' e' =>
            have hnz1 : ¬ e' = 0 := hnz1
            simp only [go_sem, Nat.reduceAdd, Nat.reduceLeDiff, Nat.reduceSub, Int.reduceToNat, reduceCtorEq, rF, rP, rE]
            refine gO ?_
            refine AP.cond rfl rfl (fun h => ?_) (fun h => ?_)
            · refine gO ?_
              exact AE.retD [2, 1, 0] rfl ⟨⟨rfl, Nat.le_of_ble_eq_true (by kernel_rfl)⟩, trivial⟩ rfl ⟨rfl, rfl⟩
            · exact absurd (by simpa using h) hnz1
          | ok c =>
            have hc := hw1 c rfl
            have hcf := un_fit hc
            have h4 := occursR_spec d.nm [c] (by simp) (fmsS_one (un_S hc)) (fun j u hu => by
              cases j with
              | zero => simp at hu; subst hu; omega
              | succ j => simp at hu)
            rw [fmR_one, ocFs, ocFs, Bool.or_false] at h4
            simp only [go_sem, Nat.reduceAdd, Nat.reduceLeDiff, Nat.reduceSub, Int.reduceToNat, reduceCtorEq, rF, rP, rE]
            repeat (first | refine xA ?_ | refine xB ?_ | refine xC ?_ | refine xE ?_ | refine xD ?_ | refine xK ?_ | refine xS ?_ | refine xM ?_ | refine xT ?_ | refine xF ?_ | ((first | refine xR ?_ | refine xW ?_ | refine vq_id ?_); simp only [go_sem, Nat.reduceAdd, Nat.reduceLeDiff, Nat.reduceSub, Int.reduceToNat, reduceCtorEq, Int.reduceBNe]) | (refine ⟨by first | omega | (intros; simp_all; done) | (intros; simp_all; omega), ?_⟩; try simp only [go_sem, Nat.reduceAdd, Nat.reduceLeDiff, Nat.reduceSub, Int.reduceToNat, reduceCtorEq, Int.reduceBNe]))
            refine AQ.fn (by kernel_rfl) rfl rfl rfl (h4) rfl ?_
            refine gO ?_
            refine AP.cond rfl rfl (fun h => ?_) (fun h => ?_)
            · refine gO ?_
              refine AQ.fn (by kernel_rfl) rfl rfl rfl (failR_spec p 272) rfl ?_
              refine gO ?_
              refine AE.retD [2, 1, 0] rfl ⟨⟨rfl, Nat.le_of_ble_eq_true (by kernel_rfl)⟩, trivial⟩ rfl ⟨rfl, ?_⟩
              show _ = rrV (chk (!ocF d.nm c) p 272 (.ok c))
              rw [h]; rfl
            · refine gO ?_
              refine AE.retD [2, 1, 0] rfl ⟨⟨rfl, Nat.le_of_ble_eq_true (by kernel_rfl)⟩, trivial⟩ rfl ⟨rfl, ?_⟩
              show _ = rrV (chk (!ocF d.nm c) p 272 (.ok c))
              rw [h]; rfl
end Go.Proofs.YteacpafhmgdbkaaGreatDoor
end

section
namespace Go.Proofs.YteacpafhmgdbkaaGreatDoor
open Go Go.AL Go.RowKit
set_option maxRecDepth 10000
set_option maxHeartbeats 4000000
theorem KR.thS {th ax : List Fm} {d : Dv} {p : List Int} (K : KR th ax d p) : fmsS th := by
  have := K.tW
  clear K
  induction th with
  | nil => exact fmsS_nil
  | cons u l ih => rw [fmsS]; exact ⟨un_S (this 0 u rfl), ih (fun k v h => this (k + 1) v (by simpa using h))⟩
def cont (kid : Nat → Rs) (k : List Fm → Rs) : Nat → List Fm → Rs
  | 0, s => k s
  | m + 1, s => (kid s.length).bind fun a => cont kid k m (s ++ [a])
theorem simple_all (th ax : List Fm) (d : Dv) (p : List Int) (K : KR th ax d p) (gs : List Fm) (hg : ∀ u ∈ gs, unF u 0 = 0) (hn : kidN d.r = (gs.length : Int)) (hr : 1 ≤ d.r ∧ d.r ≤ 18 ∧ d.r ≠ 1 ∧ d.r ≠ 2 ∧ d.r ≠ 10 ∧ d.r ≠ 16 ∧ d.r ≠ 17) (hf : fieldE d.r d.nm d.t d.f = 0) :
    PFn Tryz.prog 132 [.im (.sl 4 (fmR th)), .im (.sl 4 (fmR ax)), dvV d, .im (.sl 4 (fmR gs)), .im (.sl 1 (rowsI .i64 p))] (rrV (ruleSF th ax d.r d.nm d.t d.f (gs.getD 0 fm0) (gs.getD 1 fm0) p)) := by
  obtain ⟨r, hrr⟩ : ∃ r, d.r = r := ⟨_, rfl⟩
  rw [hrr] at hn hr hf ⊢
  have hc : (r = 3 ∨ r = 6 ∨ r = 7 ∨ r = 8 ∨ r = 9 ∨ r = 11 ∨ r = 12 ∨ r = 13 ∨ r = 14 ∨ r = 15) ∨ (r = 4 ∨ r = 5 ∨ r = 18) := by omega
  rcases hc with hc | hc
  · have h1 : kidN r = 1 := by unfold kidN; rw [if_neg (by omega), if_pos hc]
    have hl : gs.length = 1 := by omega
    match gs, hl with
    | [a], _ =>
      have ha := hg a (by simp)
      rw [fmR_one]
      show PFn _ _ _ (rrV (ruleSF th ax r d.nm d.t d.f a fm0 p))
      rcases hc with h | h | h | h | h | h | h | h | h | h
      · subst h; exact simple1_spec th ax d a p 3 hrr (.inl rfl) ha hf
      · subst h; exact simple67_spec th ax d a p 6 hrr (.inl rfl) ha
      · subst h; exact simple67_spec th ax d a p 7 hrr (.inr rfl) ha
      · subst h; exact simple1_spec th ax d a p 8 hrr (.inr (.inl rfl)) ha hf
      · subst h; exact simple1_spec th ax d a p 9 hrr (.inr (.inr rfl)) ha hf
      · subst h; exact simple1112_spec th ax d a p 11 hrr (.inl rfl) hf
      · subst h; exact simple1112_spec th ax d a p 12 hrr (.inr rfl) hf
      · subst h
        have hnm : d.nm ≠ [] := fun hc => by
          have hf : (if isNm d.nm then (0 : Int) else 2) = 0 := hf
          rw [hc] at hf
          exact absurd hf (by decide)
        exact simple13_spec th ax d a p 13 hrr rfl ha hnm K.thS K.aS (by have := K.tl; omega) (by have := K.al; omega) (fun k u h => by have := un_fit (K.tW k u h); omega) K.az
      · subst h; exact simple14_spec th ax d a p 14 hrr rfl ha hf
      · subst h
        have hf : (if unF d.f 0 = 0 then clT d.t else unF d.f 0) = 0 := hf
        have h0 : unF d.f 0 = 0 := by
          by_cases h0 : unF d.f 0 = 0
          · exact h0
          · rw [if_neg h0] at hf; exact hf
        rw [if_pos h0] at hf
        exact simple15_spec th ax d a p 15 hrr rfl ha h0 hf
  · have h1 : kidN r = 2 := by unfold kidN; rw [if_neg (by omega), if_neg (by omega), if_pos (by omega)]
    have hl : gs.length = 2 := by omega
    match gs, hl with
    | [a, b], _ =>
      have ha := hg a (by simp)
      have hb := hg b (by simp)
      rw [fmR_two]
      show PFn _ _ _ (rrV (ruleSF th ax r d.nm d.t d.f a b p))
      rcases hc with h | h | h
      · subst h; exact simple4_spec th ax d a b p 4 hrr rfl ha
      · subst h; exact simple5_spec th ax d a b p 5 hrr rfl ha hb
      · subst h; exact simple18_spec th ax d a b p 18 hrr rfl ha hb hf
end Go.Proofs.YteacpafhmgdbkaaGreatDoor
end

section
namespace Go.Proofs.YteacpafhmgdbkaaGreatDoor
open Go Go.AL Go.RowKit
set_option maxRecDepth 10000
set_option maxHeartbeats 4000000
theorem bind_self {r : Rs} {p : List Int} (h : ∀ g, r = .ok g → unF g 0 = 0) : (r.bind fun g => chk (unF g 0 == 0) p 15 (.ok g)) = r := by
  cases r with
  | ok g => show chk (unF g 0 == 0) p 15 (.ok g) = _; rw [h g rfl]; rfl
  | bad p' e => rfl
theorem conclR_step (th ax : List Fm) (d : Dv) (p : List Int) (K : KR th ax d p) : PFn Tryz.prog 60 [.im (.sl 4 (fmR th)), .im (.sl 4 (fmR ax)), dvV d, .im (.sl 1 (rowsI .i64 p))] (rrV (ccF th d ax p)) := by
  obtain ⟨q, hq⟩ : ∃ q, ccF th d ax p = q := ⟨_, rfl⟩
  rw [hq]
  rw [ccF_eq, stepK, ccFs_len] at hq
  have hk := kids_spec d.r
  have hfi := fields_spec d K.S (by have := K.fz; omega) (by have := K.tz; omega)
  refine ACall.walk [0, 1, 2, 3, 6, 8, 9, 10, 11, 12, 13, 20, 26, 31, 32, 43, 57, 68, 77, 87, 94, 103, 104, 110, 123, 139] [8, 13] Tryz.func60 rfl Tryz.ntmps60 (by kernel_rfl) (by rfl) rfl fun W own I0 φ0 lay => ?_
  refine gO ?_
  refine AP.drawE 7 (Tree.node [] [0, 1, 3, 4, 5] [2] [Tree.node [3, 4, 5] [6] [] []]) (by kernel_rfl) rfl (by kernel_rfl) (by kernel_rfl) ?_
  refine vd_node ?_
  refine sI ?_
  refine AQ.fn (by kernel_rfl) rfl rfl rfl (hk) rfl ?_
  refine sI ?_
  refine AQ.nx rfl ?_
  refine sE @dvR_len ?_
  refine AQ.done ?_
  refine gO ?_
  refine AP.cond rfl rfl (fun h1 => ?_) (fun h1 => ?_)
  · have h1 : (kidN d.r == (d.ks.length : Int)) = false := by simpa using h1
    rw [h1, chk_f (by simp)] at hq
    subst hq
    refine gO ?_
    refine AQ.fn (by kernel_rfl) rfl rfl rfl (failR_spec p 270) rfl ?_
    refine gO ?_
    exact AE.retD [0] rfl ⟨⟨rfl, Nat.le_of_ble_eq_true (by kernel_rfl)⟩, trivial⟩ rfl ⟨rfl, rfl⟩
  have h1 : (kidN d.r == (d.ks.length : Int)) = true := by simpa using h1
  rw [h1, chk_t rfl] at hq
  refine gO ?_
  refine AQ.fn (by kernel_rfl) rfl rfl rfl (hfi) rfl ?_
  refine gO ?_
  refine AP.cond rfl rfl (fun h2 => ?_) (fun h2 => ?_)
  · have h2 : (fieldE d.r d.nm d.t d.f == 0) = false := by simpa using h2
    rw [h2, chk_f (by simp)] at hq
    subst hq
    refine gO ?_
    refine AQ.fn (by kernel_rfl) rfl rfl rfl (failR_spec p (fieldE d.r d.nm d.t d.f)) rfl ?_
    refine gO ?_
    exact AE.retD [0] rfl ⟨⟨rfl, Nat.le_of_ble_eq_true (by kernel_rfl)⟩, trivial⟩ rfl ⟨rfl, rfl⟩
  have h2 : (fieldE d.r d.nm d.t d.f == 0) = true := by simpa using h2
  rw [h2, chk_t rfl] at hq
  have hr12 : 1 ≤ d.r ∧ d.r ≤ 18 := Classical.byContradiction fun hc => by
    rw [kidN_out hc] at h1
    simp at h1
  have hkl : kidN d.r = (d.ks.length : Int) := by simpa using h1
  obtain ⟨r, hr⟩ : ∃ r, d.r = r := ⟨_, rfl⟩
  have n1 : (d.r == 1) = (r == 1) := by rw [hr]
  have n2 : (d.r == 2) = (r == 2) := by rw [hr]
  have n17 : (d.r == 17) = (r == 17) := by rw [hr]
  have n10 : (d.r == 10) = (r == 10) := by rw [hr]
  have n16 : (d.r == 16) = (r == 16) := by rw [hr]
  have n3 : (d.r == 3) = (r == 3) := by rw [hr]
  have n12 : (d.r == 12) = (r == 12) := by rw [hr]
  rw [hr] at hq hkl hr12
  by_cases c10 : r = 10
  · subst c10
    have hn : d.ks.length = 3 := by have : (3 : Int) = (d.ks.length : Int) := hkl; omega
    have ho := orOutR_spec th ax d p K hn
    have e : ruleK th ax 10 d.ix d.nm d.t d.f (ccFs th d.ks) p = (kidK (ccFs th d.ks) ax p 0 []).bind fun g => chk (g.k == 6) p 271 ((kidK (ccFs th d.ks) ax p 1 [part g 0]).bind fun a => (kidK (ccFs th d.ks) ax p 2 [part g 1]).bind fun b => chk (eqF a b) p 271 (.ok a)) := rfl
    rw [e, bind_self (fun g hg => by
      obtain ⟨a, _, hg⟩ := bind_ok hg
      obtain ⟨_, hg⟩ := chk_ok hg
      obtain ⟨b, h2, hg⟩ := bind_ok hg
      obtain ⟨c, _, hg⟩ := bind_ok hg
      obtain ⟨_, hg⟩ := chk_ok hg
      cases hg
      exact kidK_ok h2)] at hq
    rw [hq] at ho
    clear e hq
    refine gI (an @n1 (an @n2 (an @n17 @n10))) ?_
    refine AQ.fn (by kernel_rfl) rfl rfl rfl (ho) rfl ?_
    refine gO ?_
    exact AE.retD [0] rfl ⟨⟨rfl, Nat.le_of_ble_eq_true (by kernel_rfl)⟩, trivial⟩ rfl ⟨rfl, rfl⟩
  by_cases c16 : r = 16
  · subst c16
    have hn : d.ks.length = 2 := by have : (2 : Int) = (d.ks.length : Int) := hkl; omega
    have ho := someOutR_spec th ax d p K hn
    have e : ruleK th ax 16 d.ix d.nm d.t d.f (ccFs th d.ks) p = (kidK (ccFs th d.ks) ax p 0 []).bind fun g => chk (g.k == 8) p 271 (chk (!ocFs d.nm (th ++ ax ++ [g])) p 272 ((kidK (ccFs th d.ks) ax p 1 [opn (.mk d.nm 0 []) (part g 0)]).bind fun c => chk (!ocF d.nm c) p 272 (.ok c))) := rfl
    rw [e, bind_self (fun g hg => by
      obtain ⟨a, _, hg⟩ := bind_ok hg
      obtain ⟨_, hg⟩ := chk_ok hg
      obtain ⟨_, hg⟩ := chk_ok hg
      obtain ⟨b, h2, hg⟩ := bind_ok hg
      obtain ⟨_, hg⟩ := chk_ok hg
      cases hg
      exact kidK_ok h2)] at hq
    rw [hq] at ho
    clear e hq
    refine gI (an @n1 (an @n2 (an @n17 (an @n10 @n16)))) ?_
    refine AQ.fn (by kernel_rfl) rfl rfl rfl (ho) rfl ?_
    refine gO ?_
    exact AE.retD [0] rfl ⟨⟨rfl, Nat.le_of_ble_eq_true (by kernel_rfl)⟩, trivial⟩ rfl ⟨rfl, rfl⟩
  have hixb := (dvS_eq.1 K.S).1.2
  have hal := K.al
  have htl := K.tl
  by_cases c1 : r = 1
  · subst c1
    have e : ruleK th ax 1 d.ix d.nm d.t d.f (ccFs th d.ks) p = chk (decide (0 ≤ d.ix) && decide (d.ix < ax.length)) p 274 (.ok (ax.getD ((ax.length : Int) - 1 - d.ix).toNat (.mk 0 [] [] []))) := rfl
    rw [e] at hq
    clear e
    by_cases hx : 0 ≤ d.ix ∧ d.ix < ax.length
    · have hb : (decide (0 ≤ d.ix) && decide (d.ix < (ax.length : Int))) = true := by simp [hx.1, hx.2]
      rw [hb, chk_t rfl] at hq
      have w1 := wr (x := (ax.length : Int) - 1) (by omega)
      have w2 := wr (x := (ax.length : Int) - 1 - d.ix) (by omega)
      have hlt : ((ax.length : Int) - 1 - d.ix).toNat < ax.length := by omega
      have hrow := fmR_at ax ((ax.length : Int) - 1 - d.ix).toNat hlt
      rw [fmC_eq] at hrow
      have hu : ax[((ax.length : Int) - 1 - d.ix).toNat]? = some (ax.getD ((ax.length : Int) - 1 - d.ix).toNat (.mk 0 [] [] [])) := by
        rw [List.getD_eq_getElem?_getD, List.getElem?_eq_getElem hlt]; rfl
      have hfin := finish_spec _ p (fmsS_get K.aS hu) (by have := K.az _ _ hu; omega)
      have e2 : fin p (ax.getD ((ax.length : Int) - 1 - d.ix).toNat (.mk 0 [] [] [])) = q := hq
      rw [e2] at hfin
      clear hq e2 hu
      generalize ax.getD ((ax.length : Int) - 1 - d.ix).toNat (.mk 0 [] [] []) = u at *
      refine gI (an @n1 @fmR_len) ?_
      refine AP.cond rfl rfl (fun h => ?_) (fun h => ?_)
      · simp only [Bool.or_eq_true, decide_eq_true_eq] at h; omega
      · refine gE (an @fmR_len (an @w1 (an @w2 @hrow))) ?_
        refine AQ.fn (by kernel_rfl) rfl rfl rfl (hfin) rfl ?_
        refine gO ?_
        exact AE.retD [0] rfl ⟨⟨rfl, Nat.le_of_ble_eq_true (by kernel_rfl)⟩, trivial⟩ rfl ⟨rfl, rfl⟩
    · have hb : (decide (0 ≤ d.ix) && decide (d.ix < (ax.length : Int))) = false := by simp; omega
      rw [hb, chk_f (by simp)] at hq
      subst hq
      refine gI (an @n1 @fmR_len) ?_
      refine AP.cond rfl rfl (fun h => ?_) (fun h => ?_)
      · refine gO ?_
        refine AQ.fn (by kernel_rfl) rfl rfl rfl (failR_spec p 274) rfl ?_
        refine gO ?_
        exact AE.retD [0] rfl ⟨⟨rfl, Nat.le_of_ble_eq_true (by kernel_rfl)⟩, trivial⟩ rfl ⟨rfl, rfl⟩
      · simp only [Bool.or_eq_false_iff, decide_eq_false_iff_not] at h; omega
  by_cases c2 : r = 2
  · subst c2
    have e : ruleK th ax 2 d.ix d.nm d.t d.f (ccFs th d.ks) p = chk (decide (0 ≤ d.ix) && decide (d.ix < th.length)) p 274 (.ok (th.getD d.ix.toNat (.mk 0 [] [] []))) := rfl
    rw [e] at hq
    clear e
    by_cases hx : 0 ≤ d.ix ∧ d.ix < th.length
    · have hb : (decide (0 ≤ d.ix) && decide (d.ix < (th.length : Int))) = true := by simp [hx.1, hx.2]
      rw [hb, chk_t rfl] at hq
      have hlt : d.ix.toNat < th.length := by omega
      have hrow := fmR_at th d.ix.toNat hlt
      rw [fmC_eq] at hrow
      have hu : th[d.ix.toNat]? = some (th.getD d.ix.toNat (.mk 0 [] [] [])) := by
        rw [List.getD_eq_getElem?_getD, List.getElem?_eq_getElem hlt]; rfl
      have hw := K.tW _ _ hu
      rw [bind_self (fun g hg => by cases hg; exact hw)] at hq
      subst hq
      clear hu hw
      generalize th.getD d.ix.toNat (.mk 0 [] [] []) = u at *
      refine gI (an @n1 (an @n2 @fmR_len)) ?_
      refine AP.cond rfl rfl (fun h => ?_) (fun h => ?_)
      · simp only [Bool.or_eq_true, decide_eq_true_eq] at h; omega
      · refine gE (an @fmR_len @hrow) ?_
        refine AE.cellsW 0 (rrA u [] 0) rfl (cellsLe.cons (cellsLe.cons (cellsLe.cons (cellsLe.cons (cellsLe.nil (cellsLe.refl _)))))) ?_
        refine sI ?_
        exact AE.retD [0] rfl ⟨⟨rfl, Nat.le_of_ble_eq_true (by kernel_rfl)⟩, trivial⟩ rfl ⟨rfl, rfl⟩
    · have hb : (decide (0 ≤ d.ix) && decide (d.ix < (th.length : Int))) = false := by simp; omega
      rw [hb, chk_f (by simp)] at hq
      subst hq
      refine gI (an @n1 (an @n2 @fmR_len)) ?_
      refine AP.cond rfl rfl (fun h => ?_) (fun h => ?_)
      · refine gO ?_
        refine AQ.fn (by kernel_rfl) rfl rfl rfl (failR_spec p 274) rfl ?_
        refine gO ?_
        exact AE.retD [0] rfl ⟨⟨rfl, Nat.le_of_ble_eq_true (by kernel_rfl)⟩, trivial⟩ rfl ⟨rfl, rfl⟩
      · simp only [Bool.or_eq_false_iff, decide_eq_false_iff_not] at h; omega
  by_cases c17 : r = 17
  · subst c17
    have ht : clT d.t = 0 := by
      have h2 : fieldE d.r d.nm d.t d.f = 0 := by simpa using h2
      rw [hr] at h2
      exact h2
    have htf := cl_fit ht
    have hfin := finish_told (.mk 2 [] [d.t, d.t] []) p (.im (.sl 3 (tmR [d.t, d.t]))) nilV (.inr ⟨rfl, rfl, rfl⟩) (by rw [fmS, tmsS, tmsS, tmsS, fmsS]; exact ⟨by simp, by simp, ⟨cl_S ht, cl_S ht, trivial⟩, by simp, trivial⟩) (by rw [szF, szTs, szTs, szTs, szFs]; omega)
    have e2 : fin p (.mk 2 [] [d.t, d.t] []) = q := hq
    rw [e2, tmR_two] at hfin
    clear hq e2
    refine gI (an @n1 (an @n2 @n17)) ?_
    refine AQ.fn (by kernel_rfl) rfl rfl rfl (hfin) rfl ?_
    refine gO ?_
    exact AE.retD [0] rfl ⟨⟨rfl, Nat.le_of_ble_eq_true (by kernel_rfl)⟩, trivial⟩ rfl ⟨rfl, rfl⟩
  have hc : d.r ≠ 1 ∧ d.r ≠ 2 ∧ d.r ≠ 10 ∧ d.r ≠ 16 ∧ d.r ≠ 17 := by rw [hr]; exact ⟨c1, c2, c10, c16, c17⟩
  have h2 : fieldE d.r d.nm d.t d.f = 0 := by simpa using h2
  have h1 : kidN d.r = (d.ks.length : Int) := by simpa using h1
  have hcont : cont (fun i => kidK (ccFs th d.ks) ax p i (fuK r d.f)) (fun s => ruleSF th ax d.r d.nm d.t d.f (s.getD 0 fm0) (s.getD 1 fm0) p) d.ks.length [] = q := by
    rw [← hq, hr]
    have hcc : (r = 3 ∨ r = 6 ∨ r = 7 ∨ r = 8 ∨ r = 9 ∨ r = 11 ∨ r = 12 ∨ r = 13 ∨ r = 14 ∨ r = 15) ∨ (r = 4 ∨ r = 5 ∨ r = 18) := by omega
    rcases hcc with hcc | hcc
    · have hn : d.ks.length = 1 := by
        have : kidN r = 1 := by unfold kidN; rw [if_neg (by omega), if_pos hcc]
        omega
      rw [rule_one th ax r _ _ _ _ _ _ hcc, bind_assoc, hn]; rfl
    · have hn : d.ks.length = 2 := by
        have : kidN r = 2 := by unfold kidN; rw [if_neg (by omega), if_neg (by omega), if_pos (by omega)]
        omega
      have hfu : fuK r d.f = [] := by unfold fuK; rw [if_neg (by omega), if_neg (by omega)]
      rw [rule_two th ax r _ _ _ _ _ _ hcc, bind_assoc, hn, hfu]
      simp only [bind_assoc]; rfl
  clear hq
  have hff : r = 3 ∨ r = 12 → unF d.f 0 = 0 := fun h => by
    rw [hr] at h2
    rcases h with h | h <;> subst h <;> exact h2
  have hfuS : fmsS (fuK r d.f) := by
    unfold fuK
    split
    · exact fmsS_one (un_S (hff (.inl ‹_›)))
    · split
      · exact fmsS_one (conn_S (fmsS_two (un_S (hff (.inr ‹_›))) (conn_S fmsS_nil (by simp))) (by simp))
      · exact fmsS_nil
  have hfuz : ∀ (j : Nat) (u : Fm), (fuK r d.f)[j]? = some u → szF u ≤ 1000000 := fun j u hu => by
    unfold fuK at hu
    split at hu
    · have := un_fit (hff (.inl ‹_›))
      cases j with
      | zero => simp at hu; subst hu; omega
      | succ j => simp at hu
    · split at hu
      · have := un_fit (hff (.inr ‹_›))
        cases j with
        | zero => simp at hu; subst hu; rw [conn_sz, szFs, szFs, conn_sz, szFs]; omega
        | succ j => simp at hu
      · simp at hu
  have hfl : (fuK r d.f).length ≤ 1 := by
    unfold fuK
    split
    · simp
    · split <;> simp
  have m1 : (d.r == 1) = false := by rw [hr]; simpa using c1
  have m2 : (d.r == 2) = false := by rw [hr]; simpa using c2
  have m17 : (d.r == 17) = false := by rw [hr]; simpa using c17
  have m10 : (d.r == 10) = false := by rw [hr]; simpa using c10
  have m16 : (d.r == 16) = false := by rw [hr]; simpa using c16
  have hww := with_spec ax d.f (by omega)
  have hwc := with_spec ax (conn 4 [d.f, conn 3 []]) (by omega)
  have hpr0 := pair_spec 4 d.f (conn 3 [])
  have hpr : PFn Tryz.prog 130 [Iv 4, fmV d.f, .agg [Iv 3, Sv [], nilV, nilV]] (fmV (conn 4 [d.f, conn 3 []])) :=
    PFn.argW hpr0 fun w φ I vs hd => dens_last (fun u hu => den_agg_at [Iv 3, Sv []] [.im (.sl 4 [])] (nil_told 3 w φ I) u (den_agg_at [Iv 3, Sv [], nilV] [] (nil_told 4 w φ I) u hu)) [Iv 4, fmV d.f] [] vs hd
  clear hpr0
  have hkl := K.kl
  have hpl := K.pl
  refine gE (an @m1 (an @m2 (an @m17 (an @m10 @m16)))) ?_
  refine AP.cut (α := Unit) (fun _ => [(0, .im (.sl 4 (fmR th))), (1, .im (.sl 4 (fmR ax))), (3, .im (.sl 1 (rowsI .i64 p))), (6, .im (dvP d)), (8, .ob 0 0), (10, .im (.sl 4 (fmR (ax ++ fuK r d.f))))]) (fun _ => [(0, .var 116 zR)]) (fun _ => True) ?_ fun _ _ => ?_
  · skip
    refine AP.cond rfl rfl (fun h3 => ?_) (fun h3 => ?_)
    · have h3 : (d.r == 3) = true := by simpa using h3
      have e : fuK r d.f = [d.f] := by
        rw [hr] at h3
        unfold fuK; rw [if_pos (by simpa using h3)]
      rw [e]
      refine gO ?_
      refine AQ.fn (by kernel_rfl) rfl rfl rfl (hww) rfl ?_
      refine gO ?_
      exact AE.meet () trivial (sU) rfl
    · have h3 : (d.r == 3) = false := by simpa using h3
      refine gO ?_
      refine AP.cond rfl rfl (fun h12 => ?_) (fun h12 => ?_)
      · have h12 : (d.r == 12) = true := by simpa using h12
        have e : fuK r d.f = [conn 4 [d.f, conn 3 []]] := by
          rw [hr] at h3 h12
          unfold fuK; rw [if_neg (by simpa using h3), if_pos (by simpa using h12)]
        rw [e]
        refine gO ?_
        refine AQ.fn (by kernel_rfl) rfl rfl rfl (hpr) rfl ?_
        refine gO ?_
        refine AQ.fn (by kernel_rfl) rfl rfl rfl (hwc) rfl ?_
        refine gO ?_
        exact AE.meet () trivial (sU) rfl
      · have h12 : (d.r == 12) = false := by simpa using h12
        have e : fuK r d.f = [] := by
          rw [hr] at h3 h12
          unfold fuK; rw [if_neg (by simpa using h3), if_neg (by simpa using h12)]
        rw [e, List.append_nil]
        refine gO ?_
        exact AE.meet () trivial (sU) rfl
  generalize hfu : fuK r d.f = fu at *
  refine gO ?_
  refine AP.loop rfl (α := Nat × List Fm) (fun s => [(0, .im (.sl 4 (fmR th))), (1, .im (.sl 4 (fmR ax))), (3, .im (.sl 1 (rowsI .i64 p))), (6, .im (dvP d)), (8, .ob 0 0), (10, .im (.sl 4 (fmR (ax ++ fu)))), (11, .os 1 4 0 s.1), (12, Iv s.1)]) (fun s => [(1, .vec 40 4 (fmR s.2)), (0, .var 116 zR)]) (fun s => s.1 ≤ d.ks.length ∧ s.2.length = s.1 ∧ (∀ u ∈ s.2, unF u 0 = 0) ∧ cont (fun i => kidK (ccFs th d.ks) ax p i fu) (fun s => ruleSF th ax d.r d.nm d.t d.f (s.getD 0 fm0) (s.getD 1 fm0) p) (d.ks.length - s.1) s.2 = q) (fun s => d.ks.length - s.1) (0, []) ⟨by omega, rfl, by simp, hcont⟩ (sU) rfl fun s ⟨hk, hl, hu, hm⟩ => ?_
  clear hcont
  obtain ⟨k, s⟩ := s
  simp only at hk hl hu hm ⊢
  rcases Nat.eq_or_lt_of_le hk with hke | hlt
  · subst hke
    rw [Nat.sub_self, cont] at hm
    have hsim := simple_all th ax d p K s hu (by omega) (by omega) h2
    rw [hm] at hsim
    refine gE @dvR_len ?_
    refine cF ?_
    refine gO ?_
    refine AQ.freeze 1 (el := 40) (es := 4) (rows := fmR s) rfl (by simp only [go_sem, Nat.reduceAdd, Nat.reduceLeDiff, Nat.reduceSub, Int.reduceToNat, reduceCtorEq, fmR_len]; first | done | trivial | omega | (simp; done) | (simp; omega)) (by simp only [go_sem, Nat.reduceAdd, Nat.reduceLeDiff, Nat.reduceSub, Int.reduceToNat, reduceCtorEq, fmR_len]; first | done | trivial | omega | (simp; done) | (simp; omega)) ?_; simp only [go_sem, Nat.reduceAdd, Nat.reduceLeDiff, Nat.reduceSub, Int.reduceToNat, reduceCtorEq, fmR_len]
    rw [show (fmR s).take d.ks.length = fmR s from List.take_of_length_le (by rw [fmR_len]; omega)]
    refine AQ.fn (by kernel_rfl) rfl rfl rfl (hsim) rfl ?_
    refine gO ?_
    exact AE.retD [0] rfl ⟨⟨rfl, Nat.le_of_ble_eq_true (by kernel_rfl)⟩, trivial⟩ rfl ⟨rfl, rfl⟩
  · obtain ⟨m, hmm⟩ : ∃ m, d.ks.length - k = m + 1 := ⟨d.ks.length - k - 1, by omega⟩
    have hmm2 : d.ks.length - (k + 1) = m := by omega
    rw [hmm, cont] at hm
    simp only [hl] at hm
    obtain ⟨k0, hrow0, hk0⟩ := K.get k hlt fu hfl hfuS hfuz
    have hd0 := down_spec p (k : Int) (by omega)
    have hnz0 := kidK_nz th ax fu d.ks p k
    have hw0 : ∀ g, kidK (ccFs th d.ks) ax p k fu = .ok g → unF g 0 = 0 := fun g h => kidK_ok h
    have hw := wr (x := (k : Int) + 1) (by omega)
    generalize kidK (ccFs th d.ks) ax p k fu = q0 at *
    refine gE @dvR_len ?_
    refine cT ?_
    refine gO ?_
    refine AP.cut (α := Unit) (fun _ => [(0, .im (.sl 4 (fmR th))), (1, .im (.sl 4 (fmR ax))), (3, .im (.sl 1 (rowsI .i64 p))), (6, .im (dvP d)), (8, .ob 0 0), (10, .im (.sl 4 (fmR (ax ++ fu)))), (11, .os 1 4 0 k), (12, Iv k), (13, .ob 2 0)]) (fun _ => [(2, .var 116 (rrA (rF q0) (rP q0) (rE q0))), (1, .vec 40 4 (fmR s)), (0, .var 116 zR)]) (fun _ => True) ?_ fun _ _ => ?_
    · skip
      refine AP.drawE 13 (Tree.node [] [0, 1, 2, 3, 4, 5, 6, 7, 8] [9, 11] [Tree.node [0, 1, 2, 3, 4, 5, 6] [] [10, 11] [Tree.node [] [] [11] [Tree.node [] [] [12] [Tree.node [] [] [] []]], Tree.node [0, 1, 2, 3, 4, 5, 6] [] [10] [Tree.node [] [] [12] [Tree.node [] [] [] []]]], Tree.node [0, 1, 2, 3, 4, 5, 6, 7, 8] [] [9] [Tree.node [0, 1, 2, 3, 4, 5, 6] [] [10] [Tree.node [] [] [12] [Tree.node [] [] [] []]]]]) (by kernel_rfl) rfl (by kernel_rfl) (by kernel_rfl) ?_
      refine vd_node ?_
      refine sE (an @hrow0 @dvR_len) ?_
      refine And.intro (by omega) ?_
      repeat' (first | with_reducible exact True.intro | with_reducible refine And.intro (by omega) ?_ | with_reducible refine And.intro ?_ ?_ | (refine AQ.nx rfl ?_; refine sE (an @hrow0 @dvR_len) ?_) | ((with_reducible show AQ _ _ _ ({ dst := _, op := Op.call { callee := Callee.value (Operand.func 131), args := _, argTypes := _ }, type := _, pos := _, after := _, guard := _ } :: _) _ _ _); refine AQ.fn (by kernel_rfl) rfl rfl rfl (hd0) rfl ?_; refine sI ?_) | ((with_reducible show AQ _ _ _ ({ dst := _, op := Op.call { callee := Callee.value (Operand.func 60), args := _, argTypes := _ }, type := _, pos := _, after := _, guard := _ } :: _) _ _ _); refine AQ.fn (by kernel_rfl) rfl rfl rfl (hk0) rfl ?_; refine sI ?_) | refine AQ.done ?_ | (refine AQ.go (by kernel_rfl) ?_; refine sE (an @hrow0 @dvR_len) ?_; repeat (with_reducible refine And.intro (by omega) ?_); refine AQ.nx rfl ?_; refine sE (an @hrow0 @dvR_len) ?_))
      all_goals exact AE.meet () trivial (sU) rfl
    cases q0 with
    | bad p' e' =>
      have hnz0 : ¬ e' = 0 := hnz0
      have hm : Rs.bad p' e' = q := hm
      subst hm
      simp only [go_sem, Nat.reduceAdd, Nat.reduceLeDiff, Nat.reduceSub, Int.reduceToNat, reduceCtorEq, rF, rP, rE]
      refine gO ?_
      refine AP.cond rfl rfl (fun h => ?_) (fun h => ?_)
      · refine gO ?_
        exact AE.retD [2, 1, 0] rfl ⟨⟨rfl, Nat.le_of_ble_eq_true (by kernel_rfl)⟩, trivial⟩ rfl ⟨rfl, rfl⟩
      · exact absurd (by simpa using h) hnz0
    | ok a =>
      have ha := hw0 a rfl
      simp only [go_sem, Nat.reduceAdd, Nat.reduceLeDiff, Nat.reduceSub, Int.reduceToNat, reduceCtorEq, rF, rP, rE]
      repeat (first | refine xA ?_ | refine xB ?_ | refine xC ?_ | refine xE ?_ | refine xD ?_ | refine xK ?_ | refine xS ?_ | refine xM ?_ | refine xT ?_ | refine xF ?_ | ((first | refine xR ?_ | refine xW ?_ | refine vq_id ?_); simp only [go_sem, Nat.reduceAdd, Nat.reduceLeDiff, Nat.reduceSub, Int.reduceToNat, reduceCtorEq, Int.reduceBNe]) | (refine ⟨by first | omega | (intros; simp_all; done) | (intros; simp_all; omega), ?_⟩; try simp only [go_sem, Nat.reduceAdd, Nat.reduceLeDiff, Nat.reduceSub, Int.reduceToNat, reduceCtorEq, Int.reduceBNe]))
      refine AQ.append (hnb := rfl) (rows := fmR s) (es := 3) (by kernel_rfl) rfl rfl rfl (by rfl) Tryz.tk38 Tryz.sz40 (by show Option.map _ (zro Tryz.prog 40) = _; rw [Tryz.zr40]; rfl) Tryz.by40 (by first | rfl | (simp only [fmR_len, List.length_cons, List.length_nil]; done) | (simp only [fmR_len, List.length_cons, List.length_nil]; omega)) (by simp only [fmR_len, List.length_cons, List.length_nil]; omega) (by simp only [fmR_len, List.length_cons, List.length_nil]; omega) ?_
      refine gE @hw ?_
      refine AE.forgets [2] rfl ?_
      refine sI ?_
      refine AE.round (k + 1, s ++ [a]) ⟨by simp only; omega, by simp only [List.length_append, List.length_singleton]; omega, fun u hu2 => ?_, ?_⟩ (by simp only; omega) ?_ ?_
      · simp only [List.mem_append, List.mem_singleton] at hu2
        rcases hu2 with hu2 | hu2
        · exact hu u hu2
        · exact hu2 ▸ ha
      · simp only [hmm2]; exact hm
      · simp only [fmR_len, hl]
        exact (sU)
      · rw [fmR_add]
end Go.Proofs.YteacpafhmgdbkaaGreatDoor
end

section
namespace Go.Proofs.YteacpafhmgdbkaaGreatDoor
open Go Go.AL Go.RowKit
set_option maxRecDepth 10000
set_option maxHeartbeats 4000000
theorem conclR_spec (th ax : List Fm) (d : Dv) (p : List Int) (hS : dvS d) (hz : toD d ≤ 1000000) (hth : ∀ (k : Nat) (u : Fm), th[k]? = some u → unF u 0 = 0) (h1 : th.length ≤ 1000000) (hax : fmsS ax) (haz : ∀ (k : Nat) (u : Fm), ax[k]? = some u → szF u ≤ 1000000) (h2 : ax.length + szD d ≤ 1000000) (h3 : p.length + szD d ≤ 1000000) :
    PFn Tryz.prog 60 [.im (.sl 4 (fmR th)), .im (.sl 4 (fmR ax)), dvV d, .im (.sl 1 (rowsI .i64 p))] (rrV (ccF th d ax p)) := by
  have hS0 := dvS_eq.1 hS
  have hto := toD_eq d
  have hsz := szD_eq d
  have hln := szDs_len d.ks
  refine conclR_step th ax d p ⟨hS, by omega, by omega, hth, h1, by omega, by omega, hax, haz, by omega, fun i k fu hk hfl hfS hfz => ?_⟩
  have t1 := toDs_get hk
  have t2 := szDs_get hk
  rw [kidK_get hk]
  refine conclR_spec th (ax ++ fu) k (p ++ [(i : Int)]) (dvsS_get hS0.2.2.2.2 hk) (by omega) hth h1 (fmsS_append hax hfS) (fun j u hu => ?_) (by rw [List.length_append]; omega) (by rw [List.length_append, List.length_singleton]; omega)
  rcases Nat.lt_or_ge j ax.length with hj | hj
  · rw [List.getElem?_append_left hj] at hu; exact haz j u hu
  · rw [List.getElem?_append_right hj] at hu; exact hfz _ u hu
termination_by SizeOf.sizeOf d
decreasing_by exact dv_mem hk
theorem wellFs_app (b : List Fm) : ∀ a : List Fm, wellFs (a ++ b) = if wellFs a = 0 then wellFs b else wellFs a
  | [] => by rw [List.nil_append, wellFs, if_pos rfl]
  | f :: a => by
    rw [List.cons_append, wellFs, wellFs, wellFs_app b a]
    by_cases h : unF f 0 = 0
    · rw [if_pos h, if_pos h]
    · rw [if_neg h, if_neg h, if_neg h]
theorem wellFs_all : ∀ {l : List Fm} {k : Nat} {u : Fm}, wellFs l = 0 → l[k]? = some u → unF u 0 = 0
  | [], k, u, _, h => by simp at h
  | f :: l, k, u, hw, h => by
    rw [wellFs] at hw
    by_cases h0 : unF f 0 = 0
    · rw [if_pos h0] at hw
      cases k with
      | zero => simp at h; exact h ▸ h0
      | succ k => simp at h; exact wellFs_all hw h
    · rw [if_neg h0] at hw; exact absurd hw h0
def ckR (th ax : List Fm) (d : Dv) : Rs := if wellFs (th ++ ax) = 0 then (if 8000 < szD d ∨ 1000 < dpD d then .bad [] 4 else ccF th d ax []) else .bad [] (wellFs (th ++ ax))
abbrev rsV' (q : Rs) : AV := .tup [fmV (rF q), .im (.sl 1 (rowsI .i64 (rP q))), Iv (rE q)]
theorem rsV_eq (q : Rs) : rsV q = rsV' q := by cases q <;> rfl
theorem ckR_eq (th ax : List Fm) (d : Dv) (h1 : szD d ≤ 8000) (h2 : dpD d ≤ 1000) : ckC th ax d = ckR th ax d := by
  unfold ckC ckR
  rw [bgD_no d 1 0 (by omega) (by omega), if_neg (show ¬ ((false, (0 : Int) + szD d).1 = true) by simp), if_neg (show ¬ (8000 < szD d ∨ 1000 < dpD d) by omega)]
theorem conclR0_spec (th ax : List Fm) (d : Dv) (hS : dvS d) (hz : toD d ≤ 1000000) (hth : ∀ (k : Nat) (u : Fm), th[k]? = some u → unF u 0 = 0) (h1 : th.length ≤ 1000000) (hax : fmsS ax) (haz : ∀ (k : Nat) (u : Fm), ax[k]? = some u → szF u ≤ 1000000) (h2 : ax.length + szD d ≤ 1000000) :
    PFn Tryz.prog 60 [.im (.sl 4 (fmR th)), .im (.sl 4 (fmR ax)), dvV d, nilV] (rrV (ccF th d ax [])) :=
  PFn.argW (conclR_spec th ax d [] hS hz hth h1 hax haz h2 (by simp; omega)) fun w φ I vs hd => dens_last (fun u hu => nil_told 1 w φ I u hu) [.im (.sl 4 (fmR th)), .im (.sl 4 (fmR ax)), dvV d] [] vs hd
theorem bad_told (x z : AV) (w : World) (φ : Phi) (I : Nat → Prop) (v : Value) (hd : AV.den w φ I (.tup [x, nilV, z]) v) : AV.den w φ I (.tup [x, .im (.sl 1 []), z]) v := by
  obtain ⟨us, hv, h⟩ := hd
  exact ⟨us, dens_last (fun u hu => nil_told 1 w φ I u hu) [x] [z] us hv, h⟩
theorem checkR_spec (th ax : List Fm) (d : Dv) (hS : dvS d) (hz : toD d ≤ 1000000) (h1 : th.length ≤ 100000) (h2 : ax.length ≤ 100000) (hth : fmsS th) (hax : fmsS ax) (hzt : szFs th ≤ 1000000) (hza : szFs ax ≤ 1000000) (h3 : szD d ≤ 100000) :
    PFn Tryz.prog 14 [.im (.sl 4 (fmR th)), .im (.sl 4 (fmR ax)), dvV d] (rsV' (ckR th ax d)) := by
  obtain ⟨q, hq⟩ : ∃ q, ckR th ax d = q := ⟨_, rfl⟩
  rw [hq]
  unfold ckR at hq
  rw [wellFs_app] at hq
  refine ACall.told (R := fun r H' => H' = [] ∧ (r = rsV' q ∨ ∃ e, q = .bad [] e ∧ r = .tup [fmV fm0, nilV, Iv e])) ?_ ?_
  rotate_left
  · rintro r H' ⟨rfl, rfl | ⟨e, rfl, rfl⟩⟩
    · exact ⟨_, ⟨rfl, rfl⟩, fun _ _ _ _ h => h⟩
    · exact ⟨_, ⟨rfl, rfl⟩, fun w φ I v h => bad_told _ _ w φ I v h⟩
  have hsz := sizeR_spec d (by omega)
  refine ACall.walk [0, 1, 2, 5, 6, 7, 8, 9, 10, 11, 12, 13, 14, 15, 19, 28, 34, 43, 56] [6, 15] Tryz.func14 rfl Tryz.ntmps14 (by kernel_rfl) (by rfl) rfl fun W own I0 φ0 lay => ?_
  refine gO ?_
  refine AP.loop rfl (α := Nat) (fun k => [(0, .im (.sl 4 (fmR th))), (1, .im (.sl 4 (fmR ax))), (5, .im (dvP d)), (6, .ob 0 0), (9, Iv k)]) (fun _ => [(0, .var 40 zF)]) (fun k => k ≤ th.length ∧ wellFs th = wellFs (th.drop k)) (fun k => th.length - k) 0 ⟨by omega, rfl⟩ (sU) rfl fun k ⟨hk, hm⟩ => ?_
  rcases Nat.eq_or_lt_of_le hk with hke | hlt
  · rw [hke, List.drop_length, wellFs] at hm
    rw [hm, if_pos rfl] at hq
    refine gE @fmR_len ?_
    refine cF ?_
    refine gO ?_
    refine AP.loop rfl (α := Nat) (fun k => [(0, .im (.sl 4 (fmR th))), (1, .im (.sl 4 (fmR ax))), (5, .im (dvP d)), (6, .ob 0 0), (11, Iv k)]) (fun _ => [(0, .var 40 zF)]) (fun k => k ≤ ax.length ∧ wellFs ax = wellFs (ax.drop k)) (fun k => ax.length - k) 0 ⟨by omega, rfl⟩ (sU) rfl fun k ⟨hk, hm2⟩ => ?_
    rcases Nat.eq_or_lt_of_le hk with hke | hlt
    · rw [hke, List.drop_length, wellFs] at hm2
      rw [hm2, if_pos rfl] at hq
      refine gE @fmR_len ?_
      refine cF ?_
      refine gO ?_
      refine AQ.fn (by kernel_rfl) rfl rfl rfl (hsz) rfl ?_
      refine gO ?_
      refine AP.cond rfl rfl (fun h => ?_) (fun h => ?_)
      · have h : 8000 < szD d ∨ 1000 < dpD d := by simp only [Bool.or_eq_true, decide_eq_true_eq] at h; omega
        rw [if_pos h] at hq
        refine gO ?_
        refine AE.cellsW 0 fF rfl (cellsLe.cons (cellsLe.cons (cellsLe.nil (cellsLe.nil (cellsLe.refl _))))) ?_
        refine sI ?_
        exact AE.retD [0] rfl ⟨⟨rfl, Nat.le_of_ble_eq_true (by kernel_rfl)⟩, rfl, rfl, trivial⟩ rfl ⟨rfl, .inr ⟨4, hq.symm, rfl⟩⟩
      · have h : ¬ (8000 < szD d ∨ 1000 < dpD d) := by simp only [Bool.or_eq_false_iff, decide_eq_false_iff_not] at h; omega
        rw [if_neg h] at hq
        have hwa : wellFs (th ++ ax) = 0 := by rw [wellFs_app, hm, if_pos rfl, hm2]
        have hcon := conclR0_spec th ax d hS hz (fun k u hu => wellFs_all hm hu) (by omega) hax (fun k u hu => by have := szFs_get hu; omega) (by omega)
        rw [hq] at hcon
        refine gO ?_
        refine AQ.fn (by kernel_rfl) rfl rfl rfl (hcon) rfl ?_
        refine gO ?_
        refine AP.drawE 9 (Tree.node [] [0, 1, 2, 3, 4, 5] [6] [Tree.node [2, 3, 4, 5] [7, 8] [] []]) (by kernel_rfl) rfl (by kernel_rfl) (by kernel_rfl) ?_
        refine vd_node ?_
        refine sI ?_
        repeat' (first | with_reducible exact True.intro | with_reducible refine And.intro (by omega) ?_ | with_reducible refine And.intro ?_ ?_ | (refine AQ.nx rfl ?_; refine sI ?_) | (fail) | refine AQ.done ?_ | (refine AQ.go (by kernel_rfl) ?_; refine sI ?_; repeat (with_reducible refine And.intro (by omega) ?_); refine AQ.nx rfl ?_; refine sI ?_))
        all_goals refine gO ?_
        all_goals exact AE.retD [1, 0] rfl ⟨⟨rfl, Nat.le_of_ble_eq_true (by kernel_rfl)⟩, rfl, rfl, trivial⟩ rfl ⟨rfl, .inl rfl⟩
    · obtain ⟨u, hu, hrow⟩ := fmR_get ax k hlt
      rw [wellFs_drop ax k u hu] at hm2
      have hw := wr (x := (k : Int) + 1) (by omega)
      have hwu := wellR_spec u (fmsS_get hax hu) (by have := szFs_get hu; omega)
      refine gE @fmR_len ?_
      refine cT ?_
      refine gE (an @hrow @fmR_len) ?_
      refine AQ.fn (by kernel_rfl) rfl rfl rfl (hwu) rfl ?_
      refine gO ?_
      refine AP.cond rfl rfl (fun h5 => ?_) (fun h5 => ?_)
      · have h5 : ¬ unF u 0 = 0 := by simpa using h5
        rw [if_neg h5] at hm2
        rw [hm2, if_neg h5] at hq
        refine gO ?_
        refine AE.cellsW 0 fF rfl (cellsLe.cons (cellsLe.cons (cellsLe.nil (cellsLe.nil (cellsLe.refl _))))) ?_
        refine sI ?_
        exact AE.retD [0] rfl ⟨⟨rfl, Nat.le_of_ble_eq_true (by kernel_rfl)⟩, rfl, rfl, trivial⟩ rfl ⟨rfl, .inr ⟨_, hq.symm, rfl⟩⟩
      · have h5 : unF u 0 = 0 := by simpa using h5
        rw [if_pos h5] at hm2
        refine gE @hw ?_
        exact AE.round (k + 1) ⟨by omega, hm2⟩ (by omega) (sU) rfl
  · obtain ⟨u, hu, hrow⟩ := fmR_get th k hlt
    rw [wellFs_drop th k u hu] at hm
    have hw := wr (x := (k : Int) + 1) (by omega)
    have hwu := wellR_spec u (fmsS_get hth hu) (by have := szFs_get hu; omega)
    refine gE @fmR_len ?_
    refine cT ?_
    refine gE (an @hrow @fmR_len) ?_
    refine AQ.fn (by kernel_rfl) rfl rfl rfl (hwu) rfl ?_
    refine gO ?_
    refine AP.cond rfl rfl (fun h5 => ?_) (fun h5 => ?_)
    · have h5 : ¬ unF u 0 = 0 := by simpa using h5
      rw [if_neg h5] at hm
      simp only [hm, if_neg h5] at hq
      refine gO ?_
      refine AE.cellsW 0 fF rfl (cellsLe.cons (cellsLe.cons (cellsLe.nil (cellsLe.nil (cellsLe.refl _))))) ?_
      refine sI ?_
      exact AE.retD [0] rfl ⟨⟨rfl, Nat.le_of_ble_eq_true (by kernel_rfl)⟩, rfl, rfl, trivial⟩ rfl ⟨rfl, .inr ⟨_, hq.symm, rfl⟩⟩
    · have h5 : unF u 0 = 0 := by simpa using h5
      rw [if_pos h5] at hm
      refine gE @hw ?_
      exact AE.round (k + 1) ⟨by omega, hm⟩ (by omega) (sU) rfl
end Go.Proofs.YteacpafhmgdbkaaGreatDoor
end

section
namespace Go.Proofs.YteacpafhmgdbkaaGreatDoor
open Go Go.AL Go.RowKit
set_option maxRecDepth 10000
set_option maxHeartbeats 4000000
theorem equalI_self (p : List Int) (hl : p.length ≤ 1000000) : PFn Tryz.prog 21 [.im (.sl 1 (rowsI .i64 p)), .im (.sl 1 (rowsI .i64 p))] (Bv true) := by
  refine ACall.walk [0, 1, 4, 5, 10, 12, 13, 14, 24] [] Tryz.func21 rfl Tryz.ntmps21 (by kernel_rfl) (by rfl) rfl fun W own I0 φ0 lay => ?_
  refine gE @rowsI_len ?_
  refine AP.cond rfl rfl (fun h => ?_) (fun h => ?_)
  · simp at h
  refine gE @rowsI_len ?_
  refine AP.loop rfl (α := Nat) (fun k => [(0, .im (.sl 1 (rowsI .i64 p))), (1, .im (.sl 1 (rowsI .i64 p))), (12, Iv p.length), (13, Iv k)]) (fun _ => []) (fun k => k ≤ p.length) (fun k => p.length - k) 0 (by omega) (sU) rfl fun k hk => ?_
  rcases Nat.eq_or_lt_of_le hk with hke | hlt
  · refine gO ?_
    refine cF ?_
    refine gO ?_
    exact AE.ret0 rfl ⟨rfl, trivial⟩ rfl ⟨rfl, rfl⟩
  · have hw := wr (x := (k : Int) + 1) (by omega)
    have hrow : (rowsI .i64 p).getD k [] = [Ii (p.getD k 0)] := by
      rw [rowsI, List.getD_eq_getElem?_getD, List.getElem?_map, List.getElem?_eq_getElem hlt, List.getD_eq_getElem?_getD, List.getElem?_eq_getElem hlt]; rfl
    refine gO ?_
    refine cT ?_
    refine gE (an @hrow @rowsI_len) ?_
    refine AP.cond rfl rfl (fun h => ?_) (fun h => ?_)
    · simp at h
    refine gE @hw ?_
    exact AE.round (k + 1) (by omega) (by omega) (sU) rfl
end Go.Proofs.YteacpafhmgdbkaaGreatDoor
end

section
namespace Go.Proofs.YteacpafhmgdbkaaGreatDoor
open Go Go.AL Go.RowKit
set_option maxRecDepth 10000
set_option maxHeartbeats 4000000
mutual
theorem eqT_refl : ∀ t : Tm, eqT t t = true
  | .mk n i xs => by
    rw [eqT]
    have h : eqTs xs (Tm.mk n i xs).xs = true := eqTs_refl xs
    rw [h]; simp [Tm.nm, Tm.ix]
theorem eqTs_refl : ∀ l : List Tm, eqTs l l = true
  | [] => by rw [eqTs]
  | t :: l => by rw [eqTs, eqT_refl t, eqTs_refl l]; rfl
end
theorem all2_refl : ∀ l : List Tm, all2 eqT l l = true
  | [] => rfl
  | t :: l => by rw [all2, eqT_refl t, all2_refl l]; rfl
mutual
theorem eqF_refl : ∀ t : Fm, eqF t t = true
  | .mk k n ts ps => by
    rw [eqF]
    have h : eqFs ps (Fm.mk k n ts ps).ps = true := eqFs_refl ps
    have h2 : all2 eqT ts (Fm.mk k n ts ps).ts = true := all2_refl ts
    rw [h, h2]; simp [Fm.nm, Fm.k]
theorem eqFs_refl : ∀ l : List Fm, eqFs l l = true
  | [] => by rw [eqFs]
  | t :: l => by rw [eqFs, eqF_refl t, eqFs_refl l]; rfl
end
theorem szFs_app (b : List Fm) : ∀ a : List Fm, szFs (a ++ b) = szFs a + szFs b
  | [] => by rw [List.nil_append, szFs]; omega
  | f :: a => by rw [List.cons_append, szFs, szFs, szFs_app b a]; omega
theorem fm0_S : fmS fm0 := by simp only [fm0, fmS, tmsS, fmsS]; simp
theorem checks_walk (th ax : List Fm) (d : Dv) (h1 : th.length ≤ 10000000) (h2 : ax.length ≤ 10000000) (hth : fmsS th) (hax : fmsS ax) (hd : dvS d) :
    PFn Tryz.prog 3 [.im (.sl 4 (fmR th)), .im (.sl 4 (fmR ax)), dvV d] (Bv true) := by
  have hfew := few_spec th ax d (by omega) (fmsS_append hth hax) hd
  obtain ⟨b, hb⟩ : ∃ b, fewB (th ++ ax) d = b := ⟨_, rfl⟩
  rw [hb] at hfew
  cases b with
  | false =>
    refine ACall.walk [0, 1, 2, 5, 6, 7, 8, 9, 10, 11, 12, 13, 14, 15, 16, 21] [7, 10] Tryz.func3 rfl Tryz.ntmps3 (by kernel_rfl) (by rfl) rfl fun W own I0 φ0 lay => ?_
    refine gO ?_
    refine AQ.fn (by kernel_rfl) rfl rfl rfl (hfew) rfl ?_
    refine gO ?_
    refine AQ.fn (by kernel_rfl) rfl rfl rfl (awake_spec) rfl ?_
    refine gO ?_
    exact AE.ret0 rfl ⟨rfl, trivial⟩ rfl ⟨rfl, rfl⟩
  | true =>
    obtain ⟨z1, z2, z3⟩ := few_sz hb
    rw [szFs_app] at z1
    have zd := szD_to d
    have l1 := szFs_len th
    have l2 := szFs_len ax
    have hc := (check_walk th ax d hd hth hax (by omega) (by omega) (fun _ => by omega)).toA fun _ _ h => h
    have hr := checkR_spec th ax d hd (by omega) (by omega) (by omega) hth hax (by omega) (by omega) (by omega)
    rw [ckR_eq th ax d (by omega) (by omega)] at hc
    have hsh : shortP 100000 (ckR th ax d) := by
      unfold ckR
      split
      · split
        · simp [shortP]
        · have := ccF_short th ax d [] 100000 (by simp; omega)
          exact this
      · simp [shortP]
    have hwl : fmS (rF (ckR th ax d)) ∧ fmL (rF (ckR th ax d)) := by
      unfold ckR
      split
      · split
        · exact ⟨fm0_S, fmL_sz _ (by rw [rF, szF, szTs, szFs]; omega)⟩
        · cases hq : ccF th d ax [] with
          | ok g =>
            have := ccF_well hq
            exact ⟨un_S this, fmL_sz _ (by have := un_fit this; rw [rF]; omega)⟩
          | bad p e => exact ⟨fm0_S, fmL_sz _ (by rw [rF, szF, szTs, szFs]; omega)⟩
      · exact ⟨fm0_S, fmL_sz _ (by rw [rF, szF, szTs, szFs]; omega)⟩
    generalize ckR th ax d = q at *
    have hc : PFn Tryz.prog 13 [.im (.sl 4 (fmR th)), .im (.sl 4 (fmR ax)), dvV d] (rsV' q) := hc.mono fun r H' ⟨a, b⟩ => ⟨b, a.trans (rsV_eq q)⟩
    have hpl : (rP q).length ≤ 1000000 := by
      cases q with
      | ok g => simp [rP]
      | bad p e => have : p.length ≤ 100000 := hsh; rw [rP]; omega
    obtain ⟨g, hg⟩ : ∃ g, rF q = g := ⟨_, rfl⟩
    obtain ⟨p, hp⟩ : ∃ p, rP q = p := ⟨_, rfl⟩
    obtain ⟨e, he⟩ : ∃ e, rE q = e := ⟨_, rfl⟩
    rw [rsV', hg, hp, he] at hc hr
    rw [hg] at hwl
    rw [hp] at hpl
    have c1 := formulas_conv th (by omega) (fmsL_sz th (by omega))
    have c2 := formulas_conv ax (by omega) (fmsL_sz ax (by omega))
    have c3 := derivation_conv d (dvL_sz d (by omega))
    have c4 := formula_conv g hwl.2
    have c5 := sameR_spec g g hwl.1
    rw [eqF_refl] at c5
    have s1 := size_spec d (by omega)
    have s2 := sizeR_spec d (by omega)
    have hq := equalI_self p hpl
    clear hsh hg hp he
    refine ACall.walk [0, 1, 2, 5, 6, 7, 8, 9, 10, 11, 12, 13, 14, 15, 16, 21] [7, 10] Tryz.func3 rfl Tryz.ntmps3 (by kernel_rfl) (by rfl) rfl fun W own I0 φ0 lay => ?_
    refine gO ?_
    refine AQ.fn (by kernel_rfl) rfl rfl rfl (hfew) rfl ?_
    refine gO ?_
    refine AQ.fn (by kernel_rfl) rfl rfl rfl (hc) rfl ?_
    refine gO ?_
    refine AP.cut (α := Unit) (fun _ => [(5, .im (dvP d)), (6, Bv false), (7, .ob 0 0), (8, .im (.sl 1 (rowsI .i64 p))), (9, Iv e), (10, .ob 1 0), (11, .im (.sl 1 (rowsI .i64 p))), (12, Iv e)]) (fun _ => [(1, .var 40 [Iv g.k, Sv g.nm, .im (.sl 3 (tmR g.ts)), .im (.sl 4 (fmR g.ps))]), (0, .var 27 [Iv g.k, Sv g.nm, .im (.sl 3 (tmR g.ts)), .im (.sl 4 (fmR g.ps))])]) (fun _ => True) ?_ fun _ _ => ?_
    · skip
      refine AP.drawE 15 (Tree.node [] [0, 2, 4] [1, 11] [Tree.node [2, 4] [] [3, 11] [Tree.node [4] [] [5, 11] [Tree.node [] [] [6, 11] [Tree.node [] [7, 8, 9, 10] [11] [Tree.node [7, 8, 9, 10] [] [12] [Tree.node [9, 10] [13, 14] [] []]], Tree.node [] [] [6] [Tree.node [] [7, 8, 9, 10] [12] [Tree.node [9, 10] [13, 14] [] []]]], Tree.node [4] [] [5] [Tree.node [] [] [6] [Tree.node [] [7, 8, 9, 10] [12] [Tree.node [9, 10] [13, 14] [] []]]]], Tree.node [2, 4] [] [3] [Tree.node [4] [] [5] [Tree.node [] [] [6] [Tree.node [] [7, 8, 9, 10] [12] [Tree.node [9, 10] [13, 14] [] []]]]]], Tree.node [0, 2, 4] [] [1] [Tree.node [2, 4] [] [3] [Tree.node [4] [] [5] [Tree.node [] [] [6] [Tree.node [] [7, 8, 9, 10] [12] [Tree.node [9, 10] [13, 14] [] []]]]]]]) (by kernel_rfl) rfl (by kernel_rfl) (by kernel_rfl) ?_
      refine vd_node ?_
      refine sI ?_
      repeat' (first | with_reducible exact True.intro | with_reducible refine And.intro (by omega) ?_ | with_reducible refine And.intro ?_ ?_ | (refine AQ.nx rfl ?_; refine sI ?_) | ((with_reducible show AQ _ _ _ ({ dst := _, op := Op.call { callee := Callee.value (Operand.func 15), args := _, argTypes := _ }, type := _, pos := _, after := _, guard := _ } :: _) _ _ _); first | (refine AQ.fn (by kernel_rfl) rfl rfl rfl (c1) rfl ?_; refine sI ?_) | (refine AQ.fn (by kernel_rfl) rfl rfl rfl (c2) rfl ?_; refine sI ?_)) | ((with_reducible show AQ _ _ _ ({ dst := _, op := Op.call { callee := Callee.value (Operand.func 16), args := _, argTypes := _ }, type := _, pos := _, after := _, guard := _ } :: _) _ _ _); refine AQ.fn (by kernel_rfl) rfl rfl rfl (c3) rfl ?_; refine sI ?_) | ((with_reducible show AQ _ _ _ ({ dst := _, op := Op.call { callee := Callee.value (Operand.func 14), args := _, argTypes := _ }, type := _, pos := _, after := _, guard := _ } :: _) _ _ _); refine AQ.fn (by kernel_rfl) rfl rfl rfl (hr) rfl ?_; refine sI ?_) | refine AQ.done ?_ | (refine AQ.go (by kernel_rfl) ?_; refine sI ?_; repeat (with_reducible refine And.intro (by omega) ?_); refine AQ.nx rfl ?_; refine sI ?_))
      all_goals exact AE.meet () trivial (sU) rfl
    refine gO ?_
    refine AQ.fn (by kernel_rfl) rfl rfl rfl (s1) rfl ?_
    refine gO ?_
    refine AQ.fn (by kernel_rfl) rfl rfl rfl (c3) rfl ?_
    refine gO ?_
    refine AQ.fn (by kernel_rfl) rfl rfl rfl (s2) rfl ?_
    refine gO ?_
    refine AP.drawE 28 (Tree.node [] [0, 2] [1] [Tree.node [2] [] [3] [Tree.node [] [4, 5, 6] [7] [Tree.node [] [8, 9, 10, 11, 12, 13, 14, 15, 16, 17, 18, 19, 20, 21, 22, 23, 24] [25] [Tree.node [] [26, 27] [] []]]]]) (by kernel_rfl) rfl (by kernel_rfl) (by kernel_rfl) ?_
    refine vd_node ?_
    refine sI ?_
    refine AQ.fn (by kernel_rfl) rfl rfl rfl (c4) rfl ?_
    refine sI ?_
    refine AQ.nx rfl ?_
    refine sI ?_
    refine AQ.fn (by kernel_rfl) rfl rfl rfl (c5) rfl ?_
    refine sI ?_
    refine AQ.nx rfl ?_
    refine sI ?_
    refine AQ.guard_yes (by simp only [go_sem]) ?_
    refine AQ.fn (by kernel_rfl) rfl rfl rfl (hq) rfl ?_
    refine sI ?_
    refine AQ.nx rfl ?_
    refine sE (an @beq_self_eq_true.{0} (an @Bool.true_and @Bool.and_true)) ?_
    refine AQ.guard_yes (by simp only [go_sem]) ?_
    refine AQ.fn (by kernel_rfl) rfl rfl rfl (awake_spec) rfl ?_
    refine sI ?_
    refine AQ.nx rfl ?_
    refine sE (an @beq_self_eq_true.{0} (an @Bool.true_and @Bool.and_true)) ?_
    refine AQ.done ?_
    refine gO ?_
    exact AE.retD [1, 0] rfl ⟨rfl, trivial⟩ rfl ⟨rfl, rfl⟩
end Go.Proofs.YteacpafhmgdbkaaGreatDoor
end

section
namespace Go.Proofs.YteacpafhmgdbkaaGreatDoor
open Go Go.AL Go.RowKit
set_option maxRecDepth 100000
theorem typed_slice2 {P : Program} {n : Nat} {t e : TypeId} {xs : List IV} (ht : P.underlying t = some (.slice e)) (h : Typed P n t xs) : ∃ rows m, n = m + 1 ∧ xs = [.sl (P.cellsOf e) rows] ∧ rows.length ≤ maxLen ∧ ∀ r ∈ rows, Typed P m e r := by
  cases n with
  | zero => exact h.elim
  | succ n =>
    simp only [Typed, ht] at h
    obtain ⟨rows, h1, h2, h3⟩ := h
    exact ⟨rows, n, rfl, h1, h2, h3⟩
theorem typed_struct2 {P : Program} {n : Nat} {t : TypeId} {fs : Array Field} {xs : List IV} (ht : P.underlying t = some (.struct fs)) (h : Typed P n t xs) :
    ∃ m, n = m + 1 ∧ xs.length = P.cellsOf t ∧ ∀ (i : Nat) (f : Field), fs.toList[i]? = some f → Typed P m f.type ((xs.drop f.offset).take (P.cellsOf f.type)) := by
  cases n with
  | zero => exact h.elim
  | succ n =>
    simp only [Typed, ht] at h
    exact ⟨n, rfl, h⟩
theorem str_of {n : Nat} {xs : List IV} (h : Typed Tryz.prog n 9 xs) : ∃ l : List UInt8, xs = [Si l] ∧ l.length ≤ 9223372036854775807 := by
  obtain ⟨s, rfl, hs⟩ := typed_str Tryz.underlying9 h
  refine ⟨s.data.toList, congrArg (fun x => [IV.v (Value.string x)]) (BA_of s), ?_⟩
  have e : s.size = s.data.size := rfl
  have e2 : s.data.toList.length = s.data.size := Array.length_toList
  unfold maxLen at hs
  omega
theorem tmsS_of : ∀ {l : List Tm}, (∀ t ∈ l, tmS t) → tmsS l
  | [], _ => by rw [tmsS]; trivial
  | t :: l, h => by rw [tmsS]; exact ⟨h t (List.mem_cons_self ..), tmsS_of fun u hu => h u (List.mem_cons_of_mem _ hu)⟩
theorem fmsS_of : ∀ {l : List Fm}, (∀ t ∈ l, fmS t) → fmsS l
  | [], _ => by rw [fmsS]; trivial
  | t :: l, h => by rw [fmsS]; exact ⟨h t (List.mem_cons_self ..), fmsS_of fun u hu => h u (List.mem_cons_of_mem _ hu)⟩
theorem dvsS_of : ∀ {l : List Dv}, (∀ t ∈ l, dvS t) → dvsS l
  | [], _ => by rw [dvsS]; trivial
  | t :: l, h => by rw [dvsS]; exact ⟨h t (List.mem_cons_self ..), dvsS_of fun u hu => h u (List.mem_cons_of_mem _ hu)⟩
theorem tm_of : ∀ (n : Nat) {xs : List IV}, Typed Tryz.prog n 25 xs → ∃ t : Tm, xs = tmC t ∧ tmS t := by
  intro n
  induction n using Nat.strongRecOn with
  | _ n ih =>
  intro xs h
  have hc : Tryz.prog.cellsOf 25 = 3 := by kernel_rfl
  have hc9 : Tryz.prog.cellsOf 9 = 1 := by kernel_rfl
  have hc3 : Tryz.prog.cellsOf 3 = 1 := by kernel_rfl
  have hc23 : Tryz.prog.cellsOf 23 = 1 := by kernel_rfl
  obtain ⟨m, rfl, hlen, hf⟩ := typed_struct2 Tryz.underlying25 h
  rw [hc] at hlen
  match xs, hlen with
  | [a, b, c], _ =>
    have f0 := hf 0 _ rfl
    have f1 := hf 1 _ rfl
    have f2 := hf 2 _ rfl
    simp only [hc9, hc3, hc23, List.drop_zero, List.take_succ_cons, List.take_zero, List.drop_succ_cons] at f0 f1 f2
    obtain ⟨nm, e0, l0⟩ := str_of f0
    obtain ⟨ix, e1, _⟩ := typed_int Tryz.underlying3 f1
    obtain ⟨rows, m', rfl, e2, hl, hrow⟩ := typed_slice2 Tryz.underlying23 f2
    obtain ⟨l, rfl, hp⟩ := rows_of (p := tmS) (f := tmC) rows fun r hr => ih m' (by omega) (hrow r hr)
    cases e0; cases e1; cases e2
    rw [List.length_map] at hl
    unfold maxLen at hl
    exact ⟨.mk nm ix l, by rw [tmC, tmR_map, hc], by rw [tmS]; exact ⟨l0, by omega, tmsS_of hp⟩⟩
theorem tms_of (n : Nat) {xs : List IV} (h : Typed Tryz.prog n 23 xs) : ∃ l : List Tm, xs = [.sl 3 (tmR l)] ∧ l.length ≤ 9223372036854775807 ∧ tmsS l := by
  have hc : Tryz.prog.cellsOf 25 = 3 := by kernel_rfl
  obtain ⟨rows, m', rfl, rfl, hl, hrow⟩ := typed_slice2 Tryz.underlying23 h
  obtain ⟨l, rfl, hp⟩ := rows_of (p := tmS) (f := tmC) rows fun r hr => tm_of m' (hrow r hr)
  rw [List.length_map] at hl
  unfold maxLen at hl
  exact ⟨l, by rw [tmR_map, hc], by omega, tmsS_of hp⟩
theorem fm_of : ∀ (n : Nat) {xs : List IV}, Typed Tryz.prog n 27 xs → ∃ t : Fm, xs = fmC t ∧ fmS t := by
  intro n
  induction n using Nat.strongRecOn with
  | _ n ih =>
  intro xs h
  have hc : Tryz.prog.cellsOf 27 = 4 := by kernel_rfl
  have hc9 : Tryz.prog.cellsOf 9 = 1 := by kernel_rfl
  have hc3 : Tryz.prog.cellsOf 3 = 1 := by kernel_rfl
  have hc23 : Tryz.prog.cellsOf 23 = 1 := by kernel_rfl
  have hc22 : Tryz.prog.cellsOf 22 = 1 := by kernel_rfl
  obtain ⟨m, rfl, hlen, hf⟩ := typed_struct2 Tryz.underlying27 h
  rw [hc] at hlen
  match xs, hlen with
  | [a, b, c, d], _ =>
    have f0 := hf 0 _ rfl
    have f1 := hf 1 _ rfl
    have f2 := hf 2 _ rfl
    have f3 := hf 3 _ rfl
    simp only [hc9, hc3, hc23, hc22, List.drop_zero, List.take_succ_cons, List.take_zero, List.drop_succ_cons] at f0 f1 f2 f3
    obtain ⟨k, e0, _⟩ := typed_int Tryz.underlying3 f0
    obtain ⟨nm, e1, l1⟩ := str_of f1
    obtain ⟨ts, e2, l2, p2⟩ := tms_of m f2
    obtain ⟨rows, m', rfl, e3, hl, hrow⟩ := typed_slice2 Tryz.underlying22 f3
    obtain ⟨l, rfl, hp⟩ := rows_of (p := fmS) (f := fmC) rows fun r hr => ih m' (by omega) (hrow r hr)
    cases e0; cases e1; cases e2; cases e3
    rw [List.length_map] at hl
    unfold maxLen at hl
    exact ⟨.mk k nm ts l, by rw [fmC, fmR_map, hc], by rw [fmS]; exact ⟨l1, l2, p2, by omega, fmsS_of hp⟩⟩
theorem fms_of (n : Nat) {xs : List IV} (h : Typed Tryz.prog n 22 xs) : ∃ l : List Fm, xs = [.sl 4 (fmR l)] ∧ l.length ≤ 9223372036854775807 ∧ fmsS l := by
  have hc : Tryz.prog.cellsOf 27 = 4 := by kernel_rfl
  obtain ⟨rows, m', rfl, rfl, hl, hrow⟩ := typed_slice2 Tryz.underlying22 h
  obtain ⟨l, rfl, hp⟩ := rows_of (p := fmS) (f := fmC) rows fun r hr => fm_of m' (hrow r hr)
  rw [List.length_map] at hl
  unfold maxLen at hl
  exact ⟨l, by rw [fmR_map, hc], by omega, fmsS_of hp⟩
theorem dv_of : ∀ (n : Nat) {xs : List IV}, Typed Tryz.prog n 30 xs → ∃ t : Dv, xs = dvC t ∧ dvS t := by
  intro n
  induction n using Nat.strongRecOn with
  | _ n ih =>
  intro xs h
  have hc : Tryz.prog.cellsOf 30 = 11 := by kernel_rfl
  have hc9 : Tryz.prog.cellsOf 9 = 1 := by kernel_rfl
  have hc3 : Tryz.prog.cellsOf 3 = 1 := by kernel_rfl
  have hc25 : Tryz.prog.cellsOf 25 = 3 := by kernel_rfl
  have hc27 : Tryz.prog.cellsOf 27 = 4 := by kernel_rfl
  have hc28 : Tryz.prog.cellsOf 28 = 1 := by kernel_rfl
  obtain ⟨m, rfl, hlen, hf⟩ := typed_struct2 Tryz.underlying30 h
  rw [hc] at hlen
  match xs, hlen with
  | [a, b, c, d, e, f, g, i, j, k, o], _ =>
    have f0 := hf 0 _ rfl
    have f1 := hf 1 _ rfl
    have f2 := hf 2 _ rfl
    have f3 := hf 3 _ rfl
    have f4 := hf 4 _ rfl
    have f5 := hf 5 _ rfl
    simp only [hc9, hc3, hc25, hc27, hc28, List.drop_zero, List.take_succ_cons, List.take_zero, List.drop_succ_cons] at f0 f1 f2 f3 f4 f5
    obtain ⟨r, e0, _⟩ := typed_int Tryz.underlying3 f0
    obtain ⟨ix, e1, w1⟩ := typed_int Tryz.underlying3 f1
    obtain ⟨nm, e2, l2⟩ := str_of f2
    obtain ⟨t, e3, p3⟩ := tm_of m f3
    obtain ⟨F, e4, p4⟩ := fm_of m f4
    obtain ⟨rows, m', rfl, e5, hl, hrow⟩ := typed_slice2 Tryz.underlying28 f5
    obtain ⟨l, rfl, hp⟩ := rows_of (p := dvS) (f := dvC) rows fun r hr => ih m' (by omega) (hrow r hr)
    rw [tmC_eq] at e3
    rw [fmC_eq] at e4
    cases e0; cases e1; cases e2; cases e3; cases e4; cases e5
    rw [List.length_map] at hl
    unfold maxLen at hl
    simp [Lit.wf, IntKind.min, IntKind.max, IntKind.bits, IntKind.signed] at w1
    exact ⟨.mk r ix nm t F l, by rw [dvC, dvR_map, hc], by rw [dvS]; exact ⟨⟨l2, by omega, by omega⟩, p3, p4, by omega, dvsS_of hp⟩⟩
end Go.Proofs.YteacpafhmgdbkaaGreatDoor
end

section
namespace Go.Proofs.YteacpafhmgdbkaaGreatDoor
open Go Go.AL Go.RowKit
set_option maxRecDepth 100000
theorem fmR_bulk : ∀ l : List Fm, l.length ≤ IV.ivbss (fmR l)
  | [] => by simp
  | f :: l => by
    have := fmR_bulk l
    rw [fmR, fmC_eq, List.length_cons]
    simp only [IV.ivbss, IV.ivbs, IV.ivb]
    omega
theorem gPow : Tryz.prog.globalNamed "internal/strconv.uint64pow10" = some 3 := by kernel_rfl
theorem gSyn : Tryz.prog.globalNamed "strconv.ErrSyntax" = none := by kernel_rfl
theorem gRng : Tryz.prog.globalNamed "strconv.ErrRange" = none := by kernel_rfl
theorem gPowT : (Tryz.prog.globals[3]?).map (·.type) = some 310 := by kernel_rfl
theorem var_cells {P : Program} {W : World} {n : String} {g : Nat} {cs : Array Value} (hg : P.globalNamed n = some g) (h : W.var? P n = some cs) : g < W.heap.size ∧ ∃ T fz, W.heap[g]? = some (.cells cs T fz) := by
  unfold World.var? at h
  rw [hg, Option.bind_some] at h
  split at h
  · rename_i cs' T fz hh
    cases h
    refine ⟨?_, T, fz, hh⟩
    rcases Nat.lt_or_ge g W.heap.size with h' | h'
    · exact h'
    · rw [Array.getElem?_eq_none h'] at hh; cases hh
  · cases h
theorem vk_of {W : World} (h : laidMet Tryz.prog [("math/bits.deBruijn32tab", Rows.laid_math_bits_deBruijn32tab), ("math/bits.deBruijn64tab", Rows.laid_math_bits_deBruijn64tab), ("internal/strconv.uint64pow10", Rows.laid_internal_strconv_uint64pow10)] W) :
    VK Tryz.prog W (fun g => g < W.heap.size) := by
  have h3 := h.tail.tail
  intro x hx g hg
  simp only [laidVars, List.mem_cons, List.not_mem_nil, or_false] at hx
  rcases hx with rfl | rfl | rfl
  · rw [gSyn] at hg; cases hg
  · rw [gRng] at hg; cases hg
  · have ht : Lib.TabIs Tryz.prog W "internal/strconv.uint64pow10" .u64 Lib.pow10Tab := Lib.tabIs_of_head (rest := _) gPow gPowT Tryz.underlying310 Tryz.underlying278 (by kernel_rfl) (by kernel_rfl) h3
    obtain ⟨h1, T, fz, h2⟩ := var_cells hg ht
    exact ⟨h1, _, h2, T, fz, rfl⟩
def litCells (d : DataW Unit) : Array Value := match d with
  | .agg l => (l.map fun x => match x with
    | .lit (.int k z) => Value.int k z
    | _ => .nilIface).toArray
  | _ => #[]
def putCells (cs : Array Value) : Obj → Obj
  | .cells _ t frozen => .cells cs t frozen
  | o => o
noncomputable def laidWorld (os : Os) : World :=
  let w0 := World.holding Tryz.prog os ⟨#[], #[], []⟩
  { w0 with heap := ((w0.heap.modify 3 (putCells (litCells Rows.laid_internal_strconv_uint64pow10))).modify 4 (putCells (litCells Rows.laid_math_bits_deBruijn32tab))).modify 5 (putCells (litCells Rows.laid_math_bits_deBruijn64tab)) }
end Go.Proofs.YteacpafhmgdbkaaGreatDoor
end
