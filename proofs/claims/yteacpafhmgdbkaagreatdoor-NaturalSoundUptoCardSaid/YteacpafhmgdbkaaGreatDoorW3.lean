import Derived.Test.YteacpafhmgdbkaaGreatDoorW2
set_option linter.unusedSimpArgs false
set_option linter.unusedVariables false
set_option linter.unnecessarySimpa false
section
namespace Go.Proofs.YteacpafhmgdbkaaGreatDoor
open Go Go.AL Go.RowKit
set_option maxRecDepth 10000
set_option maxHeartbeats 4000000
theorem hoF_ok {f : Fm} {at' : List Nm} (h : (hoF f at').2 = 0) : unF f 0 = 0 ∧ plF f = true := by
  unfold hoF at h
  by_cases hu : unF f 0 = 0
  · rw [if_pos hu] at h
    refine ⟨hu, ?_⟩
    cases hp : plF f with
    | true => rfl
    | false => rw [hp] at h; simp at h
  · rw [if_neg hu] at h; exact absurd h hu
theorem plF_conn {k : Int} {x y : Fm} (hk : k = 4 ∨ k = 5 ∨ k = 6) : plF (conn k [x, y]) = (plF x && plF y) := plF_two (f := conn k [x, y]) hk rfl
theorem trF_conn {at' : List Nm} {k : Int} {x y : Fm} (hk : k = 4 ∨ k = 5 ∨ k = 6) : trF at' (conn k [x, y]) = conB k (trF at' x) (trF at' y) := trF_two (f := conn k [x, y]) hk rfl
def sndR (at' : List Nm) (T : Prop) : Rs → Prop
  | .ok g => plF g = true ∧ (T → trF at' g = true)
  | .bad _ _ => True
def allP (l : List Fm) : Prop := ∀ g ∈ l, plF g = true
def allT (at' : List Nm) (l : List Fm) : Prop := ∀ g ∈ l, trF at' g = true
theorem sndR.chk {at' : List Nm} {T : Prop} {b : Bool} {p : List Int} {e : Int} {r : Rs} (h : b = true → sndR at' T r) : sndR at' T (chk b p e r) := by
  cases b
  · trivial
  · exact h rfl
theorem sndR.bind {at' : List Nm} {T T2 : Prop} {r : Rs} {k : Fm → Rs} (hr : sndR at' T r) (hk : ∀ g, r = .ok g → plF g = true → (T → trF at' g = true) → sndR at' T2 (k g)) : sndR at' T2 (r.bind k) := by
  cases r with
  | ok g => exact hk g rfl hr.1 hr.2
  | bad p e => trivial
theorem getD_mem {l : List Fm} {i : Nat} (h : i < l.length) : l.getD i (.mk 0 [] [] []) ∈ l := by
  rw [List.getD_eq_getElem?_getD, List.getElem?_eq_getElem h]
  exact List.getElem_mem h
theorem part0 {f x y : Fm} (h : f.ps = [x, y]) : part f 0 = x := by rw [part, h]; rfl
theorem part1 {f x y : Fm} (h : f.ps = [x, y]) : part f 1 = y := by rw [part, h]; rfl
theorem ruleK_snd {at' : List Nm} {th ax : List Fm} {r ix : Int} {nm : List UInt8} {t : Tm} {f : Fm} {K : List KF} {p : List Int} (hr : 1 ≤ r ∧ r ≤ 12) (hf : usesF r = true → plF f = true)
    (hth : allP th) (hax : allP ax) (hw : ∀ i fu g, kidK K ax p i fu = .ok g → unF g 0 = 0)
    (hK : ∀ i fu, allP fu → sndR at' (allT at' th ∧ allT at' ax ∧ allT at' fu) (kidK K ax p i fu)) : sndR at' (allT at' th ∧ allT at' ax) (ruleK th ax r ix nm t f K p) := by
  have hnil : allP [] := fun _ h => by cases h
  have hK0 : ∀ i, sndR at' (allT at' th ∧ allT at' ax) (kidK K ax p i []) := fun i => by
    have := hK i [] hnil
    cases hq : kidK K ax p i [] with
    | ok g => rw [hq] at this; exact ⟨this.1, fun hT => this.2 ⟨hT.1, hT.2, fun _ h => by cases h⟩⟩
    | bad _ _ => trivial
  unfold ruleK
  by_cases h1 : r = 1
  · rw [if_pos h1]
    refine sndR.chk fun hb => ?_
    simp only [Bool.and_eq_true, decide_eq_true_eq] at hb
    have hm : ax.getD ((ax.length : Int) - 1 - ix).toNat (.mk 0 [] [] []) ∈ ax := getD_mem (by omega)
    exact ⟨hax _ hm, fun hT => hT.2 _ hm⟩
  rw [if_neg h1]
  by_cases h2 : r = 2
  · rw [if_pos h2]
    refine sndR.chk fun hb => ?_
    simp only [Bool.and_eq_true, decide_eq_true_eq] at hb
    have hm : th.getD ix.toNat (.mk 0 [] [] []) ∈ th := getD_mem (by omega)
    exact ⟨hth _ hm, fun hT => hT.1 _ hm⟩
  rw [if_neg h2]
  by_cases h3 : r = 3
  · rw [if_pos h3]
    have hpf : plF f = true := hf (by rw [usesF_eq]; simp [h3])
    refine (hK 0 [f] fun g hg => by simp at hg; exact hg ▸ hpf).bind fun a _ ha hT => ?_
    refine ⟨by rw [plF_conn (.inl rfl), hpf, ha]; rfl, fun hA => ?_⟩
    rw [trF_conn (.inl rfl)]
    cases hff : trF at' f with
    | false => rfl
    | true => rw [hT ⟨hA.1, hA.2, fun g hg => by simp at hg; exact hg ▸ hff⟩]; rfl
  rw [if_neg h3]
  by_cases h4 : r = 4
  · rw [if_pos h4]
    refine (hK0 0).bind fun g hg pg tg => (hK0 1).bind fun a ha pa ta => sndR.chk fun hb => ?_
    simp only [Bool.and_eq_true, beq_iff_eq] at hb
    obtain ⟨x, y, hp, hx, hy⟩ := un_two (hw _ _ _ hg) (.inl hb.1)
    rw [part0 hp] at hb
    have hxa := eqF_same x a hb.2
    rw [plF_two (.inl hb.1) hp] at pg
    simp only [Bool.and_eq_true] at pg
    rw [part1 hp]
    refine ⟨pg.2, fun hA => ?_⟩
    have h1 := tg hA
    have h2 := ta hA
    rw [trF_two (.inl hb.1) hp, hb.1, hxa, h2] at h1
    simpa [conB] using h1
  rw [if_neg h4]
  by_cases h5 : r = 5
  · rw [if_pos h5]
    refine (hK0 0).bind fun a _ pa ta => (hK0 1).bind fun b _ pb tb => ?_
    refine ⟨by rw [plF_conn (.inr (.inl rfl)), pa, pb]; rfl, fun hA => ?_⟩
    rw [trF_conn (.inr (.inl rfl)), ta hA, tb hA]; rfl
  rw [if_neg h5]
  by_cases h6 : r = 6
  · rw [if_pos h6]
    refine (hK0 0).bind fun g hg pg tg => sndR.chk fun hb => ?_
    have hb : g.k = 5 := by simpa using hb
    obtain ⟨x, y, hp, hx, hy⟩ := un_two (hw _ _ _ hg) (.inr (.inl hb))
    rw [plF_two (.inr (.inl hb)) hp] at pg
    simp only [Bool.and_eq_true] at pg
    rw [part0 hp]
    refine ⟨pg.1, fun hA => ?_⟩
    have h1 := tg hA
    rw [trF_two (.inr (.inl hb)) hp, hb] at h1
    simp [conB] at h1; exact h1.1
  rw [if_neg h6]
  by_cases h7 : r = 7
  · rw [if_pos h7]
    refine (hK0 0).bind fun g hg pg tg => sndR.chk fun hb => ?_
    have hb : g.k = 5 := by simpa using hb
    obtain ⟨x, y, hp, hx, hy⟩ := un_two (hw _ _ _ hg) (.inr (.inl hb))
    rw [plF_two (.inr (.inl hb)) hp] at pg
    simp only [Bool.and_eq_true] at pg
    rw [part1 hp]
    refine ⟨pg.2, fun hA => ?_⟩
    have h1 := tg hA
    rw [trF_two (.inr (.inl hb)) hp, hb] at h1
    simp [conB] at h1; exact h1.2
  rw [if_neg h7]
  by_cases h8 : r = 8
  · rw [if_pos h8]
    have hpf : plF f = true := hf (by rw [usesF_eq]; simp [h8])
    refine (hK0 0).bind fun a _ pa ta => ?_
    refine ⟨by rw [plF_conn (.inr (.inr rfl)), pa, hpf]; rfl, fun hA => ?_⟩
    rw [trF_conn (.inr (.inr rfl)), ta hA]; simp [conB]
  rw [if_neg h8]
  by_cases h9 : r = 9
  · rw [if_pos h9]
    have hpf : plF f = true := hf (by rw [usesF_eq]; simp [h9])
    refine (hK0 0).bind fun a _ pa ta => ?_
    refine ⟨by rw [plF_conn (.inr (.inr rfl)), pa, hpf]; rfl, fun hA => ?_⟩
    rw [trF_conn (.inr (.inr rfl)), ta hA]; simp [conB]
  rw [if_neg h9]
  by_cases h10 : r = 10
  · rw [if_pos h10]
    refine (hK0 0).bind fun g hg pg tg => sndR.chk fun hb => ?_
    have hb : g.k = 6 := by simpa using hb
    obtain ⟨x, y, hp, hx, hy⟩ := un_two (hw _ _ _ hg) (.inr (.inr hb))
    rw [plF_two (.inr (.inr hb)) hp] at pg
    simp only [Bool.and_eq_true] at pg
    rw [part0 hp, part1 hp]
    refine (hK 1 [x] fun z hz => by simp at hz; exact hz ▸ pg.1).bind fun a _ pa ta => (hK 2 [y] fun z hz => by simp at hz; exact hz ▸ pg.2).bind fun b _ pb tb => sndR.chk fun hab => ?_
    have hab := eqF_same a b hab
    refine ⟨pa, fun hA => ?_⟩
    have h1 := tg hA
    rw [trF_two (.inr (.inr hb)) hp, hb] at h1
    simp [conB] at h1
    rcases h1 with h1 | h1
    · exact ta ⟨hA.1, hA.2, fun z hz => by simp at hz; exact hz ▸ h1⟩
    · rw [hab]; exact tb ⟨hA.1, hA.2, fun z hz => by simp at hz; exact hz ▸ h1⟩
  rw [if_neg h10]
  have no3 : ∀ {g : Fm}, (g.k == 3) = true → trF at' g = true → False := fun {g} hb ht => by
    have hb : g.k = 3 := by simpa using hb
    rw [trF_eq, if_neg (by omega), if_neg (by omega)] at ht
    cases ht
  by_cases h11 : r = 11
  · rw [if_pos h11]
    have hpf : plF f = true := hf (by rw [usesF_eq]; simp [h11])
    refine (hK0 0).bind fun g hg pg tg => sndR.chk fun hb => ?_
    exact ⟨hpf, fun hA => (no3 hb (tg hA)).elim⟩
  rw [if_neg h11]
  have h12 : r = 12 := by omega
  rw [if_pos h12]
  have hpf : plF f = true := hf (by rw [usesF_eq]; simp [h12])
  have hp3 : plF (conn 3 []) = true := by rw [plF_eq, if_pos (show (conn 3 []).k = 3 from rfl)]
  have hpc : plF (conn 4 [f, conn 3 []]) = true := by rw [plF_conn (.inl rfl), hpf, hp3]; rfl
  refine (hK 0 [conn 4 [f, conn 3 []]] fun z hz => by simp at hz; exact hz ▸ hpc).bind fun g hg pg tg => sndR.chk fun hb => ?_
  refine ⟨hpf, fun hA => ?_⟩
  cases hff : trF at' f with
  | true => rfl
  | false =>
    refine (no3 hb (tg ⟨hA.1, hA.2, fun z hz => ?_⟩)).elim
    simp at hz
    rw [hz, trF_conn (.inl rfl), hff]; rfl
theorem ccF_snd (at' : List Nm) (th ax : List Fm) (d : Dv) (p : List Int) (hs : sentB d = true) (hth : allP th) (hax : allP ax) : sndR at' (allT at' th ∧ allT at' ax) (ccF th d ax p) := by
  rw [sentB_eq] at hs
  split at hs
  · cases hs
  rename_i hr
  split at hs
  · cases hs
  rename_i hf
  rw [sentBs_any] at hs
  rw [ccF_eq, stepK]
  refine sndR.chk fun _ => sndR.chk fun _ => ?_
  refine (ruleK_snd (at' := at') (th := th) (ax := ax) (by omega) (fun hu => ?_) hth hax (fun i fu g h => kidK_ok h) (fun i fu hfu => ?_)).bind fun g _ pg tg => sndR.chk fun _ => ⟨pg, tg⟩
  · have : (hoF d.f []).2 = 0 := Classical.byContradiction fun hc => hf ⟨hu, hc⟩
    exact (hoF_ok this).2
  · by_cases hi : i < d.ks.length
    · have hk := List.getElem?_eq_getElem hi
      rw [kidK_get hk]
      have hsk : sentB d.ks[i] = true := by
        have : (d.ks.any fun d => !sentB d) = false := by simpa using hs
        rw [List.any_eq_false] at this
        simpa using this d.ks[i] (List.getElem_mem hi)
      have ih := ccF_snd at' th (ax ++ fu) d.ks[i] (p ++ [(i : Int)]) hsk hth (fun g hg => by
        rcases List.mem_append.1 hg with h | h
        · exact hax g h
        · exact hfu g h)
      cases hq : ccF th d.ks[i] (ax ++ fu) (p ++ [(i : Int)]) with
      | ok g =>
        rw [hq] at ih
        refine ⟨ih.1, fun hT => ih.2 ⟨hT.1, fun z hz => ?_⟩⟩
        rcases List.mem_append.1 hz with h | h
        · exact hT.2.1 z h
        · exact hT.2.2 z h
      | bad _ _ => trivial
    · rw [kidK, List.getD_eq_getElem?_getD, List.getElem?_eq_none (by rw [ccFs_len]; omega)]
      trivial
termination_by SizeOf.sizeOf d
decreasing_by exact dv_mem hk
end Go.Proofs.YteacpafhmgdbkaaGreatDoor
end

section
namespace Go.Proofs.YteacpafhmgdbkaaGreatDoor
open Go Go.AL Go.RowKit
set_option maxRecDepth 10000
set_option maxHeartbeats 4000000
theorem hoF_true {f : Fm} {at' : List Nm} (h2 : (hoF f at').2 = 0) (h1 : (hoF f at').1 = true) : unF f 0 = 0 ∧ plF f = true ∧ trF at' f = true := by
  obtain ⟨hu, hp⟩ := hoF_ok h2
  refine ⟨hu, hp, ?_⟩
  unfold hoF at h1
  rw [if_pos hu, hp] at h1
  exact h1
theorem hoF_of {f : Fm} {at' : List Nm} (hu : unF f 0 = 0) (hp : plF f = true) (ht : trF at' f = true) : hoF f at' = (true, 0) := by
  unfold hoF
  rw [if_pos hu, hp, ht]; rfl
theorem take_all_mem {l : List Fm} {k : Nat} {u : Fm} (h : l[k]? = some u) {p : Fm → Prop} (ht : ∀ g ∈ l.take k, p g) (hu : p u) : ∀ g ∈ l.take (k + 1), p g := fun g hg => by
  rw [take_snoc h] at hg
  rcases List.mem_append.1 hg with h1 | h1
  · exact ht g h1
  · simp at h1; exact h1 ▸ hu
theorem sound_walk (th ax : List Fm) (d : Dv) (at' : List Nm) (h1 : th.length ≤ 10000000) (h2 : ax.length ≤ 10000000) (hth : fmsS th) (hax : fmsS ax) (hd : dvS d) :
    PFn Tryz.prog 5 [.im (.sl 4 (fmR th)), .im (.sl 4 (fmR ax)), dvV d, .im (.sl 1 (stR at'))] (Bv true) := by
  have hfew := few_spec th ax d (by omega) (fmsS_append hth hax) hd
  have hsen := sentences_spec d hd
  obtain ⟨b, hb⟩ : ∃ b, fewB (th ++ ax) d = b := ⟨_, rfl⟩
  obtain ⟨c, hc⟩ : ∃ c, sentB d = c := ⟨_, rfl⟩
  rw [hb] at hfew
  rw [hc] at hsen
  by_cases hall : b = true ∧ at'.length ≤ 30 ∧ c = true
  · obtain ⟨rfl, hal, rfl⟩ := hall
    obtain ⟨z1, z2, z3⟩ := few_sz hb
    rw [szFs_app] at z1
    have zd := szD_to d
    have l1 := szFs_len th
    have l2 := szFs_len ax
    have hck := (check_walk th ax d hd hth hax (by omega) (by omega) (fun _ => by omega)).toA fun _ _ h => h
    have hnl2 : ¬ (30 : Int) < (at'.length : Int) := by omega
    obtain ⟨q, hq⟩ : ∃ q, ckC th ax d = q := ⟨_, rfl⟩
    rw [hq] at hck
    have hck : PFn Tryz.prog 13 [.im (.sl 4 (fmR th)), .im (.sl 4 (fmR ax)), dvV d] (rsV q) := hck.mono fun r H' ⟨a, b⟩ => ⟨b, a⟩
    have hcc := concat_spec [th, ax] (by simp) (by simp; omega)
    have hfl : [th, ax].flatten = th ++ ax := by simp
    rw [hfl] at hcc
    have hln : (th ++ ax).length ≤ 1000000 := by rw [List.length_append]; omega
    have hsl := fmsS_append hth hax
    have hg30 : decide (30 < ((stR at').length : Int)) = false := by rw [stR_len]; simp; omega
    refine ACall.walk [0, 1, 2, 3, 6, 8, 9, 11, 13, 14, 15, 16, 17, 32, 43, 48, 49, 50, 51, 65] [9, 13] Tryz.func5 rfl Tryz.ntmps5 (by kernel_rfl) (by rfl) rfl fun W own I0 φ0 lay => ?_
    refine gO ?_
    refine AQ.fn (by kernel_rfl) rfl rfl rfl (hfew) rfl ?_
    refine gO ?_
    simp only [go_sem, Nat.reduceAdd, Nat.reduceLeDiff, Nat.reduceSub, Int.reduceToNat, reduceCtorEq, hg30]
    refine AQ.guard_yes (by simp only [go_sem]) ?_
    refine AQ.fn (by kernel_rfl) rfl rfl rfl (hsen) rfl ?_
    refine gO ?_
    cases q with
    | bad p e =>
      have hne : ¬ e = 0 := by
        intro he
        unfold ckC at hq
        split at hq
        · split at hq
          · cases hq; omega
          · have := ccF_nz th ax d []
            rw [hq] at this
            exact this he
        · rename_i hw
          cases hq
          exact hw he
      rw [rsV] at hck
      refine AQ.fn (by kernel_rfl) rfl rfl rfl (hck) rfl ?_
      refine gO ?_
      refine AP.cond rfl rfl (fun h => ?_) (fun h => ?_)
      · refine gO ?_
        refine AQ.fn (by kernel_rfl) rfl rfl rfl (awake_spec) rfl ?_
        refine gO ?_
        exact AE.retD [0] rfl ⟨rfl, trivial⟩ rfl ⟨rfl, rfl⟩
      · exact absurd (by simpa using h) hne
    | ok f =>
      have hcf : wellFs (th ++ ax) = 0 ∧ ccF th d ax [] = .ok f := by
        unfold ckC at hq
        split at hq
        · rename_i hw
          split at hq
          · cases hq
          · exact ⟨hw, hq⟩
        · cases hq
      have hfw := ccF_well hcf.2
      have hsn := ccF_snd at' th ax d [] hc
      rw [hcf.2] at hsn
      have hmem : ∀ {p : Fm → Prop}, (∀ g ∈ th ++ ax, p g) → (∀ g ∈ th, p g) ∧ ∀ g ∈ ax, p g := fun h => ⟨fun g hg => h g (List.mem_append_left _ hg), fun g hg => h g (List.mem_append_right _ hg)⟩
      have hho := Holds_spec f at' (un_S hfw) (by omega)
      rw [rsV] at hck
      refine AQ.fn (by kernel_rfl) rfl rfl rfl (hck) rfl ?_
      repeat (first | refine xA ?_ | refine xB ?_ | refine xC ?_ | refine xE ?_ | refine xD ?_ | refine xK ?_ | refine xS ?_ | refine xM ?_ | refine xT ?_ | refine xF ?_ | ((first | refine xR ?_ | refine xW ?_ | refine vq_id ?_); simp only [go_sem, Nat.reduceAdd, Nat.reduceLeDiff, Nat.reduceSub, Int.reduceToNat, reduceCtorEq, Int.reduceBNe]) | (refine ⟨by first | omega | (intros; simp_all; done) | (intros; simp_all; omega), ?_⟩; try simp only [go_sem, Nat.reduceAdd, Nat.reduceLeDiff, Nat.reduceSub, Int.reduceToNat, reduceCtorEq, Int.reduceBNe]))
      refine AQ.fn (by kernel_rfl) rfl rfl rfl (hcc) rfl ?_
      clear hck hcc hq hcf
      generalize th ++ ax = L at *
      refine gE @fmR_len ?_
      refine AP.loop rfl (α := Nat) (fun k => [(3, .im (.sl 1 (stR at'))), (8, Bv false), (9, .ob 0 0), (48, .im (.sl 4 (fmR L))), (49, Iv L.length), (50, Iv k)]) (fun _ => [(0, .var 27 [Iv f.k, Sv f.nm, .im (.sl 3 (tmR f.ts)), .im (.sl 4 (fmR f.ps))])]) (fun k => k ≤ L.length ∧ ∀ g ∈ L.take k, plF g = true ∧ trF at' g = true) (fun k => L.length - k) 0 ⟨by omega, by simp⟩ (sU) rfl fun k ⟨hk, hm⟩ => ?_
      rcases Nat.eq_or_lt_of_le hk with hke | hlt
      · rw [hke, List.take_length] at hm
        obtain ⟨a1, a2⟩ := hmem hm
        have hsn := hsn (fun g hg => (a1 g hg).1) (fun g hg => (a2 g hg).1)
        have htr := hsn.2 ⟨fun g hg => (a1 g hg).2, fun g hg => (a2 g hg).2⟩
        rw [hoF_of hfw hsn.1 htr] at hho
        clear hm hmem a1 a2
        refine gO ?_
        refine cF ?_
        refine gO ?_
        refine AQ.fn (by kernel_rfl) rfl rfl rfl (hho) rfl ?_
        refine gO ?_
        simp only [go_sem, Nat.reduceAdd, Nat.reduceLeDiff, Nat.reduceSub, Int.reduceToNat, reduceCtorEq, beq_self_eq_true]
        refine AQ.guard_yes (by simp only [go_sem]) ?_
        refine AQ.fn (by kernel_rfl) rfl rfl rfl (awake_spec) rfl ?_
        refine sI ?_
        refine gO ?_
        exact AE.retD [0] rfl ⟨rfl, trivial⟩ rfl ⟨rfl, rfl⟩
      · obtain ⟨u, hu, hrow⟩ := fmR_get L k hlt
        have hw := wr (x := (k : Int) + 1) (by omega)
        have hhu := Holds_spec u at' (fmsS_get hsl hu) (by omega)
        clear hsn hmem
        obtain ⟨⟨x1, x2⟩, hx⟩ : ∃ x, hoF u at' = x := ⟨_, rfl⟩
        rw [hx] at hhu
        refine gO ?_
        refine cT ?_
        refine gE (an @hrow @fmR_len) ?_
        refine AQ.fn (by kernel_rfl) rfl rfl rfl (hhu) rfl ?_
        refine gO ?_
        refine AP.cond rfl rfl (fun h => ?_) (fun h => ?_)
        · refine gO ?_
          refine AQ.fn (by kernel_rfl) rfl rfl rfl (awake_spec) rfl ?_
          refine gO ?_
          exact AE.retD [1, 0] rfl ⟨rfl, trivial⟩ rfl ⟨rfl, rfl⟩
        · have h : x2 = 0 ∧ x1 = true := by simpa using h
          have ht := hoF_true (f := u) (at' := at') (by rw [hx]; exact h.1) (by rw [hx]; exact h.2)
          refine gE @hw ?_
          refine AE.forgets [1] rfl ?_
          refine sI ?_
          exact AE.round (k + 1) ⟨by omega, take_all_mem hu hm ht.2⟩ (by omega) (sU) rfl
  · have hbr : b = false ∨ b = true ∧ (30 < at'.length ∨ at'.length ≤ 30 ∧ c = false) := by
      cases b with
      | false => exact .inl rfl
      | true =>
        refine .inr ⟨rfl, ?_⟩
        rcases Nat.lt_or_ge 30 at'.length with h | h
        · exact .inl h
        · refine .inr ⟨h, ?_⟩
          cases c with
          | false => rfl
          | true => exact absurd ⟨rfl, h, rfl⟩ hall
    rcases hbr with rfl | ⟨rfl, hal | ⟨hal, rfl⟩⟩
    · refine ACall.walk [0, 1, 2, 3, 6, 8, 9, 11, 13, 14, 15, 16, 17, 32, 43, 48, 49, 50, 51, 65] [9, 13] Tryz.func5 rfl Tryz.ntmps5 (by kernel_rfl) (by rfl) rfl fun W own I0 φ0 lay => ?_
      refine gO ?_
      refine AQ.fn (by kernel_rfl) rfl rfl rfl (hfew) rfl ?_
      refine gO ?_
      refine AQ.fn (by kernel_rfl) rfl rfl rfl (awake_spec) rfl ?_
      refine gO ?_
      exact AE.ret0 rfl ⟨rfl, trivial⟩ rfl ⟨rfl, rfl⟩
    · have hg30 : decide (30 < ((stR at').length : Int)) = true := by rw [stR_len]; simp; omega
      refine ACall.walk [0, 1, 2, 3, 6, 8, 9, 11, 13, 14, 15, 16, 17, 32, 43, 48, 49, 50, 51, 65] [9, 13] Tryz.func5 rfl Tryz.ntmps5 (by kernel_rfl) (by rfl) rfl fun W own I0 φ0 lay => ?_
      refine gO ?_
      refine AQ.fn (by kernel_rfl) rfl rfl rfl (hfew) rfl ?_
      refine gO ?_
      simp only [go_sem, Nat.reduceAdd, Nat.reduceLeDiff, Nat.reduceSub, Int.reduceToNat, reduceCtorEq, hg30]
      refine gO ?_
      refine AQ.fn (by kernel_rfl) rfl rfl rfl (awake_spec) rfl ?_
      refine gO ?_
      exact AE.ret0 rfl ⟨rfl, trivial⟩ rfl ⟨rfl, rfl⟩
    · have hg30 : decide (30 < ((stR at').length : Int)) = false := by rw [stR_len]; simp; omega
      refine ACall.walk [0, 1, 2, 3, 6, 8, 9, 11, 13, 14, 15, 16, 17, 32, 43, 48, 49, 50, 51, 65] [9, 13] Tryz.func5 rfl Tryz.ntmps5 (by kernel_rfl) (by rfl) rfl fun W own I0 φ0 lay => ?_
      refine gO ?_
      refine AQ.fn (by kernel_rfl) rfl rfl rfl (hfew) rfl ?_
      refine gO ?_
      simp only [go_sem, Nat.reduceAdd, Nat.reduceLeDiff, Nat.reduceSub, Int.reduceToNat, reduceCtorEq, hg30]
      refine AQ.guard_yes (by simp only [go_sem]) ?_
      refine AQ.fn (by kernel_rfl) rfl rfl rfl (hsen) rfl ?_
      refine gO ?_
      refine AQ.fn (by kernel_rfl) rfl rfl rfl (awake_spec) rfl ?_
      refine gO ?_
      exact AE.ret0 rfl ⟨rfl, trivial⟩ rfl ⟨rfl, rfl⟩
end Go.Proofs.YteacpafhmgdbkaaGreatDoor
end
