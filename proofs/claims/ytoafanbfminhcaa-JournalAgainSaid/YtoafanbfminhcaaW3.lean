import Derived.Test.YtoafanbfminhcaaW2
set_option linter.unusedSimpArgs false
set_option linter.unusedVariables false
set_option linter.unnecessarySimpa false
section
namespace Go.Proofs.Ytoafanbfminhcaa
open Go Go.AL
set_option maxRecDepth 10000
def KI (x : Jn) (kept : List Bs) : Prop := ∃ h C O L P N Rs n0, JI True x h C O L P N Rs n0 ∧ kept = (run L).recs ∧ kept ≠ [] ∧ chP 0 (O.map readP) = []
theorem KI.sz {x : Jn} {kept : List Bs} (k : KI x kept) : x.Sz ∧ x.D.Ok ∧ x.recs ≠ [] ∧ x.recs.length ≤ 1000 ∧ kept.length ≤ 1000 ∧ (x.half = 0 ∨ x.half = 1) := by
  obtain ⟨h, C, O, L, P, N, Rs, n0, j, hk, _⟩ := k
  have h1 := j.rl
  have h2 := j.usedle
  have h3 := j.len2
  have h4 := j.recs
  have h5 := congrArg List.length h4
  rw [List.length_append, ← hk] at h5
  refine ⟨j.sz, j.ok, j.ne, by omega, by omega, j.sz.h⟩
theorem JI.halfN {cr : Prop} {x : Jn} {h : Nat} {C O : List Bs} {L : List Pc} {P : List (Option Pc)} {N : List Pc} {Rs : List Bs} {n0 : Nat} (j : JI cr x h C O L P N Rs n0) {k : Nat} (hk : x.half = (k : Int)) : k = h := by
  have := j.half; omega
theorem KI.append {x : Jn} {kept : List Bs} (k : KI x kept) (R : Bs) (he : x.appE R = 0) (h : Nat) (hh : x.half = (h : Int)) : KI (x.wrote h x.used x.last R) kept := by
  obtain ⟨h', C, O, L, P, N, Rs, n0, j, hk, hn⟩ := k
  have := j.halfN hh
  subst this
  exact ⟨_, C, O, L, P, _, _, n0, j.append R he, hk, hn⟩
theorem KI.commit {x : Jn} {kept : List Bs} (k : KI x kept) : KI x.synced x.recs := by
  obtain ⟨h', C, O, L, P, N, Rs, n0, j, hk, hn, hO⟩ := k
  have hr := (cpl_good j.cp j.lN j.g).2
  exact ⟨_, _, O, _, _, _, _, _, j.commit, by rw [hr]; exact j.recs, j.ne, hO⟩
theorem openJ_D (d : Dk) (c : Sc) (h : Nat) : (openJ d c h).D = d := rfl
theorem openJ_recs (d : Dk) (c : Sc) (h : Nat) : (openJ d c h).recs = c.recs := rfl
def Beg (l m : List Bs) : Prop := m.length ≤ l.length ∧ l.take m.length = m
theorem Beg.app (l m : List Bs) : Beg (l ++ m) l := ⟨by simp, List.take_left⟩
theorem KI.crash {x : Jn} {kept : List Bs} (k : KI x kept) (F : List Int) : ∃ c h, (x.D.crashD F).Ok ∧ Sel (arA (x.D.crashD F).syncD.B) (arB (x.D.crashD F).syncD.B) c h ∧ KI (openJ (x.D.crashD F) c h) (openJ (x.D.crashD F) c h).recs ∧ Beg (openJ (x.D.crashD F) c h).recs kept ∧ Beg x.recs (openJ (x.D.crashD F) c h).recs := by
  obtain ⟨h, C, O, L, P, N, Rs, n0, j, hk, hn, hO⟩ := k
  obtain ⟨r, hr, hrec, _⟩ := j.cut F
  have hne : (scanS (crC F C L N)).recs ≠ [] := by
    rw [hrec, ← hk]
    intro e; exact hn (List.append_eq_nil_iff.1 e).1
  obtain ⟨L', P', n', j'⟩ := j.opened F hne
  obtain ⟨_, a2, a3, _⟩ := j'.again
  rw [openJ_D] at a2
  have hrs := j'.recs
  rw [List.append_nil] at hrs
  refine ⟨scanS (crC F C L N), h, j'.ok, by rw [a2]; exact a3, ⟨h, _, O, L', P', [], [], n', j', hrs, hne, hO⟩, ?_, ?_⟩
  · rw [openJ_recs, hrec, ← hk]; exact Beg.app _ _
  · rw [openJ_recs, hrec, j.recs]
    have : (run L).recs ++ Rs = ((run L).recs ++ Rs.take r) ++ Rs.drop r := by rw [List.append_assoc, List.take_append_drop]
    rw [this]; exact Beg.app _ _
theorem KI.init (m : Nat) (h1 : 2 ≤ m) (h2 : m ≤ 1000) : KI (x0 (2 * m)) [[]] ∧ ∃ c, Sel (arA (x0 (2 * m)).D.syncD.B) (arB (x0 (2 * m)).D.syncD.B) c 0 ∧ openJ (x0 (2 * m)).D c 0 = x0 (2 * m) := by
  have j := init_ji m h1 h2
  obtain ⟨_, a2, a3, a4⟩ := j.again
  refine ⟨⟨0, _, _, _, _, _, _, _, j, rfl, by simp, ?_⟩, _, by rw [a2]; exact a3, a4⟩
  rw [List.map_replicate, z_none]
  obtain ⟨i, rfl⟩ : ∃ i, m = i + 1 := ⟨m - 1, by omega⟩
  rfl
def CI (x : Jn) (before : List Bs) (commit : Bool) : Prop := ∃ h C O L P N Rs n0, JI True x h C O L P N Rs n0 ∧ (scanS O).recs = before ∧ before ≠ [] ∧ (commit = true → (run L).recs ≠ [])
theorem CI.sz {x : Jn} {b : List Bs} {c : Bool} (k : CI x b c) : x.Sz ∧ x.D.Ok ∧ x.recs ≠ [] ∧ x.recs.length ≤ 1000 ∧ (x.half = 0 ∨ x.half = 1) := by
  obtain ⟨h, C, O, L, P, N, Rs, n0, j, _⟩ := k
  have h1 := j.rl
  have h2 := j.usedle
  have h3 := j.len2
  exact ⟨j.sz, j.ok, j.ne, by omega, j.sz.h⟩
theorem KI.compact {x : Jn} {kept : List Bs} (k : KI x kept) (R : Bs) (he : x.compE R = 0) (h : Nat) (hh : 1 - x.half = (h : Int)) : CI (x.comp0.wrote h 0 0 R) x.recs false := by
  obtain ⟨h', C, O, L, P, N, Rs, n0, j, hk, hn, hO⟩ := k
  have e : h = 1 - h' := by have := j.half; rcases j.hh with g | g <;> subst g <;> omega
  subst e
  have jc := j.commit
  have := scan_base jc.rd jc.lk jc.cp (jc.nl (.inr rfl))
  have hr := jc.recs
  rw [List.append_nil] at hr
  exact ⟨_, _, _, _, _, _, _, _, j.compact True R he (fun _ p hp => by rw [hO] at hp; simp at hp), by rw [this.1, ← hr]; rfl, j.ne, fun h => by cases h⟩
theorem CI.append {x : Jn} {b : List Bs} {c : Bool} (k : CI x b c) (R : Bs) (he : x.appE R = 0) (h : Nat) (hh : x.half = (h : Int)) : CI (x.wrote h x.used x.last R) b c := by
  obtain ⟨h', C, O, L, P, N, Rs, n0, j, hk, hn⟩ := k
  have := j.halfN hh
  subst this
  exact ⟨_, C, O, L, P, _, _, n0, j.append R he, hk, hn⟩
theorem CI.commit {x : Jn} {b : List Bs} {c : Bool} (k : CI x b c) : CI x.synced b true := by
  obtain ⟨h', C, O, L, P, N, Rs, n0, j, hk, hn, _⟩ := k
  have hr := (cpl_good j.cp j.lN j.g).2
  exact ⟨_, _, O, _, _, _, _, _, j.commit, hk, hn, fun _ => by rw [hr, ← j.recs]; exact j.ne⟩
theorem CI.crash {x : Jn} {b : List Bs} {cm : Bool} (k : CI x b cm) (F : List Int) : ∃ c h, (x.D.crashD F).Ok ∧ Sel (arA (x.D.crashD F).syncD.B) (arB (x.D.crashD F).syncD.B) c h ∧ (openJ (x.D.crashD F) c h).Sz ∧ (openJ (x.D.crashD F) c h).recs ≠ [] ∧ (Beg x.recs (openJ (x.D.crashD F) c h).recs ∨ (cm = false ∧ (openJ (x.D.crashD F) c h).recs = b)) := by
  obtain ⟨h, C, O, L, P, N, Rs, n0, j, hk, hn, hcm⟩ := k
  obtain ⟨r, hr, hrec, _⟩ := j.cut F
  by_cases hne : (scanS (crC F C L N)).recs = []
  · have hd : x.D.crashD F = ⟨if h = 0 then crC F C L N ++ O else O ++ crC F C L N, []⟩ := by
      rw [Dk.crashD, if_pos ((x.D.chk_ok).2 j.ok)]
      show (⟨crashB F x.W 0 x.B, []⟩ : Dk) = _
      rw [j.crash]
    obtain ⟨S, hS⟩ : ∃ S, (if h = 0 then crC F C L N ++ O else O ++ crC F C L N) = S := ⟨_, rfl⟩
    have hlen := j.crC_len F
    have hl : S.length = 2 * C.length := by
      rw [← hS]
      have := j.len
      split <;> rw [List.length_append, hlen] <;> omega
    have h2 := j.len2
    have hok : (⟨S, []⟩ : Dk).Ok := by
      refine ⟨by show okN S.length = true; unfold okN; rw [hl]; simp; omega, fun s hs => ?_, by simp, fun w hw => by simp at hw⟩
      have hs : s ∈ crC F C L N ∨ s ∈ O := by
        rw [← hS] at hs
        split at hs <;> rcases List.mem_append.1 hs with h | h <;> simp [h]
      rcases hs with hs | hs
      · rw [crC] at hs
        rcases List.mem_append.1 hs with hs | hs
        · exact (j.bd s (j.memC s (List.mem_of_mem_take hs))).1
        · exact cz_32 F N _ 0 (fun s hs => (j.bd s (j.memC s (List.mem_of_mem_drop hs))).1) (fun p hp => (j.pk p hp).t) s hs
      · exact (j.bd s (j.memO s hs)).1
    have hsy : (⟨S, []⟩ : Dk).syncD.B = S := by rw [Dk.syncD, Dk.crashD, if_pos ((Dk.chk_ok _).2 hok)]; rfl
    have hsel := sel_oth (S := S) j.hh (by rw [hlen]; exact j.len) hS.symm hne (by rw [hk]; exact hn)
    rw [hd, hS]
    refine ⟨scanS O, 1 - h, hok, by rw [hsy]; exact hsel, ?_, by rw [openJ_recs, hk]; exact hn, .inr ⟨?_, by rw [openJ_recs]; exact hk⟩⟩
    · obtain ⟨L1, P0, b1, b2, b3, b4, b5, b6, b7, b8⟩ := base O
      have hm := maxN_lt S
      have hul : L1.length ≤ O.length := by
        have := congrArg List.length b1
        rw [List.length_map, List.length_append, List.length_map] at this; omega
      have hf := scan_first_lt (A := O) (m := 4294967296) (by omega) fun s _ => n4_lt _
      have hrl : (scanS O).recs.length ≤ O.length := by
        rw [← b5]
        have h1 : ∀ L : List Pc, (run L).recs.length ≤ L.length := fun L => by
          refine snoc_ind (P := fun L => (run L).recs.length ≤ L.length) ?_ (fun l p ih => ?_) L
          · exact Nat.le_refl _
          · show (run (l ++ [p])).recs.length ≤ (l ++ [p]).length
            have ih : (run l).recs.length ≤ l.length := ih
            rw [run_app, List.length_append]
            simp only [List.foldl_cons, List.foldl_nil, Sc.step]
            split
            · simp; omega
            · simp only [List.length_cons, List.length_nil]; omega
        have := h1 L1; omega
      have hla : (scanS O).last ≤ 4294967296 := by
        rw [← b7]
        have : eS 0 L1 < 4294967296 := eS_lt L1 0 (by omega) fun p hp => by
          have : some p ∈ O.map readP := by rw [b1]; exact List.mem_append_left _ (List.mem_map.2 ⟨p, hp, rfl⟩)
          obtain ⟨s, hs, hr⟩ := mem_read this
          rw [(readP_some hr).2.1]; exact n4_lt _
        omega
      have hol := j.len
      unfold openJ
      rw [hsy]
      refine ⟨by simp only; omega, ?_, by simp only; rw [← b4]; omega, by simp only; omega, hla, by simp only; omega, by simp only; omega, by simp, by simp only; omega⟩
      simp only
      rcases j.hh with g | g <;> subst g <;> simp
    · cases hc : cm with
      | false => rfl
      | true =>
        exfalso
        have := hcm hc
        rw [hrec] at hne
        exact this (List.append_eq_nil_iff.1 hne).1
  · obtain ⟨L', P', n', j'⟩ := j.opened F hne
    obtain ⟨_, a2, a3, _⟩ := j'.again
    rw [openJ_D] at a2
    refine ⟨scanS (crC F C L N), h, j'.ok, by rw [a2]; exact a3, j'.sz, hne, .inl ?_⟩
    rw [openJ_recs, hrec, j.recs]
    have : (run L).recs ++ Rs = ((run L).recs ++ Rs.take r) ++ Rs.drop r := by rw [List.append_assoc, List.take_append_drop]
    rw [this]; exact Beg.app _ _
def AI (x : Jn) : Prop := ∃ h C O L P N Rs n0, JI False x h C O L P N Rs n0
theorem JI.weak {cr : Prop} {x : Jn} {h : Nat} {C O : List Bs} {L : List Pc} {P : List (Option Pc)} {N : List Pc} {Rs : List Bs} {n0 : Nat} (j : JI cr x h C O L P N Rs n0) (hn : N = [] ∨ cr) : JI False x h C O L P N Rs n0 :=
  ⟨j.hh, j.half, j.B, j.len, j.len2, j.W, j.rd, j.lk, j.cp, j.lN, j.g, j.ps, j.n1, j.bd, j.ks, j.recs, j.used, j.usedle, j.first, j.last, j.next, j.nextle, j.wlen, j.oth, fun h => h.elim False.elim fun e => j.nl (.inr e), j.mx, j.ne, j.rl⟩
theorem AI.sz {x : Jn} (k : AI x) : x.Sz ∧ x.D.Ok ∧ x.recs ≠ [] ∧ x.recs.length ≤ 1000 ∧ (x.half = 0 ∨ x.half = 1) := by
  obtain ⟨h, C, O, L, P, N, Rs, n0, j⟩ := k
  have h1 := j.rl
  have h2 := j.usedle
  have h3 := j.len2
  exact ⟨j.sz, j.ok, j.ne, by omega, j.sz.h⟩
theorem AI.append {x : Jn} (k : AI x) (R : Bs) (he : x.appE R = 0) (h : Nat) (hh : x.half = (h : Int)) : AI (x.wrote h x.used x.last R) := by
  obtain ⟨h', C, O, L, P, N, Rs, n0, j⟩ := k
  have := j.halfN hh
  subst this
  exact ⟨_, C, O, L, P, _, _, n0, j.append R he⟩
theorem AI.commit {x : Jn} (k : AI x) : AI x.synced := by
  obtain ⟨h', C, O, L, P, N, Rs, n0, j⟩ := k
  exact ⟨_, _, _, _, _, _, _, _, j.commit⟩
theorem AI.compact {x : Jn} (k : AI x) (R : Bs) (he : x.compE R = 0) (h : Nat) (hh : 1 - x.half = (h : Int)) : AI (x.comp0.wrote h 0 0 R) := by
  obtain ⟨h', C, O, L, P, N, Rs, n0, j⟩ := k
  have e : h = 1 - h' := by have := j.half; rcases j.hh with g | g <;> subst g <;> omega
  subst e
  exact ⟨_, _, _, _, _, _, _, _, j.compact False R he (fun h => h.elim)⟩
theorem AI.again {x : Jn} (k : AI x) : x.synced.W = [] ∧ ∃ c h, Sel (arA x.synced.D.syncD.B) (arB x.synced.D.syncD.B) c h ∧ openJ x.synced.D c h = x.synced := by
  obtain ⟨h', C, O, L, P, N, Rs, n0, j⟩ := k
  obtain ⟨a1, a2, a3, a4⟩ := j.commit.again
  exact ⟨rfl, _, _, by rw [a2]; exact a3, a4⟩
theorem AI.init (m : Nat) (h1 : 2 ≤ m) (h2 : m ≤ 1000) : AI (x0 (2 * m)) := ⟨_, _, _, _, _, _, _, _, (init_ji m h1 h2).weak (.inl rfl)⟩
end Go.Proofs.Ytoafanbfminhcaa
end

section
namespace Go.Proofs.Ytoafanbfminhcaa
open Go Go.AL Go.RowKit
set_option maxRecDepth 10000
set_option maxHeartbeats 4000000
abbrev B8 (n : Int) : AV := .im (.v (.int .u8 n))
def shortL (l : List Ac) : Bool := decide ((l.length : Int) ≤ 40) && !l.any longA
theorem longA_not {l : List Ac} (h : shortL l = true) : l.length ≤ 40 ∧ ∀ a ∈ l, (a.t.length ≤ 300 ∨ (10000 < a.t.length ∧ a.t.length ≤ 10100)) ∧ a.f.length ≤ 100 := by
  simp only [shortL, Bool.and_eq_true, decide_eq_true_eq, Bool.not_eq_true', List.any_eq_false] at h
  refine ⟨by omega, fun a ha => ?_⟩
  have := h.2 a ha
  simp only [longA, Bool.or_eq_true, Bool.and_eq_true, decide_eq_true_eq] at this
  omega
theorem open_sel (d : Dk) (hd : d.Sz) (hok : d.Ok) {c : Sc} {h : Nat} (hs : Sel (arA d.syncD.B) (arB d.syncD.B) c h) {x : Jn} (hx : openJ d c h = x) : ACall Try.prog 12 [d.v] [] (fun r H' => H' = x.H 1 2 ∧ r = .tup [.ob 0 0, Iv 0]) :=
  (open_walk d hd hok).mono fun r H' hr => by
    have := hr.2 c h hs
    rw [hx] at this; exact this
end Go.Proofs.Ytoafanbfminhcaa
end

section
namespace Go.Proofs.Ytoafanbfminhcaa
open Go Go.AL Go.RowKit
end Go.Proofs.Ytoafanbfminhcaa
end

section
namespace Go.Proofs.Ytoafanbfminhcaa
open Go Go.AL Go.RowKit
set_option maxRecDepth 10000
set_option maxHeartbeats 4000000
abbrev Dk.ar (d : Dk) : AV := .ar [.sl 1 (blkR d.B), .sl 2 (wrR d.W)]
end Go.Proofs.Ytoafanbfminhcaa
end

section
namespace Go.Proofs.Ytoafanbfminhcaa
open Go Go.AL Go.RowKit
set_option maxRecDepth 100000
theorem ints_of {n : Nat} {xs : List IV} (h : Typed Try.prog n 36 xs) : ∃ l : List Int, xs = [.sl 1 (intR l)] ∧ l.length < 9223372036854775808 := by
  have hc : Try.prog.cellsOf 3 = 1 := by kernel_rfl
  obtain ⟨rows, m, rfl, hr, hrow⟩ := typed_slice Try.underlying36 h
  obtain ⟨l, rfl, _⟩ := rows_of (p := fun _ : Int => True) (f := fun i => [Ii i]) rows fun r hr => by
    obtain ⟨i, rfl, _⟩ := typed_int Try.underlying3 (hrow r hr)
    exact ⟨i, rfl, trivial⟩
  refine ⟨l, by rw [hc]; rfl, ?_⟩
  rw [List.length_map] at hr
  unfold maxLen at hr
  omega
end Go.Proofs.Ytoafanbfminhcaa
end

section
namespace Go.Proofs.Ytoafanbfminhcaa
open Go Go.AL Go.RowKit
set_option maxRecDepth 100000
theorem u8_nat {i : Int} (h : (Lit.int .u8 i).wf = true) : ∃ n : Nat, i = n ∧ n < 256 := by
  simp [Lit.wf, IntKind.min, IntKind.max, IntKind.bits, IntKind.signed] at h
  exact ⟨i.toNat, by omega, by omega⟩
theorem acts_of {n : Nat} {xs : List IV} (h : Typed Try.prog n 22 xs) : ∃ l : List Ac, xs = [.sl 3 (acR l)] ∧ l.length < 9223372036854775808 ∧ ∀ a ∈ l, a.k < 256 := by
  have hc : Try.prog.cellsOf 38 = 3 := by kernel_rfl
  have hc5 : Try.prog.cellsOf 5 = 1 := by kernel_rfl
  have hc9 : Try.prog.cellsOf 9 = 1 := by kernel_rfl
  have hc36 : Try.prog.cellsOf 36 = 1 := by kernel_rfl
  obtain ⟨rows, m, rfl, hr, hrow⟩ := typed_slice Try.underlying22 h
  obtain ⟨l, rfl, hl⟩ := rows_of (p := fun a : Ac => a.k < 256) (f := Ac.r) rows fun r hr => by
    obtain ⟨m', hlen, hf⟩ := typed_struct Try.underlying38 (hrow r hr)
    rw [hc] at hlen
    match r, hlen with
    | [a, b, c], _ =>
      have f0 := hf 0 _ rfl
      have f1 := hf 1 _ rfl
      have f2 := hf 2 _ rfl
      simp only [hc5, hc9, hc36, List.drop_zero, List.take_succ_cons, List.take_zero, List.drop_succ_cons] at f0 f1 f2
      obtain ⟨i0, e0, w0⟩ := typed_int Try.underlying5 f0
      obtain ⟨s, e1, _⟩ := typed_str Try.underlying9 f1
      obtain ⟨F, e2, _⟩ := ints_of f2
      obtain ⟨n0, rfl, b0⟩ := u8_nat w0
      cases e0; cases e1; cases e2
      exact ⟨⟨n0, s.data.toList, F⟩, congrArg (fun x => [IV.v (Value.int .u8 n0), IV.v (Value.string x), IV.sl 1 (intR F)]) (BA_of s), b0⟩
  refine ⟨l, by rw [hc]; rfl, ?_, hl⟩
  rw [List.length_map] at hr
  unfold maxLen at hr
  omega
end Go.Proofs.Ytoafanbfminhcaa
end

section
namespace Go.Proofs.Ytoafanbfminhcaa
open Go Go.AL Go.RowKit
set_option maxRecDepth 10000
set_option maxHeartbeats 4000000
end Go.Proofs.Ytoafanbfminhcaa
end

section
namespace Go.Proofs.Ytoafanbfminhcaa
open Go Go.AL Go.RowKit
set_option maxRecDepth 10000
set_option maxHeartbeats 4000000
theorem recs_cons {x : Jn} (h : x.recs ≠ []) : ∃ s r, x.recs = s :: r := by
  cases hh : x.recs with
  | nil => exact absurd hh h
  | cons s r => exact ⟨s, r, rfl⟩
abbrev cH (x : Jn) (d : Dk) : Heap := [(12, .vec 9 1 (blkR x.recs)), (11, .vec 97 2 (wrR x.W)), (10, .var 93 (x.cs 11 12)), (0, .var 28 [.im (.sl 1 (blkR d.B)), .im (.sl 2 (wrR d.W))])]
end Go.Proofs.Ytoafanbfminhcaa
end

section
namespace Go.Proofs.Ytoafanbfminhcaa
open Go Go.AL Go.RowKit
set_option maxRecDepth 100000
end Go.Proofs.Ytoafanbfminhcaa
end

section
namespace Go.Proofs.Ytoafanbfminhcaa
open Go Go.AL Go.RowKit
set_option maxRecDepth 10000
set_option maxHeartbeats 4000000
theorem do_spec (x : Jn) (k : AI x) (a : Ac) (ha : (a.t.length ≤ 300 ∨ (10000 < a.t.length ∧ a.t.length ≤ 10100))) : ∃ y e, AI y ∧ (
    ACall Try.prog 38 [.ob 0 0, a.v] (x.H 1 2) (fun r H' => H' = y.H 3 2 ∧ r = Iv e) ∨ ACall Try.prog 38 [.ob 0 0, a.v] (x.H 1 2) (fun r H' => H' = y.H 3 4 ∧ r = Iv e) ∨
    ACall Try.prog 38 [.ob 0 0, a.v] (x.H 1 2) (fun r H' => H' = y.H 1 2 ∧ r = Iv e)) := by
  obtain ⟨hxs, hxok, hxne, hxl, hxh⟩ := k.sz
  obtain ⟨half, hhalf⟩ : ∃ half : Nat, x.half = (half : Int) := by
    rcases hxh with h | h
    · exact ⟨0, h⟩
    · exact ⟨1, h⟩
  obtain ⟨h', hh'⟩ : ∃ h' : Nat, 1 - x.half = (h' : Int) := by
    rcases hxh with h | h
    · exact ⟨1, by omega⟩
    · exact ⟨0, by omega⟩
  have e8 : ∀ j : Nat, (a.k % 8 = j → ((a.k : Int).tmod 8 == (j : Int)) = true) ∧ (a.k % 8 ≠ j → ((a.k : Int).tmod 8 == (j : Int)) = false) := fun j => by
    rw [Int.tmod_eq_emod_of_nonneg (by omega)]
    refine ⟨fun h => ?_, fun h => ?_⟩
    · simp only [beq_iff_eq]; omega
    · simp only [beq_eq_false_iff_ne, ne_eq]; omega
  by_cases h3 : a.k % 8 = 3
  · refine ⟨x.synced, 0, k.commit, .inl ?_⟩
    have g3 : ((a.k : Int).tmod 8 == 3) = true := (e8 3).1 h3
    have hco := commit_ok x hxs hxok
    obtain ⟨y, hy⟩ : ∃ y, x.synced = y := ⟨_, rfl⟩
    rw [hy] at hco ⊢
    simp only [go_sem, Nat.reduceAdd, Nat.reduceLeDiff, Nat.reduceSub, Int.reduceToNat, reduceCtorEq, Jn.H, Jn.cs]
    refine ACall.walk [0, 1, 3, 4, 7, 8, 13] [] Try.func38 rfl Try.ntmps38 (by kernel_rfl) (by rfl) rfl fun W own I0 φ0 => ?_
    repeat (first | refine xA ?_ | refine xB ?_ | refine xC ?_ | refine xE ?_ | refine xD ?_ | refine xK ?_ | refine xS ?_ | refine xM ?_ | refine xT ?_ | refine xF ?_ | ((first | refine xR ?_ | refine xW ?_ | refine vq_id ?_); simp only [go_sem, Nat.reduceAdd, Nat.reduceLeDiff, Nat.reduceSub, Int.reduceToNat, reduceCtorEq, g3]) | (refine ⟨by first | omega | (intros; simp_all; done) | (intros; simp_all; omega), ?_⟩; try simp only [go_sem, Nat.reduceAdd, Nat.reduceLeDiff, Nat.reduceSub, Int.reduceToNat, reduceCtorEq, g3]))
    refine AQ.callH [(2, 2), (1, 1), (0, 0)] (by kernel_rfl) rfl rfl rfl rfl rfl rfl (by exact ⟨rfl, rfl, rfl, trivial⟩) rfl hco ?_
    rintro r H1 ⟨rfl, rfl⟩
    refine ⟨rfl, ?_⟩
    simp only [go_sem, Nat.reduceAdd, Nat.reduceLeDiff, Nat.reduceSub, Int.reduceToNat, reduceCtorEq, Jn.H, Jn.cs]
    repeat (first | refine xA ?_ | refine xB ?_ | refine xC ?_ | refine xE ?_ | refine xD ?_ | refine xK ?_ | refine xS ?_ | refine xM ?_ | refine xT ?_ | refine xF ?_ | ((first | refine xR ?_ | refine xW ?_ | refine vq_id ?_); simp only [go_sem, Nat.reduceAdd, Nat.reduceLeDiff, Nat.reduceSub, Int.reduceToNat, reduceCtorEq]) | (refine ⟨by first | omega | (intros; simp_all; done) | (intros; simp_all; omega), ?_⟩; try simp only [go_sem, Nat.reduceAdd, Nat.reduceLeDiff, Nat.reduceSub, Int.reduceToNat, reduceCtorEq]))
    refine AE.rename 6 3 rfl rfl rfl ?_; simp only [go_sem, Nat.reduceAdd, Nat.reduceLeDiff, Nat.reduceSub, Int.reduceToNat, reduceCtorEq]
    refine AE.order [2, 3, 0] rfl ?_
    simp only [go_sem, Nat.reduceAdd, Nat.reduceLeDiff, Nat.reduceSub, Int.reduceToNat, reduceCtorEq]
    exact AE.ret rfl ⟨rfl, trivial⟩ ⟨rfl, rfl⟩
  · have g3 : ((a.k : Int).tmod 8 == 3) = false := (e8 3).2 h3
    by_cases h5 : a.k % 8 = 5
    · refine ⟨x.synced, 0, k.commit, .inl ?_⟩
      have g5 : ((a.k : Int).tmod 8 == 5) = true := (e8 5).1 h5
      have hco := commit_ok x hxs hxok
      obtain ⟨y, hy⟩ : ∃ y, x.synced = y := ⟨_, rfl⟩
      rw [hy] at hco ⊢
      simp only [go_sem, Nat.reduceAdd, Nat.reduceLeDiff, Nat.reduceSub, Int.reduceToNat, reduceCtorEq, Jn.H, Jn.cs]
      refine ACall.walk [0, 1, 3, 4, 7, 8, 13] [] Try.func38 rfl Try.ntmps38 (by kernel_rfl) (by rfl) rfl fun W own I0 φ0 => ?_
      repeat (first | refine xA ?_ | refine xB ?_ | refine xC ?_ | refine xE ?_ | refine xD ?_ | refine xK ?_ | refine xS ?_ | refine xM ?_ | refine xT ?_ | refine xF ?_ | ((first | refine xR ?_ | refine xW ?_ | refine vq_id ?_); simp only [go_sem, Nat.reduceAdd, Nat.reduceLeDiff, Nat.reduceSub, Int.reduceToNat, reduceCtorEq, g3, g5]) | (refine ⟨by first | omega | (intros; simp_all; done) | (intros; simp_all; omega), ?_⟩; try simp only [go_sem, Nat.reduceAdd, Nat.reduceLeDiff, Nat.reduceSub, Int.reduceToNat, reduceCtorEq, g3, g5]))
      refine AQ.callH [(2, 2), (1, 1), (0, 0)] (by kernel_rfl) rfl rfl rfl rfl rfl rfl (by exact ⟨rfl, rfl, rfl, trivial⟩) rfl hco ?_
      rintro r H1 ⟨rfl, rfl⟩
      refine ⟨rfl, ?_⟩
      simp only [go_sem, Nat.reduceAdd, Nat.reduceLeDiff, Nat.reduceSub, Int.reduceToNat, reduceCtorEq, Jn.H, Jn.cs]
      repeat (first | refine xA ?_ | refine xB ?_ | refine xC ?_ | refine xE ?_ | refine xD ?_ | refine xK ?_ | refine xS ?_ | refine xM ?_ | refine xT ?_ | refine xF ?_ | ((first | refine xR ?_ | refine xW ?_ | refine vq_id ?_); simp only [go_sem, Nat.reduceAdd, Nat.reduceLeDiff, Nat.reduceSub, Int.reduceToNat, reduceCtorEq]) | (refine ⟨by first | omega | (intros; simp_all; done) | (intros; simp_all; omega), ?_⟩; try simp only [go_sem, Nat.reduceAdd, Nat.reduceLeDiff, Nat.reduceSub, Int.reduceToNat, reduceCtorEq]))
      refine AE.rename 6 3 rfl rfl rfl ?_; simp only [go_sem, Nat.reduceAdd, Nat.reduceLeDiff, Nat.reduceSub, Int.reduceToNat, reduceCtorEq]
      refine AE.order [2, 3, 0] rfl ?_
      simp only [go_sem, Nat.reduceAdd, Nat.reduceLeDiff, Nat.reduceSub, Int.reduceToNat, reduceCtorEq]
      exact AE.ret rfl ⟨rfl, trivial⟩ ⟨rfl, rfl⟩
    · have g5 : ((a.k : Int).tmod 8 == 5) = false := (e8 5).2 h5
      by_cases h4 : a.k % 8 = 4
      · have g4 : ((a.k : Int).tmod 8 == 4) = true := (e8 4).1 h4
        rcases ha with hs | ⟨hl, hl2⟩
        · obtain ⟨e, he⟩ : ∃ e, x.compE a.t = e := ⟨_, rfl⟩
          have he08 : e = 0 ∨ e = 8 := by
            rw [← he, Jn.compE, if_neg (by omega)]
            split <;> simp
          rcases he08 with rfl | rfl
          · have hok := compact_ok x h' a.t hxs hxok hh' he
            refine ⟨x.comp0.wrote h' 0 0 a.t, 0, k.compact a.t he h' hh', .inr (.inl ?_)⟩
            obtain ⟨y, hy⟩ : ∃ y, x.comp0.wrote h' 0 0 a.t = y := ⟨_, rfl⟩
            rw [hy] at hok ⊢
            simp only [go_sem, Nat.reduceAdd, Nat.reduceLeDiff, Nat.reduceSub, Int.reduceToNat, reduceCtorEq, Jn.H, Jn.cs]
            refine ACall.walk [0, 1, 3, 4, 7, 8, 13] [] Try.func38 rfl Try.ntmps38 (by kernel_rfl) (by rfl) rfl fun W own I0 φ0 => ?_
            repeat (first | refine xA ?_ | refine xB ?_ | refine xC ?_ | refine xE ?_ | refine xD ?_ | refine xK ?_ | refine xS ?_ | refine xM ?_ | refine xT ?_ | refine xF ?_ | ((first | refine xR ?_ | refine xW ?_ | refine vq_id ?_); simp only [go_sem, Nat.reduceAdd, Nat.reduceLeDiff, Nat.reduceSub, Int.reduceToNat, reduceCtorEq, g3, g4, g5]) | (refine ⟨by first | omega | (intros; simp_all; done) | (intros; simp_all; omega), ?_⟩; try simp only [go_sem, Nat.reduceAdd, Nat.reduceLeDiff, Nat.reduceSub, Int.reduceToNat, reduceCtorEq, g3, g4, g5]))
            refine AQ.callH [(2, 2), (1, 1), (0, 0)] (by kernel_rfl) rfl rfl rfl rfl rfl rfl (by exact ⟨rfl, rfl, rfl, trivial⟩) rfl (hok) ?_
            rintro r H1 ⟨rfl, rfl⟩
            refine ⟨rfl, ?_⟩
            simp only [go_sem, Nat.reduceAdd, Nat.reduceLeDiff, Nat.reduceSub, Int.reduceToNat, reduceCtorEq, Jn.H, Jn.cs]
            repeat (first | refine xA ?_ | refine xB ?_ | refine xC ?_ | refine xE ?_ | refine xD ?_ | refine xK ?_ | refine xS ?_ | refine xM ?_ | refine xT ?_ | refine xF ?_ | ((first | refine xR ?_ | refine xW ?_ | refine vq_id ?_); simp only [go_sem, Nat.reduceAdd, Nat.reduceLeDiff, Nat.reduceSub, Int.reduceToNat, reduceCtorEq]) | (refine ⟨by first | omega | (intros; simp_all; done) | (intros; simp_all; omega), ?_⟩; try simp only [go_sem, Nat.reduceAdd, Nat.reduceLeDiff, Nat.reduceSub, Int.reduceToNat, reduceCtorEq]))
            refine AE.rename 6 3 rfl rfl rfl ?_; simp only [go_sem, Nat.reduceAdd, Nat.reduceLeDiff, Nat.reduceSub, Int.reduceToNat, reduceCtorEq]; refine AE.rename 7 4 rfl rfl rfl ?_; simp only [go_sem, Nat.reduceAdd, Nat.reduceLeDiff, Nat.reduceSub, Int.reduceToNat, reduceCtorEq]
            refine AE.order [4, 3, 0] rfl ?_
            simp only [go_sem, Nat.reduceAdd, Nat.reduceLeDiff, Nat.reduceSub, Int.reduceToNat, reduceCtorEq]
            exact AE.ret rfl ⟨rfl, trivial⟩ ⟨rfl, rfl⟩
          · refine ⟨x, 8, k, .inr (.inr ?_)⟩
            simp only [go_sem, Nat.reduceAdd, Nat.reduceLeDiff, Nat.reduceSub, Int.reduceToNat, reduceCtorEq, Jn.H, Jn.cs]
            refine ACall.walk [0, 1, 3, 4, 7, 8, 13] [] Try.func38 rfl Try.ntmps38 (by kernel_rfl) (by rfl) rfl fun W own I0 φ0 => ?_
            repeat (first | refine xA ?_ | refine xB ?_ | refine xC ?_ | refine xE ?_ | refine xD ?_ | refine xK ?_ | refine xS ?_ | refine xM ?_ | refine xT ?_ | refine xF ?_ | ((first | refine xR ?_ | refine xW ?_ | refine vq_id ?_); simp only [go_sem, Nat.reduceAdd, Nat.reduceLeDiff, Nat.reduceSub, Int.reduceToNat, reduceCtorEq, g3, g4, g5]) | (refine ⟨by first | omega | (intros; simp_all; done) | (intros; simp_all; omega), ?_⟩; try simp only [go_sem, Nat.reduceAdd, Nat.reduceLeDiff, Nat.reduceSub, Int.reduceToNat, reduceCtorEq, g3, g4, g5]))
            refine AQ.callH [(2, 2), (1, 1), (0, 0)] (by kernel_rfl) rfl rfl rfl rfl rfl rfl (by exact ⟨rfl, rfl, rfl, trivial⟩) rfl (compact_full x a.t hxs he) ?_
            rintro r H1 ⟨rfl, rfl⟩
            refine ⟨rfl, ?_⟩
            simp only [go_sem, Nat.reduceAdd, Nat.reduceLeDiff, Nat.reduceSub, Int.reduceToNat, reduceCtorEq, Jn.H, Jn.cs]
            repeat (first | refine xA ?_ | refine xB ?_ | refine xC ?_ | refine xE ?_ | refine xD ?_ | refine xK ?_ | refine xS ?_ | refine xM ?_ | refine xT ?_ | refine xF ?_ | ((first | refine xR ?_ | refine xW ?_ | refine vq_id ?_); simp only [go_sem, Nat.reduceAdd, Nat.reduceLeDiff, Nat.reduceSub, Int.reduceToNat, reduceCtorEq]) | (refine ⟨by first | omega | (intros; simp_all; done) | (intros; simp_all; omega), ?_⟩; try simp only [go_sem, Nat.reduceAdd, Nat.reduceLeDiff, Nat.reduceSub, Int.reduceToNat, reduceCtorEq]))
            exact AE.ret rfl ⟨rfl, trivial⟩ ⟨rfl, rfl⟩
        · refine ⟨x, 4, k, .inr (.inr ?_)⟩
          simp only [go_sem, Nat.reduceAdd, Nat.reduceLeDiff, Nat.reduceSub, Int.reduceToNat, reduceCtorEq, Jn.H, Jn.cs]
          refine ACall.walk [0, 1, 3, 4, 7, 8, 13] [] Try.func38 rfl Try.ntmps38 (by kernel_rfl) (by rfl) rfl fun W own I0 φ0 => ?_
          repeat (first | refine xA ?_ | refine xB ?_ | refine xC ?_ | refine xE ?_ | refine xD ?_ | refine xK ?_ | refine xS ?_ | refine xM ?_ | refine xT ?_ | refine xF ?_ | ((first | refine xR ?_ | refine xW ?_ | refine vq_id ?_); simp only [go_sem, Nat.reduceAdd, Nat.reduceLeDiff, Nat.reduceSub, Int.reduceToNat, reduceCtorEq, g3, g4, g5]) | (refine ⟨by first | omega | (intros; simp_all; done) | (intros; simp_all; omega), ?_⟩; try simp only [go_sem, Nat.reduceAdd, Nat.reduceLeDiff, Nat.reduceSub, Int.reduceToNat, reduceCtorEq, g3, g4, g5]))
          refine AQ.callH [(2, 2), (1, 1), (0, 0)] (by kernel_rfl) rfl rfl rfl rfl rfl rfl (by exact ⟨rfl, rfl, rfl, trivial⟩) rfl (compact_long x a.t hxs hl (by omega)) ?_
          rintro r H1 ⟨rfl, rfl⟩
          refine ⟨rfl, ?_⟩
          simp only [go_sem, Nat.reduceAdd, Nat.reduceLeDiff, Nat.reduceSub, Int.reduceToNat, reduceCtorEq, Jn.H, Jn.cs]
          repeat (first | refine xA ?_ | refine xB ?_ | refine xC ?_ | refine xE ?_ | refine xD ?_ | refine xK ?_ | refine xS ?_ | refine xM ?_ | refine xT ?_ | refine xF ?_ | ((first | refine xR ?_ | refine xW ?_ | refine vq_id ?_); simp only [go_sem, Nat.reduceAdd, Nat.reduceLeDiff, Nat.reduceSub, Int.reduceToNat, reduceCtorEq]) | (refine ⟨by first | omega | (intros; simp_all; done) | (intros; simp_all; omega), ?_⟩; try simp only [go_sem, Nat.reduceAdd, Nat.reduceLeDiff, Nat.reduceSub, Int.reduceToNat, reduceCtorEq]))
          exact AE.ret rfl ⟨rfl, trivial⟩ ⟨rfl, rfl⟩
      · have g4 : ((a.k : Int).tmod 8 == 4) = false := (e8 4).2 h4
        rcases ha with hs | ⟨hl, hl2⟩
        · obtain ⟨e, he⟩ : ∃ e, x.appE a.t = e := ⟨_, rfl⟩
          have he08 : e = 0 ∨ e = 8 := by
            rw [← he, Jn.appE, if_neg (by omega)]
            split <;> simp
          rcases he08 with rfl | rfl
          · have hok := append_ok x half a.t hxs hhalf he
            refine ⟨x.wrote half x.used x.last a.t, 0, k.append a.t he half hhalf, .inr (.inl ?_)⟩
            obtain ⟨y, hy⟩ : ∃ y, x.wrote half x.used x.last a.t = y := ⟨_, rfl⟩
            rw [hy] at hok ⊢
            simp only [go_sem, Nat.reduceAdd, Nat.reduceLeDiff, Nat.reduceSub, Int.reduceToNat, reduceCtorEq, Jn.H, Jn.cs]
            refine ACall.walk [0, 1, 3, 4, 7, 8, 13] [] Try.func38 rfl Try.ntmps38 (by kernel_rfl) (by rfl) rfl fun W own I0 φ0 => ?_
            repeat (first | refine xA ?_ | refine xB ?_ | refine xC ?_ | refine xE ?_ | refine xD ?_ | refine xK ?_ | refine xS ?_ | refine xM ?_ | refine xT ?_ | refine xF ?_ | ((first | refine xR ?_ | refine xW ?_ | refine vq_id ?_); simp only [go_sem, Nat.reduceAdd, Nat.reduceLeDiff, Nat.reduceSub, Int.reduceToNat, reduceCtorEq, g3, g4, g5]) | (refine ⟨by first | omega | (intros; simp_all; done) | (intros; simp_all; omega), ?_⟩; try simp only [go_sem, Nat.reduceAdd, Nat.reduceLeDiff, Nat.reduceSub, Int.reduceToNat, reduceCtorEq, g3, g4, g5]))
            refine AQ.callH [(2, 2), (1, 1), (0, 0)] (by kernel_rfl) rfl rfl rfl rfl rfl rfl (by exact ⟨rfl, rfl, rfl, trivial⟩) rfl (hok) ?_
            rintro r H1 ⟨rfl, rfl⟩
            refine ⟨rfl, ?_⟩
            simp only [go_sem, Nat.reduceAdd, Nat.reduceLeDiff, Nat.reduceSub, Int.reduceToNat, reduceCtorEq, Jn.H, Jn.cs]
            repeat (first | refine xA ?_ | refine xB ?_ | refine xC ?_ | refine xE ?_ | refine xD ?_ | refine xK ?_ | refine xS ?_ | refine xM ?_ | refine xT ?_ | refine xF ?_ | ((first | refine xR ?_ | refine xW ?_ | refine vq_id ?_); simp only [go_sem, Nat.reduceAdd, Nat.reduceLeDiff, Nat.reduceSub, Int.reduceToNat, reduceCtorEq]) | (refine ⟨by first | omega | (intros; simp_all; done) | (intros; simp_all; omega), ?_⟩; try simp only [go_sem, Nat.reduceAdd, Nat.reduceLeDiff, Nat.reduceSub, Int.reduceToNat, reduceCtorEq]))
            refine AE.rename 6 3 rfl rfl rfl ?_; simp only [go_sem, Nat.reduceAdd, Nat.reduceLeDiff, Nat.reduceSub, Int.reduceToNat, reduceCtorEq]; refine AE.rename 7 4 rfl rfl rfl ?_; simp only [go_sem, Nat.reduceAdd, Nat.reduceLeDiff, Nat.reduceSub, Int.reduceToNat, reduceCtorEq]
            refine AE.order [4, 3, 0] rfl ?_
            simp only [go_sem, Nat.reduceAdd, Nat.reduceLeDiff, Nat.reduceSub, Int.reduceToNat, reduceCtorEq]
            exact AE.ret rfl ⟨rfl, trivial⟩ ⟨rfl, rfl⟩
          · refine ⟨x, 8, k, .inr (.inr ?_)⟩
            simp only [go_sem, Nat.reduceAdd, Nat.reduceLeDiff, Nat.reduceSub, Int.reduceToNat, reduceCtorEq, Jn.H, Jn.cs]
            refine ACall.walk [0, 1, 3, 4, 7, 8, 13] [] Try.func38 rfl Try.ntmps38 (by kernel_rfl) (by rfl) rfl fun W own I0 φ0 => ?_
            repeat (first | refine xA ?_ | refine xB ?_ | refine xC ?_ | refine xE ?_ | refine xD ?_ | refine xK ?_ | refine xS ?_ | refine xM ?_ | refine xT ?_ | refine xF ?_ | ((first | refine xR ?_ | refine xW ?_ | refine vq_id ?_); simp only [go_sem, Nat.reduceAdd, Nat.reduceLeDiff, Nat.reduceSub, Int.reduceToNat, reduceCtorEq, g3, g4, g5]) | (refine ⟨by first | omega | (intros; simp_all; done) | (intros; simp_all; omega), ?_⟩; try simp only [go_sem, Nat.reduceAdd, Nat.reduceLeDiff, Nat.reduceSub, Int.reduceToNat, reduceCtorEq, g3, g4, g5]))
            refine AQ.callH [(2, 2), (1, 1), (0, 0)] (by kernel_rfl) rfl rfl rfl rfl rfl rfl (by exact ⟨rfl, rfl, rfl, trivial⟩) rfl (append_full x half a.t hxs hhalf he) ?_
            rintro r H1 ⟨rfl, rfl⟩
            refine ⟨rfl, ?_⟩
            simp only [go_sem, Nat.reduceAdd, Nat.reduceLeDiff, Nat.reduceSub, Int.reduceToNat, reduceCtorEq, Jn.H, Jn.cs]
            repeat (first | refine xA ?_ | refine xB ?_ | refine xC ?_ | refine xE ?_ | refine xD ?_ | refine xK ?_ | refine xS ?_ | refine xM ?_ | refine xT ?_ | refine xF ?_ | ((first | refine xR ?_ | refine xW ?_ | refine vq_id ?_); simp only [go_sem, Nat.reduceAdd, Nat.reduceLeDiff, Nat.reduceSub, Int.reduceToNat, reduceCtorEq]) | (refine ⟨by first | omega | (intros; simp_all; done) | (intros; simp_all; omega), ?_⟩; try simp only [go_sem, Nat.reduceAdd, Nat.reduceLeDiff, Nat.reduceSub, Int.reduceToNat, reduceCtorEq]))
            exact AE.ret rfl ⟨rfl, trivial⟩ ⟨rfl, rfl⟩
        · refine ⟨x, 4, k, .inr (.inr ?_)⟩
          simp only [go_sem, Nat.reduceAdd, Nat.reduceLeDiff, Nat.reduceSub, Int.reduceToNat, reduceCtorEq, Jn.H, Jn.cs]
          refine ACall.walk [0, 1, 3, 4, 7, 8, 13] [] Try.func38 rfl Try.ntmps38 (by kernel_rfl) (by rfl) rfl fun W own I0 φ0 => ?_
          repeat (first | refine xA ?_ | refine xB ?_ | refine xC ?_ | refine xE ?_ | refine xD ?_ | refine xK ?_ | refine xS ?_ | refine xM ?_ | refine xT ?_ | refine xF ?_ | ((first | refine xR ?_ | refine xW ?_ | refine vq_id ?_); simp only [go_sem, Nat.reduceAdd, Nat.reduceLeDiff, Nat.reduceSub, Int.reduceToNat, reduceCtorEq, g3, g4, g5]) | (refine ⟨by first | omega | (intros; simp_all; done) | (intros; simp_all; omega), ?_⟩; try simp only [go_sem, Nat.reduceAdd, Nat.reduceLeDiff, Nat.reduceSub, Int.reduceToNat, reduceCtorEq, g3, g4, g5]))
          refine AQ.callH [(2, 2), (1, 1), (0, 0)] (by kernel_rfl) rfl rfl rfl rfl rfl rfl (by exact ⟨rfl, rfl, rfl, trivial⟩) rfl (append_long x a.t hxs hl (by omega)) ?_
          rintro r H1 ⟨rfl, rfl⟩
          refine ⟨rfl, ?_⟩
          simp only [go_sem, Nat.reduceAdd, Nat.reduceLeDiff, Nat.reduceSub, Int.reduceToNat, reduceCtorEq, Jn.H, Jn.cs]
          repeat (first | refine xA ?_ | refine xB ?_ | refine xC ?_ | refine xE ?_ | refine xD ?_ | refine xK ?_ | refine xS ?_ | refine xM ?_ | refine xT ?_ | refine xF ?_ | ((first | refine xR ?_ | refine xW ?_ | refine vq_id ?_); simp only [go_sem, Nat.reduceAdd, Nat.reduceLeDiff, Nat.reduceSub, Int.reduceToNat, reduceCtorEq]) | (refine ⟨by first | omega | (intros; simp_all; done) | (intros; simp_all; omega), ?_⟩; try simp only [go_sem, Nat.reduceAdd, Nat.reduceLeDiff, Nat.reduceSub, Int.reduceToNat, reduceCtorEq]))
          exact AE.ret rfl ⟨rfl, trivial⟩ ⟨rfl, rfl⟩
end Go.Proofs.Ytoafanbfminhcaa
end

section
namespace Go.Proofs.Ytoafanbfminhcaa
open Go Go.AL Go.RowKit
set_option maxRecDepth 10000
set_option maxHeartbeats 4000000
abbrev gH (x : Jn) (d : Dk) : Heap := [(22, .vec 9 1 (blkR x.recs)), (21, .vec 97 2 (wrR x.W)), (20, .var 93 (x.cs 21 22)), (12, .vec 9 1 (blkR x.recs)), (11, .vec 97 2 (wrR x.W)), (10, .var 93 (x.cs 11 12)), (0, .var 28 [.im (.sl 1 (blkR d.B)), .im (.sl 2 (wrR d.W))])]
def agB (b : Nat) (l m : List Ac) : Bool := !shortL l || !shortL m || decide (60 < (b : Int)) || decide ((b : Int) < 4) || (b : Int).tmod 2 == 1
theorem again_few (b : Nat) (l m : List Ac) (hl : l.length < 9223372036854775808) (hm : m.length < 9223372036854775808) (h : agB b l m = true) : PFn Try.prog 6 [B8 b, .im (.sl 3 (acR l)), .im (.sl 3 (acR m))] (Bv true) := by
  have hs := short_spec l hl
  have hs2 := short_spec m hm
  rw [show (decide ((l.length : Int) ≤ 40) && !l.any longA) = shortL l from rfl] at hs
  rw [show (decide ((m.length : Int) ≤ 40) && !m.any longA) = shortL m from rfl] at hs2
  unfold agB at h
  refine ACall.walk [0, 1, 2, 6, 7, 8, 9, 10, 11, 13, 14, 16, 37, 55, 56, 57, 58, 59, 76, 77, 78, 79, 80, 116] [7, 13, 16] Try.func6 rfl Try.ntmps6 (by kernel_rfl) (by rfl) rfl fun W own I0 φ0 => ?_
  repeat (first | refine xA ?_ | refine xB ?_ | refine xC ?_ | refine xE ?_ | refine xD ?_ | refine xK ?_ | refine xS ?_ | refine xM ?_ | refine xT ?_ | refine xF ?_ | ((first | refine xR ?_ | refine xW ?_ | refine vq_id ?_); simp only [go_sem, Nat.reduceAdd, Nat.reduceLeDiff, Nat.reduceSub, Int.reduceToNat, reduceCtorEq]) | (refine ⟨by first | omega | (intros; simp_all; done) | (intros; simp_all; omega), ?_⟩; try simp only [go_sem, Nat.reduceAdd, Nat.reduceLeDiff, Nat.reduceSub, Int.reduceToNat, reduceCtorEq]))
  refine AQ.fn (by kernel_rfl) rfl rfl rfl (hs) rfl ?_
  repeat (first | refine xA ?_ | refine xB ?_ | refine xC ?_ | refine xE ?_ | refine xD ?_ | refine xK ?_ | refine xS ?_ | refine xM ?_ | refine xT ?_ | refine xF ?_ | ((first | refine xR ?_ | refine xW ?_ | refine vq_id ?_); simp only [go_sem, Nat.reduceAdd, Nat.reduceLeDiff, Nat.reduceSub, Int.reduceToNat, reduceCtorEq]) | (refine ⟨by first | omega | (intros; simp_all; done) | (intros; simp_all; omega), ?_⟩; try simp only [go_sem, Nat.reduceAdd, Nat.reduceLeDiff, Nat.reduceSub, Int.reduceToNat, reduceCtorEq]))
  refine AQ.fn_g (by kernel_rfl) rfl rfl (fun h => by first | (simp [gs, AV.g]; done) | (simp [gs, AV.g, constAV]; done) | (simp [gs, AV.g, constAV, bw] at h ⊢; done) | (simp [bw] at h; done) | (simp [gs, AV.g, bw] at h ⊢; simp [h]; done) | (simp [gs, AV.g, bw] at h ⊢; exact h.1) | (simp [gs, AV.g]; rfl) | (simp [gs, AV.g, bw] at h ⊢; rfl) | (simp [gs, AV.g, bw] at h ⊢; simp [h]; rfl) | (simp [gs, AV.g, bw] at h ⊢; simp_all)) rfl (fun _ => hs2) rfl ?_
  repeat (first | refine xA ?_ | refine xB ?_ | refine xC ?_ | refine xE ?_ | refine xD ?_ | refine xK ?_ | refine xS ?_ | refine xM ?_ | refine xT ?_ | refine xF ?_ | ((first | refine xR ?_ | refine xW ?_ | refine vq_id ?_); simp only [go_sem, Nat.reduceAdd, Nat.reduceLeDiff, Nat.reduceSub, Int.reduceToNat, reduceCtorEq, h]) | (refine ⟨by first | omega | (intros; simp_all; done) | (intros; simp_all; omega), ?_⟩; try simp only [go_sem, Nat.reduceAdd, Nat.reduceLeDiff, Nat.reduceSub, Int.reduceToNat, reduceCtorEq, h]))
  refine AQ.fn (by kernel_rfl) rfl rfl rfl (awake_spec) rfl ?_
  repeat (first | refine xA ?_ | refine xB ?_ | refine xC ?_ | refine xE ?_ | refine xD ?_ | refine xK ?_ | refine xS ?_ | refine xM ?_ | refine xT ?_ | refine xF ?_ | ((first | refine xR ?_ | refine xW ?_ | refine vq_id ?_); simp only [go_sem, Nat.reduceAdd, Nat.reduceLeDiff, Nat.reduceSub, Int.reduceToNat, reduceCtorEq]) | (refine ⟨by first | omega | (intros; simp_all; done) | (intros; simp_all; omega), ?_⟩; try simp only [go_sem, Nat.reduceAdd, Nat.reduceLeDiff, Nat.reduceSub, Int.reduceToNat, reduceCtorEq]))
  exact AE.ret0 rfl ⟨rfl, trivial⟩ rfl ⟨rfl, rfl⟩
theorem ag_false {b : Nat} {l m : List Ac} (h : agB b l m = false) : shortL l = true ∧ shortL m = true ∧ ∃ k, b = 2 * k ∧ 2 ≤ k ∧ k ≤ 30 := by
  simp only [agB, Bool.or_eq_false_iff, Bool.not_eq_false', decide_eq_false_iff_not, beq_eq_false_iff_ne, ne_eq] at h
  obtain ⟨⟨⟨⟨h0, h1⟩, h2⟩, h3⟩, h4⟩ := h
  rw [Int.tmod_eq_emod_of_nonneg (by omega)] at h4
  exact ⟨h0, h1, b / 2, by omega, by omega, by omega⟩
theorem again_go (m : Nat) (l l2 : List Ac) (h1 : 2 ≤ m) (h2 : m ≤ 30) (hl : shortL l = true) (hl2 : shortL l2 = true) : PFn Try.prog 6 [B8 (2 * m : Nat), .im (.sl 3 (acR l)), .im (.sl 3 (acR l2))] (Bv true) := by
  obtain ⟨hl40, hlA⟩ := longA_not hl
  obtain ⟨hl240, hl2A⟩ := longA_not hl2
  have hs := short_spec l (by omega)
  have hs2 := short_spec l2 (by omega)
  rw [show (decide ((l.length : Int) ≤ 40) && !l.any longA) = shortL l from rfl, hl] at hs
  rw [show (decide ((l2.length : Int) ≤ 40) && !l2.any longA) = shortL l2 from rfl, hl2] at hs2
  have hg : (decide (60 < ((2 * m : Nat) : Int)) || decide (((2 * m : Nat) : Int) < 4) || ((2 * m : Nat) : Int).tmod 2 == 1) = false := by
    have e1 : decide (60 < ((2 * m : Nat) : Int)) = false := by simp; omega
    have e2 : decide (((2 * m : Nat) : Int) < 4) = false := by simp; omega
    have e3 : ((2 * m : Nat) : Int).tmod 2 = 0 := by rw [Int.natCast_mul]; exact Int.mul_tmod_right _ _
    rw [e1, e2, e3]; rfl
  have hw := wr (x := ((2 * m : Nat) : Int)) (by omega)
  have hok : okN (2 * m) = true := by unfold okN; simp; omega
  have hf := format_ok (2 * m) hok
  obtain ⟨_, c0, hsel, hop⟩ := KI.init m h1 (by omega)
  have hAI := AI.init m h1 (by omega)
  have hsz := hAI.sz
  have hopen := open_sel (x0 (2 * m)).D ⟨by have := hsz.1.b; simp only; omega, by simp [x0]⟩ hsz.2.1 hsel hop
  rw [show (⟨fmtS (2 * m), []⟩ : Dk) = (x0 (2 * m)).D from rfl] at hf
  obtain ⟨X, hX⟩ : ∃ X, x0 (2 * m) = X := ⟨_, rfl⟩
  rw [hX] at hf hopen hAI
  obtain ⟨n, hn⟩ : ∃ n, 2 * m = n := ⟨_, rfl⟩
  rw [hn] at hg hw hf ⊢
  refine ACall.walk [0, 1, 2, 6, 7, 8, 9, 10, 11, 13, 14, 16, 37, 55, 56, 57, 58, 59, 76, 77, 78, 79, 80, 116] [7, 13, 16] Try.func6 rfl Try.ntmps6 (by kernel_rfl) (by rfl) rfl fun W own I0 φ0 => ?_
  repeat (first | refine xA ?_ | refine xB ?_ | refine xC ?_ | refine xE ?_ | refine xD ?_ | refine xK ?_ | refine xS ?_ | refine xM ?_ | refine xT ?_ | refine xF ?_ | ((first | refine xR ?_ | refine xW ?_ | refine vq_id ?_); simp only [go_sem, Nat.reduceAdd, Nat.reduceLeDiff, Nat.reduceSub, Int.reduceToNat, reduceCtorEq]) | (refine ⟨by first | omega | (intros; simp_all; done) | (intros; simp_all; omega), ?_⟩; try simp only [go_sem, Nat.reduceAdd, Nat.reduceLeDiff, Nat.reduceSub, Int.reduceToNat, reduceCtorEq]))
  refine AQ.fn (by kernel_rfl) rfl rfl rfl (hs) rfl ?_
  repeat (first | refine xA ?_ | refine xB ?_ | refine xC ?_ | refine xE ?_ | refine xD ?_ | refine xK ?_ | refine xS ?_ | refine xM ?_ | refine xT ?_ | refine xF ?_ | ((first | refine xR ?_ | refine xW ?_ | refine vq_id ?_); simp only [go_sem, Nat.reduceAdd, Nat.reduceLeDiff, Nat.reduceSub, Int.reduceToNat, reduceCtorEq]) | (refine ⟨by first | omega | (intros; simp_all; done) | (intros; simp_all; omega), ?_⟩; try simp only [go_sem, Nat.reduceAdd, Nat.reduceLeDiff, Nat.reduceSub, Int.reduceToNat, reduceCtorEq]))
  refine AQ.guard_yes (by simp only [go_sem]) ?_
  refine AQ.fn (by kernel_rfl) rfl rfl rfl (hs2) rfl ?_
  repeat (first | refine xA ?_ | refine xB ?_ | refine xC ?_ | refine xE ?_ | refine xD ?_ | refine xK ?_ | refine xS ?_ | refine xM ?_ | refine xT ?_ | refine xF ?_ | ((first | refine xR ?_ | refine xW ?_ | refine vq_id ?_); simp only [go_sem, Nat.reduceAdd, Nat.reduceLeDiff, Nat.reduceSub, Int.reduceToNat, reduceCtorEq, hg, hw]) | (refine ⟨by first | omega | (intros; simp_all; done) | (intros; simp_all; omega), ?_⟩; try simp only [go_sem, Nat.reduceAdd, Nat.reduceLeDiff, Nat.reduceSub, Int.reduceToNat, reduceCtorEq, hg, hw]))
  refine AQ.fn (by kernel_rfl) rfl rfl rfl (hf) rfl ?_
  repeat (first | refine xA ?_ | refine xB ?_ | refine xC ?_ | refine xE ?_ | refine xD ?_ | refine xK ?_ | refine xS ?_ | refine xM ?_ | refine xT ?_ | refine xF ?_ | ((first | refine xR ?_ | refine xW ?_ | refine vq_id ?_); simp only [go_sem, Nat.reduceAdd, Nat.reduceLeDiff, Nat.reduceSub, Int.reduceToNat, reduceCtorEq, Int.reduceBNe]) | (refine ⟨by first | omega | (intros; simp_all; done) | (intros; simp_all; omega), ?_⟩; try simp only [go_sem, Nat.reduceAdd, Nat.reduceLeDiff, Nat.reduceSub, Int.reduceToNat, reduceCtorEq, Int.reduceBNe]))
  refine AQ.callv (by kernel_rfl) rfl rfl rfl hopen fun r' H' ⟨e1, e2⟩ => ?_
  subst e1; subst e2
  simp only [go_sem, Nat.reduceAdd, Nat.reduceLeDiff, Nat.reduceSub, Int.reduceToNat, reduceCtorEq, Jn.H]
  repeat (first | refine xA ?_ | refine xB ?_ | refine xC ?_ | refine xE ?_ | refine xD ?_ | refine xK ?_ | refine xS ?_ | refine xM ?_ | refine xT ?_ | refine xF ?_ | ((first | refine xR ?_ | refine xW ?_ | refine vq_id ?_); simp only [go_sem, Nat.reduceAdd, Nat.reduceLeDiff, Nat.reduceSub, Int.reduceToNat, reduceCtorEq, Int.reduceBNe]) | (refine ⟨by first | omega | (intros; simp_all; done) | (intros; simp_all; omega), ?_⟩; try simp only [go_sem, Nat.reduceAdd, Nat.reduceLeDiff, Nat.reduceSub, Int.reduceToNat, reduceCtorEq, Int.reduceBNe]))
  refine AP.rename 1 10 rfl rfl rfl ?_; simp only [go_sem, Nat.reduceAdd, Nat.reduceLeDiff, Nat.reduceSub, Int.reduceToNat, reduceCtorEq]; refine AP.rename 2 11 rfl rfl rfl ?_; simp only [go_sem, Nat.reduceAdd, Nat.reduceLeDiff, Nat.reduceSub, Int.reduceToNat, reduceCtorEq]; refine AP.rename 3 12 rfl rfl rfl ?_; simp only [go_sem, Nat.reduceAdd, Nat.reduceLeDiff, Nat.reduceSub, Int.reduceToNat, reduceCtorEq]
  refine AP.order [12, 11, 10, 0] rfl ?_
  simp only [go_sem, Nat.reduceAdd, Nat.reduceLeDiff, Nat.reduceSub, Int.reduceToNat, reduceCtorEq]
  refine AP.loop rfl (α := Nat × Jn) (fun p => [(2, .im (.sl 3 (acR l2))), (6, Bv false), (7, .ob 0 0), (9, .ob 10 0), (11, .fn 38 [] []), (56, .im (.sl 3 (acR l))), (57, Iv l.length), (58, Iv p.1)]) (fun p => cH p.2 X.D) (fun p => p.1 ≤ l.length ∧ AI p.2) (fun p => l.length - p.1) (0, X) ⟨by omega, hAI⟩ (by rw [acR_len]; exact (by repeat (first | exact Sub.nil _ | refine Sub.cons rfl ?_))) rfl fun ⟨i, x⟩ ⟨hi, hk⟩ => ?_
  simp only at hi hk
  obtain ⟨hxs, hxok, hxne, hxl, hxh⟩ := hk.sz
  repeat (first | refine xA ?_ | refine xB ?_ | refine xC ?_ | refine xE ?_ | refine xD ?_ | refine xK ?_ | refine xS ?_ | refine xM ?_ | refine xT ?_ | refine xF ?_ | ((first | refine xR ?_ | refine xW ?_ | refine vq_id ?_); simp only [go_sem, Nat.reduceAdd, Nat.reduceLeDiff, Nat.reduceSub, Int.reduceToNat, reduceCtorEq]) | (refine ⟨by first | omega | (intros; simp_all; done) | (intros; simp_all; omega), ?_⟩; try simp only [go_sem, Nat.reduceAdd, Nat.reduceLeDiff, Nat.reduceSub, Int.reduceToNat, reduceCtorEq]))
  refine AP.cond rfl rfl (fun hc => ?_) (fun hc => ?_)
  · have hi' : i < l.length := by simp at hc; omega
    have hwi := wr (x := (i : Int) + 1) (by omega)
    have hge := acR_get l i hi'
    have hA := hlA (l.getD i ⟨0, [], []⟩) (by rw [List.getD_eq_getElem?_getD, List.getElem?_eq_getElem hi']; exact List.getElem_mem hi')
    obtain ⟨a, ha⟩ : ∃ a, l.getD i ⟨0, [], []⟩ = a := ⟨_, rfl⟩
    rw [ha] at hge hA
    obtain ⟨y, e, hy, hdo⟩ := do_spec x hk a hA.1
    repeat (first | refine xA ?_ | refine xB ?_ | refine xC ?_ | refine xE ?_ | refine xD ?_ | refine xK ?_ | refine xS ?_ | refine xM ?_ | refine xT ?_ | refine xF ?_ | ((first | refine xR ?_ | refine xW ?_ | refine vq_id ?_); simp only [go_sem, Nat.reduceAdd, Nat.reduceLeDiff, Nat.reduceSub, Int.reduceToNat, reduceCtorEq, hge, acR_len]) | (refine ⟨by first | omega | (intros; simp_all; done) | (intros; simp_all; omega), ?_⟩; try simp only [go_sem, Nat.reduceAdd, Nat.reduceLeDiff, Nat.reduceSub, Int.reduceToNat, reduceCtorEq, hge, acR_len]))
    rcases hdo with hdo | hdo | hdo
    · refine AQ.callH [(2, 12), (1, 11), (0, 10)] (by kernel_rfl) rfl rfl rfl rfl rfl rfl (by exact ⟨rfl, rfl, rfl, trivial⟩) rfl hdo ?_
      rintro r H1 ⟨rfl, rfl⟩
      refine ⟨rfl, ?_⟩
      simp only [go_sem, Nat.reduceAdd, Nat.reduceLeDiff, Nat.reduceSub, Int.reduceToNat, reduceCtorEq, Jn.H, Jn.cs, cH]
      repeat (first | refine xA ?_ | refine xB ?_ | refine xC ?_ | refine xE ?_ | refine xD ?_ | refine xK ?_ | refine xS ?_ | refine xM ?_ | refine xT ?_ | refine xF ?_ | ((first | refine xR ?_ | refine xW ?_ | refine vq_id ?_); simp only [go_sem, Nat.reduceAdd, Nat.reduceLeDiff, Nat.reduceSub, Int.reduceToNat, reduceCtorEq, hwi]) | (refine ⟨by first | omega | (intros; simp_all; done) | (intros; simp_all; omega), ?_⟩; try simp only [go_sem, Nat.reduceAdd, Nat.reduceLeDiff, Nat.reduceSub, Int.reduceToNat, reduceCtorEq, hwi]))
      refine AE.forgets [13] rfl ?_
      simp only [go_sem, Nat.reduceAdd, Nat.reduceLeDiff, Nat.reduceSub, Int.reduceToNat, reduceCtorEq]
      refine AE.rename 17 11 rfl rfl rfl ?_; simp only [go_sem, Nat.reduceAdd, Nat.reduceLeDiff, Nat.reduceSub, Int.reduceToNat, reduceCtorEq]
      refine AE.order [12, 11, 10, 0] rfl ?_
      simp only [go_sem, Nat.reduceAdd, Nat.reduceLeDiff, Nat.reduceSub, Int.reduceToNat, reduceCtorEq]
      exact AE.round (i + 1, y) ⟨by simp only; omega, hy⟩ (by simp only; omega) (by repeat (first | exact Sub.nil _ | refine Sub.cons rfl ?_)) rfl
    · refine AQ.callH [(2, 12), (1, 11), (0, 10)] (by kernel_rfl) rfl rfl rfl rfl rfl rfl (by exact ⟨rfl, rfl, rfl, trivial⟩) rfl hdo ?_
      rintro r H1 ⟨rfl, rfl⟩
      refine ⟨rfl, ?_⟩
      simp only [go_sem, Nat.reduceAdd, Nat.reduceLeDiff, Nat.reduceSub, Int.reduceToNat, reduceCtorEq, Jn.H, Jn.cs, cH]
      repeat (first | refine xA ?_ | refine xB ?_ | refine xC ?_ | refine xE ?_ | refine xD ?_ | refine xK ?_ | refine xS ?_ | refine xM ?_ | refine xT ?_ | refine xF ?_ | ((first | refine xR ?_ | refine xW ?_ | refine vq_id ?_); simp only [go_sem, Nat.reduceAdd, Nat.reduceLeDiff, Nat.reduceSub, Int.reduceToNat, reduceCtorEq, hwi]) | (refine ⟨by first | omega | (intros; simp_all; done) | (intros; simp_all; omega), ?_⟩; try simp only [go_sem, Nat.reduceAdd, Nat.reduceLeDiff, Nat.reduceSub, Int.reduceToNat, reduceCtorEq, hwi]))
      refine AE.forgets [13] rfl ?_
      simp only [go_sem, Nat.reduceAdd, Nat.reduceLeDiff, Nat.reduceSub, Int.reduceToNat, reduceCtorEq]
      refine AE.rename 17 11 rfl rfl rfl ?_; simp only [go_sem, Nat.reduceAdd, Nat.reduceLeDiff, Nat.reduceSub, Int.reduceToNat, reduceCtorEq]; refine AE.rename 18 12 rfl rfl rfl ?_; simp only [go_sem, Nat.reduceAdd, Nat.reduceLeDiff, Nat.reduceSub, Int.reduceToNat, reduceCtorEq]
      refine AE.order [12, 11, 10, 0] rfl ?_
      simp only [go_sem, Nat.reduceAdd, Nat.reduceLeDiff, Nat.reduceSub, Int.reduceToNat, reduceCtorEq]
      exact AE.round (i + 1, y) ⟨by simp only; omega, hy⟩ (by simp only; omega) (by repeat (first | exact Sub.nil _ | refine Sub.cons rfl ?_)) rfl
    · refine AQ.callH [(2, 12), (1, 11), (0, 10)] (by kernel_rfl) rfl rfl rfl rfl rfl rfl (by exact ⟨rfl, rfl, rfl, trivial⟩) rfl hdo ?_
      rintro r H1 ⟨rfl, rfl⟩
      refine ⟨rfl, ?_⟩
      simp only [go_sem, Nat.reduceAdd, Nat.reduceLeDiff, Nat.reduceSub, Int.reduceToNat, reduceCtorEq, Jn.H, Jn.cs, cH]
      repeat (first | refine xA ?_ | refine xB ?_ | refine xC ?_ | refine xE ?_ | refine xD ?_ | refine xK ?_ | refine xS ?_ | refine xM ?_ | refine xT ?_ | refine xF ?_ | ((first | refine xR ?_ | refine xW ?_ | refine vq_id ?_); simp only [go_sem, Nat.reduceAdd, Nat.reduceLeDiff, Nat.reduceSub, Int.reduceToNat, reduceCtorEq, hwi]) | (refine ⟨by first | omega | (intros; simp_all; done) | (intros; simp_all; omega), ?_⟩; try simp only [go_sem, Nat.reduceAdd, Nat.reduceLeDiff, Nat.reduceSub, Int.reduceToNat, reduceCtorEq, hwi]))
      refine AE.forgets [13] rfl ?_
      simp only [go_sem, Nat.reduceAdd, Nat.reduceLeDiff, Nat.reduceSub, Int.reduceToNat, reduceCtorEq]
      refine AE.order [12, 11, 10, 0] rfl ?_
      simp only [go_sem, Nat.reduceAdd, Nat.reduceLeDiff, Nat.reduceSub, Int.reduceToNat, reduceCtorEq]
      exact AE.round (i + 1, y) ⟨by simp only; omega, hy⟩ (by simp only; omega) (by repeat (first | exact Sub.nil _ | refine Sub.cons rfl ?_)) rfl
  · have hco := commit_ok x hxs hxok
    obtain ⟨hW, c, hh, ga, gb⟩ := hk.again
    have hk1 := hk.commit
    obtain ⟨y, hy⟩ : ∃ y, x.synced = y := ⟨_, rfl⟩
    rw [hy] at hco hW ga gb hk1
    obtain ⟨hys, hyok, hyne, hyl, hyh⟩ := hk1.sz
    have hdk := disk_own y ⟨by have := hys.b; simp only; omega, by have := hys.w; simp only; omega⟩
    have hop2 := open_sel y.D ⟨by have := hys.b; simp only; omega, by have := hys.w; simp only; omega⟩ hyok ga gb
    simp only [go_sem, Nat.reduceAdd, Nat.reduceLeDiff, Nat.reduceSub, Int.reduceToNat, reduceCtorEq, cH, Jn.cs]
    repeat (first | refine xA ?_ | refine xB ?_ | refine xC ?_ | refine xE ?_ | refine xD ?_ | refine xK ?_ | refine xS ?_ | refine xM ?_ | refine xT ?_ | refine xF ?_ | ((first | refine xR ?_ | refine xW ?_ | refine vq_id ?_); simp only [go_sem, Nat.reduceAdd, Nat.reduceLeDiff, Nat.reduceSub, Int.reduceToNat, reduceCtorEq]) | (refine ⟨by first | omega | (intros; simp_all; done) | (intros; simp_all; omega), ?_⟩; try simp only [go_sem, Nat.reduceAdd, Nat.reduceLeDiff, Nat.reduceSub, Int.reduceToNat, reduceCtorEq]))
    refine AQ.callH [(2, 12), (1, 11), (0, 10)] (by kernel_rfl) rfl rfl rfl rfl rfl rfl (by exact ⟨rfl, rfl, rfl, trivial⟩) rfl hco ?_
    rintro r H1 ⟨rfl, rfl⟩
    refine ⟨rfl, ?_⟩
    simp only [go_sem, Nat.reduceAdd, Nat.reduceLeDiff, Nat.reduceSub, Int.reduceToNat, reduceCtorEq, Jn.H, Jn.cs]
    repeat (first | refine xA ?_ | refine xB ?_ | refine xC ?_ | refine xE ?_ | refine xD ?_ | refine xK ?_ | refine xS ?_ | refine xM ?_ | refine xT ?_ | refine xF ?_ | ((first | refine xR ?_ | refine xW ?_ | refine vq_id ?_); simp only [go_sem, Nat.reduceAdd, Nat.reduceLeDiff, Nat.reduceSub, Int.reduceToNat, reduceCtorEq]) | (refine ⟨by first | omega | (intros; simp_all; done) | (intros; simp_all; omega), ?_⟩; try simp only [go_sem, Nat.reduceAdd, Nat.reduceLeDiff, Nat.reduceSub, Int.reduceToNat, reduceCtorEq]))
    refine AQ.callL ([.im (.pt y.ic)]) (by kernel_rfl) rfl rfl rfl (by ((try simp only [List.nil_append, List.append_nil, List.map_cons, List.map_nil, AV.st, constAV]); repeat (first | with_reducible exact LentC.nil | with_reducible exact LentAs.nil | with_reducible refine LentC.cons ?_ ?_ | with_reducible refine LentAs.cons ?_ ?_ | with_reducible exact Lent.im _ | with_reducible exact LentA.im _ | with_reducible refine LentA.of ?_ | with_reducible refine LentA.agg ?_ | ((with_reducible apply Lent.osw); rfl; simp only [blkR_len, wrR_len, byteR_len, List.length_append, List.length_cons, List.length_nil]) | ((with_reducible apply Lent.ob0); rfl)))) (hdk) fun r1 H1 ⟨e1, e2⟩ => ?_; subst e1; subst e2; refine ⟨rfl, ⟨blkR_plain _, wrR_plain _, trivial⟩, ?_⟩
    simp only [go_sem, Nat.reduceAdd, Nat.reduceLeDiff, Nat.reduceSub, Int.reduceToNat, reduceCtorEq]
    refine AQ.go (by kernel_rfl) ?_
    simp only [go_sem, Nat.reduceAdd, Nat.reduceLeDiff, Nat.reduceSub, Int.reduceToNat, reduceCtorEq]
    refine AQ.freeze 18 (el := 9) (es := 1) (rows := blkR y.B) rfl (by simp only [go_sem, Nat.reduceAdd, Nat.reduceLeDiff, Nat.reduceSub, Int.reduceToNat, reduceCtorEq, blkR_len]; first | done | trivial | omega | (simp; done) | (simp; omega)) (by simp only [go_sem, Nat.reduceAdd, Nat.reduceLeDiff, Nat.reduceSub, Int.reduceToNat, reduceCtorEq, blkR_len]; first | done | trivial | omega | (simp; done) | (simp; omega)) ?_; simp only [go_sem, Nat.reduceAdd, Nat.reduceLeDiff, Nat.reduceSub, Int.reduceToNat, reduceCtorEq, blkR_len]
    refine AQ.freeze 19 (el := 97) (es := 2) (rows := wrR y.W) rfl (by simp only [go_sem, Nat.reduceAdd, Nat.reduceLeDiff, Nat.reduceSub, Int.reduceToNat, reduceCtorEq, wrR_len]; first | done | trivial | omega | (simp; done) | (simp; omega)) (by simp only [go_sem, Nat.reduceAdd, Nat.reduceLeDiff, Nat.reduceSub, Int.reduceToNat, reduceCtorEq, wrR_len]; first | done | trivial | omega | (simp; done) | (simp; omega)) ?_; simp only [go_sem, Nat.reduceAdd, Nat.reduceLeDiff, Nat.reduceSub, Int.reduceToNat, reduceCtorEq, wrR_len]
    rw [take_all' (blkR y.B) _ (Nat.le_of_eq (blkR_len _)), take_all' (wrR y.W) _ (Nat.le_of_eq (wrR_len _))]
    refine AQ.callv (by kernel_rfl) rfl rfl rfl hop2 fun r' H' ⟨e1, e2⟩ => ?_
    subst e1; subst e2
    simp only [go_sem, Nat.reduceAdd, Nat.reduceLeDiff, Nat.reduceSub, Int.reduceToNat, reduceCtorEq, Jn.H]
    repeat (first | refine xA ?_ | refine xB ?_ | refine xC ?_ | refine xE ?_ | refine xD ?_ | refine xK ?_ | refine xS ?_ | refine xM ?_ | refine xT ?_ | refine xF ?_ | ((first | refine xR ?_ | refine xW ?_ | refine vq_id ?_); simp only [go_sem, Nat.reduceAdd, Nat.reduceLeDiff, Nat.reduceSub, Int.reduceToNat, reduceCtorEq, Int.reduceBNe]) | (refine ⟨by first | omega | (intros; simp_all; done) | (intros; simp_all; omega), ?_⟩; try simp only [go_sem, Nat.reduceAdd, Nat.reduceLeDiff, Nat.reduceSub, Int.reduceToNat, reduceCtorEq, Int.reduceBNe]))
    refine AP.rename 17 20 rfl rfl rfl ?_; simp only [go_sem, Nat.reduceAdd, Nat.reduceLeDiff, Nat.reduceSub, Int.reduceToNat, reduceCtorEq]; refine AP.rename 18 21 rfl rfl rfl ?_; simp only [go_sem, Nat.reduceAdd, Nat.reduceLeDiff, Nat.reduceSub, Int.reduceToNat, reduceCtorEq]; refine AP.rename 19 22 rfl rfl rfl ?_; simp only [go_sem, Nat.reduceAdd, Nat.reduceLeDiff, Nat.reduceSub, Int.reduceToNat, reduceCtorEq]; refine AP.rename 16 11 rfl rfl rfl ?_; simp only [go_sem, Nat.reduceAdd, Nat.reduceLeDiff, Nat.reduceSub, Int.reduceToNat, reduceCtorEq]
    refine AP.order [22, 21, 20, 12, 11, 10, 0] rfl ?_
    simp only [go_sem, Nat.reduceAdd, Nat.reduceLeDiff, Nat.reduceSub, Int.reduceToNat, reduceCtorEq]
    refine AP.loop rfl (α := Nat × Jn) (fun p => [(6, Bv false), (9, .ob 10 0), (11, .fn 38 [] []), (14, .ob 20 0), (77, .im (.sl 3 (acR l2))), (78, Iv l2.length), (79, Iv p.1)]) (fun p => gH p.2 X.D) (fun p => p.1 ≤ l2.length ∧ AI p.2) (fun p => l2.length - p.1) (0, y) ⟨by omega, hk1⟩ (by rw [acR_len]; exact (by repeat (first | exact Sub.nil _ | refine Sub.cons rfl ?_))) rfl fun ⟨i, x⟩ ⟨hi, hk⟩ => ?_
    simp only at hi hk
    obtain ⟨hxs, hxok, hxne, hxl, hxh⟩ := hk.sz
    repeat (first | refine xA ?_ | refine xB ?_ | refine xC ?_ | refine xE ?_ | refine xD ?_ | refine xK ?_ | refine xS ?_ | refine xM ?_ | refine xT ?_ | refine xF ?_ | ((first | refine xR ?_ | refine xW ?_ | refine vq_id ?_); simp only [go_sem, Nat.reduceAdd, Nat.reduceLeDiff, Nat.reduceSub, Int.reduceToNat, reduceCtorEq]) | (refine ⟨by first | omega | (intros; simp_all; done) | (intros; simp_all; omega), ?_⟩; try simp only [go_sem, Nat.reduceAdd, Nat.reduceLeDiff, Nat.reduceSub, Int.reduceToNat, reduceCtorEq]))
    refine AP.cond rfl rfl (fun hc2 => ?_) (fun hc2 => ?_)
    · have hi' : i < l2.length := by simp at hc2; omega
      have hwi := wr (x := (i : Int) + 1) (by omega)
      have hge := acR_get l2 i hi'
      have hA := hl2A (l2.getD i ⟨0, [], []⟩) (by rw [List.getD_eq_getElem?_getD, List.getElem?_eq_getElem hi']; exact List.getElem_mem hi')
      obtain ⟨a, ha⟩ : ∃ a, l2.getD i ⟨0, [], []⟩ = a := ⟨_, rfl⟩
      rw [ha] at hge hA
      obtain ⟨z, e, hz, hdo⟩ := do_spec x hk a hA.1
      obtain ⟨hzs, hzok, hzne, hzl, hzh⟩ := hz.sz
      obtain ⟨s1, rest1, hrec1⟩ := recs_cons hzne
      have hl1 := congrArg List.length hrec1
      rw [List.length_cons] at hl1
      have hzb := hzs.b
      have hzw := hzs.w
      have hal := all_own z s1 rest1 hrec1 (by omega)
      have hrm := room_spec z (by omega) hzs.u
      have hdz := disk_own z ⟨by simp only; omega, by simp only; omega⟩
      have hq1 := eqStrs z.recs z.recs (by omega) (by omega)
      rw [decide_eq_true rfl] at hq1
      have hq2 := eqStrs z.B z.B (by omega) (by omega)
      rw [decide_eq_true rfl] at hq2
      simp only [go_sem, Nat.reduceAdd, Nat.reduceLeDiff, Nat.reduceSub, Int.reduceToNat, reduceCtorEq, gH, Jn.cs]
      repeat (first | refine xA ?_ | refine xB ?_ | refine xC ?_ | refine xE ?_ | refine xD ?_ | refine xK ?_ | refine xS ?_ | refine xM ?_ | refine xT ?_ | refine xF ?_ | ((first | refine xR ?_ | refine xW ?_ | refine vq_id ?_); simp only [go_sem, Nat.reduceAdd, Nat.reduceLeDiff, Nat.reduceSub, Int.reduceToNat, reduceCtorEq, hge, acR_len]) | (refine ⟨by first | omega | (intros; simp_all; done) | (intros; simp_all; omega), ?_⟩; try simp only [go_sem, Nat.reduceAdd, Nat.reduceLeDiff, Nat.reduceSub, Int.reduceToNat, reduceCtorEq, hge, acR_len]))
      rcases hdo with hdo | hdo | hdo
      · skip
        refine AP.drawE 34 (Tree.node [] [0, 1, 2, 4, 5, 6] [3] [Tree.node [4, 5, 6] [] [7] [Tree.node [] [8, 9, 10, 12] [11] [Tree.node [12] [] [13] [Tree.node [] [] [14] [Tree.node [] [15, 16, 17, 18, 20] [19] [Tree.node [20] [] [21] [Tree.node [] [22, 23, 24, 25, 28] [26] [Tree.node [28] [27] [29] [Tree.node [27] [30] [31] [Tree.node [] [32, 33] [] []]]]]]]]]]]) (by kernel_rfl) rfl (by kernel_rfl) (by kernel_rfl) ?_
        refine vd_node ?_
        simp only [go_sem, Nat.reduceAdd, Nat.reduceLeDiff, Nat.reduceSub, Int.reduceToNat, reduceCtorEq]
        refine AQ.callH [(2, 12), (1, 11), (0, 10)] (by kernel_rfl) rfl rfl rfl rfl rfl rfl (by exact ⟨rfl, rfl, rfl, trivial⟩) rfl hdo ?_
        rintro r H1 ⟨rfl, rfl⟩
        refine ⟨rfl, ?_⟩
        simp only [go_sem, Nat.reduceAdd, Nat.reduceLeDiff, Nat.reduceSub, Int.reduceToNat, reduceCtorEq, Jn.H, Jn.cs]
        refine AQ.nx rfl ?_
        simp only [go_sem, Nat.reduceAdd, Nat.reduceLeDiff, Nat.reduceSub, Int.reduceToNat, reduceCtorEq]
        refine AQ.callH [(2, 22), (1, 21), (0, 20)] (by kernel_rfl) rfl rfl rfl rfl rfl rfl (by exact ⟨rfl, rfl, rfl, trivial⟩) rfl hdo ?_
        rintro r H1 ⟨rfl, rfl⟩
        refine ⟨rfl, ?_⟩
        simp only [go_sem, Nat.reduceAdd, Nat.reduceLeDiff, Nat.reduceSub, Int.reduceToNat, reduceCtorEq, Jn.H, Jn.cs]
        refine AQ.rename 27 11 rfl rfl rfl ?_; simp only [go_sem, Nat.reduceAdd, Nat.reduceLeDiff, Nat.reduceSub, Int.reduceToNat, reduceCtorEq]; refine AQ.rename 31 21 rfl rfl rfl ?_; simp only [go_sem, Nat.reduceAdd, Nat.reduceLeDiff, Nat.reduceSub, Int.reduceToNat, reduceCtorEq]
        refine AQ.order [23, 22, 21, 20, 12, 11, 10, 0] rfl ?_
        simp only [go_sem, Nat.reduceAdd, Nat.reduceLeDiff, Nat.reduceSub, Int.reduceToNat, reduceCtorEq]
        refine AQ.nx rfl ?_
        simp only [go_sem, Nat.reduceAdd, Nat.reduceLeDiff, Nat.reduceSub, Int.reduceToNat, reduceCtorEq, bne_self_eq_false]
        refine AQ.guard_yes (by simp only [go_sem]) ?_
        refine AQ.callL ([.im (.pt z.ic)]) (by kernel_rfl) rfl rfl rfl (by ((try simp only [List.nil_append, List.append_nil, List.map_cons, List.map_nil, AV.st, constAV]); repeat (first | with_reducible exact LentC.nil | with_reducible exact LentAs.nil | with_reducible refine LentC.cons ?_ ?_ | with_reducible refine LentAs.cons ?_ ?_ | with_reducible exact Lent.im _ | with_reducible exact LentA.im _ | with_reducible refine LentA.of ?_ | with_reducible refine LentA.agg ?_ | ((with_reducible apply Lent.osw); rfl; simp only [blkR_len, wrR_len, byteR_len, List.length_append, List.length_cons, List.length_nil]) | ((with_reducible apply Lent.ob0); rfl)))) (hal) fun r1 H1 ⟨e1, e2⟩ => ?_; subst e1; subst e2; refine ⟨rfl, ⟨blkR_plain _, trivial⟩, ?_⟩
        simp only [go_sem, Nat.reduceAdd, Nat.reduceLeDiff, Nat.reduceSub, Int.reduceToNat, reduceCtorEq]
        refine AQ.nx rfl ?_
        simp only [go_sem, Nat.reduceAdd, Nat.reduceLeDiff, Nat.reduceSub, Int.reduceToNat, reduceCtorEq]
        refine AQ.guard_yes (by simp only [go_sem]) ?_
        refine AQ.callL ([.im (.pt z.ic)]) (by kernel_rfl) rfl rfl rfl (by ((try simp only [List.nil_append, List.append_nil, List.map_cons, List.map_nil, AV.st, constAV]); repeat (first | with_reducible exact LentC.nil | with_reducible exact LentAs.nil | with_reducible refine LentC.cons ?_ ?_ | with_reducible refine LentAs.cons ?_ ?_ | with_reducible exact Lent.im _ | with_reducible exact LentA.im _ | with_reducible refine LentA.of ?_ | with_reducible refine LentA.agg ?_ | ((with_reducible apply Lent.osw); rfl; simp only [blkR_len, wrR_len, byteR_len, List.length_append, List.length_cons, List.length_nil]) | ((with_reducible apply Lent.ob0); rfl)))) (hal) fun r1 H1 ⟨e1, e2⟩ => ?_; subst e1; subst e2; refine ⟨rfl, ⟨blkR_plain _, trivial⟩, ?_⟩
        simp only [go_sem, Nat.reduceAdd, Nat.reduceLeDiff, Nat.reduceSub, Int.reduceToNat, reduceCtorEq]
        refine AQ.nx rfl ?_
        simp only [go_sem, Nat.reduceAdd, Nat.reduceLeDiff, Nat.reduceSub, Int.reduceToNat, reduceCtorEq]
        refine AQ.guard_yes (by simp only [go_sem]) ?_
        refine AQ.fnL ([.im (.sl 1 (blkR z.recs)), .im (.sl 1 (blkR z.recs))]) (by kernel_rfl) rfl rfl rfl (by ((try simp only [List.nil_append, List.append_nil, List.map_cons, List.map_nil, AV.st, constAV]); repeat (first | with_reducible exact LentC.nil | with_reducible exact LentAs.nil | with_reducible refine LentC.cons ?_ ?_ | with_reducible refine LentAs.cons ?_ ?_ | with_reducible exact Lent.im _ | with_reducible exact LentA.im _ | with_reducible refine LentA.of ?_ | with_reducible refine LentA.agg ?_ | ((with_reducible apply Lent.osw); rfl; simp only [blkR_len, wrR_len, byteR_len, List.length_append, List.length_cons, List.length_nil]) | ((with_reducible apply Lent.ob0); rfl)))) (hq1) rfl (fun _ => rfl) ?_
        simp only [go_sem, Nat.reduceAdd, Nat.reduceLeDiff, Nat.reduceSub, Int.reduceToNat, reduceCtorEq]
        refine AQ.nx rfl ?_
        simp only [go_sem, Nat.reduceAdd, Nat.reduceLeDiff, Nat.reduceSub, Int.reduceToNat, reduceCtorEq]
        refine AQ.guard_yes (by simp only [go_sem]) ?_
        refine AQ.fnL ([.im (.pt z.ic)]) (by kernel_rfl) rfl rfl rfl (by ((try simp only [List.nil_append, List.append_nil, List.map_cons, List.map_nil, AV.st, constAV]); repeat (first | with_reducible exact LentC.nil | with_reducible exact LentAs.nil | with_reducible refine LentC.cons ?_ ?_ | with_reducible refine LentAs.cons ?_ ?_ | with_reducible exact Lent.im _ | with_reducible exact LentA.im _ | with_reducible refine LentA.of ?_ | with_reducible refine LentA.agg ?_ | ((with_reducible apply Lent.osw); rfl; simp only [blkR_len, wrR_len, byteR_len, List.length_append, List.length_cons, List.length_nil]) | ((with_reducible apply Lent.ob0); rfl)))) (hrm) rfl (fun _ => rfl) ?_
        simp only [go_sem, Nat.reduceAdd, Nat.reduceLeDiff, Nat.reduceSub, Int.reduceToNat, reduceCtorEq]
        refine AQ.nx rfl ?_
        simp only [go_sem, Nat.reduceAdd, Nat.reduceLeDiff, Nat.reduceSub, Int.reduceToNat, reduceCtorEq]
        refine AQ.guard_yes (by simp only [go_sem]) ?_
        refine AQ.fnL ([.im (.pt z.ic)]) (by kernel_rfl) rfl rfl rfl (by ((try simp only [List.nil_append, List.append_nil, List.map_cons, List.map_nil, AV.st, constAV]); repeat (first | with_reducible exact LentC.nil | with_reducible exact LentAs.nil | with_reducible refine LentC.cons ?_ ?_ | with_reducible refine LentAs.cons ?_ ?_ | with_reducible exact Lent.im _ | with_reducible exact LentA.im _ | with_reducible refine LentA.of ?_ | with_reducible refine LentA.agg ?_ | ((with_reducible apply Lent.osw); rfl; simp only [blkR_len, wrR_len, byteR_len, List.length_append, List.length_cons, List.length_nil]) | ((with_reducible apply Lent.ob0); rfl)))) (hrm) rfl (fun _ => rfl) ?_
        simp only [go_sem, Nat.reduceAdd, Nat.reduceLeDiff, Nat.reduceSub, Int.reduceToNat, reduceCtorEq, bne_self_eq_false]
        refine AQ.nx rfl ?_
        simp only [go_sem, Nat.reduceAdd, Nat.reduceLeDiff, Nat.reduceSub, Int.reduceToNat, reduceCtorEq, bne_self_eq_false]
        refine AQ.guard_yes (by simp only [go_sem]) ?_
        refine AQ.callL ([.im (.pt z.ic)]) (by kernel_rfl) rfl rfl rfl (by ((try simp only [List.nil_append, List.append_nil, List.map_cons, List.map_nil, AV.st, constAV]); repeat (first | with_reducible exact LentC.nil | with_reducible exact LentAs.nil | with_reducible refine LentC.cons ?_ ?_ | with_reducible refine LentAs.cons ?_ ?_ | with_reducible exact Lent.im _ | with_reducible exact LentA.im _ | with_reducible refine LentA.of ?_ | with_reducible refine LentA.agg ?_ | ((with_reducible apply Lent.osw); rfl; simp only [blkR_len, wrR_len, byteR_len, List.length_append, List.length_cons, List.length_nil]) | ((with_reducible apply Lent.ob0); rfl)))) (hdz) fun r1 H1 ⟨e1, e2⟩ => ?_; subst e1; subst e2; refine ⟨rfl, ⟨blkR_plain _, wrR_plain _, trivial⟩, ?_⟩
        simp only [go_sem, Nat.reduceAdd, Nat.reduceLeDiff, Nat.reduceSub, Int.reduceToNat, reduceCtorEq]
        refine AQ.nx rfl ?_
        simp only [go_sem, Nat.reduceAdd, Nat.reduceLeDiff, Nat.reduceSub, Int.reduceToNat, reduceCtorEq]
        refine AQ.guard_yes (by simp only [go_sem]) ?_
        refine AQ.callL ([.im (.pt z.ic)]) (by kernel_rfl) rfl rfl rfl (by ((try simp only [List.nil_append, List.append_nil, List.map_cons, List.map_nil, AV.st, constAV]); repeat (first | with_reducible exact LentC.nil | with_reducible exact LentAs.nil | with_reducible refine LentC.cons ?_ ?_ | with_reducible refine LentAs.cons ?_ ?_ | with_reducible exact Lent.im _ | with_reducible exact LentA.im _ | with_reducible refine LentA.of ?_ | with_reducible refine LentA.agg ?_ | ((with_reducible apply Lent.osw); rfl; simp only [blkR_len, wrR_len, byteR_len, List.length_append, List.length_cons, List.length_nil]) | ((with_reducible apply Lent.ob0); rfl)))) (hdz) fun r1 H1 ⟨e1, e2⟩ => ?_; subst e1; subst e2; refine ⟨rfl, ⟨blkR_plain _, wrR_plain _, trivial⟩, ?_⟩
        simp only [go_sem, Nat.reduceAdd, Nat.reduceLeDiff, Nat.reduceSub, Int.reduceToNat, reduceCtorEq]
        refine AQ.nx rfl ?_
        simp only [go_sem, Nat.reduceAdd, Nat.reduceLeDiff, Nat.reduceSub, Int.reduceToNat, reduceCtorEq]
        refine AQ.guard_yes (by simp only [go_sem]) ?_
        refine AQ.fnL ([.im (.sl 1 (blkR z.B)), .im (.sl 1 (blkR z.B))]) (by kernel_rfl) rfl rfl rfl (by ((try simp only [List.nil_append, List.append_nil, List.map_cons, List.map_nil, AV.st, constAV]); repeat (first | with_reducible exact LentC.nil | with_reducible exact LentAs.nil | with_reducible refine LentC.cons ?_ ?_ | with_reducible refine LentAs.cons ?_ ?_ | with_reducible exact Lent.im _ | with_reducible exact LentA.im _ | with_reducible refine LentA.of ?_ | with_reducible refine LentA.agg ?_ | ((with_reducible apply Lent.osw); rfl; simp only [blkR_len, wrR_len, byteR_len, List.length_append, List.length_cons, List.length_nil]) | ((with_reducible apply Lent.ob0); rfl)))) (hq2) rfl (fun _ => rfl) ?_
        simp only [go_sem, Nat.reduceAdd, Nat.reduceLeDiff, Nat.reduceSub, Int.reduceToNat, reduceCtorEq]
        refine AQ.nx rfl ?_
        simp only [go_sem, Nat.reduceAdd, Nat.reduceLeDiff, Nat.reduceSub, Int.reduceToNat, reduceCtorEq]
        refine AQ.done ?_
        repeat (first | refine xA ?_ | refine xB ?_ | refine xC ?_ | refine xE ?_ | refine xD ?_ | refine xK ?_ | refine xS ?_ | refine xM ?_ | refine xT ?_ | refine xF ?_ | ((first | refine xR ?_ | refine xW ?_ | refine vq_id ?_); simp only [go_sem, Nat.reduceAdd, Nat.reduceLeDiff, Nat.reduceSub, Int.reduceToNat, reduceCtorEq, hwi]) | (refine ⟨by first | omega | (intros; simp_all; done) | (intros; simp_all; omega), ?_⟩; try simp only [go_sem, Nat.reduceAdd, Nat.reduceLeDiff, Nat.reduceSub, Int.reduceToNat, reduceCtorEq, hwi]))
        refine AE.forgets [23, 25, 27, 29, 30, 32, 33] rfl ?_
        simp only [go_sem, Nat.reduceAdd, Nat.reduceLeDiff, Nat.reduceSub, Int.reduceToNat, reduceCtorEq]
        exact AE.round (i + 1, z) ⟨by simp only; omega, hz⟩ (by simp only; omega) (by repeat (first | exact Sub.nil _ | refine Sub.cons rfl ?_)) rfl
      · skip
        refine AP.drawE 34 (Tree.node [] [0, 1, 2, 4, 5, 6] [3] [Tree.node [4, 5, 6] [] [7] [Tree.node [] [8, 9, 10, 12] [11] [Tree.node [12] [] [13] [Tree.node [] [] [14] [Tree.node [] [15, 16, 17, 18, 20] [19] [Tree.node [20] [] [21] [Tree.node [] [22, 23, 24, 25, 28] [26] [Tree.node [28] [27] [29] [Tree.node [27] [30] [31] [Tree.node [] [32, 33] [] []]]]]]]]]]]) (by kernel_rfl) rfl (by kernel_rfl) (by kernel_rfl) ?_
        refine vd_node ?_
        simp only [go_sem, Nat.reduceAdd, Nat.reduceLeDiff, Nat.reduceSub, Int.reduceToNat, reduceCtorEq]
        refine AQ.callH [(2, 12), (1, 11), (0, 10)] (by kernel_rfl) rfl rfl rfl rfl rfl rfl (by exact ⟨rfl, rfl, rfl, trivial⟩) rfl hdo ?_
        rintro r H1 ⟨rfl, rfl⟩
        refine ⟨rfl, ?_⟩
        simp only [go_sem, Nat.reduceAdd, Nat.reduceLeDiff, Nat.reduceSub, Int.reduceToNat, reduceCtorEq, Jn.H, Jn.cs]
        refine AQ.nx rfl ?_
        simp only [go_sem, Nat.reduceAdd, Nat.reduceLeDiff, Nat.reduceSub, Int.reduceToNat, reduceCtorEq]
        refine AQ.callH [(2, 22), (1, 21), (0, 20)] (by kernel_rfl) rfl rfl rfl rfl rfl rfl (by exact ⟨rfl, rfl, rfl, trivial⟩) rfl hdo ?_
        rintro r H1 ⟨rfl, rfl⟩
        refine ⟨rfl, ?_⟩
        simp only [go_sem, Nat.reduceAdd, Nat.reduceLeDiff, Nat.reduceSub, Int.reduceToNat, reduceCtorEq, Jn.H, Jn.cs]
        refine AQ.rename 27 11 rfl rfl rfl ?_; simp only [go_sem, Nat.reduceAdd, Nat.reduceLeDiff, Nat.reduceSub, Int.reduceToNat, reduceCtorEq]; refine AQ.rename 28 12 rfl rfl rfl ?_; simp only [go_sem, Nat.reduceAdd, Nat.reduceLeDiff, Nat.reduceSub, Int.reduceToNat, reduceCtorEq]; refine AQ.rename 32 21 rfl rfl rfl ?_; simp only [go_sem, Nat.reduceAdd, Nat.reduceLeDiff, Nat.reduceSub, Int.reduceToNat, reduceCtorEq]; refine AQ.rename 33 22 rfl rfl rfl ?_; simp only [go_sem, Nat.reduceAdd, Nat.reduceLeDiff, Nat.reduceSub, Int.reduceToNat, reduceCtorEq]
        refine AQ.order [23, 22, 21, 20, 12, 11, 10, 0] rfl ?_
        simp only [go_sem, Nat.reduceAdd, Nat.reduceLeDiff, Nat.reduceSub, Int.reduceToNat, reduceCtorEq]
        refine AQ.nx rfl ?_
        simp only [go_sem, Nat.reduceAdd, Nat.reduceLeDiff, Nat.reduceSub, Int.reduceToNat, reduceCtorEq, bne_self_eq_false]
        refine AQ.guard_yes (by simp only [go_sem]) ?_
        refine AQ.callL ([.im (.pt z.ic)]) (by kernel_rfl) rfl rfl rfl (by ((try simp only [List.nil_append, List.append_nil, List.map_cons, List.map_nil, AV.st, constAV]); repeat (first | with_reducible exact LentC.nil | with_reducible exact LentAs.nil | with_reducible refine LentC.cons ?_ ?_ | with_reducible refine LentAs.cons ?_ ?_ | with_reducible exact Lent.im _ | with_reducible exact LentA.im _ | with_reducible refine LentA.of ?_ | with_reducible refine LentA.agg ?_ | ((with_reducible apply Lent.osw); rfl; simp only [blkR_len, wrR_len, byteR_len, List.length_append, List.length_cons, List.length_nil]) | ((with_reducible apply Lent.ob0); rfl)))) (hal) fun r1 H1 ⟨e1, e2⟩ => ?_; subst e1; subst e2; refine ⟨rfl, ⟨blkR_plain _, trivial⟩, ?_⟩
        simp only [go_sem, Nat.reduceAdd, Nat.reduceLeDiff, Nat.reduceSub, Int.reduceToNat, reduceCtorEq]
        refine AQ.nx rfl ?_
        simp only [go_sem, Nat.reduceAdd, Nat.reduceLeDiff, Nat.reduceSub, Int.reduceToNat, reduceCtorEq]
        refine AQ.guard_yes (by simp only [go_sem]) ?_
        refine AQ.callL ([.im (.pt z.ic)]) (by kernel_rfl) rfl rfl rfl (by ((try simp only [List.nil_append, List.append_nil, List.map_cons, List.map_nil, AV.st, constAV]); repeat (first | with_reducible exact LentC.nil | with_reducible exact LentAs.nil | with_reducible refine LentC.cons ?_ ?_ | with_reducible refine LentAs.cons ?_ ?_ | with_reducible exact Lent.im _ | with_reducible exact LentA.im _ | with_reducible refine LentA.of ?_ | with_reducible refine LentA.agg ?_ | ((with_reducible apply Lent.osw); rfl; simp only [blkR_len, wrR_len, byteR_len, List.length_append, List.length_cons, List.length_nil]) | ((with_reducible apply Lent.ob0); rfl)))) (hal) fun r1 H1 ⟨e1, e2⟩ => ?_; subst e1; subst e2; refine ⟨rfl, ⟨blkR_plain _, trivial⟩, ?_⟩
        simp only [go_sem, Nat.reduceAdd, Nat.reduceLeDiff, Nat.reduceSub, Int.reduceToNat, reduceCtorEq]
        refine AQ.nx rfl ?_
        simp only [go_sem, Nat.reduceAdd, Nat.reduceLeDiff, Nat.reduceSub, Int.reduceToNat, reduceCtorEq]
        refine AQ.guard_yes (by simp only [go_sem]) ?_
        refine AQ.fnL ([.im (.sl 1 (blkR z.recs)), .im (.sl 1 (blkR z.recs))]) (by kernel_rfl) rfl rfl rfl (by ((try simp only [List.nil_append, List.append_nil, List.map_cons, List.map_nil, AV.st, constAV]); repeat (first | with_reducible exact LentC.nil | with_reducible exact LentAs.nil | with_reducible refine LentC.cons ?_ ?_ | with_reducible refine LentAs.cons ?_ ?_ | with_reducible exact Lent.im _ | with_reducible exact LentA.im _ | with_reducible refine LentA.of ?_ | with_reducible refine LentA.agg ?_ | ((with_reducible apply Lent.osw); rfl; simp only [blkR_len, wrR_len, byteR_len, List.length_append, List.length_cons, List.length_nil]) | ((with_reducible apply Lent.ob0); rfl)))) (hq1) rfl (fun _ => rfl) ?_
        simp only [go_sem, Nat.reduceAdd, Nat.reduceLeDiff, Nat.reduceSub, Int.reduceToNat, reduceCtorEq]
        refine AQ.nx rfl ?_
        simp only [go_sem, Nat.reduceAdd, Nat.reduceLeDiff, Nat.reduceSub, Int.reduceToNat, reduceCtorEq]
        refine AQ.guard_yes (by simp only [go_sem]) ?_
        refine AQ.fnL ([.im (.pt z.ic)]) (by kernel_rfl) rfl rfl rfl (by ((try simp only [List.nil_append, List.append_nil, List.map_cons, List.map_nil, AV.st, constAV]); repeat (first | with_reducible exact LentC.nil | with_reducible exact LentAs.nil | with_reducible refine LentC.cons ?_ ?_ | with_reducible refine LentAs.cons ?_ ?_ | with_reducible exact Lent.im _ | with_reducible exact LentA.im _ | with_reducible refine LentA.of ?_ | with_reducible refine LentA.agg ?_ | ((with_reducible apply Lent.osw); rfl; simp only [blkR_len, wrR_len, byteR_len, List.length_append, List.length_cons, List.length_nil]) | ((with_reducible apply Lent.ob0); rfl)))) (hrm) rfl (fun _ => rfl) ?_
        simp only [go_sem, Nat.reduceAdd, Nat.reduceLeDiff, Nat.reduceSub, Int.reduceToNat, reduceCtorEq]
        refine AQ.nx rfl ?_
        simp only [go_sem, Nat.reduceAdd, Nat.reduceLeDiff, Nat.reduceSub, Int.reduceToNat, reduceCtorEq]
        refine AQ.guard_yes (by simp only [go_sem]) ?_
        refine AQ.fnL ([.im (.pt z.ic)]) (by kernel_rfl) rfl rfl rfl (by ((try simp only [List.nil_append, List.append_nil, List.map_cons, List.map_nil, AV.st, constAV]); repeat (first | with_reducible exact LentC.nil | with_reducible exact LentAs.nil | with_reducible refine LentC.cons ?_ ?_ | with_reducible refine LentAs.cons ?_ ?_ | with_reducible exact Lent.im _ | with_reducible exact LentA.im _ | with_reducible refine LentA.of ?_ | with_reducible refine LentA.agg ?_ | ((with_reducible apply Lent.osw); rfl; simp only [blkR_len, wrR_len, byteR_len, List.length_append, List.length_cons, List.length_nil]) | ((with_reducible apply Lent.ob0); rfl)))) (hrm) rfl (fun _ => rfl) ?_
        simp only [go_sem, Nat.reduceAdd, Nat.reduceLeDiff, Nat.reduceSub, Int.reduceToNat, reduceCtorEq, bne_self_eq_false]
        refine AQ.nx rfl ?_
        simp only [go_sem, Nat.reduceAdd, Nat.reduceLeDiff, Nat.reduceSub, Int.reduceToNat, reduceCtorEq, bne_self_eq_false]
        refine AQ.guard_yes (by simp only [go_sem]) ?_
        refine AQ.callL ([.im (.pt z.ic)]) (by kernel_rfl) rfl rfl rfl (by ((try simp only [List.nil_append, List.append_nil, List.map_cons, List.map_nil, AV.st, constAV]); repeat (first | with_reducible exact LentC.nil | with_reducible exact LentAs.nil | with_reducible refine LentC.cons ?_ ?_ | with_reducible refine LentAs.cons ?_ ?_ | with_reducible exact Lent.im _ | with_reducible exact LentA.im _ | with_reducible refine LentA.of ?_ | with_reducible refine LentA.agg ?_ | ((with_reducible apply Lent.osw); rfl; simp only [blkR_len, wrR_len, byteR_len, List.length_append, List.length_cons, List.length_nil]) | ((with_reducible apply Lent.ob0); rfl)))) (hdz) fun r1 H1 ⟨e1, e2⟩ => ?_; subst e1; subst e2; refine ⟨rfl, ⟨blkR_plain _, wrR_plain _, trivial⟩, ?_⟩
        simp only [go_sem, Nat.reduceAdd, Nat.reduceLeDiff, Nat.reduceSub, Int.reduceToNat, reduceCtorEq]
        refine AQ.nx rfl ?_
        simp only [go_sem, Nat.reduceAdd, Nat.reduceLeDiff, Nat.reduceSub, Int.reduceToNat, reduceCtorEq]
        refine AQ.guard_yes (by simp only [go_sem]) ?_
        refine AQ.callL ([.im (.pt z.ic)]) (by kernel_rfl) rfl rfl rfl (by ((try simp only [List.nil_append, List.append_nil, List.map_cons, List.map_nil, AV.st, constAV]); repeat (first | with_reducible exact LentC.nil | with_reducible exact LentAs.nil | with_reducible refine LentC.cons ?_ ?_ | with_reducible refine LentAs.cons ?_ ?_ | with_reducible exact Lent.im _ | with_reducible exact LentA.im _ | with_reducible refine LentA.of ?_ | with_reducible refine LentA.agg ?_ | ((with_reducible apply Lent.osw); rfl; simp only [blkR_len, wrR_len, byteR_len, List.length_append, List.length_cons, List.length_nil]) | ((with_reducible apply Lent.ob0); rfl)))) (hdz) fun r1 H1 ⟨e1, e2⟩ => ?_; subst e1; subst e2; refine ⟨rfl, ⟨blkR_plain _, wrR_plain _, trivial⟩, ?_⟩
        simp only [go_sem, Nat.reduceAdd, Nat.reduceLeDiff, Nat.reduceSub, Int.reduceToNat, reduceCtorEq]
        refine AQ.nx rfl ?_
        simp only [go_sem, Nat.reduceAdd, Nat.reduceLeDiff, Nat.reduceSub, Int.reduceToNat, reduceCtorEq]
        refine AQ.guard_yes (by simp only [go_sem]) ?_
        refine AQ.fnL ([.im (.sl 1 (blkR z.B)), .im (.sl 1 (blkR z.B))]) (by kernel_rfl) rfl rfl rfl (by ((try simp only [List.nil_append, List.append_nil, List.map_cons, List.map_nil, AV.st, constAV]); repeat (first | with_reducible exact LentC.nil | with_reducible exact LentAs.nil | with_reducible refine LentC.cons ?_ ?_ | with_reducible refine LentAs.cons ?_ ?_ | with_reducible exact Lent.im _ | with_reducible exact LentA.im _ | with_reducible refine LentA.of ?_ | with_reducible refine LentA.agg ?_ | ((with_reducible apply Lent.osw); rfl; simp only [blkR_len, wrR_len, byteR_len, List.length_append, List.length_cons, List.length_nil]) | ((with_reducible apply Lent.ob0); rfl)))) (hq2) rfl (fun _ => rfl) ?_
        simp only [go_sem, Nat.reduceAdd, Nat.reduceLeDiff, Nat.reduceSub, Int.reduceToNat, reduceCtorEq]
        refine AQ.nx rfl ?_
        simp only [go_sem, Nat.reduceAdd, Nat.reduceLeDiff, Nat.reduceSub, Int.reduceToNat, reduceCtorEq]
        refine AQ.done ?_
        repeat (first | refine xA ?_ | refine xB ?_ | refine xC ?_ | refine xE ?_ | refine xD ?_ | refine xK ?_ | refine xS ?_ | refine xM ?_ | refine xT ?_ | refine xF ?_ | ((first | refine xR ?_ | refine xW ?_ | refine vq_id ?_); simp only [go_sem, Nat.reduceAdd, Nat.reduceLeDiff, Nat.reduceSub, Int.reduceToNat, reduceCtorEq, hwi]) | (refine ⟨by first | omega | (intros; simp_all; done) | (intros; simp_all; omega), ?_⟩; try simp only [go_sem, Nat.reduceAdd, Nat.reduceLeDiff, Nat.reduceSub, Int.reduceToNat, reduceCtorEq, hwi]))
        refine AE.forgets [23, 25, 27, 29, 30, 32, 33] rfl ?_
        simp only [go_sem, Nat.reduceAdd, Nat.reduceLeDiff, Nat.reduceSub, Int.reduceToNat, reduceCtorEq]
        exact AE.round (i + 1, z) ⟨by simp only; omega, hz⟩ (by simp only; omega) (by repeat (first | exact Sub.nil _ | refine Sub.cons rfl ?_)) rfl
      · skip
        refine AP.drawE 34 (Tree.node [] [0, 1, 2, 4, 5, 6] [3] [Tree.node [4, 5, 6] [] [7] [Tree.node [] [8, 9, 10, 12] [11] [Tree.node [12] [] [13] [Tree.node [] [] [14] [Tree.node [] [15, 16, 17, 18, 20] [19] [Tree.node [20] [] [21] [Tree.node [] [22, 23, 24, 25, 28] [26] [Tree.node [28] [27] [29] [Tree.node [27] [30] [31] [Tree.node [] [32, 33] [] []]]]]]]]]]]) (by kernel_rfl) rfl (by kernel_rfl) (by kernel_rfl) ?_
        refine vd_node ?_
        simp only [go_sem, Nat.reduceAdd, Nat.reduceLeDiff, Nat.reduceSub, Int.reduceToNat, reduceCtorEq]
        refine AQ.callH [(2, 12), (1, 11), (0, 10)] (by kernel_rfl) rfl rfl rfl rfl rfl rfl (by exact ⟨rfl, rfl, rfl, trivial⟩) rfl hdo ?_
        rintro r H1 ⟨rfl, rfl⟩
        refine ⟨rfl, ?_⟩
        simp only [go_sem, Nat.reduceAdd, Nat.reduceLeDiff, Nat.reduceSub, Int.reduceToNat, reduceCtorEq, Jn.H, Jn.cs]
        refine AQ.nx rfl ?_
        simp only [go_sem, Nat.reduceAdd, Nat.reduceLeDiff, Nat.reduceSub, Int.reduceToNat, reduceCtorEq]
        refine AQ.callH [(2, 22), (1, 21), (0, 20)] (by kernel_rfl) rfl rfl rfl rfl rfl rfl (by exact ⟨rfl, rfl, rfl, trivial⟩) rfl hdo ?_
        rintro r H1 ⟨rfl, rfl⟩
        refine ⟨rfl, ?_⟩
        simp only [go_sem, Nat.reduceAdd, Nat.reduceLeDiff, Nat.reduceSub, Int.reduceToNat, reduceCtorEq, Jn.H, Jn.cs]
        refine AQ.order [23, 22, 21, 20, 12, 11, 10, 0] rfl ?_
        simp only [go_sem, Nat.reduceAdd, Nat.reduceLeDiff, Nat.reduceSub, Int.reduceToNat, reduceCtorEq]
        refine AQ.nx rfl ?_
        simp only [go_sem, Nat.reduceAdd, Nat.reduceLeDiff, Nat.reduceSub, Int.reduceToNat, reduceCtorEq, bne_self_eq_false]
        refine AQ.guard_yes (by simp only [go_sem]) ?_
        refine AQ.callL ([.im (.pt z.ic)]) (by kernel_rfl) rfl rfl rfl (by ((try simp only [List.nil_append, List.append_nil, List.map_cons, List.map_nil, AV.st, constAV]); repeat (first | with_reducible exact LentC.nil | with_reducible exact LentAs.nil | with_reducible refine LentC.cons ?_ ?_ | with_reducible refine LentAs.cons ?_ ?_ | with_reducible exact Lent.im _ | with_reducible exact LentA.im _ | with_reducible refine LentA.of ?_ | with_reducible refine LentA.agg ?_ | ((with_reducible apply Lent.osw); rfl; simp only [blkR_len, wrR_len, byteR_len, List.length_append, List.length_cons, List.length_nil]) | ((with_reducible apply Lent.ob0); rfl)))) (hal) fun r1 H1 ⟨e1, e2⟩ => ?_; subst e1; subst e2; refine ⟨rfl, ⟨blkR_plain _, trivial⟩, ?_⟩
        simp only [go_sem, Nat.reduceAdd, Nat.reduceLeDiff, Nat.reduceSub, Int.reduceToNat, reduceCtorEq]
        refine AQ.nx rfl ?_
        simp only [go_sem, Nat.reduceAdd, Nat.reduceLeDiff, Nat.reduceSub, Int.reduceToNat, reduceCtorEq]
        refine AQ.guard_yes (by simp only [go_sem]) ?_
        refine AQ.callL ([.im (.pt z.ic)]) (by kernel_rfl) rfl rfl rfl (by ((try simp only [List.nil_append, List.append_nil, List.map_cons, List.map_nil, AV.st, constAV]); repeat (first | with_reducible exact LentC.nil | with_reducible exact LentAs.nil | with_reducible refine LentC.cons ?_ ?_ | with_reducible refine LentAs.cons ?_ ?_ | with_reducible exact Lent.im _ | with_reducible exact LentA.im _ | with_reducible refine LentA.of ?_ | with_reducible refine LentA.agg ?_ | ((with_reducible apply Lent.osw); rfl; simp only [blkR_len, wrR_len, byteR_len, List.length_append, List.length_cons, List.length_nil]) | ((with_reducible apply Lent.ob0); rfl)))) (hal) fun r1 H1 ⟨e1, e2⟩ => ?_; subst e1; subst e2; refine ⟨rfl, ⟨blkR_plain _, trivial⟩, ?_⟩
        simp only [go_sem, Nat.reduceAdd, Nat.reduceLeDiff, Nat.reduceSub, Int.reduceToNat, reduceCtorEq]
        refine AQ.nx rfl ?_
        simp only [go_sem, Nat.reduceAdd, Nat.reduceLeDiff, Nat.reduceSub, Int.reduceToNat, reduceCtorEq]
        refine AQ.guard_yes (by simp only [go_sem]) ?_
        refine AQ.fnL ([.im (.sl 1 (blkR z.recs)), .im (.sl 1 (blkR z.recs))]) (by kernel_rfl) rfl rfl rfl (by ((try simp only [List.nil_append, List.append_nil, List.map_cons, List.map_nil, AV.st, constAV]); repeat (first | with_reducible exact LentC.nil | with_reducible exact LentAs.nil | with_reducible refine LentC.cons ?_ ?_ | with_reducible refine LentAs.cons ?_ ?_ | with_reducible exact Lent.im _ | with_reducible exact LentA.im _ | with_reducible refine LentA.of ?_ | with_reducible refine LentA.agg ?_ | ((with_reducible apply Lent.osw); rfl; simp only [blkR_len, wrR_len, byteR_len, List.length_append, List.length_cons, List.length_nil]) | ((with_reducible apply Lent.ob0); rfl)))) (hq1) rfl (fun _ => rfl) ?_
        simp only [go_sem, Nat.reduceAdd, Nat.reduceLeDiff, Nat.reduceSub, Int.reduceToNat, reduceCtorEq]
        refine AQ.nx rfl ?_
        simp only [go_sem, Nat.reduceAdd, Nat.reduceLeDiff, Nat.reduceSub, Int.reduceToNat, reduceCtorEq]
        refine AQ.guard_yes (by simp only [go_sem]) ?_
        refine AQ.fnL ([.im (.pt z.ic)]) (by kernel_rfl) rfl rfl rfl (by ((try simp only [List.nil_append, List.append_nil, List.map_cons, List.map_nil, AV.st, constAV]); repeat (first | with_reducible exact LentC.nil | with_reducible exact LentAs.nil | with_reducible refine LentC.cons ?_ ?_ | with_reducible refine LentAs.cons ?_ ?_ | with_reducible exact Lent.im _ | with_reducible exact LentA.im _ | with_reducible refine LentA.of ?_ | with_reducible refine LentA.agg ?_ | ((with_reducible apply Lent.osw); rfl; simp only [blkR_len, wrR_len, byteR_len, List.length_append, List.length_cons, List.length_nil]) | ((with_reducible apply Lent.ob0); rfl)))) (hrm) rfl (fun _ => rfl) ?_
        simp only [go_sem, Nat.reduceAdd, Nat.reduceLeDiff, Nat.reduceSub, Int.reduceToNat, reduceCtorEq]
        refine AQ.nx rfl ?_
        simp only [go_sem, Nat.reduceAdd, Nat.reduceLeDiff, Nat.reduceSub, Int.reduceToNat, reduceCtorEq]
        refine AQ.guard_yes (by simp only [go_sem]) ?_
        refine AQ.fnL ([.im (.pt z.ic)]) (by kernel_rfl) rfl rfl rfl (by ((try simp only [List.nil_append, List.append_nil, List.map_cons, List.map_nil, AV.st, constAV]); repeat (first | with_reducible exact LentC.nil | with_reducible exact LentAs.nil | with_reducible refine LentC.cons ?_ ?_ | with_reducible refine LentAs.cons ?_ ?_ | with_reducible exact Lent.im _ | with_reducible exact LentA.im _ | with_reducible refine LentA.of ?_ | with_reducible refine LentA.agg ?_ | ((with_reducible apply Lent.osw); rfl; simp only [blkR_len, wrR_len, byteR_len, List.length_append, List.length_cons, List.length_nil]) | ((with_reducible apply Lent.ob0); rfl)))) (hrm) rfl (fun _ => rfl) ?_
        simp only [go_sem, Nat.reduceAdd, Nat.reduceLeDiff, Nat.reduceSub, Int.reduceToNat, reduceCtorEq, bne_self_eq_false]
        refine AQ.nx rfl ?_
        simp only [go_sem, Nat.reduceAdd, Nat.reduceLeDiff, Nat.reduceSub, Int.reduceToNat, reduceCtorEq, bne_self_eq_false]
        refine AQ.guard_yes (by simp only [go_sem]) ?_
        refine AQ.callL ([.im (.pt z.ic)]) (by kernel_rfl) rfl rfl rfl (by ((try simp only [List.nil_append, List.append_nil, List.map_cons, List.map_nil, AV.st, constAV]); repeat (first | with_reducible exact LentC.nil | with_reducible exact LentAs.nil | with_reducible refine LentC.cons ?_ ?_ | with_reducible refine LentAs.cons ?_ ?_ | with_reducible exact Lent.im _ | with_reducible exact LentA.im _ | with_reducible refine LentA.of ?_ | with_reducible refine LentA.agg ?_ | ((with_reducible apply Lent.osw); rfl; simp only [blkR_len, wrR_len, byteR_len, List.length_append, List.length_cons, List.length_nil]) | ((with_reducible apply Lent.ob0); rfl)))) (hdz) fun r1 H1 ⟨e1, e2⟩ => ?_; subst e1; subst e2; refine ⟨rfl, ⟨blkR_plain _, wrR_plain _, trivial⟩, ?_⟩
        simp only [go_sem, Nat.reduceAdd, Nat.reduceLeDiff, Nat.reduceSub, Int.reduceToNat, reduceCtorEq]
        refine AQ.nx rfl ?_
        simp only [go_sem, Nat.reduceAdd, Nat.reduceLeDiff, Nat.reduceSub, Int.reduceToNat, reduceCtorEq]
        refine AQ.guard_yes (by simp only [go_sem]) ?_
        refine AQ.callL ([.im (.pt z.ic)]) (by kernel_rfl) rfl rfl rfl (by ((try simp only [List.nil_append, List.append_nil, List.map_cons, List.map_nil, AV.st, constAV]); repeat (first | with_reducible exact LentC.nil | with_reducible exact LentAs.nil | with_reducible refine LentC.cons ?_ ?_ | with_reducible refine LentAs.cons ?_ ?_ | with_reducible exact Lent.im _ | with_reducible exact LentA.im _ | with_reducible refine LentA.of ?_ | with_reducible refine LentA.agg ?_ | ((with_reducible apply Lent.osw); rfl; simp only [blkR_len, wrR_len, byteR_len, List.length_append, List.length_cons, List.length_nil]) | ((with_reducible apply Lent.ob0); rfl)))) (hdz) fun r1 H1 ⟨e1, e2⟩ => ?_; subst e1; subst e2; refine ⟨rfl, ⟨blkR_plain _, wrR_plain _, trivial⟩, ?_⟩
        simp only [go_sem, Nat.reduceAdd, Nat.reduceLeDiff, Nat.reduceSub, Int.reduceToNat, reduceCtorEq]
        refine AQ.nx rfl ?_
        simp only [go_sem, Nat.reduceAdd, Nat.reduceLeDiff, Nat.reduceSub, Int.reduceToNat, reduceCtorEq]
        refine AQ.guard_yes (by simp only [go_sem]) ?_
        refine AQ.fnL ([.im (.sl 1 (blkR z.B)), .im (.sl 1 (blkR z.B))]) (by kernel_rfl) rfl rfl rfl (by ((try simp only [List.nil_append, List.append_nil, List.map_cons, List.map_nil, AV.st, constAV]); repeat (first | with_reducible exact LentC.nil | with_reducible exact LentAs.nil | with_reducible refine LentC.cons ?_ ?_ | with_reducible refine LentAs.cons ?_ ?_ | with_reducible exact Lent.im _ | with_reducible exact LentA.im _ | with_reducible refine LentA.of ?_ | with_reducible refine LentA.agg ?_ | ((with_reducible apply Lent.osw); rfl; simp only [blkR_len, wrR_len, byteR_len, List.length_append, List.length_cons, List.length_nil]) | ((with_reducible apply Lent.ob0); rfl)))) (hq2) rfl (fun _ => rfl) ?_
        simp only [go_sem, Nat.reduceAdd, Nat.reduceLeDiff, Nat.reduceSub, Int.reduceToNat, reduceCtorEq]
        refine AQ.nx rfl ?_
        simp only [go_sem, Nat.reduceAdd, Nat.reduceLeDiff, Nat.reduceSub, Int.reduceToNat, reduceCtorEq]
        refine AQ.done ?_
        repeat (first | refine xA ?_ | refine xB ?_ | refine xC ?_ | refine xE ?_ | refine xD ?_ | refine xK ?_ | refine xS ?_ | refine xM ?_ | refine xT ?_ | refine xF ?_ | ((first | refine xR ?_ | refine xW ?_ | refine vq_id ?_); simp only [go_sem, Nat.reduceAdd, Nat.reduceLeDiff, Nat.reduceSub, Int.reduceToNat, reduceCtorEq, hwi]) | (refine ⟨by first | omega | (intros; simp_all; done) | (intros; simp_all; omega), ?_⟩; try simp only [go_sem, Nat.reduceAdd, Nat.reduceLeDiff, Nat.reduceSub, Int.reduceToNat, reduceCtorEq, hwi]))
        refine AE.forgets [23, 25, 27, 29, 30, 32, 33] rfl ?_
        simp only [go_sem, Nat.reduceAdd, Nat.reduceLeDiff, Nat.reduceSub, Int.reduceToNat, reduceCtorEq]
        exact AE.round (i + 1, z) ⟨by simp only; omega, hz⟩ (by simp only; omega) (by repeat (first | exact Sub.nil _ | refine Sub.cons rfl ?_)) rfl
    · obtain ⟨s1, rest1, hrec1⟩ := recs_cons hxne
      have hl1 := congrArg List.length hrec1
      rw [List.length_cons] at hl1
      have hal := all_own x s1 rest1 hrec1 (by omega)
      have hq1 := eqStrs x.recs x.recs (by omega) (by omega)
      rw [decide_eq_true rfl] at hq1
      simp only [go_sem, Nat.reduceAdd, Nat.reduceLeDiff, Nat.reduceSub, Int.reduceToNat, reduceCtorEq, gH, Jn.cs]
      repeat (first | refine xA ?_ | refine xB ?_ | refine xC ?_ | refine xE ?_ | refine xD ?_ | refine xK ?_ | refine xS ?_ | refine xM ?_ | refine xT ?_ | refine xF ?_ | ((first | refine xR ?_ | refine xW ?_ | refine vq_id ?_); simp only [go_sem, Nat.reduceAdd, Nat.reduceLeDiff, Nat.reduceSub, Int.reduceToNat, reduceCtorEq]) | (refine ⟨by first | omega | (intros; simp_all; done) | (intros; simp_all; omega), ?_⟩; try simp only [go_sem, Nat.reduceAdd, Nat.reduceLeDiff, Nat.reduceSub, Int.reduceToNat, reduceCtorEq]))
      refine AQ.callL ([.im (.pt x.ic)]) (by kernel_rfl) rfl rfl rfl (by ((try simp only [List.nil_append, List.append_nil, List.map_cons, List.map_nil, AV.st, constAV]); repeat (first | with_reducible exact LentC.nil | with_reducible exact LentAs.nil | with_reducible refine LentC.cons ?_ ?_ | with_reducible refine LentAs.cons ?_ ?_ | with_reducible exact Lent.im _ | with_reducible exact LentA.im _ | with_reducible refine LentA.of ?_ | with_reducible refine LentA.agg ?_ | ((with_reducible apply Lent.osw); rfl; simp only [blkR_len, wrR_len, byteR_len, List.length_append, List.length_cons, List.length_nil]) | ((with_reducible apply Lent.ob0); rfl)))) (hal) fun r1 H1 ⟨e1, e2⟩ => ?_; subst e1; subst e2; refine ⟨rfl, ⟨blkR_plain _, trivial⟩, ?_⟩
      simp only [go_sem, Nat.reduceAdd, Nat.reduceLeDiff, Nat.reduceSub, Int.reduceToNat, reduceCtorEq]
      refine AQ.go (by kernel_rfl) ?_
      simp only [go_sem, Nat.reduceAdd, Nat.reduceLeDiff, Nat.reduceSub, Int.reduceToNat, reduceCtorEq]
      refine AQ.callL ([.im (.pt x.ic)]) (by kernel_rfl) rfl rfl rfl (by ((try simp only [List.nil_append, List.append_nil, List.map_cons, List.map_nil, AV.st, constAV]); repeat (first | with_reducible exact LentC.nil | with_reducible exact LentAs.nil | with_reducible refine LentC.cons ?_ ?_ | with_reducible refine LentAs.cons ?_ ?_ | with_reducible exact Lent.im _ | with_reducible exact LentA.im _ | with_reducible refine LentA.of ?_ | with_reducible refine LentA.agg ?_ | ((with_reducible apply Lent.osw); rfl; simp only [blkR_len, wrR_len, byteR_len, List.length_append, List.length_cons, List.length_nil]) | ((with_reducible apply Lent.ob0); rfl)))) (hal) fun r1 H1 ⟨e1, e2⟩ => ?_; subst e1; subst e2; refine ⟨rfl, ⟨blkR_plain _, trivial⟩, ?_⟩
      simp only [go_sem, Nat.reduceAdd, Nat.reduceLeDiff, Nat.reduceSub, Int.reduceToNat, reduceCtorEq]
      refine AQ.go (by kernel_rfl) ?_
      simp only [go_sem, Nat.reduceAdd, Nat.reduceLeDiff, Nat.reduceSub, Int.reduceToNat, reduceCtorEq]
      refine AQ.fnL ([.im (.sl 1 (blkR x.recs)), .im (.sl 1 (blkR x.recs))]) (by kernel_rfl) rfl rfl rfl (by ((try simp only [List.nil_append, List.append_nil, List.map_cons, List.map_nil, AV.st, constAV]); repeat (first | with_reducible exact LentC.nil | with_reducible exact LentAs.nil | with_reducible refine LentC.cons ?_ ?_ | with_reducible refine LentAs.cons ?_ ?_ | with_reducible exact Lent.im _ | with_reducible exact LentA.im _ | with_reducible refine LentA.of ?_ | with_reducible refine LentA.agg ?_ | ((with_reducible apply Lent.osw); rfl; simp only [blkR_len, wrR_len, byteR_len, List.length_append, List.length_cons, List.length_nil]) | ((with_reducible apply Lent.ob0); rfl)))) (hq1) rfl (fun _ => rfl) ?_
      simp only [go_sem, Nat.reduceAdd, Nat.reduceLeDiff, Nat.reduceSub, Int.reduceToNat, reduceCtorEq]
      repeat (first | refine xA ?_ | refine xB ?_ | refine xC ?_ | refine xE ?_ | refine xD ?_ | refine xK ?_ | refine xS ?_ | refine xM ?_ | refine xT ?_ | refine xF ?_ | ((first | refine xR ?_ | refine xW ?_ | refine vq_id ?_); simp only [go_sem, Nat.reduceAdd, Nat.reduceLeDiff, Nat.reduceSub, Int.reduceToNat, reduceCtorEq]) | (refine ⟨by first | omega | (intros; simp_all; done) | (intros; simp_all; omega), ?_⟩; try simp only [go_sem, Nat.reduceAdd, Nat.reduceLeDiff, Nat.reduceSub, Int.reduceToNat, reduceCtorEq]))
      refine AQ.guard_yes (by simp only [go_sem]) ?_
      refine AQ.fn (by kernel_rfl) rfl rfl rfl (awake_spec) rfl ?_
      repeat (first | refine xA ?_ | refine xB ?_ | refine xC ?_ | refine xE ?_ | refine xD ?_ | refine xK ?_ | refine xS ?_ | refine xM ?_ | refine xT ?_ | refine xF ?_ | ((first | refine xR ?_ | refine xW ?_ | refine vq_id ?_); simp only [go_sem, Nat.reduceAdd, Nat.reduceLeDiff, Nat.reduceSub, Int.reduceToNat, reduceCtorEq]) | (refine ⟨by first | omega | (intros; simp_all; done) | (intros; simp_all; omega), ?_⟩; try simp only [go_sem, Nat.reduceAdd, Nat.reduceLeDiff, Nat.reduceSub, Int.reduceToNat, reduceCtorEq]))
      exact AE.ret0 rfl ⟨rfl, trivial⟩ rfl ⟨rfl, rfl⟩
theorem again_walk (b : Nat) (l m : List Ac) (hl : l.length < 9223372036854775808) (hm : m.length < 9223372036854775808) : PFn Try.prog 6 [B8 b, .im (.sl 3 (acR l)), .im (.sl 3 (acR m))] (Bv true) := by
  cases h : agB b l m with
  | true => exact again_few b l m hl hm h
  | false =>
    obtain ⟨g1, g2, k, rfl, h1, h2⟩ := ag_false h
    exact again_go k l m h1 h2 g1 g2
end Go.Proofs.Ytoafanbfminhcaa
end
