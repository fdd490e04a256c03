import Derived.Test.YteacpafhmgdbkaaGreatDoorW2
import Derived.Test.YteacpafhmgdbkaaGreatDoorCards
import Derived.Test.YteacpafhmgdbkaaGreatDoorTie
import Derived.Lib.LaidTab
import Derived.Stop.LaidErr
import Derived.Sort.Walk0
import Derived.Lib.SlicesCompact
import Derived.Shelf.Sort.Plain
import Derived.Shelf.Slices.CompactS
import Derived.Shelf.Slices.In.SortNone
set_option linter.unusedSimpArgs false
set_option linter.unusedVariables false
set_option linter.unnecessarySimpa false
section
namespace Go.Proofs.YteacpafhmgdbkaaGreatDoor
open Go Go.AL Go.RowKit
set_option maxRecDepth 10000
set_option maxHeartbeats 4000000
def okW (L : Nat) (l : List Nm) : Prop := ∀ w ∈ l, w.length ≤ L
theorem okW.nil {L : Nat} : okW L [] := fun _ h => by cases h
theorem okW.cons {L : Nat} {x : Nm} {l : List Nm} (h1 : x.length ≤ L) (h2 : okW L l) : okW L (x :: l) := fun w h => by
  rcases List.mem_cons.1 h with h | h
  · exact h ▸ h1
  · exact h2 w h
theorem okW.app {L : Nat} {l m : List Nm} (h1 : okW L l) (h2 : okW L m) : okW L (l ++ m) := fun w h => by
  rcases List.mem_append.1 h with h | h
  · exact h1 w h
  · exact h2 w h
theorem okW.get {L : Nat} {l : List Nm} (h : okW L l) (i : Nat) : (l.getD i []).length ≤ L := by
  rw [List.getD_eq_getElem?_getD]
  cases hx : l[i]? with
  | none => simp
  | some x => exact h x (List.mem_of_getElem? hx)
theorem join_len (L : Nat) : ∀ l : List Nm, okW L l → (joinB l).length ≤ (L + 1) * l.length
  | [], _ => by simp [joinB, Lib.join_nil]
  | x :: r, h => by
    have hx := h x (List.mem_cons_self ..)
    have ht : ∀ r : List Nm, okW L r → (Lib.joinTail [32] r).length ≤ (L + 1) * r.length := fun r => by
      induction r with
      | nil => intro _; simp [Lib.joinTail]
      | cons y r ih =>
        intro h
        have := ih fun w hw => h w (List.mem_cons_of_mem _ hw)
        have hy := h y (List.mem_cons_self ..)
        simp only [Lib.joinTail, List.map_cons, List.flatten_cons, List.length_append, List.length_cons, List.length_nil] at this ⊢
        rw [Nat.mul_add]; omega
    have := ht r fun w hw => h w (List.mem_cons_of_mem _ hw)
    rw [joinB, Lib.join_cons, List.length_append, List.length_cons, Nat.mul_add]; omega
mutual
theorem tmW_ok {L : Nat} (hL : 60 ≤ L) {ns : List Nm} (hn : okW L ns) (b : Int) : ∀ t : Tm, wT t b = 0 → okW L (tmW ns t)
  | .mk nm ix xs, h => by
    have h0 := wT_nm h
    simp only [Tm.nm, Tm.xs] at h0
    rw [tmW]
    split
    · exact okW.cons (hn.get _) okW.nil
    · rename_i hnm
      refine okW.cons (by omega) ?_
      split
      · exact okW.nil
      · exact okW.cons (by simp; omega) ((tmsW_ok hL hn b xs (h0.2.2 hnm).2.2).app (okW.cons (by simp; omega) okW.nil))
theorem tmsW_ok {L : Nat} (hL : 60 ≤ L) {ns : List Nm} (hn : okW L ns) (b : Int) : ∀ l : List Tm, wTs l b = 0 → okW L (tmsW ns l)
  | [], _ => by rw [tmsW]; exact okW.nil
  | t :: l, h => by
    rw [tmsW]
    exact (tmW_ok hL hn b t (wTs_cons h).1).app (tmsW_ok hL hn b l (wTs_cons h).2)
end
theorem lsW_ok {L : Nat} (hL : 60 ≤ L) {ns : List Nm} (hn : okW L ns) (b : Int) (l : List Tm) (h : wTs l b = 0) : okW L (lsW ns l) := by
  unfold lsW
  split
  · exact okW.nil
  · exact okW.cons (by simp; omega) ((tmsW_ok hL hn b l h).app (okW.cons (by simp; omega) okW.nil))
theorem vN_len (tk ns : List Nm) : (vN (vnum tk ns)).length ≤ tk.length + ns.length + 2 := by
  obtain ⟨m, hm, hf⟩ := frV_ex tk ns
  have hle : vnum tk ns ≤ tk.length + ns.length := by
    rcases Classical.em (∀ j, j < m → frV tk ns j = false) with h | h
    · rw [vnum_eq hf h]; exact hm
    · obtain ⟨j, hj, hfj, hmin⟩ : ∃ j, j < m ∧ frV tk ns j = true ∧ ∀ i, i < j → frV tk ns i = false := by
        clear hf hm
        induction m with
        | zero => exact absurd (fun j hj => by omega) h
        | succ m ih =>
          rcases Classical.em (∀ j, j < m → frV tk ns j = false) with h2 | h2
          · refine ⟨m, by omega, ?_, h2⟩
            cases hb : frV tk ns m with
            | true => rfl
            | false =>
              exact absurd (fun j hj => by
                rcases Nat.lt_or_ge j m with h3 | h3
                · exact h2 j h3
                · rw [show j = m by omega, hb]) h
          · obtain ⟨j, hj, a, b⟩ := ih h2
            exact ⟨j, by omega, a, b⟩
      rw [vnum_eq hfj hmin]; omega
  have := itoa_len (vnum tk ns)
  rw [vN, List.length_cons]; omega
theorem sgn_len (k : Int) : (sgn k).length ≤ 2 := by
  have : okW 2 sgnL := by unfold okW; decide
  exact this.get _
mutual
theorem fmW_ok {L : Nat} (hL : 60 ≤ L) (tk : List Nm) : ∀ (f : Fm) {ns : List Nm} (b : Int), okW L ns → wF f b = 0 → tk.length + ns.length + szF f + 2 ≤ L → okW L (fmW tk ns f)
  | .mk k nm ts ps, ns, b, hn, h, hs => by
    obtain ⟨hsh, hwt, hwp⟩ := wF_parts h
    simp only [Fm.ts, Fm.ps] at hwt hwp
    rw [szF] at hs
    rw [fmW]
    split
    · rename_i hk
      refine okW.cons ?_ (lsW_ok hL hn b ts hwt)
      have hnm : isNm nm = true := by
        unfold shp at hsh
        simp only [Fm.k, Fm.nm, hk] at hsh
        rw [if_neg (by simp), if_pos trivial] at hsh
        simp only [Bool.and_eq_true] at hsh
        exact hsh.1
      have := (isNm_len hnm).1
      omega
    · refine okW.cons (by have := sgn_len k; omega) ((tmsW_ok hL hn b ts hwt).app ?_)
      have hv := vN_len tk ns
      split
      · refine okW.cons (by omega) (fmsW_ok hL tk ps _ (hn.app (okW.cons (by omega) okW.nil)) hwp (by simp; omega))
      · exact fmsW_ok hL tk ps _ hn hwp (by omega)
theorem fmsW_ok {L : Nat} (hL : 60 ≤ L) (tk : List Nm) : ∀ (l : List Fm) {ns : List Nm} (b : Int), okW L ns → wFs l b = 0 → tk.length + ns.length + szFs l + 2 ≤ L → okW L (fmsW tk ns l)
  | [], ns, b, _, _, _ => by rw [fmsW]; exact okW.nil
  | f :: l, ns, b, hn, h, hs => by
    rw [szFs] at hs
    rw [fmsW]
    exact (fmW_ok hL tk f b hn (wFs_cons h).1 (by omega)).app (fmsW_ok hL tk l b hn (wFs_cons h).2 (by omega))
end
mutual
theorem fmW_len (tk : List Nm) : ∀ (f : Fm) (ns : List Nm), (fmW tk ns f).length ≤ 3 * szF f
  | .mk k nm ts ps, ns => by
    rw [fmW, szF]
    have h1 := lsW_len ns ts
    have h2 := tmsW_len ns ts
    split
    · rw [List.length_cons]; omega
    · rw [List.length_cons, List.length_append]
      split
      · have := fmsW_len tk ps (ns ++ [vN (vnum tk ns)])
        rw [List.length_cons]; omega
      · have := fmsW_len tk ps ns
        omega
theorem fmsW_len (tk : List Nm) : ∀ (l : List Fm) (ns : List Nm), (fmsW tk ns l).length ≤ 3 * szFs l
  | [], ns => by simp [fmsW]
  | f :: l, ns => by
    rw [fmsW, szFs, List.length_append]
    have := fmW_len tk f ns
    have := fmsW_len tk l ns
    omega
end
end Go.Proofs.YteacpafhmgdbkaaGreatDoor
end

section
namespace Go.Proofs.YteacpafhmgdbkaaGreatDoor
open Go Go.AL Go.RowKit
set_option maxRecDepth 10000
set_option maxHeartbeats 4000000
@[go_sem] theorem frzs_valsT (b es : Nat) (rows : List (List IV)) : ∀ l : List Nm, frzs b es rows (valsT l) = valsT l
  | [] => rfl
  | _ :: l => by rw [valsT, List.map_cons, frzs, ← valsT, frzs_valsT b es rows l]; rfl
@[go_sem] theorem frzCs_valsT (b : Nat) (rows : List (List IV)) : ∀ l : List Nm, frzCs b rows (valsT l) = True
  | [] => rfl
  | _ :: l => by rw [valsT, List.map_cons, frzCs, ← valsT, frzCs_valsT b rows l]; simp [frzC]
def wdF (f : Fm) : List Nm := fmW (tkF f []) [] f
def txF (f : Fm) : Nm × Int := if unF f 0 = 0 then (if 40000 < (joinB (wdF f)).length then ([], 15) else (joinB (wdF f), 0)) else ([], unF f 0)
theorem text_spec (f : Fm) (hs : fmS f) : PFn Tryz.prog 33 [fmV f] (.tup [Sv (txF f).1, Iv (txF f).2]) := by
  obtain ⟨q, hq⟩ : ∃ q, txF f = q := ⟨_, rfl⟩
  rw [hq]
  unfold txF at hq
  have hwl := well_at f hs
  refine ACall.walk [0, 1, 2, 3, 4, 5, 6, 10, 28] [5, 14] Tryz.func33 rfl Tryz.ntmps33 (by kernel_rfl) (by rfl) rfl fun W own I0 φ0 lay => ?_
  refine gO ?_
  refine AQ.fn (by kernel_rfl) rfl rfl rfl (hwl) rfl ?_
  refine gO ?_
  refine AP.cond rfl rfl (fun h => ?_) (fun h => ?_)
  · have h : ¬ unF f 0 = 0 := by simpa using h
    rw [if_neg h] at hq
    subst hq
    refine gO ?_
    exact AE.ret0 rfl ⟨rfl, rfl, trivial⟩ rfl ⟨rfl, rfl⟩
  · have h : unF f 0 = 0 := by simpa using h
    rw [if_pos h] at hq
    have hf := un_fit h
    have hwl := fmW_len (tkF f []) f []
    have htl := tkF_len f []
    have hnd : (tkF f []).Nodup := tkF_nodup f List.nodup_nil
    have hok := fmW_ok (L := 4000 + 4000 + 2) (by omega) (tkF f []) f (ns := []) 0 okW.nil hf.2.2 (by simp at htl ⊢; omega)
    have hjl := join_len _ _ hok
    have hjb : (joinB (fmW (tkF f []) [] f)).length ≤ 1000000000 := by
      have : (4000 + 4000 + 2 + 1) * (fmW (tkF f []) [] f).length ≤ 8003 * 12000 := Nat.mul_le_mul_left _ (by omega)
      omega
    have hlv := leavesT_spec f [] List.nodup_nil hs
    have hwf := wform_spec (tkF f []) [] f [] hf.2.2 (by simp at htl; omega) hnd (by simp; omega) (by simp; omega)
    have hwd : wdF f = fmW (tkF f []) [] f := rfl
    rw [hwd] at hq
    rw [List.nil_append] at hwf
    generalize hws : fmW (tkF f []) [] f = ws at *
    have hjs := join_spec ws (by omega) hjb
    clear hok hjl hjb
    generalize tkF f [] = tk at *
    refine gO ?_
    refine AQ.mmake (by kernel_rfl) ?_
    refine sI ?_
    refine gO ?_
    refine AQ.callH [(0, 2), (1, 1), (2, 0)] (by kernel_rfl) rfl rfl rfl rfl rfl rfl (by exact ⟨rfl, rfl, rfl, trivial⟩) rfl hlv ?_
    rintro r H' ⟨rfl, rfl⟩
    refine ⟨rfl, ?_⟩
    refine sH ?_
    refine AQ.ownCell 1 0 9 1 rfl rfl ?_
    refine sI ?_
    refine AQ.ownCell 1 2 9 1 rfl rfl ?_
    refine sI ?_
    refine gO ?_
    refine AQ.callH [(0, 1), (1, 0), (2, 3), (3, 4)] (by kernel_rfl) rfl rfl rfl rfl rfl rfl (by refine ⟨rfl, ?_, rfl, rfl, trivial⟩; rw [rnO, rns_valsT]; rfl) rfl hwf ?_
    rintro r H' ⟨rfl, rfl⟩
    refine ⟨rfl, ?_⟩
    refine sH ?_
    refine gO ?_
    refine AQ.freeze 9 (el := 9) (es := 1) (rows := stR ws) rfl (by simp only [go_sem, Nat.reduceAdd, Nat.reduceLeDiff, Nat.reduceSub, Int.reduceToNat, reduceCtorEq, stR_len]; first | done | trivial | omega | (simp; done) | (simp; omega)) (by simp only [go_sem, Nat.reduceAdd, Nat.reduceLeDiff, Nat.reduceSub, Int.reduceToNat, reduceCtorEq, stR_len]; first | done | trivial | omega | (simp; done) | (simp; omega)) ?_; simp only [go_sem, Nat.reduceAdd, Nat.reduceLeDiff, Nat.reduceSub, Int.reduceToNat, reduceCtorEq, stR_len]
    rw [stT ws ws.length (Nat.le_refl _)]
    refine AQ.fn (by kernel_rfl) rfl rfl rfl (hjs) rfl ?_
    refine gO ?_
    refine AP.cond rfl rfl (fun h4 => ?_) (fun h4 => ?_)
    · have h4 : 40000 < (joinB ws).length := by simp only [decide_eq_true_eq] at h4; omega
      rw [if_pos h4] at hq
      subst hq
      refine gO ?_
      exact AE.retD [2, 1, 0, 10] rfl ⟨rfl, rfl, trivial⟩ (by simp only [go_sem, Nat.reduceAdd, Nat.reduceLeDiff, Nat.reduceSub, Int.reduceToNat, reduceCtorEq, dropOk, noMen, AV.mens, AV.men, mens_valsT, Bool.or_false]; first | done | rfl) ⟨rfl, rfl⟩
    · have h4 : ¬ 40000 < (joinB ws).length := by simp only [decide_eq_false_iff_not] at h4; omega
      rw [if_neg h4] at hq
      subst hq
      refine gO ?_
      exact AE.retD [2, 1, 0, 10] rfl ⟨rfl, rfl, trivial⟩ (by simp only [go_sem, Nat.reduceAdd, Nat.reduceLeDiff, Nat.reduceSub, Int.reduceToNat, reduceCtorEq, dropOk, noMen, AV.mens, AV.men, mens_valsT, Bool.or_false]; first | done | rfl) ⟨rfl, rfl⟩
end Go.Proofs.YteacpafhmgdbkaaGreatDoor
end

section
namespace Go.Proofs.YteacpafhmgdbkaaGreatDoor
open Go Go.AL Go.RowKit
set_option maxRecDepth 10000
set_option maxHeartbeats 4000000
def exP : Fm := .mk 1 [112] [] []
def exD : Dv := .mk 3 0 [] (.mk [] 0 []) exP [.mk 1 0 [] (.mk [] 0 []) (.mk 0 [] [] []) []]
theorem ex_check : ckC [] [] exD = .ok (conn 4 [exP, exP]) := by kernel_rfl
theorem ex_text : txF (conn 4 [exP, exP]) = ([36, 62, 32, 112, 32, 112], 0) := by kernel_rfl
theorem exD_S : dvS exD := by
  simp only [exD, exP, dvS, dvsS, tmS, tmsS, fmS, fmsS]
  simp
theorem check_ex : PFn Tryz.prog 13 [.im (.sl 4 (fmR [])), .im (.sl 4 (fmR [])), dvV exD] (rsV (.ok (conn 4 [exP, exP]))) := by
  have h := (check_walk [] [] exD exD_S fmsS_nil fmsS_nil (by simp) (by simp) (fun _ => by decide)).toA fun _ _ h => h
  rw [ex_check] at h
  exact h.mono fun r H' ⟨a, b⟩ => ⟨b, a⟩
theorem text_ex : PFn Tryz.prog 33 [fmV (conn 4 [exP, exP])] (.tup [Sv [36, 62, 32, 112, 32, 112], Iv 0]) := by
  have h := text_spec (conn 4 [exP, exP]) (by simp only [exP, fmS, fmsS, tmsS]; simp)
  rw [ex_text] at h
  exact h
abbrev exV : AV := .agg [Iv 4, Sv [], .im (.sl 3 []), .im (.sl 4 [[Ii 1, Si [112], .sl 3 [], .sl 4 []], [Ii 1, Si [112], .sl 3 [], .sl 4 []]])]
theorem awake_spec : PFn Tryz.prog 12 [] (Bv true) := by
  have hc0 : PFn Tryz.prog 13 [.im (.sl 4 []), .im (.sl 4 []), .agg [Iv 3, Iv 0, Sv [], Sv [], Iv 0, .im (.sl 3 []), Iv 1, Sv [112], .im (.sl 3 []), .im (.sl 4 []), .im (.sl 11 [[Ii 1, Ii 0, Si [], Si [], Ii 0, .sl 3 [], Ii 0, Si [], .sl 3 [], .sl 4 [], .sl 11 []]])]] (.tup [exV, .im (.sl 1 []), Iv 0]) := check_ex
  have hc := hc0.argLe (xs := [nilV, nilV, .agg [Iv 3, Iv 0, Sv [], Sv [], Iv 0, nilV, Iv 1, Sv [112], nilV, nilV, .im (.sl 11 [[Ii 1, Ii 0, Si [], Si [], Ii 0, .v (.slice none 0 0), Ii 0, Si [], .v (.slice none 0 0), .v (.slice none 0 0), .v (.slice none 0 0)]])]]) (by repeat' (first | with_reducible exact AVle.refl _ | with_reducible exact IVle.refl _ | exact IVle.nil _ | with_reducible exact cellsLe.refl _ | with_reducible exact rowLe.refl _ | with_reducible exact rowsLe.refl _ | refine cellsLe.cons2 ?_ ?_ | refine AVle.agg ?_ | refine AVle.im ?_ | refine IVle.sl ?_ | refine rowsLe.cons ?_ ?_ | refine rowLe.cons ?_ ?_))
  have ht : PFn Tryz.prog 33 [exV] (.tup [Sv [36, 62, 32, 112, 32, 112], Iv 0]) := text_ex
  refine ACall.walk [0, 1, 2, 4, 5, 6] [1, 2] Tryz.func12 rfl Tryz.ntmps12 (by kernel_rfl) (by rfl) rfl fun W own I0 φ0 lay => ?_
  refine gO ?_
  refine AQ.fn (by kernel_rfl) rfl rfl rfl (hc) rfl ?_
  refine gO ?_
  refine AQ.fn (by kernel_rfl) rfl rfl rfl (ht) rfl ?_
  refine gO ?_
  exact AE.retD [1, 0] rfl ⟨rfl, trivial⟩ rfl ⟨rfl, rfl⟩
end Go.Proofs.YteacpafhmgdbkaaGreatDoor
end

section
namespace Go.Proofs.YteacpafhmgdbkaaGreatDoor
open Go Go.AL Go.RowKit
set_option maxRecDepth 100000
theorem typed_slice2 {P : Program} {n : Nat} {t e : TypeId} {xs : List IV} (ht : P.underlying t = some (.slice e)) (h : Typed P n t xs) : ∃ rows m, n = m + 1 ∧ xs = [.sl (P.cellsOf e) rows] ∧ rows.length ≤ maxLen ∧ ∀ r ∈ rows, Typed P m e r := by
  cases n with
  | zero => exact h.elim
  | succ n =>
    simp only [Typed, ht] at h
    obtain ⟨rows, h1, h2, h3⟩ := h
    exact ⟨rows, n, rfl, h1, h2, h3⟩
theorem typed_struct2 {P : Program} {n : Nat} {t : TypeId} {fs : Array Field} {xs : List IV} (ht : P.underlying t = some (.struct fs)) (h : Typed P n t xs) :
    ∃ m, n = m + 1 ∧ xs.length = P.cellsOf t ∧ ∀ (i : Nat) (f : Field), fs.toList[i]? = some f → Typed P m f.type ((xs.drop f.offset).take (P.cellsOf f.type)) := by
  cases n with
  | zero => exact h.elim
  | succ n =>
    simp only [Typed, ht] at h
    exact ⟨n, rfl, h⟩
theorem str_of {n : Nat} {xs : List IV} (h : Typed Tryz.prog n 9 xs) : ∃ l : List UInt8, xs = [Si l] ∧ l.length ≤ 9223372036854775807 := by
  obtain ⟨s, rfl, hs⟩ := typed_str Tryz.underlying9 h
  refine ⟨s.data.toList, congrArg (fun x => [IV.v (Value.string x)]) (BA_of s), ?_⟩
  have e : s.size = s.data.size := rfl
  have e2 : s.data.toList.length = s.data.size := Array.length_toList
  unfold maxLen at hs
  omega
theorem tmsS_of : ∀ {l : List Tm}, (∀ t ∈ l, tmS t) → tmsS l
  | [], _ => by rw [tmsS]; trivial
  | t :: l, h => by rw [tmsS]; exact ⟨h t (List.mem_cons_self ..), tmsS_of fun u hu => h u (List.mem_cons_of_mem _ hu)⟩
theorem fmsS_of : ∀ {l : List Fm}, (∀ t ∈ l, fmS t) → fmsS l
  | [], _ => by rw [fmsS]; trivial
  | t :: l, h => by rw [fmsS]; exact ⟨h t (List.mem_cons_self ..), fmsS_of fun u hu => h u (List.mem_cons_of_mem _ hu)⟩
theorem tm_of : ∀ (n : Nat) {xs : List IV}, Typed Tryz.prog n 25 xs → ∃ t : Tm, xs = tmC t ∧ tmS t := by
  intro n
  induction n using Nat.strongRecOn with
  | _ n ih =>
  intro xs h
  have hc : Tryz.prog.cellsOf 25 = 3 := by kernel_rfl
  have hc9 : Tryz.prog.cellsOf 9 = 1 := by kernel_rfl
  have hc3 : Tryz.prog.cellsOf 3 = 1 := by kernel_rfl
  have hc23 : Tryz.prog.cellsOf 23 = 1 := by kernel_rfl
  obtain ⟨m, rfl, hlen, hf⟩ := typed_struct2 Tryz.underlying25 h
  rw [hc] at hlen
  match xs, hlen with
  | [a, b, c], _ =>
    have f0 := hf 0 _ rfl
    have f1 := hf 1 _ rfl
    have f2 := hf 2 _ rfl
    simp only [hc9, hc3, hc23, List.drop_zero, List.take_succ_cons, List.take_zero, List.drop_succ_cons] at f0 f1 f2
    obtain ⟨nm, e0, l0⟩ := str_of f0
    obtain ⟨ix, e1, _⟩ := typed_int Tryz.underlying3 f1
    obtain ⟨rows, m', rfl, e2, hl, hrow⟩ := typed_slice2 Tryz.underlying23 f2
    obtain ⟨l, rfl, hp⟩ := rows_of (p := tmS) (f := tmC) rows fun r hr => ih m' (by omega) (hrow r hr)
    cases e0; cases e1; cases e2
    rw [List.length_map] at hl
    unfold maxLen at hl
    exact ⟨.mk nm ix l, by rw [tmC, tmR_map, hc], by rw [tmS]; exact ⟨l0, by omega, tmsS_of hp⟩⟩
theorem tms_of (n : Nat) {xs : List IV} (h : Typed Tryz.prog n 23 xs) : ∃ l : List Tm, xs = [.sl 3 (tmR l)] ∧ l.length ≤ 9223372036854775807 ∧ tmsS l := by
  have hc : Tryz.prog.cellsOf 25 = 3 := by kernel_rfl
  obtain ⟨rows, m', rfl, rfl, hl, hrow⟩ := typed_slice2 Tryz.underlying23 h
  obtain ⟨l, rfl, hp⟩ := rows_of (p := tmS) (f := tmC) rows fun r hr => tm_of m' (hrow r hr)
  rw [List.length_map] at hl
  unfold maxLen at hl
  exact ⟨l, by rw [tmR_map, hc], by omega, tmsS_of hp⟩
theorem fm_of : ∀ (n : Nat) {xs : List IV}, Typed Tryz.prog n 27 xs → ∃ t : Fm, xs = fmC t ∧ fmS t := by
  intro n
  induction n using Nat.strongRecOn with
  | _ n ih =>
  intro xs h
  have hc : Tryz.prog.cellsOf 27 = 4 := by kernel_rfl
  have hc9 : Tryz.prog.cellsOf 9 = 1 := by kernel_rfl
  have hc3 : Tryz.prog.cellsOf 3 = 1 := by kernel_rfl
  have hc23 : Tryz.prog.cellsOf 23 = 1 := by kernel_rfl
  have hc22 : Tryz.prog.cellsOf 22 = 1 := by kernel_rfl
  obtain ⟨m, rfl, hlen, hf⟩ := typed_struct2 Tryz.underlying27 h
  rw [hc] at hlen
  match xs, hlen with
  | [a, b, c, d], _ =>
    have f0 := hf 0 _ rfl
    have f1 := hf 1 _ rfl
    have f2 := hf 2 _ rfl
    have f3 := hf 3 _ rfl
    simp only [hc9, hc3, hc23, hc22, List.drop_zero, List.take_succ_cons, List.take_zero, List.drop_succ_cons] at f0 f1 f2 f3
    obtain ⟨k, e0, _⟩ := typed_int Tryz.underlying3 f0
    obtain ⟨nm, e1, l1⟩ := str_of f1
    obtain ⟨ts, e2, l2, p2⟩ := tms_of m f2
    obtain ⟨rows, m', rfl, e3, hl, hrow⟩ := typed_slice2 Tryz.underlying22 f3
    obtain ⟨l, rfl, hp⟩ := rows_of (p := fmS) (f := fmC) rows fun r hr => ih m' (by omega) (hrow r hr)
    cases e0; cases e1; cases e2; cases e3
    rw [List.length_map] at hl
    unfold maxLen at hl
    exact ⟨.mk k nm ts l, by rw [fmC, fmR_map, hc], by rw [fmS]; exact ⟨l1, l2, p2, by omega, fmsS_of hp⟩⟩
end Go.Proofs.YteacpafhmgdbkaaGreatDoor
end

section
namespace Go.Proofs.YteacpafhmgdbkaaGreatDoor
open Go Go.AL Go.RowKit
set_option maxRecDepth 100000
theorem strs_of {n : Nat} {xs : List IV} (h : Typed Tryz.prog n 67 xs) : ∃ l : List Nm, xs = [.sl 1 (stR l)] ∧ l.length ≤ 9223372036854775807 := by
  have hc : Tryz.prog.cellsOf 9 = 1 := by kernel_rfl
  obtain ⟨rows, m', rfl, rfl, hl, hrow⟩ := typed_slice2 Tryz.underlying67 h
  obtain ⟨l, rfl, _⟩ := rows_of (p := fun _ : Nm => True) (f := fun s : Nm => [Si s]) rows fun r hr => by
    obtain ⟨s, e, _⟩ := str_of (hrow r hr)
    exact ⟨s, e, trivial⟩
  rw [List.length_map] at hl
  unfold maxLen at hl
  exact ⟨l, by rw [hc]; rfl, by omega⟩
theorem gPow : Tryz.prog.globalNamed "internal/strconv.uint64pow10" = some 3 := by kernel_rfl
theorem gSyn : Tryz.prog.globalNamed "strconv.ErrSyntax" = none := by kernel_rfl
theorem gRng : Tryz.prog.globalNamed "strconv.ErrRange" = none := by kernel_rfl
theorem gPowT : (Tryz.prog.globals[3]?).map (·.type) = some 310 := by kernel_rfl
theorem var_cells {P : Program} {W : World} {n : String} {g : Nat} {cs : Array Value} (hg : P.globalNamed n = some g) (h : W.var? P n = some cs) : g < W.heap.size ∧ ∃ T fz, W.heap[g]? = some (.cells cs T fz) := by
  unfold World.var? at h
  rw [hg, Option.bind_some] at h
  split at h
  · rename_i cs' T fz hh
    cases h
    refine ⟨?_, T, fz, hh⟩
    rcases Nat.lt_or_ge g W.heap.size with h' | h'
    · exact h'
    · rw [Array.getElem?_eq_none h'] at hh; cases hh
  · cases h
theorem vk_of {W : World} (h : laidMet Tryz.prog [("math/bits.deBruijn32tab", Rows.laid_math_bits_deBruijn32tab), ("math/bits.deBruijn64tab", Rows.laid_math_bits_deBruijn64tab), ("internal/strconv.uint64pow10", Rows.laid_internal_strconv_uint64pow10)] W) :
    VK Tryz.prog W (fun g => g < W.heap.size) := by
  have h3 := h.tail.tail
  intro x hx g hg
  simp only [laidVars, List.mem_cons, List.not_mem_nil, or_false] at hx
  rcases hx with rfl | rfl | rfl
  · rw [gSyn] at hg; cases hg
  · rw [gRng] at hg; cases hg
  · have ht : Lib.TabIs Tryz.prog W "internal/strconv.uint64pow10" .u64 Lib.pow10Tab := Lib.tabIs_of_head (rest := _) gPow gPowT Tryz.underlying310 Tryz.underlying278 (by kernel_rfl) (by kernel_rfl) h3
    obtain ⟨h1, T, fz, h2⟩ := var_cells hg ht
    exact ⟨h1, _, h2, T, fz, rfl⟩
def litCells (d : DataW Unit) : Array Value := match d with
  | .agg l => (l.map fun x => match x with
    | .lit (.int k z) => Value.int k z
    | _ => .nilIface).toArray
  | _ => #[]
def putCells (cs : Array Value) : Obj → Obj
  | .cells _ t frozen => .cells cs t frozen
  | o => o
noncomputable def laidWorld (os : Os) : World :=
  let w0 := World.holding Tryz.prog os ⟨#[], #[], []⟩
  { w0 with heap := ((w0.heap.modify 3 (putCells (litCells Rows.laid_internal_strconv_uint64pow10))).modify 4 (putCells (litCells Rows.laid_math_bits_deBruijn32tab))).modify 5 (putCells (litCells Rows.laid_math_bits_deBruijn64tab)) }
end Go.Proofs.YteacpafhmgdbkaaGreatDoor
end

section
namespace Go.Proofs.YteacpafhmgdbkaaGreatDoor
open Go Go.AL Go.RowKit
set_option maxRecDepth 10000
set_option maxHeartbeats 4000000
mutual
theorem eqT_refl : ∀ t : Tm, eqT t t = true
  | .mk n i xs => by
    rw [eqT]
    have h : eqTs xs (Tm.mk n i xs).xs = true := eqTs_refl xs
    rw [h]; simp [Tm.nm, Tm.ix]
theorem eqTs_refl : ∀ l : List Tm, eqTs l l = true
  | [] => by rw [eqTs]
  | t :: l => by rw [eqTs, eqT_refl t, eqTs_refl l]; rfl
end
theorem all2_refl : ∀ l : List Tm, all2 eqT l l = true
  | [] => rfl
  | t :: l => by rw [all2, eqT_refl t, all2_refl l]; rfl
mutual
theorem eqF_refl : ∀ t : Fm, eqF t t = true
  | .mk k n ts ps => by
    rw [eqF]
    have h : eqFs ps (Fm.mk k n ts ps).ps = true := eqFs_refl ps
    have h2 : all2 eqT ts (Fm.mk k n ts ps).ts = true := all2_refl ts
    rw [h, h2]; simp [Fm.nm, Fm.k]
theorem eqFs_refl : ∀ l : List Fm, eqFs l l = true
  | [] => by rw [eqFs]
  | t :: l => by rw [eqFs, eqF_refl t, eqFs_refl l]; rfl
end
end Go.Proofs.YteacpafhmgdbkaaGreatDoor
end

section
namespace Go.Proofs.YteacpafhmgdbkaaGreatDoor
open Go Go.AL Go.RowKit
set_option maxRecDepth 10000
set_option maxHeartbeats 4000000
mutual
def plF : Fm → Bool
  | .mk k _ ts ps => if k = 3 then true else if k = 1 then (ts.length : Int) == 0 else if k = 4 ∨ k = 5 ∨ k = 6 then plFs ps else false
def plFs : List Fm → Bool
  | [] => true
  | f :: l => plF f && plFs l
end
def conB (k : Int) (a b : Bool) : Bool := (k == 4 && (!a || b) || k == 5 && a && b) || k == 6 && (a || b)
mutual
def trF (at' : List Nm) : Fm → Bool
  | .mk k nm _ ps => if k = 1 then hasS nm at' else if k = 4 ∨ k = 5 ∨ k = 6 then conB k ((trFs at' ps).getD 0 false) ((trFs at' ps).getD 1 false) else false
def trFs (at' : List Nm) : List Fm → List Bool
  | [] => []
  | f :: l => trF at' f :: trFs at' l
end
theorem plF_eq (f : Fm) : plF f = if f.k = 3 then true else if f.k = 1 then (f.ts.length : Int) == 0 else if f.k = 4 ∨ f.k = 5 ∨ f.k = 6 then plFs f.ps else false := by cases f; rw [plF]; rfl
theorem trF_eq (at' : List Nm) (f : Fm) : trF at' f = if f.k = 1 then hasS f.nm at' else if f.k = 4 ∨ f.k = 5 ∨ f.k = 6 then conB f.k ((trFs at' f.ps).getD 0 false) ((trFs at' f.ps).getD 1 false) else false := by cases f; rw [trF]; rfl
theorem plF_two {f x y : Fm} (hk : f.k = 4 ∨ f.k = 5 ∨ f.k = 6) (hp : f.ps = [x, y]) : plF f = (plF x && plF y) := by
  rw [plF_eq, if_neg (by omega), if_neg (by omega), if_pos hk, hp, plFs, plFs, plFs, Bool.and_true]
theorem trF_two {at' : List Nm} {f x y : Fm} (hk : f.k = 4 ∨ f.k = 5 ∨ f.k = 6) (hp : f.ps = [x, y]) : trF at' f = conB f.k (trF at' x) (trF at' y) := by
  rw [trF_eq, if_neg (by omega), if_pos hk, hp, trFs, trFs, trFs]; rfl
def hoF (f : Fm) (at' : List Nm) : Bool × Int := if unF f 0 = 0 then (if plF f then (trF at' f, 0) else (false, 2)) else (false, unF f 0)
end Go.Proofs.YteacpafhmgdbkaaGreatDoor
end

section
namespace Go.Proofs.YteacpafhmgdbkaaGreatDoor
open Go Go.AL Go.RowKit
set_option maxRecDepth 10000
set_option maxHeartbeats 4000000
abbrev mpH (tk : List Nm) : Heap := [(0, .var (.map (keysS tk)) (valsT tk))]
theorem rows2 (a b : Int) : [[Ii a], [Ii b]] = rowsI .i64 [a, b] := rfl
theorem holds_walk (f : Fm) (tk : List Nm) (hnd : tk.Nodup) (hf : unF f 0 = 0) : ACall Tryz.prog 82 [fmV f, .mp 0] (mpH tk) (fun r H' => r = .tup [Bv (plF f && trF tk f), Iv (if plF f then 0 else 2)] ∧ H' = mpH tk) := by
  obtain ⟨hsh, _⟩ := wF_parts (un_fit hf).2.2
  have hk := shp_k hsh
  have hp := plF_eq f
  have ht := trF_eq tk f
  refine ACall.walk [0, 1, 2, 4, 5, 6, 7, 8, 9, 10, 12, 13, 15, 20, 25, 52] [] Tryz.func82 rfl Tryz.ntmps82 (by kernel_rfl) (by rfl) rfl fun W own I0 φ0 lay => ?_
  refine gO ?_
  refine AP.cond rfl rfl (fun c3 => ?_) (fun c3 => ?_)
  · have c3 : f.k = 3 := by simpa using c3
    rw [if_pos c3] at hp
    rw [if_neg (by omega), if_neg (by omega)] at ht
    refine gO ?_
    exact AE.ret rfl ⟨rfl, rfl, trivial⟩ ⟨by rw [hp, ht]; rfl, rfl⟩
  have c3 : ¬ f.k = 3 := by simpa using c3
  rw [if_neg c3] at hp
  refine gO ?_
  refine AP.cond rfl rfl (fun c1 => ?_) (fun c1 => ?_)
  · have c1 : f.k = 1 := by simpa using c1
    rw [if_pos c1] at hp ht
    refine gE @tmR_len ?_
    refine AP.cond rfl rfl (fun cz => ?_) (fun cz => ?_)
    · have cz : ((f.ts.length : Int) == 0) = false := by simp only [decide_eq_true_eq] at cz; simp; intro h; rw [h] at cz; simp at cz
      rw [cz] at hp
      refine gO ?_
      exact AE.ret rfl ⟨rfl, rfl, trivial⟩ ⟨by rw [hp]; rfl, rfl⟩
    · have cz : ((f.ts.length : Int) == 0) = true := by simp only [decide_eq_false_iff_not] at cz; simp; exact List.eq_nil_of_length_eq_zero (by omega)
      rw [cz] at hp
      refine gO ?_
      cases hh : hasS f.nm tk with
      | true =>
        rw [hh] at ht
        obtain ⟨j, hj⟩ := List.mem_iff_getElem?.1 (hasS_mem.1 hh)
        have hkj : (keysS tk)[j]? = some (.string (BA f.nm)) := by rw [keysS, List.getElem?_map, hj]; rfl
        have huq : ∀ i, (keysS tk)[i]? = some (.string (BA f.nm)) → i = j := fun i hi => keysS_uniq hnd hj hi
        have hvj : (valsT tk)[j]? = some (Bv true) := by rw [valsT, List.getElem?_map, hj]; rfl
        refine AQ.lookF j (by kernel_rfl) rfl rfl rfl Tryz.underlying96 Tryz.underlying9 (keysS_ok tk) trivial (List.mem_of_getElem? hkj) huq hvj ?_
        refine sI ?_
        refine gO ?_
        exact AE.ret rfl ⟨rfl, rfl, trivial⟩ ⟨by rw [hp, ht]; rfl, rfl⟩
      | false =>
        rw [hh] at ht
        refine AQ.lookN (by kernel_rfl) rfl rfl rfl Tryz.underlying96 Tryz.underlying9 (keysS_ok tk) trivial (keysS_not hh) rfl rfl ?_
        refine sI ?_
        refine gO ?_
        exact AE.ret rfl ⟨rfl, rfl, trivial⟩ ⟨by rw [hp, ht]; rfl, rfl⟩
  have c1 : ¬ f.k = 1 := by simpa using c1
  rw [if_neg c1] at hp ht
  by_cases ck : f.k = 4 ∨ f.k = 5 ∨ f.k = 6
  · obtain ⟨x, y, hps, hx, hy⟩ := un_two hf ck
    have hp := plF_two ck hps
    have ht := trF_two (at' := tk) ck hps
    have ix := holds_walk x tk hnd hx
    have iy := holds_walk y tk hnd hy
    have hr1 : fmR f.ps = [fmRow x, fmRow y] := by rw [hps, fmR_two]
    have hg0 : (fmR f.ps).getD 0 [] = fmRow x := by rw [hr1]; rfl
    have hg1 : (fmR f.ps).getD 1 [] = fmRow y := by rw [hr1]; rfl
    have hl0 : (fmR f.ps).length = 2 := by rw [hr1]; rfl
    refine gO ?_
    refine AP.cut (α := Unit) (fun _ => [(1, .mp 0), (2, .im (fmP f)), (25, Bv true)]) (fun _ => mpH tk) (fun _ => True) ?_ fun _ _ => ?_
    · refine AP.cond rfl rfl (fun k4 => ?_) (fun k4 => ?_)
      · rw [k4]
        refine gO ?_
        exact AE.meet () trivial (sU) rfl
      · have k4 : ¬ f.k = 4 := by simpa using k4
        refine gO ?_
        refine AP.cond rfl rfl (fun k5 => ?_) (fun k5 => ?_)
        · rw [k5]
          refine gO ?_
          exact AE.meet () trivial (sU) rfl
        · have k5 : ¬ f.k = 5 := by simpa using k5
          have k6 : (f.k == 6) = true := by simp; omega
          repeat (first | refine xA ?_ | refine xB ?_ | refine xC ?_ | refine xE ?_ | refine xD ?_ | refine xK ?_ | refine xS ?_ | refine xM ?_ | refine xT ?_ | refine xF ?_ | ((first | refine xR ?_ | refine xW ?_ | refine vq_id ?_); simp only [go_sem, Nat.reduceAdd, Nat.reduceLeDiff, Nat.reduceSub, Int.reduceToNat, reduceCtorEq, k6]) | (refine ⟨by first | omega | (intros; simp_all; done) | (intros; simp_all; omega), ?_⟩; try simp only [go_sem, Nat.reduceAdd, Nat.reduceLeDiff, Nat.reduceSub, Int.reduceToNat, reduceCtorEq, k6]))
          exact AE.meet () trivial (sU) rfl
    refine gE (an @hg0 @hl0) ?_
    refine AQ.callH [(0, 0)] (by kernel_rfl) rfl rfl rfl rfl rfl rfl (by refine ⟨?_, trivial⟩; rw [rnO, rns_valsT]; rfl) rfl ix ?_
    rintro r H' ⟨rfl, rfl⟩
    refine ⟨rfl, ?_⟩
    refine sH ?_
    refine gE (an @hg1 @hl0) ?_
    refine AQ.callH [(0, 0)] (by kernel_rfl) rfl rfl rfl rfl rfl rfl (by refine ⟨?_, trivial⟩; rw [rnO, rns_valsT]; rfl) rfl iy ?_
    rintro r H' ⟨rfl, rfl⟩
    refine ⟨rfl, ?_⟩
    refine sH ?_
    refine gO ?_
    have hfs := first_spec [if plF x then 0 else 2, if plF y then 0 else 2] (by simp)
    have hfe : fstE [if plF x then 0 else 2, if plF y then 0 else 2] = if plF x && plF y then 0 else 2 := by cases plF x <;> cases plF y <;> rfl
    rw [← rows2, hfe, ← hp] at hfs
    cases hb : plF f with
    | false =>
      rw [hb] at hfs
      refine AQ.fn (by kernel_rfl) rfl rfl rfl (hfs) rfl ?_
      refine gO ?_
      exact AE.ret rfl ⟨rfl, rfl, trivial⟩ ⟨rfl, rfl⟩
    | true =>
      have hxy : plF x = true ∧ plF y = true := by rw [hb] at hp; simpa using hp.symm
      rw [hb] at hfs
      simp only [hxy.1, hxy.2, if_true] at hfs ⊢
      refine AQ.fn (by kernel_rfl) rfl rfl rfl (hfs) rfl ?_
      refine gO ?_
      exact AE.ret rfl ⟨rfl, rfl, trivial⟩ ⟨by rw [ht]; rfl, rfl⟩
  · have k4 : (f.k == 4) = false := by simp; omega
    have k5 : (f.k == 5) = false := by simp; omega
    have k6 : (f.k == 6) = false := by simp; omega
    rw [if_neg ck] at hp
    repeat (first | refine xA ?_ | refine xB ?_ | refine xC ?_ | refine xE ?_ | refine xD ?_ | refine xK ?_ | refine xS ?_ | refine xM ?_ | refine xT ?_ | refine xF ?_ | ((first | refine xR ?_ | refine xW ?_ | refine vq_id ?_); simp only [go_sem, Nat.reduceAdd, Nat.reduceLeDiff, Nat.reduceSub, Int.reduceToNat, reduceCtorEq, k4, k5, k6]) | (refine ⟨by first | omega | (intros; simp_all; done) | (intros; simp_all; omega), ?_⟩; try simp only [go_sem, Nat.reduceAdd, Nat.reduceLeDiff, Nat.reduceSub, Int.reduceToNat, reduceCtorEq, k4, k5, k6]))
    exact AE.ret rfl ⟨rfl, rfl, trivial⟩ ⟨by rw [hp]; rfl, rfl⟩
termination_by SizeOf.sizeOf f
decreasing_by
  · exact fm_mem (k := 0) (by rw [hps]; rfl)
  · exact fm_mem (k := 1) (by rw [hps]; rfl)
end Go.Proofs.YteacpafhmgdbkaaGreatDoor
end

section
namespace Go.Proofs.YteacpafhmgdbkaaGreatDoor
open Go Go.AL Go.RowKit
set_option maxRecDepth 10000
set_option maxHeartbeats 4000000
theorem hasS_add (s x : Nm) (l : List Nm) : hasS s (addK l x) = (hasS s l || x == s) := by
  unfold addK
  cases h : hasS x l with
  | true =>
    rw [if_pos rfl]
    cases hx : x == s with
    | false => rw [Bool.or_false]
    | true => have : x = s := by simpa using hx
              subst this; rw [h]; rfl
  | false => rw [if_neg (by simp), hasS, List.any_append]; simp [hasS]
theorem hasS_fold (s : Nm) : ∀ (l tk : List Nm), hasS s (l.foldl addK tk) = (hasS s tk || hasS s l)
  | [], tk => by rw [List.foldl_nil]; simp [hasS]
  | x :: l, tk => by
    rw [List.foldl_cons, hasS_fold s l, hasS_add, show hasS s (x :: l) = (x == s || hasS s l) from rfl, Bool.or_assoc]
mutual
theorem trF_congr {a b : List Nm} (h : ∀ s, hasS s a = hasS s b) : ∀ f : Fm, trF a f = trF b f
  | .mk k nm ts ps => by rw [trF, trF, h, trFs_congr h ps]
theorem trFs_congr {a b : List Nm} (h : ∀ s, hasS s a = hasS s b) : ∀ l : List Fm, trFs a l = trFs b l
  | [] => by rw [trFs, trFs]
  | f :: l => by rw [trFs, trFs, trF_congr h f, trFs_congr h l]
end
theorem Holds_spec (f : Fm) (at' : List Nm) (hf : fmS f) (hl : at'.length ≤ 1000000000) : PFn Tryz.prog 32 [fmV f, .im (.sl 1 (stR at'))] (.tup [Bv (hoF f at').1, Iv (hoF f at').2]) := by
  have hwl := well_at f hf
  obtain ⟨q, hq⟩ : ∃ q, hoF f at' = q := ⟨_, rfl⟩
  rw [hq]
  unfold hoF at hq
  refine ACall.walk [0, 1, 2, 4, 5, 6, 7, 9, 13, 16, 17, 18, 19] [] Tryz.func32 rfl Tryz.ntmps32 (by kernel_rfl) (by rfl) rfl fun W own I0 φ0 lay => ?_
  refine gO ?_
  refine AQ.fn (by kernel_rfl) rfl rfl rfl (hwl) rfl ?_
  refine gO ?_
  refine AP.cond rfl rfl (fun h => ?_) (fun h => ?_)
  · have h : ¬ unF f 0 = 0 := by simpa using h
    rw [if_neg h] at hq
    subst hq
    refine gO ?_
    exact AE.ret0 rfl ⟨rfl, rfl, trivial⟩ rfl ⟨rfl, rfl⟩
  · have h : unF f 0 = 0 := by simpa using h
    rw [if_pos h] at hq
    refine gO ?_
    refine AQ.mmake (by kernel_rfl) ?_
    refine sI ?_
    refine gE @stR_len ?_
    refine AP.loop rfl (α := Nat × List Nm) (fun s => [(2, .im (fmP f)), (7, .mp 0), (16, .im (.sl 1 (stR at'))), (17, Iv at'.length), (18, Iv s.1)]) (fun s => mpH s.2) (fun s => s.1 ≤ at'.length ∧ s.2.Nodup ∧ at'.foldl addK [] = (at'.drop s.1).foldl addK s.2) (fun s => at'.length - s.1) (0, []) ⟨by omega, List.nodup_nil, rfl⟩ (sU) rfl fun s ⟨hk, hn, hm⟩ => ?_
    obtain ⟨k, tk⟩ := s
    simp only at hk hn hm ⊢
    rcases Nat.eq_or_lt_of_le hk with hke | hlt
    · rw [hke, List.drop_length, List.foldl_nil] at hm
      have hsame : ∀ s, hasS s tk = hasS s at' := fun s => by rw [← hm, hasS_fold]; simp [hasS]
      have hho := holds_walk f tk hn h
      rw [trF_congr hsame f] at hho
      clear hm
      refine gO ?_
      refine cF ?_
      refine gO ?_
      refine AQ.callH [(0, 0)] (by kernel_rfl) rfl rfl rfl rfl rfl rfl (by refine ⟨?_, trivial⟩; rw [rnO, rns_valsT]; rfl) rfl hho ?_
      rintro r H' ⟨rfl, rfl⟩
      refine ⟨rfl, ?_⟩
      refine sH ?_
      refine gO ?_
      exact AE.retD [0] rfl ⟨rfl, rfl, trivial⟩ (by simp only [go_sem, Nat.reduceAdd, Nat.reduceLeDiff, Nat.reduceSub, Int.reduceToNat, reduceCtorEq, dropOk, noMen, AV.mens, AV.men, mens_valsT, Bool.or_false]; first | done | rfl) ⟨rfl, by rw [← hq]; cases plF f <;> rfl⟩
    · obtain ⟨t, ht, hrow⟩ := stR_gt at' k hlt
      obtain ⟨g1, e1⟩ := List.getElem?_eq_some_iff.1 ht
      rw [List.drop_eq_getElem_cons g1, e1, List.foldl_cons] at hm
      have hw := wr (x := (k : Int) + 1) (by omega)
      have hn2 := addK_nodup hn t
      refine gO ?_
      refine cT ?_
      refine gE (an @hrow @stR_len) ?_
      cases hin : hasS t tk with
      | true =>
        have ha : addK tk t = tk := by rw [addK, if_pos hin]
        rw [ha] at hm
        obtain ⟨j, hj⟩ := List.mem_iff_getElem?.1 (hasS_mem.1 hin)
        have hkj : (keysS tk)[j]? = some (.string (BA t)) := by rw [keysS, List.getElem?_map, hj]; rfl
        have huq : ∀ i, (keysS tk)[i]? = some (.string (BA t)) → i = j := fun i hi => keysS_uniq hn hj hi
        refine AQ.msetF j (by kernel_rfl) rfl rfl rfl rfl Tryz.underlying96 Tryz.underlying9 (keysS_ok tk) trivial (List.mem_of_getElem? hkj) huq ?_
        refine sI ?_
        refine gE @hw ?_
        have e : (valsT tk).set j (Bv true) = valsT tk := by
          obtain ⟨h1, _⟩ := List.getElem?_eq_some_iff.1 hj
          have h2 : j < (valsT tk).length := by rw [valsT, List.length_map]; exact h1
          have h3 : (valsT tk)[j] = Bv true := by simp [valsT]
          rw [← h3]; exact List.set_getElem_self h2
        rw [e]
        exact AE.round (k + 1, tk) ⟨by simp only; omega, hn, hm⟩ (by simp only; omega) (sU) rfl
      | false =>
        have ha : addK tk t = tk ++ [t] := by rw [addK, if_neg (by simp [hin])]
        rw [ha] at hm hn2
        refine AQ.msetN (by kernel_rfl) rfl rfl rfl rfl Tryz.underlying96 Tryz.underlying9 (keysS_ok tk) trivial (keysS_not hin) ?_
        refine sI ?_
        refine gE @hw ?_
        rw [← keysS_add, ← valsT_add]
        exact AE.round (k + 1, tk ++ [t]) ⟨by simp only; omega, hn2, hm⟩ (by simp only; omega) (sU) rfl
end Go.Proofs.YteacpafhmgdbkaaGreatDoor
end

section
namespace Go.Proofs.YteacpafhmgdbkaaGreatDoor
open Go Go.AL Go.RowKit
set_option maxRecDepth 10000
set_option maxHeartbeats 4000000
theorem plFs_drop (l : List Fm) (k : Nat) (t : Fm) (h : l[k]? = some t) : plFs (l.drop k) = (plF t && plFs (l.drop (k + 1))) := by
  obtain ⟨h1, e1⟩ := List.getElem?_eq_some_iff.1 h
  rw [List.drop_eq_getElem_cons h1, e1, plFs]
theorem un_parts {f u : Fm} {k : Nat} (hf : unF f 0 = 0) (hk : ¬ (f.k = 7 ∨ f.k = 8)) (hu : f.ps[k]? = some u) : unF u 0 = 0 := by
  obtain ⟨h1, h2, h3⟩ := un_fit hf
  obtain ⟨_, _, h6⟩ := wF_parts h3
  have hb : bnd f = 0 := by rw [bnd, if_neg hk]
  rw [hb, Int.add_zero] at h6
  have h7 : wF u 0 = 0 := by
    generalize f.ps = l at *
    induction l generalizing k with
    | nil => simp at hu
    | cons x l ih =>
      cases k with
      | zero => simp at hu; subst hu; exact (wFs_cons h6).1
      | succ k => simp at hu; exact ih hu (wFs_cons h6).2
  rw [szF_eq] at h1
  rw [dpF_eq] at h2
  have a := szFs_get hu
  have b := dpFs_get hu
  exact un_of (by omega) (by omega) h7
theorem plain_ref (f : Fm) (hf : unF f 0 = 0) : PFn Tryz.prog 102 [fmV f] (Bv (plF f)) := by
  obtain ⟨hsh, _⟩ := wF_parts (un_fit hf).2.2
  have hk := shp_k hsh
  have hp := plF_eq f
  have hz := (un_fit hf).1
  have hzf := szF_eq f
  have hln := szFs_len f.ps
  by_cases hbad : f.k = 7 ∨ f.k = 8 ∨ f.k = 2 ∨ 0 < f.ts.length
  · have hpl : plF f = false := by
      rw [hp]
      unfold shp at hsh
      split at hsh
      · cases hsh
      · split at hsh
        · rename_i h1
          rw [if_neg (by omega), if_pos h1]; simp; intro h; rw [h] at hbad; simp at hbad; omega
        · split at hsh
          · rw [if_neg (by omega), if_neg (by omega), if_neg (by omega)]
          · split at hsh
            · simp at hsh; rw [hsh.1] at hbad; simp at hbad; omega
            · split at hsh
              · simp at hsh; rw [hsh.1] at hbad; simp at hbad; omega
              · rw [if_neg (by omega), if_neg (by omega), if_neg (by omega)]
    rw [hpl]
    have hc : (((f.k == 7 || f.k == 8) || f.k == 2) || decide (0 < (f.ts.length : Int))) = true := by simp only [Bool.or_eq_true, beq_iff_eq, decide_eq_true_eq]; omega
    refine ACall.walk [0, 1, 2, 3, 22, 27, 36] [] Tryz.func102 rfl Tryz.ntmps102 (by kernel_rfl) (by rfl) rfl fun W own I0 φ0 lay => ?_
    refine gE @tmR_len ?_
    rw [hc]
    refine gO ?_
    exact AE.ret0 rfl ⟨rfl, trivial⟩ rfl ⟨rfl, rfl⟩
  · have hpl : plF f = plFs f.ps := by
      rw [hp]
      unfold shp at hsh
      split at hsh
      · cases hsh
      · split at hsh
        · rename_i h1
          simp at hsh
          have h0 : f.ts = [] := List.eq_nil_of_length_eq_zero (by omega)
          rw [if_neg (by omega), if_pos h1, h0, hsh.2, plFs]; rfl
        · split at hsh
          · omega
          · split at hsh
            · rename_i h3
              simp at hsh
              rw [if_pos h3, hsh.2, plFs]
            · split at hsh
              · rename_i h4
                rw [if_neg (by omega), if_neg (by omega), if_pos h4]
              · omega
    rw [hpl]
    have hc : (((f.k == 7 || f.k == 8) || f.k == 2) || decide (0 < (f.ts.length : Int))) = false := by simp only [Bool.or_eq_false_iff, beq_eq_false_iff_ne, decide_eq_false_iff_not, ne_eq]; omega
    refine ACall.walk [0, 1, 2, 3, 22, 27, 36] [] Tryz.func102 rfl Tryz.ntmps102 (by kernel_rfl) (by rfl) rfl fun W own I0 φ0 lay => ?_
    refine gE @tmR_len ?_
    rw [hc]
    refine gO ?_
    refine AP.loop rfl (α := Nat) (fun k => [(1, .im (fmP f)), (3, Iv k)]) (fun _ => []) (fun k => k ≤ f.ps.length ∧ plFs f.ps = plFs (f.ps.drop k)) (fun k => f.ps.length - k) 0 ⟨by omega, by rw [List.drop_zero]⟩ (sU) rfl fun k ⟨hk, hm⟩ => ?_
    rcases Nat.eq_or_lt_of_le hk with hke | hlt
    · rw [hke, List.drop_length, plFs] at hm
      clear hpl hp
      refine gE @fmR_len ?_
      refine cF ?_
      refine gO ?_
      exact AE.ret0 rfl ⟨rfl, trivial⟩ rfl ⟨rfl, by rw [hm]; rfl⟩
    · obtain ⟨u, hu, hrow⟩ := fmR_get f.ps k hlt
      rw [plFs_drop f.ps k u hu] at hm
      have ih := plain_ref u (un_parts hf (by omega) hu)
      have hw := wr (x := (k : Int) + 1) (by omega)
      clear hpl hp
      refine gE @fmR_len ?_
      refine cT ?_
      refine gE (an @hrow @fmR_len) ?_
      refine AQ.fn (by kernel_rfl) rfl rfl rfl (ih) rfl ?_
      refine gO ?_
      refine AP.cond rfl rfl (fun h => ?_) (fun h => ?_)
      · have h : plF u = false := by simpa using h
        rw [h, Bool.false_and] at hm
        refine gO ?_
        exact AE.ret0 rfl ⟨rfl, trivial⟩ rfl ⟨rfl, by rw [hm]; rfl⟩
      · have h : plF u = true := by simpa using h
        rw [h, Bool.true_and] at hm
        refine gE @hw ?_
        exact AE.round (k + 1) ⟨by omega, hm⟩ (by omega) (sU) rfl
termination_by SizeOf.sizeOf f
decreasing_by exact fm_mem hu
end Go.Proofs.YteacpafhmgdbkaaGreatDoor
end

section
namespace Go.Proofs.YteacpafhmgdbkaaGreatDoor
open Go Go.AL Go.RowKit
set_option maxRecDepth 10000
set_option maxHeartbeats 4000000
theorem holds_ref (f : Fm) (at' : List Nm) (hl : at'.length ≤ 1000000000) (hf : unF f 0 = 0) : PFn Tryz.prog 103 [fmV f, .im (.sl 1 (stR at'))] (Bv (trF at' f)) := by
  have ht := trF_eq at' f
  have hhas := has_spec at' f.nm hl
  by_cases c1 : f.k = 1
  · rw [if_pos c1] at ht
    have k1 : (f.k == 1) = true := by simpa using c1
    refine ACall.walk [0, 1, 2, 4, 6, 7, 13, 30, 46] [] Tryz.func103 rfl Tryz.ntmps103 (by kernel_rfl) (by rfl) rfl fun W own I0 φ0 lay => ?_
    repeat (first | refine xA ?_ | refine xB ?_ | refine xC ?_ | refine xE ?_ | refine xD ?_ | refine xK ?_ | refine xS ?_ | refine xM ?_ | refine xT ?_ | refine xF ?_ | ((first | refine xR ?_ | refine xW ?_ | refine vq_id ?_); simp only [go_sem, Nat.reduceAdd, Nat.reduceLeDiff, Nat.reduceSub, Int.reduceToNat, reduceCtorEq, k1]) | (refine ⟨by first | omega | (intros; simp_all; done) | (intros; simp_all; omega), ?_⟩; try simp only [go_sem, Nat.reduceAdd, Nat.reduceLeDiff, Nat.reduceSub, Int.reduceToNat, reduceCtorEq, k1]))
    refine AQ.fn (by kernel_rfl) rfl rfl rfl (hhas) rfl ?_
    refine gO ?_
    exact AE.ret0 rfl ⟨rfl, trivial⟩ rfl ⟨rfl, by rw [ht]; rfl⟩
  have k1 : (f.k == 1) = false := by simpa using c1
  rw [if_neg c1] at ht
  by_cases ck : f.k = 4 ∨ f.k = 5 ∨ f.k = 6
  · obtain ⟨x, y, hps, hx, hy⟩ := un_two hf ck
    have ht := trF_two (at' := at') ck hps
    have ix := holds_ref x at' hl hx
    have iy := holds_ref y at' hl hy
    have hr1 : fmR f.ps = [fmRow x, fmRow y] := by rw [hps, fmR_two]
    have hg0 : (fmR f.ps).getD 0 [] = fmRow x := by rw [hr1]; rfl
    have hg1 : (fmR f.ps).getD 1 [] = fmRow y := by rw [hr1]; rfl
    have hl0 : (fmR f.ps).length = 2 := by rw [hr1]; rfl
    rcases ck with ck | ck | ck
    · have k4 : (f.k == 4) = true := by simpa using ck
      rw [ck] at ht
      refine ACall.walk [0, 1, 2, 4, 6, 7, 13, 30, 46] [] Tryz.func103 rfl Tryz.ntmps103 (by kernel_rfl) (by rfl) rfl fun W own I0 φ0 lay => ?_
      repeat (first | refine xA ?_ | refine xB ?_ | refine xC ?_ | refine xE ?_ | refine xD ?_ | refine xK ?_ | refine xS ?_ | refine xM ?_ | refine xT ?_ | refine xF ?_ | ((first | refine xR ?_ | refine xW ?_ | refine vq_id ?_); simp only [go_sem, Nat.reduceAdd, Nat.reduceLeDiff, Nat.reduceSub, Int.reduceToNat, reduceCtorEq, k1, k4, hg0, hl0]) | (refine ⟨by first | omega | (intros; simp_all; done) | (intros; simp_all; omega), ?_⟩; try simp only [go_sem, Nat.reduceAdd, Nat.reduceLeDiff, Nat.reduceSub, Int.reduceToNat, reduceCtorEq, k1, k4, hg0, hl0]))
      refine AQ.fn (by kernel_rfl) rfl rfl rfl (ix) rfl ?_
      cases hbx : trF at' x with
      | true =>
        rw [hbx] at ht
        refine gE (an @hg1 @hl0) ?_
        refine AQ.guard_yes (by simp only [go_sem]) ?_
        refine AQ.fn (by kernel_rfl) rfl rfl rfl (iy) rfl ?_
        refine gO ?_
        exact AE.ret0 rfl ⟨rfl, trivial⟩ rfl ⟨rfl, by rw [ht]; simp [conB]; rfl⟩
      | false =>
        rw [hbx] at ht
        refine gE (an @hg1 @hl0) ?_
        exact AE.ret0 rfl ⟨rfl, trivial⟩ rfl ⟨rfl, by rw [ht]; rfl⟩
    · have k4 : (f.k == 4) = false := by simp; omega
      have k5 : (f.k == 5) = true := by simpa using ck
      rw [ck] at ht
      refine ACall.walk [0, 1, 2, 4, 6, 7, 13, 30, 46] [] Tryz.func103 rfl Tryz.ntmps103 (by kernel_rfl) (by rfl) rfl fun W own I0 φ0 lay => ?_
      repeat (first | refine xA ?_ | refine xB ?_ | refine xC ?_ | refine xE ?_ | refine xD ?_ | refine xK ?_ | refine xS ?_ | refine xM ?_ | refine xT ?_ | refine xF ?_ | ((first | refine xR ?_ | refine xW ?_ | refine vq_id ?_); simp only [go_sem, Nat.reduceAdd, Nat.reduceLeDiff, Nat.reduceSub, Int.reduceToNat, reduceCtorEq, k1, k4, k5, hg0, hl0]) | (refine ⟨by first | omega | (intros; simp_all; done) | (intros; simp_all; omega), ?_⟩; try simp only [go_sem, Nat.reduceAdd, Nat.reduceLeDiff, Nat.reduceSub, Int.reduceToNat, reduceCtorEq, k1, k4, k5, hg0, hl0]))
      refine AQ.fn (by kernel_rfl) rfl rfl rfl (ix) rfl ?_
      cases hbx : trF at' x with
      | true =>
        rw [hbx] at ht
        refine gE (an @hg1 @hl0) ?_
        refine AQ.guard_yes (by simp only [go_sem]) ?_
        refine AQ.fn (by kernel_rfl) rfl rfl rfl (iy) rfl ?_
        refine gO ?_
        exact AE.ret0 rfl ⟨rfl, trivial⟩ rfl ⟨rfl, by rw [ht]; simp [conB]; rfl⟩
      | false =>
        rw [hbx] at ht
        refine gE (an @hg1 @hl0) ?_
        exact AE.ret0 rfl ⟨rfl, trivial⟩ rfl ⟨rfl, by rw [ht]; rfl⟩
    · have k4 : (f.k == 4) = false := by simp; omega
      have k5 : (f.k == 5) = false := by simp; omega
      have k6 : (f.k == 6) = true := by simpa using ck
      rw [ck] at ht
      refine ACall.walk [0, 1, 2, 4, 6, 7, 13, 30, 46] [] Tryz.func103 rfl Tryz.ntmps103 (by kernel_rfl) (by rfl) rfl fun W own I0 φ0 lay => ?_
      repeat (first | refine xA ?_ | refine xB ?_ | refine xC ?_ | refine xE ?_ | refine xD ?_ | refine xK ?_ | refine xS ?_ | refine xM ?_ | refine xT ?_ | refine xF ?_ | ((first | refine xR ?_ | refine xW ?_ | refine vq_id ?_); simp only [go_sem, Nat.reduceAdd, Nat.reduceLeDiff, Nat.reduceSub, Int.reduceToNat, reduceCtorEq, k1, k4, k5, k6, hg0, hl0]) | (refine ⟨by first | omega | (intros; simp_all; done) | (intros; simp_all; omega), ?_⟩; try simp only [go_sem, Nat.reduceAdd, Nat.reduceLeDiff, Nat.reduceSub, Int.reduceToNat, reduceCtorEq, k1, k4, k5, k6, hg0, hl0]))
      refine AQ.fn (by kernel_rfl) rfl rfl rfl (ix) rfl ?_
      cases hbx : trF at' x with
      | false =>
        rw [hbx] at ht
        refine gE (an @hg1 @hl0) ?_
        refine AQ.guard_yes (by simp only [go_sem]) ?_
        refine AQ.fn (by kernel_rfl) rfl rfl rfl (iy) rfl ?_
        refine gO ?_
        exact AE.ret0 rfl ⟨rfl, trivial⟩ rfl ⟨rfl, by rw [ht]; simp [conB]; rfl⟩
      | true =>
        rw [hbx] at ht
        refine gE (an @hg1 @hl0) ?_
        exact AE.ret0 rfl ⟨rfl, trivial⟩ rfl ⟨rfl, by rw [ht]; rfl⟩
  · have k4 : (f.k == 4) = false := by simp; omega
    have k5 : (f.k == 5) = false := by simp; omega
    have k6 : (f.k == 6) = false := by simp; omega
    rw [if_neg ck] at ht
    refine ACall.walk [0, 1, 2, 4, 6, 7, 13, 30, 46] [] Tryz.func103 rfl Tryz.ntmps103 (by kernel_rfl) (by rfl) rfl fun W own I0 φ0 lay => ?_
    repeat (first | refine xA ?_ | refine xB ?_ | refine xC ?_ | refine xE ?_ | refine xD ?_ | refine xK ?_ | refine xS ?_ | refine xM ?_ | refine xT ?_ | refine xF ?_ | ((first | refine xR ?_ | refine xW ?_ | refine vq_id ?_); simp only [go_sem, Nat.reduceAdd, Nat.reduceLeDiff, Nat.reduceSub, Int.reduceToNat, reduceCtorEq, k1, k4, k5, k6]) | (refine ⟨by first | omega | (intros; simp_all; done) | (intros; simp_all; omega), ?_⟩; try simp only [go_sem, Nat.reduceAdd, Nat.reduceLeDiff, Nat.reduceSub, Int.reduceToNat, reduceCtorEq, k1, k4, k5, k6]))
    exact AE.ret0 rfl ⟨rfl, trivial⟩ rfl ⟨rfl, by rw [ht]; rfl⟩
termination_by SizeOf.sizeOf f
decreasing_by
  · exact fm_mem (k := 0) (by rw [hps]; rfl)
  · exact fm_mem (k := 1) (by rw [hps]; rfl)
theorem Holds_ref (f : Fm) (at' : List Nm) (hf : fmS f) (zf : szF f ≤ 1000000000) (hl : at'.length ≤ 1000000000) : PFn Tryz.prog 44 [fmV f, .im (.sl 1 (stR at'))] (.tup [Bv (hoF f at').1, Iv (hoF f at').2]) := by
  have hwl := wellR_spec f hf zf
  obtain ⟨q, hq⟩ : ∃ q, hoF f at' = q := ⟨_, rfl⟩
  rw [hq]
  unfold hoF at hq
  refine ACall.walk [0, 1, 2, 4, 5, 6, 10, 14] [] Tryz.func44 rfl Tryz.ntmps44 (by kernel_rfl) (by rfl) rfl fun W own I0 φ0 lay => ?_
  refine gO ?_
  refine AQ.fn (by kernel_rfl) rfl rfl rfl (hwl) rfl ?_
  refine gO ?_
  refine AP.cond rfl rfl (fun h => ?_) (fun h => ?_)
  · have h : ¬ unF f 0 = 0 := by simpa using h
    rw [if_neg h] at hq
    subst hq
    refine gO ?_
    exact AE.ret0 rfl ⟨rfl, rfl, trivial⟩ rfl ⟨rfl, rfl⟩
  · have h : unF f 0 = 0 := by simpa using h
    rw [if_pos h] at hq
    have hpl := plain_ref f h
    have hho := holds_ref f at' hl h
    refine gO ?_
    refine AQ.fn (by kernel_rfl) rfl rfl rfl (hpl) rfl ?_
    cases hb : plF f with
    | false =>
      rw [hb, if_neg (by simp)] at hq
      subst hq
      refine gO ?_
      exact AE.ret0 rfl ⟨rfl, rfl, trivial⟩ rfl ⟨rfl, rfl⟩
    | true =>
      rw [hb, if_pos rfl] at hq
      subst hq
      refine gO ?_
      refine AQ.fn (by kernel_rfl) rfl rfl rfl (hho) rfl ?_
      refine gO ?_
      exact AE.ret0 rfl ⟨rfl, rfl, trivial⟩ rfl ⟨rfl, rfl⟩
theorem equalS_self (p : List Nm) (hl : p.length ≤ 1000000) : PFn Tryz.prog 46 [.im (.sl 1 (stR p)), .im (.sl 1 (stR p))] (Bv true) := by
  refine ACall.walk [0, 1, 4, 5, 10, 12, 13, 14, 24] [] Tryz.func46 rfl Tryz.ntmps46 (by kernel_rfl) (by rfl) rfl fun W own I0 φ0 lay => ?_
  refine gE @stR_len ?_
  refine AP.cond rfl rfl (fun h => ?_) (fun h => ?_)
  · simp at h
  refine gE @stR_len ?_
  refine AP.loop rfl (α := Nat) (fun k => [(0, .im (.sl 1 (stR p))), (1, .im (.sl 1 (stR p))), (12, Iv p.length), (13, Iv k)]) (fun _ => []) (fun k => k ≤ p.length) (fun k => p.length - k) 0 (by omega) (sU) rfl fun k hk => ?_
  rcases Nat.eq_or_lt_of_le hk with hke | hlt
  · refine gO ?_
    refine cF ?_
    refine gO ?_
    exact AE.ret0 rfl ⟨rfl, trivial⟩ rfl ⟨rfl, rfl⟩
  · have hw := wr (x := (k : Int) + 1) (by omega)
    obtain ⟨t, ht, hrow⟩ := stR_gt p k hlt
    refine gO ?_
    refine cT ?_
    refine gE (an @hrow @stR_len) ?_
    refine AP.cond rfl rfl (fun h => ?_) (fun h => ?_)
    · simp at h
    refine gE @hw ?_
    exact AE.round (k + 1) (by omega) (by omega) (sU) rfl
end Go.Proofs.YteacpafhmgdbkaaGreatDoor
end

section
namespace Go.Proofs.YteacpafhmgdbkaaGreatDoor
open Go Go.AL Go.RowKit
set_option maxRecDepth 10000
set_option maxHeartbeats 4000000
theorem nm_irr (a : Nm) : ¬ a < a := List.lt_irrefl a
theorem nm_tr {a b c : Nm} (h : a < b) (h2 : b < c) : a < c := List.lt_trans h h2
theorem nm_le {a b : Nm} (h : ¬ b < a) : a ≤ b := h
theorem nm_le_tr {a b c : Nm} (h : a ≤ b) (h2 : b ≤ c) : a ≤ c := List.le_trans h h2
theorem nm_tot (a b : Nm) : a ≤ b ∨ b ≤ a := List.le_total a b
theorem nm_lt {a b : Nm} (h : a ≤ b) (hne : a ≠ b) : a < b := by
  exact Std.lt_of_le_of_ne h hne
theorem nm_le_lt {a b c : Nm} (h : a ≤ b) (h2 : b < c) : a < c := by
  exact Std.lt_of_le_of_lt h h2
theorem ltS_eq (a b : Nm) : ltS a b = decide (a < b) := Go.Proofs.bytesLess_eq a b
def asc (l : List Nm) : Prop := l.Pairwise fun a b => a < b
def insN (s : Nm) : List Nm → List Nm
  | [] => [s]
  | x :: r => if x < s then x :: insN s r else if x = s then x :: r else s :: x :: r
theorem putS_ins (s : Nm) : ∀ l : List Nm, putS l s = insN s l
  | [] => by simp [putS, atS, rkS, insN]
  | x :: r => by
    have ih := putS_ins s r
    rw [insN]
    by_cases h : x < s
    · rw [if_pos h, ← ih]
      have e : rkS s (x :: r) = rkS s r + 1 := by rw [rkS, ltS_eq, decide_eq_true h, if_pos rfl]
      have e2 : atS s (x :: r) = atS s r := by rw [atS, atS, e]; simp
      rw [putS, putS, e2, e]
      split <;> simp
    · rw [if_neg h]
      have e : rkS s (x :: r) = 0 := by rw [rkS, ltS_eq, decide_eq_false h, if_neg (by simp)]
      have e2 : atS s (x :: r) = (x == s) := by rw [atS, e]; simp
      rw [putS, e2, e]
      by_cases hx : x = s
      · subst hx; simp
      · simp [hx]
theorem ins_mem (s t : Nm) : ∀ l : List Nm, t ∈ insN s l ↔ t = s ∨ t ∈ l
  | [] => by simp [insN]
  | x :: r => by
    rw [insN]
    split
    · rw [List.mem_cons, ins_mem s t r, List.mem_cons]
      constructor
      · rintro (h | h | h)
        · exact .inr (.inl h)
        · exact .inl h
        · exact .inr (.inr h)
      · rintro (h | h | h)
        · exact .inr (.inl h)
        · exact .inl h
        · exact .inr (.inr h)
    · split
      · rename_i h
        subst h
        rw [List.mem_cons]
        constructor
        · intro h; exact .inr h
        · rintro (h | h)
          · exact .inl h
          · exact h
      · rw [List.mem_cons]
theorem ins_asc (s : Nm) : ∀ l : List Nm, asc l → asc (insN s l)
  | [], _ => by simp [insN, asc]
  | x :: r, h => by
    have h := List.pairwise_cons.1 h
    rw [insN]
    split
    · rename_i hx
      refine List.pairwise_cons.2 ⟨fun y hy => ?_, ins_asc s r h.2⟩
      rcases (ins_mem s y r).1 hy with rfl | hy
      · exact hx
      · exact h.1 y hy
    · split
      · exact List.pairwise_cons.2 h
      · rename_i h1 h2
        have hsx : s < x := nm_lt (nm_le h1) (fun e => h2 e.symm)
        refine List.pairwise_cons.2 ⟨fun y hy => ?_, List.pairwise_cons.2 h⟩
        rcases List.mem_cons.1 hy with rfl | hy
        · exact hsx
        · exact nm_tr hsx (h.1 y hy)
theorem asc_uniq : ∀ (l m : List Nm), asc l → asc m → (∀ s, s ∈ l ↔ s ∈ m) → l = m
  | [], [], _, _, _ => rfl
  | [], y :: m, _, _, h => by have := (h y).2 (List.mem_cons_self ..); cases this
  | x :: l, [], _, _, h => by have := (h x).1 (List.mem_cons_self ..); cases this
  | x :: l, y :: m, hl, hm, h => by
    have hl := List.pairwise_cons.1 hl
    have hm := List.pairwise_cons.1 hm
    have hxy : x = y := by
      rcases List.mem_cons.1 ((h x).1 (List.mem_cons_self ..)) with e | hx
      · exact e
      · rcases List.mem_cons.1 ((h y).2 (List.mem_cons_self ..)) with e | hy
        · exact e.symm
        · exact absurd (nm_tr (hl.1 y hy) (hm.1 x hx)) (nm_irr x)
    subst hxy
    rw [asc_uniq l m hl.2 hm.2 fun s => ?_]
    constructor
    · intro hs
      rcases List.mem_cons.1 ((h s).1 (List.mem_cons_of_mem _ hs)) with e | h2
      · subst e; exact absurd (hl.1 _ hs) (nm_irr _)
      · exact h2
    · intro hs
      rcases List.mem_cons.1 ((h s).2 (List.mem_cons_of_mem _ hs)) with e | h2
      · subst e; exact absurd (hm.1 _ hs) (nm_irr _)
      · exact h2
theorem cmp_up (d : Array Nm) (hs : ∀ i j, i ≤ j → j < d.size → d[i]! ≤ d[j]!) : ∀ m, m ≤ d.size → asc (Lib.compactUpTo d m) ∧ (∀ x, x ∈ Lib.compactUpTo d m ↔ ∃ j, j < m ∧ d[j]! = x)
  | 0, _ => ⟨by simp [Lib.compactUpTo, asc], by simp [Lib.compactUpTo]⟩
  | m + 1, hm => by
    obtain ⟨h1, h2⟩ := cmp_up d hs m (by omega)
    rw [Lib.compactUpTo_succ]
    cases hk : Lib.keeps d m with
    | true =>
      rw [if_pos rfl]
      have hk : m = 0 ∨ d[m]! ≠ d[m - 1]! := by simpa [Lib.keeps] using hk
      refine ⟨List.pairwise_append.2 ⟨h1, by simp, fun a ha b hb => ?_⟩, fun x => ?_⟩
      · simp at hb
        subst hb
        obtain ⟨j, hj, rfl⟩ := (h2 a).1 ha
        have hk : d[m]! ≠ d[m - 1]! := hk.resolve_left (by omega)
        exact nm_le_lt (hs j (m - 1) (by omega) (by omega)) (nm_lt (hs (m - 1) m (by omega) (by omega)) fun e => hk e.symm)
      · rw [List.mem_append, h2]
        constructor
        · rintro (⟨j, hj, e⟩ | h)
          · exact ⟨j, by omega, e⟩
          · simp at h; exact ⟨m, by omega, h.symm⟩
        · rintro ⟨j, hj, e⟩
          rcases Nat.lt_or_ge j m with h | h
          · exact .inl ⟨j, h, e⟩
          · have : j = m := by omega
            subst this
            exact .inr (by simp [e])
    | false =>
      rw [if_neg (by simp), List.append_nil]
      have hk : ¬ (m = 0 ∨ d[m]! ≠ d[m - 1]!) := by simpa [Lib.keeps] using hk
      refine ⟨h1, fun x => ?_⟩
      rw [h2]
      constructor
      · rintro ⟨j, hj, e⟩; exact ⟨j, by omega, e⟩
      · rintro ⟨j, hj, e⟩
        rcases Nat.lt_or_ge j m with h | h
        · exact ⟨j, h, e⟩
        · have hj : j = m := by omega
          subst hj
          refine ⟨j - 1, by omega, ?_⟩
          rw [← e]
          exact (Classical.byContradiction fun hc => hk (.inr hc)).symm
def srtS (l : List Nm) : List Nm := l.mergeSort fun x y => decide (x ≤ y)
theorem srtS_len (l : List Nm) : (srtS l).length = l.length := List.length_mergeSort l
theorem srtS_mem (l : List Nm) (x : Nm) : x ∈ srtS l ↔ x ∈ l := by rw [srtS]; exact List.mem_mergeSort
theorem srtS_pw (l : List Nm) : (srtS l).Pairwise fun x y => x ≤ y := by
  have := List.pairwise_mergeSort (le := fun x y : Nm => decide (x ≤ y)) (fun a b c h1 h2 => by simp at *; exact nm_le_tr h1 h2) (fun a b => by simp; exact nm_tot a b) l
  exact this.imp fun h => by simpa using h
def cmpS (l : List Nm) : List Nm := Lib.compact (srtS l)
theorem cmpS_ok (l : List Nm) : asc (cmpS l) ∧ ∀ x, x ∈ cmpS l ↔ x ∈ l := by
  have hp := srtS_pw l
  have h := cmp_up (srtS l).toArray (fun i j hij hj => by
    have hj : j < (srtS l).length := by simpa using hj
    rw [getElem!_pos _ i (by simp; omega), getElem!_pos _ j (by simpa using hj)]
    rcases Nat.eq_or_lt_of_le hij with e | hlt
    · subst e; exact Std.le_refl _
    · exact List.pairwise_iff_getElem.1 hp i j (by omega) hj hlt) (srtS l).length (by simp)
  refine ⟨h.1, fun x => (h.2 x).trans ?_⟩
  rw [← srtS_mem]
  constructor
  · rintro ⟨j, hj, e⟩
    rw [getElem!_pos _ j (by simpa using hj)] at e
    rw [← e]
    simp
  · intro hx
    obtain ⟨j, hj, e⟩ := List.getElem_of_mem hx
    exact ⟨j, hj, by rw [getElem!_pos _ j (by simpa using hj)]; simpa using e⟩
theorem cmpS_len (l : List Nm) : (cmpS l).length ≤ l.length := by
  rw [← srtS_len l, cmpS, Lib.compact, Lib.compactUpTo, List.length_map]
  exact Nat.le_trans (List.length_filter_le _ _) (by simp)
end Go.Proofs.YteacpafhmgdbkaaGreatDoor
end

section
namespace Go.Proofs.YteacpafhmgdbkaaGreatDoor
open Go Go.AL Go.RowKit
set_option maxRecDepth 10000
set_option maxHeartbeats 4000000
mutual
def lvT : Tm → List Nm
  | .mk n _ xs => (if !(n == []) && (xs.length : Int) == 0 then [n] else []) ++ lvTs xs
def lvTs : List Tm → List Nm
  | [] => []
  | t :: l => lvT t ++ lvTs l
end
mutual
def lvF : Fm → List Nm
  | .mk _ _ ts ps => lvTs ts ++ lvFs ps
def lvFs : List Fm → List Nm
  | [] => []
  | t :: l => lvF t ++ lvFs l
end
theorem lvT_eq (t : Tm) : lvT t = (if !(t.nm == []) && (t.xs.length : Int) == 0 then [t.nm] else []) ++ lvTs t.xs := by cases t; rw [lvT]; rfl
theorem lvF_eq (f : Fm) : lvF f = lvTs f.ts ++ lvFs f.ps := by cases f; rw [lvF]; rfl
theorem hasS_append (s : Nm) (a b : List Nm) : hasS s (a ++ b) = (hasS s a || hasS s b) := by rw [hasS, List.any_append]; rfl
mutual
theorem has_lvT (s : Nm) : ∀ t : Tm, hasS s (lvT t) = ocT s t
  | .mk n i xs => by
    rw [lvT, ocT, hasS_append, has_lvTs s xs]
    cases h : !(n == []) && (xs.length : Int) == 0 with
    | true => rw [if_pos rfl]; simp [hasS]
    | false => rw [if_neg (by simp)]; simp [hasS]
theorem has_lvTs (s : Nm) : ∀ l : List Tm, hasS s (lvTs l) = ocTs s l
  | [] => by rw [lvTs, ocTs]; rfl
  | t :: l => by rw [lvTs, ocTs, hasS_append, has_lvT s t, has_lvTs s l]
end
mutual
theorem has_lvF (s : Nm) : ∀ t : Fm, hasS s (lvF t) = ocF s t
  | .mk _ _ ts ps => by rw [lvF, ocF, hasS_append, has_lvTs s ts, has_lvFs s ps]
theorem has_lvFs (s : Nm) : ∀ l : List Fm, hasS s (lvFs l) = ocFs s l
  | [] => by rw [lvFs, ocFs]; rfl
  | t :: l => by rw [lvFs, ocFs, hasS_append, has_lvF s t, has_lvFs s l]
end
mutual
theorem lvT_len : ∀ t : Tm, (lvT t).length ≤ szT t
  | .mk n i xs => by
    have := lvTs_len xs
    rw [lvT, szT, List.length_append]
    split <;> simp <;> omega
theorem lvTs_len : ∀ l : List Tm, (lvTs l).length ≤ szTs l
  | [] => by simp [lvTs]
  | t :: l => by
    have := lvT_len t
    have := lvTs_len l
    rw [lvTs, szTs, List.length_append]; omega
end
mutual
theorem lvF_len : ∀ t : Fm, (lvF t).length ≤ szF t
  | .mk _ _ ts ps => by
    have := lvTs_len ts
    have := lvFs_len ps
    rw [lvF, szF, List.length_append]; omega
theorem lvFs_len : ∀ l : List Fm, (lvFs l).length ≤ szFs l
  | [] => by simp [lvFs]
  | t :: l => by
    have := lvF_len t
    have := lvFs_len l
    rw [lvFs, szFs, List.length_append]; omega
end
mutual
theorem frT_asc : ∀ (t : Tm) {o : List Nm}, asc o → asc (frT t o)
  | .mk n i xs, o, h => by
    rw [frT]
    split
    · rw [putS_ins]; exact ins_asc n o h
    · exact frTs_asc xs h
theorem frTs_asc : ∀ (l : List Tm) {o : List Nm}, asc o → asc (frTs l o)
  | [], o, h => by rw [frTs]; exact h
  | t :: l, o, h => by rw [frTs]; exact frTs_asc l (frT_asc t h)
end
mutual
theorem frF_asc : ∀ (t : Fm) {o : List Nm}, asc o → asc (frF t o)
  | .mk _ _ ts ps, o, h => by rw [frF]; exact frFs_asc ps (frTs_asc ts h)
theorem frFs_asc : ∀ (l : List Fm) {o : List Nm}, asc o → asc (frFs l o)
  | [], o, h => by rw [frFs]; exact h
  | t :: l, o, h => by rw [frFs]; exact frFs_asc l (frF_asc t h)
end
theorem has_mem {s : Nm} {l : List Nm} : hasS s l = true ↔ s ∈ l := by
  unfold hasS
  rw [List.any_eq_true]
  constructor
  · rintro ⟨x, hx, e⟩
    have : x = s := by simpa using e
    exact this ▸ hx
  · intro h; exact ⟨s, h, by simp⟩
theorem free_cmp (F : Fm) : freeL F = cmpS (lvF F) := by
  refine asc_uniq _ _ (frF_asc F (by simp [asc])) (cmpS_ok _).1 fun s => ?_
  rw [(cmpS_ok _).2, ← has_mem, ← has_mem, has_free, has_lvF]
end Go.Proofs.YteacpafhmgdbkaaGreatDoor
end

section
namespace Go.Proofs
open Go.Shelf
def Tryz.lays190_ren : Go.Shelf.Ren := ⟨fun | 190 => 95 | 125 => 175 | 258 => 174 | 128 => 230 | 129 => 231 | 302 => 221 | 303 => 222 | 304 => 223 | 305 => 224 | 306 => 225 | 307 => 226 | 308 => 227 | 309 => 228 | 310 => 229 | 333 => 249 | 329 => 250 | 330 => 251 | 334 => 252 | 335 => 253 | 336 => 254 | 344 => 267 | n => n, fun | 31 => 67 | 9 => 9 | 3 => 3 | 46 => 244 | 0 => 0 | 51 => 276 | 53 => 278 | 4 => 4 | 183 => 268 | 182 => 267 | 131 => 273 | 5 => 5 | 218 => 292 | 222 => 296 | 228 => 302 | 229 => 50 | n => n, fun | n => n⟩
theorem Tryz.lays190 : Go.Proofs.Lays.n190 Tryz.prog Tryz.lays190_ren := {
  mixed := by kernel_rfl
  f125 := Tryz.func175.trans (congrArg some (by kernel_rfl))
  f128 := Tryz.func230.trans (congrArg some (by kernel_rfl))
  f129 := Tryz.func231.trans (congrArg some (by kernel_rfl))
  f190 := Tryz.func95.trans (congrArg some (by kernel_rfl))
  f258 := Tryz.func174.trans (congrArg some (by kernel_rfl))
  f302 := Tryz.func221.trans (congrArg some (by kernel_rfl))
  f303 := Tryz.func222.trans (congrArg some (by kernel_rfl))
  f304 := Tryz.func223.trans (congrArg some (by kernel_rfl))
  f305 := Tryz.func224.trans (congrArg some (by kernel_rfl))
  f306 := Tryz.func225.trans (congrArg some (by kernel_rfl))
  f307 := Tryz.func226.trans (congrArg some (by kernel_rfl))
  f308 := Tryz.func227.trans (congrArg some (by kernel_rfl))
  f309 := Tryz.func228.trans (congrArg some (by kernel_rfl))
  f310 := Tryz.func229.trans (congrArg some (by kernel_rfl))
  f329 := Tryz.func250.trans (congrArg some (by kernel_rfl))
  f330 := Tryz.func251.trans (congrArg some (by kernel_rfl))
  f333 := Tryz.func249.trans (congrArg some (by kernel_rfl))
  f334 := Tryz.func252.trans (congrArg some (by kernel_rfl))
  f335 := Tryz.func253.trans (congrArg some (by kernel_rfl))
  f336 := Tryz.func254.trans (congrArg some (by kernel_rfl))
  f344 := Tryz.func267.trans (congrArg some (by kernel_rfl))
  t0 := Tryz.underlying0
  a0 := Tryz.isAgg0
  z0 := Tryz.sizeOf0
  v0 := Tryz.zeroValue0
  t3 := Tryz.underlying3
  a3 := Tryz.isAgg3
  z3 := Tryz.sizeOf3
  v3 := Tryz.zeroValue3
  t4 := Tryz.underlying4
  a4 := Tryz.isAgg4
  z4 := Tryz.sizeOf4
  v4 := Tryz.zeroValue4
  t5 := Tryz.underlying5
  a5 := Tryz.isAgg5
  z5 := Tryz.sizeOf5
  v5 := Tryz.zeroValue5
  t9 := Tryz.underlying9
  a9 := Tryz.isAgg9
  z9 := Tryz.sizeOf9
  v9 := Tryz.zeroValue9
  t31 := Tryz.underlying67
  a31 := Tryz.isAgg67
  z31 := Tryz.sizeOf67
  v31 := Tryz.zeroValue67
  t46 := Tryz.underlying244
  a46 := Tryz.isAgg244
  z46 := Tryz.sizeOf244
  v46 := Tryz.zeroValue244
  t51 := Tryz.underlying276
  a51 := Tryz.isAgg276
  z51 := Tryz.sizeOf276
  v51 := Tryz.zeroValue276
  t53 := Tryz.underlying278
  a53 := Tryz.isAgg278
  z53 := Tryz.sizeOf278
  v53 := Tryz.zeroValue278
  t131 := Tryz.underlying273
  a131 := Tryz.isAgg273
  z131 := Tryz.sizeOf273
  v131 := Tryz.zeroValue273
  t182 := Tryz.underlying267
  a182 := Tryz.isAgg267
  z182 := Tryz.sizeOf267
  v182 := Tryz.zeroValue267
  t183 := Tryz.underlying268
  a183 := Tryz.isAgg268
  z183 := Tryz.sizeOf268
  v183 := Tryz.zeroValue268
  t218 := Tryz.underlying292
  a218 := Tryz.isAgg292
  z218 := Tryz.sizeOf292
  v218 := Tryz.zeroValue292
  t222 := Tryz.underlying296
  a222 := Tryz.isAgg296
  z222 := Tryz.sizeOf296
  v222 := Tryz.zeroValue296
  t228 := Tryz.underlying302
  a228 := Tryz.isAgg302
  z228 := Tryz.sizeOf302
  v228 := Tryz.zeroValue302
  t229 := Tryz.underlying50
  a229 := Tryz.isAgg50
  z229 := Tryz.sizeOf50
  v229 := Tryz.zeroValue50 }
open Go.Sort Go.RowKit in
theorem Tryz.slices_Sort_string (blk off cap : Nat) (ss : List (List UInt8)) (w : World) (hH : Holds encStr w blk off ss.toArray) (hblk : blk < w.heap.size) (hsz : ss.length < 4611686018427387904) :
    Calls Tryz.prog 95 #[.slice (some ⟨blk, off, none⟩) ss.length cap] w fun e w' =>
      e = .returned (.tuple #[]) ∧ ∃ n os, w' = grow (putRow encStr (Sort.ahead w n) blk off (ss.mergeSort fun x y => decide (x ≤ y)).toArray) os := Any.slices_Sort_string Tryz.lays190 blk off cap ss w hH hblk hsz
def Tryz.lays194_ren : Go.Shelf.Ren := ⟨fun | 194 => 96 | n => n, fun | 31 => 67 | 9 => 9 | 3 => 3 | 4 => 4 | 0 => 0 | n => n, fun | n => n⟩
theorem Tryz.lays194 : Go.Proofs.Lays.n194 Tryz.prog Tryz.lays194_ren := {
  mixed := by kernel_rfl
  f194 := Tryz.func96.trans (congrArg some (by kernel_rfl))
  t0 := Tryz.underlying0
  a0 := Tryz.isAgg0
  z0 := Tryz.sizeOf0
  v0 := Tryz.zeroValue0
  t3 := Tryz.underlying3
  a3 := Tryz.isAgg3
  z3 := Tryz.sizeOf3
  v3 := Tryz.zeroValue3
  t4 := Tryz.underlying4
  a4 := Tryz.isAgg4
  z4 := Tryz.sizeOf4
  v4 := Tryz.zeroValue4
  t9 := Tryz.underlying9
  a9 := Tryz.isAgg9
  z9 := Tryz.sizeOf9
  v9 := Tryz.zeroValue9
  t31 := Tryz.underlying67
  a31 := Tryz.isAgg67
  z31 := Tryz.sizeOf67
  v31 := Tryz.zeroValue67 }
open Go.RowKit Go.Lib Go.Sort in
theorem Tryz.slices_Compact_string (blk off cap : Nat) (zs : List (List UInt8)) (w : World) (hH : Holds encStr w blk off zs.toArray) (hsz : zs.length ≤ 9223372036854775807) (hcap : zs.length ≤ cap) :
    Calls Tryz.prog 96 #[.slice (some ⟨blk, off, none⟩) zs.length cap] w fun e w' => e = .returned (.slice (some ⟨blk, off, none⟩) (Lib.compact zs).length cap) ∧ ∃ q, w' = putRow encStr (Sort.ahead w q) blk off (Lib.compact zs ++ List.replicate (zs.length - (Lib.compact zs).length) []).toArray := Any.slices_Compact_string Tryz.lays194 blk off cap zs w hH hsz hcap
open Go.RowKit Go.Lib Go.Sort in
theorem Tryz.slices_Compact_string_empty (a : Option Addr) (cap : Nat) (w : World) :
    Calls Tryz.prog 96 #[.slice a 0 cap] w fun e w' => e = .returned (.slice a 0 cap) ∧ w' = w := Any.slices_Compact_string_empty Tryz.lays194 a cap w
open Go.RowKit Go.Sort in
theorem Tryz.slices_Sort_string_none (p : Option Addr) (cap : Nat) (w : World) :
    Calls Tryz.prog 95 #[.slice p 0 cap] w fun e w' => e = .returned (.tuple #[]) ∧ w' = w := Any.slices_Sort_string_none Tryz.lays190 p cap w
end Go.Proofs
namespace Go.Proofs.YteacpafhmgdbkaaGreatDoor
open Go Go.AL Go.RowKit Go.Shelf Go.Sort Go.Proofs
set_option maxRecDepth 10000
set_option maxHeartbeats 4000000
theorem row_holds {w : World} {φ : Phi} {I : Nat → Prop} {el : TypeId} {l : List Nm} (hR : Real w φ I [(0, .vec el 1 (strR l))]) {g : Nat} (hg : φ 0 = some (some g)) : Sort.Holds encStr w g 0 l.toArray ∧ g < w.heap.size := by
  have hat := hR.own 0 _ (some g) rfl hg
  simp only [Ob.at] at hat
  rcases hat with ⟨h1, _⟩ | ⟨g', vss, rest, e, hh, hd, _⟩
  · cases h1
  cases e
  have hfl := strR_flat l vss hd
  rw [hfl] at hh
  refine ⟨fun j hj => ?_, (hR.off 0 g hg).2⟩
  have hj : j < l.length := by simpa using hj
  rw [Nat.zero_add]
  constructor
  · rw [World.cell?, hh]
    show (l.map encStr ++ rest).toArray[j]? = _
    rw [List.getElem?_toArray, List.getElem?_append_left (by simpa using hj), List.getElem?_map, List.getElem?_eq_getElem hj]
    simp [hj]
  · simp [World.frozen?, hh]
theorem sort_spec (l : List Nm) (hl : l.length < 4611686018427387904) : ACall Tryz.prog 95 [.os 0 1 0 l.length] [(0, .vec 9 1 (strR l))] (fun r H' => r = .tup [] ∧ H' = [(0, .vec 9 1 (strR (srtS l)))]) := by
  refine ⟨by rfl, fun w φ I vs hd hR hV => ?_⟩
  simp only [AV.dens, AV.den] at hd
  obtain ⟨u, us, rfl, h, rfl⟩ := hd
  rcases h with ⟨hφ, _, hn, rfl⟩ | ⟨g, c, hφ, rfl, _⟩
  · have hl0 := List.eq_nil_of_length_eq_zero hn
    subst hl0
    refine (Tryz.slices_Sort_string_none none 0 w).mono fun e w' ⟨he, hw⟩ => ?_
    subst hw
    exact ⟨.tup [], _, φ, I, _, ⟨rfl, rfl⟩, he, ⟨[], rfl, rfl⟩, by rw [show srtS [] = [] by simp [srtS]]; exact real_st hR _⟩
  · obtain ⟨hH, hlt⟩ := row_holds hR hφ
    rw [Nat.zero_mul]
    refine (Tryz.slices_Sort_string g 0 c l w hH hlt hl).mono fun e w' ⟨he, n, os, hw⟩ => ?_
    subst hw
    exact ⟨.tup [], _, φ, I, _, ⟨rfl, rfl⟩, he, ⟨[], rfl, rfl⟩, St.putRow hR hφ (srtS_len l) n os⟩
theorem compact_spec (l : List Nm) (hl : l.length ≤ 9223372036854775807) : ACall Tryz.prog 96 [.os 0 1 0 l.length] [(0, .vec 9 1 (strR l))] (fun r H' => r = .os 0 1 0 (Lib.compact l).length ∧ H' = [(0, .vec 9 1 (strR (Lib.compact l ++ List.replicate (l.length - (Lib.compact l).length) [])))]) := by
  have hle : (Lib.compact l).length ≤ l.length := by
    rw [Lib.compact, Lib.compactUpTo, List.length_map]
    exact Nat.le_trans (List.length_filter_le _ _) (by simp)
  refine ⟨by rfl, fun w φ I vs hd hR hV => ?_⟩
  simp only [AV.dens, AV.den] at hd
  obtain ⟨u, us, rfl, h, rfl⟩ := hd
  rcases h with ⟨hφ, _, hn, rfl⟩ | ⟨g, c, hφ, rfl, hnc, hcm, hsh⟩
  · have hl0 := List.eq_nil_of_length_eq_zero hn
    subst hl0
    refine (Tryz.slices_Compact_string_empty none 0 w).mono fun e w' ⟨he, hw⟩ => ?_
    subst hw
    refine ⟨.os 0 1 0 0, _, φ, I, _, ⟨by simp [Lib.compact, Lib.compactUpTo], rfl⟩, he, .inl ⟨hφ, rfl, rfl, rfl⟩, ?_⟩
    have : Lib.compact ([] : List Nm) ++ List.replicate (([] : List Nm).length - (Lib.compact ([] : List Nm)).length) [] = [] := by simp [Lib.compact, Lib.compactUpTo]
    rw [this]
    exact real_st hR _
  · obtain ⟨hH, hlt⟩ := row_holds hR hφ
    rw [Nat.zero_mul]
    refine (Tryz.slices_Compact_string g 0 c l w hH hl hnc).mono fun e w' ⟨he, q, hw⟩ => ?_
    have hm : (Lib.compact l ++ List.replicate (l.length - (Lib.compact l).length) []).length = l.length := by rw [List.length_append, List.length_replicate]; omega
    have hst := St.putRow hR hφ hm q #[]
    rw [grow_empty, ← hw] at hst
    refine ⟨.os 0 1 0 (Lib.compact l).length, _, φ, I, _, ⟨rfl, rfl⟩, he, .inr ⟨g, c, hφ, by rw [Nat.zero_mul], by omega, hcm, ?_⟩, hst⟩
    obtain ⟨c0, e0, h0, h1⟩ := hsh
    obtain ⟨c1, fz, h2, h3⟩ := hst.ext.form g c0 e0 (0, 0) h0
    have hat := hst.real.own 0 _ (some g) rfl hφ
    simp only [Ob.at] at hat
    rcases hat with ⟨hx, _⟩ | ⟨g', vss, rest, e, hh, _⟩
    · cases hx
    cases e
    rw [hh] at h2
    cases h2
    exact ⟨_, _, hh, by rw [h3]; exact h1⟩
end Go.Proofs.YteacpafhmgdbkaaGreatDoor
end

section
namespace Go.Proofs.YteacpafhmgdbkaaGreatDoor
open Go Go.AL Go.RowKit
set_option maxRecDepth 10000
set_option maxHeartbeats 4000000
theorem stR_snc2 (l : List Nm) (s : Nm) : stR l ++ [[IV.v (Value.string (BA s))]] = stR (l ++ [s]) := by simp [stR]
abbrev frH (ri : Nat) (l : List Nm) : Heap := [(0, .var 67 [.os ri 1 0 l.length]), (ri, .vec 9 1 (stR l))]
abbrev flH (ri : Nat) (l : List Nm) : Heap := (3, .var 220 [.fn 147 [] [.ob 2 0, .ob 3 0]]) :: (2, .var 144 [.fn 94 [] [.ob 0 0]]) :: frH ri l
theorem free1_spec (l : List Nm) (s : Nm) (hl : l.length ≤ 1000000) : ACall Tryz.prog 94 [Sv s, .ob 0 0] (frH 1 l) (fun r H' => r = .tup [] ∧ H' = frH 2 (l ++ [s])) := by
  refine ACall.walk [0, 1] [] Tryz.func94 rfl Tryz.ntmps94 (by kernel_rfl) (by rfl) rfl fun W own I0 φ0 lay => ?_
  refine AP.rename 1 2 rfl rfl rfl ?_; refine sI ?_
  refine gO ?_
  refine AQ.kill 2 ?_
  refine sI ?_
  refine AQ.append (hnb := rfl) (rows := stR (l)) (es := 0) (by kernel_rfl) rfl rfl rfl (by rfl) Tryz.tk67 Tryz.sz9 (by show Option.map _ (zro Tryz.prog 9) = _; rw [Tryz.zr9]; rfl) Tryz.by9 (by rw [stR_len]) (by simp only [stR_len, List.length_cons, List.length_nil]; omega) (by simp only [stR_len, List.length_cons, List.length_nil]; omega) ?_
  refine sE @stR_len ?_
  refine gO ?_
  rw [stR_snc2, show l.length + 1 = (l ++ [s]).length by simp]
  exact AE.fall rfl trivial ⟨rfl, rfl⟩
theorem leavesF1_spec (t : Tm) (l : List Nm) (hl : l.length + szT t ≤ 1000000) (hs : tmS t) : ACall Tryz.prog 147 [tmV t, .ob 2 0, .ob 3 0] (flH 1 l) (fun r H' => r = .tup [] ∧ H' = flH 4 (l ++ lvT t)) := by
  have hs0 := tmS_eq.1 hs
  have hz := szT_eq t
  refine ACall.walk [0, 1, 2, 3, 5, 14, 20, 21, 22, 23] [5] Tryz.func147 rfl Tryz.ntmps147 (by kernel_rfl) (by rfl) rfl fun W own I0 φ0 lay => ?_
  refine AP.rename 1 4 rfl rfl rfl ?_; refine sI ?_
  refine gE @tmR_len ?_
  obtain ⟨c, hcd⟩ : ∃ c, (!(t.nm == []) && (t.xs.length : Int) == 0) = c := ⟨_, rfl⟩
  have he := lvT_eq t
  rw [hcd] at he
  refine AP.cut (α := Unit) (fun _ => [(1, .ob 2 0), (2, .ob 3 0), (3, .im (tmP t))]) (fun _ => flH 4 (l ++ if c then [t.nm] else [])) (fun _ => True) ?_ fun _ _ => ?_
  · refine AP.cond rfl rfl (fun h => ?_) (fun h => ?_)
    · rw [hcd] at h
      subst h
      refine gO ?_
      refine AQ.callH [(0, 0), (1, 4)] (by kernel_rfl) rfl rfl rfl rfl rfl rfl (by exact ⟨rfl, rfl, trivial⟩) rfl (free1_spec l t.nm (by omega)) ?_
      rintro r H' ⟨rfl, rfl⟩
      refine ⟨rfl, ?_⟩
      refine sH ?_
      refine AQ.rename 7 4 rfl rfl rfl ?_; refine sI ?_
      refine gO ?_
      refine AE.order [3, 2, 0, 4] rfl ?_
      exact AE.meet () trivial (sU) rfl
    · rw [hcd] at h
      subst h
      rw [if_neg (by simp), List.append_nil]
      refine gO ?_
      exact AE.meet () trivial (sU) rfl
  · have hm0 : (l ++ if c then [t.nm] else []).length ≤ l.length + 1 := by split <;> simp
    obtain ⟨l1, hl1⟩ : ∃ x, (l ++ if c then [t.nm] else []) = x := ⟨_, rfl⟩
    have he1 : l ++ lvT t = l1 ++ lvTs t.xs := by rw [he, ← List.append_assoc, hl1]
    rw [hl1] at hm0 ⊢
    rw [he1]
    clear hl1 he he1 hcd
    refine gE @tmR_len ?_
    refine AP.loop rfl (α := Nat × List Nm) (fun q => [(1, .ob 2 0), (2, .ob 3 0), (20, .im (.sl 3 (tmR t.xs))), (21, Iv t.xs.length), (22, Iv q.1)]) (fun q => flH 4 q.2) (fun q => q.1 ≤ t.xs.length ∧ q.2.length + szTs (t.xs.drop q.1) ≤ 1000000 ∧ l1 ++ lvTs t.xs = q.2 ++ lvTs (t.xs.drop q.1)) (fun q => t.xs.length - q.1) (0, l1) ⟨by omega, by simp only [List.drop_zero]; omega, by simp⟩ (sU) rfl fun q ⟨hk, hn, hm⟩ => ?_
    obtain ⟨k, m⟩ := q
    simp only at hk hm hn ⊢
    rcases Nat.eq_or_lt_of_le hk with hke | hlt
    · rw [hke, List.drop_length, lvTs, List.append_nil] at hm
      refine gO ?_
      refine cF ?_
      refine gO ?_
      exact AE.fall rfl trivial ⟨rfl, by rw [hm]⟩
    · obtain ⟨u, hu, hrow⟩ := tmR_get t.xs k hlt
      obtain ⟨h1, e1⟩ := List.getElem?_eq_some_iff.1 hu
      rw [List.drop_eq_getElem_cons h1, e1, lvTs] at hm
      rw [List.drop_eq_getElem_cons h1, e1, szTs] at hn
      have hlu := lvT_len u
      have hw := wr (x := (k : Int) + 1) (by omega)
      have ih := leavesF1_spec u m (by omega) (tmsS_get hs0.2.2 hu)
      clear e1 h1
      refine gO ?_
      refine cT ?_
      refine gE (an @hrow @tmR_len) ?_
      refine AQ.callH [(3, 3), (2, 2), (0, 0), (1, 4)] (by kernel_rfl) rfl rfl rfl rfl rfl rfl (by exact ⟨rfl, rfl, rfl, rfl, trivial⟩) rfl ih ?_
      rintro r H' ⟨rfl, rfl⟩
      refine ⟨rfl, ?_⟩
      refine sH ?_
      simp only [show (Nat.beq 2 4 || Nat.beq 3 4) = false from rfl]
      refine AQ.rename 10 4 rfl rfl rfl ?_; refine sI ?_
      refine gE @hw ?_
      refine AE.forgets [5] rfl ?_
      refine sI ?_
      refine AE.order [3, 2, 0, 4] rfl ?_
      exact AE.round (k + 1, m ++ lvT u) ⟨by simp only; omega, by simp only [List.length_append]; omega, by simp only; rw [hm, List.append_assoc]⟩ (by simp only; omega) (sU) rfl
termination_by SizeOf.sizeOf t
decreasing_by exact tm_mem hu
end Go.Proofs.YteacpafhmgdbkaaGreatDoor
end

section
namespace Go.Proofs.YteacpafhmgdbkaaGreatDoor
open Go Go.AL Go.RowKit
set_option maxRecDepth 10000
set_option maxHeartbeats 4000000
abbrev fgH (l : List Nm) : Heap := (6, .var 220 [.fn 147 [] [.ob 5 0, .ob 6 0]]) :: (5, .var 144 [.fn 94 [] [.ob 0 0]]) :: frH 4 l
theorem leavesF_spec (F : Fm) (l : List Nm) (hl : l.length + szF F ≤ 1000000) (hs : fmS F) : ACall Tryz.prog 83 [fmV F, .fn 94 [] [.ob 0 0]] (frH 1 l) (fun r H' => r = .tup [] ∧ H' = frH 4 (l ++ lvF F)) := by
  have hs0 := fmS_eq.1 hs
  have hz := szF_eq F
  have he := lvF_eq F
  refine ACall.walk [0, 1, 2, 3, 4, 6, 8, 11, 12, 13, 14, 22, 23, 24, 25] [3, 4, 6, 8] Tryz.func83 rfl Tryz.ntmps83 (by kernel_rfl) (by rfl) rfl fun W own I0 φ0 lay => ?_
  refine AP.rename 1 4 rfl rfl rfl ?_; refine sI ?_
  refine gE @tmR_len ?_
  refine AP.loop rfl (α := Nat × List Nm) (fun q => [(2, .im (fmP F)), (3, .ob 5 0), (4, .ob 6 0), (11, .im (.sl 3 (tmR F.ts))), (12, Iv F.ts.length), (13, Iv q.1)]) (fun q => fgH q.2) (fun q => q.1 ≤ F.ts.length ∧ q.2.length + szTs (F.ts.drop q.1) + szFs F.ps ≤ 1000000 ∧ l ++ lvTs F.ts = q.2 ++ lvTs (F.ts.drop q.1)) (fun q => F.ts.length - q.1) (0, l) ⟨by omega, by simp only [List.drop_zero]; omega, by simp⟩ (sU) rfl fun q ⟨hk, hn, hm⟩ => ?_
  obtain ⟨k, m⟩ := q
  simp only at hk hm hn ⊢
  rcases Nat.eq_or_lt_of_le hk with hke | hlt
  · rw [hke, List.drop_length, lvTs, List.append_nil] at hm
    rw [hke, List.drop_length, szTs] at hn
    have he2 : l ++ lvF F = m ++ lvFs F.ps := by rw [he, ← List.append_assoc, hm]
    rw [he2]
    clear he he2 hm
    refine gO ?_
    refine cF ?_
    refine gE @fmR_len ?_
    refine AP.loop rfl (α := Nat × List Nm) (fun q => [(2, .im (fmP F)), (3, .ob 5 0), (22, .im (.sl 4 (fmR F.ps))), (23, Iv F.ps.length), (24, Iv q.1)]) (fun q => fgH q.2) (fun q => q.1 ≤ F.ps.length ∧ q.2.length + szFs (F.ps.drop q.1) ≤ 1000000 ∧ m ++ lvFs F.ps = q.2 ++ lvFs (F.ps.drop q.1)) (fun q => F.ps.length - q.1) (0, m) ⟨by omega, by simp only [List.drop_zero]; omega, by simp⟩ (sU) rfl fun q ⟨hk, hn, hm⟩ => ?_
    obtain ⟨k, m2⟩ := q
    simp only at hk hm hn ⊢
    rcases Nat.eq_or_lt_of_le hk with hke | hlt
    · rw [hke, List.drop_length, lvFs, List.append_nil] at hm
      refine gO ?_
      refine cF ?_
      refine gO ?_
      exact AE.fallD [6, 5] rfl trivial rfl ⟨rfl, by rw [hm]; rfl⟩
    · obtain ⟨u, hu, hrow⟩ := fmR_get F.ps k hlt
      obtain ⟨h1, e1⟩ := List.getElem?_eq_some_iff.1 hu
      rw [List.drop_eq_getElem_cons h1, e1, lvFs] at hm
      rw [List.drop_eq_getElem_cons h1, e1, szFs] at hn
      have hlu := lvF_len u
      have hw := wr (x := (k : Int) + 1) (by omega)
      have ih := leavesF_spec u m2 (by omega) (fmsS_get hs0.2.2.2.2 hu)
      clear e1 h1
      refine gO ?_
      refine cT ?_
      refine gE (an @hrow @fmR_len) ?_
      refine AQ.callH [(0, 0), (1, 4)] (by kernel_rfl) rfl rfl rfl rfl rfl rfl (by exact ⟨rfl, rfl, trivial⟩) rfl ih ?_
      rintro r H' ⟨rfl, rfl⟩
      refine ⟨rfl, ?_⟩
      refine sH ?_
      refine AQ.rename 12 4 rfl rfl rfl ?_; refine sI ?_
      refine gE @hw ?_
      refine AE.forgets [7] rfl ?_
      refine sI ?_
      refine AE.order [6, 5, 0, 4] rfl ?_
      exact AE.round (k + 1, m2 ++ lvF u) ⟨by simp only; omega, by simp only [List.length_append]; omega, by simp only; rw [hm, List.append_assoc]⟩ (by simp only; omega) (sU) rfl
  · obtain ⟨u, hu, hrow⟩ := tmR_get F.ts k hlt
    obtain ⟨h1, e1⟩ := List.getElem?_eq_some_iff.1 hu
    rw [List.drop_eq_getElem_cons h1, e1, lvTs] at hm
    rw [List.drop_eq_getElem_cons h1, e1, szTs] at hn
    have hlu := lvT_len u
    have hw := wr (x := (k : Int) + 1) (by omega)
    have ih := leavesF1_spec u m (by omega) (tmsS_get hs0.2.2.1 hu)
    clear e1 h1
    refine gO ?_
    refine cT ?_
    refine gE (an @hrow @tmR_len) ?_
    refine AQ.callH [(3, 6), (2, 5), (0, 0), (1, 4)] (by kernel_rfl) rfl rfl rfl rfl rfl rfl (by exact ⟨rfl, rfl, rfl, rfl, trivial⟩) rfl ih ?_
    rintro r H' ⟨rfl, rfl⟩
    refine ⟨rfl, ?_⟩
    refine sH ?_
    simp only [show (Nat.beq 5 4 || Nat.beq 6 4) = false from rfl]
    refine AQ.rename 12 4 rfl rfl rfl ?_; refine sI ?_
    refine gE @hw ?_
    refine AE.forgets [7] rfl ?_
    refine sI ?_
    refine AE.order [6, 5, 0, 4] rfl ?_
    exact AE.round (k + 1, m ++ lvT u) ⟨by simp only; omega, by simp only [List.length_append]; omega, by simp only; rw [hm, List.append_assoc]⟩ (by simp only; omega) (sU) rfl
termination_by SizeOf.sizeOf F
decreasing_by exact fm_mem hu
theorem Free_spec (F : Fm) (hs : fmS F) (hz : szF F ≤ 100000) : PFn Tryz.prog 38 [fmV F] (.im (.sl 1 (stR (freeL F)))) := by
  have hlv := leavesF_spec F [] (by simp; omega) hs
  rw [List.nil_append] at hlv
  have hlen := lvF_len F
  have hso := sort_spec (lvF F) (by omega)
  have hco := compact_spec (srtS (lvF F)) (by rw [srtS_len]; omega)
  rw [srtS_len] at hco
  have hcl := cmpS_len (lvF F)
  rw [free_cmp]
  generalize hcm : cmpS (lvF F) = cm at *
  have hcm2 : Lib.compact (srtS (lvF F)) = cm := hcm
  rw [hcm2] at hco
  generalize lvF F = lv at *
  refine ACall.walk [0, 1, 2, 3] [3] Tryz.func38 rfl Tryz.ntmps38 (by kernel_rfl) (by rfl) rfl fun W own I0 φ0 lay => ?_
  refine gO ?_
  refine AQ.ownCell 0 0 9 1 rfl rfl ?_
  refine sI ?_
  refine gO ?_
  refine AQ.callH [(0, 0), (1, 1)] (by kernel_rfl) rfl rfl rfl rfl rfl rfl (by exact ⟨rfl, rfl, trivial⟩) rfl hlv ?_
  rintro r H' ⟨rfl, rfl⟩
  refine ⟨rfl, ?_⟩
  refine sH ?_
  refine gO ?_
  refine AQ.callH [(0, 6)] (by kernel_rfl) rfl rfl rfl rfl rfl rfl (by exact ⟨rfl, trivial⟩) rfl hso ?_
  rintro r H' ⟨rfl, rfl⟩
  refine ⟨rfl, ?_⟩
  refine sH ?_
  refine gO ?_
  refine AQ.callH [(0, 6)] (by kernel_rfl) rfl rfl rfl rfl rfl rfl (by exact ⟨rfl, trivial⟩) rfl hco ?_
  rintro r H' ⟨rfl, rfl⟩
  refine ⟨rfl, ?_⟩
  refine sH ?_
  refine AQ.trunc 6 cm.length rfl ?_
  refine sI ?_
  rw [show (strR (cm ++ List.replicate (lv.length - cm.length) [])).take cm.length = stR cm by rw [strR, List.map_append, List.take_left' (by simp)]; rfl]
  refine gO ?_
  refine sI ?_
  refine AE.forgets [0] rfl ?_
  refine sI ?_
  refine AE.freeze 6 (el := 9) (es := 1) (rows := stR cm) rfl (by simp only [go_sem, Nat.reduceAdd, Nat.reduceLeDiff, Nat.reduceSub, Int.reduceToNat, reduceCtorEq, stR_len]; first | done | trivial | omega | (simp; done) | (simp; omega)) (by simp only [go_sem, Nat.reduceAdd, Nat.reduceLeDiff, Nat.reduceSub, Int.reduceToNat, reduceCtorEq, stR_len]; first | done | trivial | omega | (simp; done) | (simp; omega)) ?_; simp only [go_sem, Nat.reduceAdd, Nat.reduceLeDiff, Nat.reduceSub, Int.reduceToNat, reduceCtorEq, stR_len]
  rw [stT cm cm.length (Nat.le_refl _)]
  exact AE.ret0 rfl ⟨rfl, trivial⟩ rfl ⟨rfl, rfl⟩
end Go.Proofs.YteacpafhmgdbkaaGreatDoor
end

section
namespace Go.Proofs.YteacpafhmgdbkaaGreatDoor
open Go Go.AL Go.RowKit
set_option maxRecDepth 10000
set_option maxHeartbeats 4000000
end Go.Proofs.YteacpafhmgdbkaaGreatDoor
end

section
namespace Go.Proofs.YteacpafhmgdbkaaGreatDoor
open Go Go.AL Go.RowKit
set_option maxRecDepth 10000
set_option maxHeartbeats 4000000
end Go.Proofs.YteacpafhmgdbkaaGreatDoor
end

section
namespace Go.Proofs.YteacpafhmgdbkaaGreatDoor
open Go Go.AL Go.RowKit
set_option maxRecDepth 10000
set_option maxHeartbeats 4000000
def fin (p : List Int) (f : Fm) : Rs := chk (unF f 0 == 0) p 15 (.ok f)
end Go.Proofs.YteacpafhmgdbkaaGreatDoor
end

section
namespace Go.Proofs.YteacpafhmgdbkaaGreatDoor
open Go Go.AL Go.RowKit
set_option maxRecDepth 10000
set_option maxHeartbeats 4000000
end Go.Proofs.YteacpafhmgdbkaaGreatDoor
end

section
namespace Go.Proofs.YteacpafhmgdbkaaGreatDoor
open Go Go.AL Go.RowKit
set_option maxRecDepth 10000
set_option maxHeartbeats 4000000
end Go.Proofs.YteacpafhmgdbkaaGreatDoor
end

section
namespace Go.Proofs.YteacpafhmgdbkaaGreatDoor
open Go Go.AL Go.RowKit
set_option maxRecDepth 10000
set_option maxHeartbeats 4000000
end Go.Proofs.YteacpafhmgdbkaaGreatDoor
end

section
namespace Go.Proofs.YteacpafhmgdbkaaGreatDoor
open Go Go.AL Go.RowKit
set_option maxRecDepth 10000
set_option maxHeartbeats 4000000
end Go.Proofs.YteacpafhmgdbkaaGreatDoor
end

section
namespace Go.Proofs.YteacpafhmgdbkaaGreatDoor
open Go Go.AL Go.RowKit
set_option maxRecDepth 10000
set_option maxHeartbeats 4000000
end Go.Proofs.YteacpafhmgdbkaaGreatDoor
end

section
namespace Go.Proofs.YteacpafhmgdbkaaGreatDoor
open Go Go.AL Go.RowKit
set_option maxRecDepth 10000
set_option maxHeartbeats 4000000
end Go.Proofs.YteacpafhmgdbkaaGreatDoor
end

section
namespace Go.Proofs.YteacpafhmgdbkaaGreatDoor
open Go Go.AL Go.RowKit
set_option maxRecDepth 10000
set_option maxHeartbeats 4000000
def smallB (l : List Fm) : Bool := (bFs l 0 400).1
theorem small1_walk (u : Fm) (m : Int) (hu : fmS u) (hm : -1000000 ≤ m ∧ m ≤ 1000000) : ACall Tryz.prog 63 [fmV u, .ob 1 0] (BH m) (fun r H' => r = Bv (!(bF u 0 m).1) ∧ H' = BH (bF u 0 m).2) := by
  have ih := bform_spec u 0 m hu (by omega) hm
  refine ACall.walk [0, 1, 2, 3] [] Tryz.func63 rfl Tryz.ntmps63 (by kernel_rfl) (by rfl) rfl fun W own I0 φ0 lay => ?_
  refine gO ?_
  refine AQ.callH [(0, 0)] (by kernel_rfl) rfl rfl rfl rfl rfl rfl (by exact ⟨rfl, trivial⟩) rfl ih ?_
  rintro r H' ⟨rfl, rfl⟩
  refine ⟨rfl, ?_⟩
  refine sG @BH.eq_1 ?_
  refine gO ?_
  exact AE.ret rfl ⟨rfl, trivial⟩ ⟨rfl, rfl⟩
theorem small_spec (l : List Fm) (hl : l.length ≤ 9223372036854775807) (hs : fmsS l) : PFn Tryz.prog 22 [.im (.sl 4 (fmR l))] (Bv (smallB l)) := by
  have hc := containsF_walk 63 [] (fun t m => (!(bF t 0 m).1, (bF t 0 m).2)) l 400 hl (fun m => 0 ≤ m ∧ m ≤ 1000000) (by omega) (fun k t m ht hm h => bF_bnd t 0 m hm.1 hm.2 (by simpa using h)) (fun k t m ht hm => small1_walk t m (fmsS_get hs ht) (by omega))
  have hr := bFs_run 0 l 400
  have hb : smallB l = !(runS (fun t m => (!(bF t 0 m).1, (bF t 0 m).2)) l 400).1 := by rw [smallB, hr]
  rw [hb]
  generalize runS (fun t m => (!(bF t 0 m).1, (bF t 0 m).2)) l 400 = q at *
  refine ACall.walk [0, 2, 3] [3, 5] Tryz.func22 rfl Tryz.ntmps22 (by kernel_rfl) (by rfl) rfl fun W own I0 φ0 lay => ?_
  refine gO ?_
  refine AQ.callH [(1, 1), (0, 0)] (by kernel_rfl) rfl rfl rfl rfl rfl rfl (by exact ⟨rfl, rfl, trivial⟩) rfl hc ?_
  rintro r H' ⟨rfl, rfl⟩
  refine ⟨rfl, ?_⟩
  refine sG @BH.eq_1 ?_
  refine gO ?_
  exact AE.retD [1, 0] rfl ⟨rfl, trivial⟩ rfl ⟨rfl, rfl⟩
theorem small_sz {l : List Fm} (h : smallB l = true) : szFs l ≤ 400 := by
  have := bFs_sz l 0 400 (by omega) h
  omega
end Go.Proofs.YteacpafhmgdbkaaGreatDoor
end

section
namespace Go.Proofs.YteacpafhmgdbkaaGreatDoor
open Go Go.AL Go.RowKit
set_option maxRecDepth 10000
set_option maxHeartbeats 4000000
theorem formulas_walk (f g : Fm) (at' : List Nm) (hf : fmS f) (hg : fmS g) : PFn Tryz.prog 9 [fmV f, fmV g, .im (.sl 1 (stR at'))] (Bv true) := by
  have hsm := small_spec [f, g] (by simp) (by rw [fmsS, fmsS, fmsS]; exact ⟨hf, hg, trivial⟩)
  rw [fmR_two] at hsm
  obtain ⟨b, hb⟩ : ∃ b, smallB [f, g] = b := ⟨_, rfl⟩
  rw [hb] at hsm
  by_cases hc : b = true ∧ at'.length ≤ 30
  · obtain ⟨rfl, hal⟩ := hc
    have z := small_sz hb
    rw [szFs, szFs, szFs] at z
    have hnl2 : ¬ (30 : Int) < (at'.length : Int) := by omega
    have h1 := Holds_spec f at' hf (by omega)
    have h2 := Holds_ref f at' hf (by omega) (by omega)
    have c1 := formula_conv f (fmL_sz f (by omega))
    have c2 := formula_conv g (fmL_sz g (by omega))
    have w1 := well_at f hf
    have w2 := wellR_spec f hf (by omega)
    have s1 := same_spec f g hf
    have s2 := sameR_spec f g hf
    have s3 := same_spec f f hf
    rw [eqF_refl] at s3
    have f1 := Free_spec f hf (by omega)
    have f2 := freeR_spec f hf (by omega)
    have fl : (freeL f).length ≤ 1000000 := by rw [free_cmp]; have := cmpS_len (lvF f); have := lvF_len f; omega
    have e1 := equalS_self (freeL f) fl
    generalize freeL f = F at *
    obtain ⟨⟨x1, x2⟩, hx⟩ : ∃ x, hoF f at' = x := ⟨_, rfl⟩
    rw [hx] at h1 h2
    generalize eqF f g = q at *
    generalize unF f 0 = u at *
    refine ACall.walk [0, 1, 2, 3, 4, 6, 7, 8, 9, 10, 20] [] Tryz.func9 rfl Tryz.ntmps9 (by kernel_rfl) (by rfl) rfl fun W own I0 φ0 lay => ?_
    refine gO ?_
    refine AQ.fn (by kernel_rfl) rfl rfl rfl (hsm) rfl ?_
    refine gE @stR_len ?_
    refine cF ?_
    refine gO ?_
    refine AQ.fn (by kernel_rfl) rfl rfl rfl (h1) rfl ?_
    refine gO ?_
    refine AQ.fn (by kernel_rfl) rfl rfl rfl (c1) rfl ?_
    refine gO ?_
    refine AQ.fn (by kernel_rfl) rfl rfl rfl (h2) rfl ?_
    refine gO ?_
    refine AP.drawE 44 (Tree.node [] [0, 2] [1] [Tree.node [2] [] [3] [Tree.node [] [] [4] [Tree.node [] [5, 6, 7, 8, 10, 12] [9] [Tree.node [10, 12] [] [11] [Tree.node [12] [] [13] [Tree.node [] [] [14] [Tree.node [] [15, 16, 17, 18, 19] [20] [Tree.node [] [21, 22, 23, 25] [24] [Tree.node [25] [] [26] [Tree.node [] [] [27] [Tree.node [] [] [28] [Tree.node [] [29, 30, 31, 32, 33, 34, 35, 36, 37, 38, 39, 40] [41] [Tree.node [] [42, 43] [] []]]]]]]]]]]]]]) (by kernel_rfl) rfl (by kernel_rfl) (by kernel_rfl) ?_
    refine vd_node ?_
    refine sI ?_
    refine AQ.fn (by kernel_rfl) rfl rfl rfl (w1) rfl ?_
    refine sI ?_
    refine AQ.nx rfl ?_
    refine sI ?_
    refine AQ.fn (by kernel_rfl) rfl rfl rfl (c1) rfl ?_
    refine sI ?_
    refine AQ.nx rfl ?_
    refine sI ?_
    refine AQ.fn (by kernel_rfl) rfl rfl rfl (w2) rfl ?_
    refine sI ?_
    refine AQ.nx rfl ?_
    simp only [go_sem, Nat.reduceAdd, Nat.reduceLeDiff, Nat.reduceSub, Int.reduceToNat, reduceCtorEq, beq_self_eq_true]
    refine AQ.guard_yes (by simp only [go_sem]) ?_
    refine AQ.fn (by kernel_rfl) rfl rfl rfl (s1) rfl ?_
    refine sI ?_
    refine AQ.nx rfl ?_
    simp only [go_sem, Nat.reduceAdd, Nat.reduceLeDiff, Nat.reduceSub, Int.reduceToNat, reduceCtorEq, beq_self_eq_true, Bool.and_true]
    refine AQ.guard_yes (by simp only [go_sem]) ?_
    refine AQ.fn (by kernel_rfl) rfl rfl rfl (c1) rfl ?_
    refine sI ?_
    refine AQ.nx rfl ?_
    simp only [go_sem, Nat.reduceAdd, Nat.reduceLeDiff, Nat.reduceSub, Int.reduceToNat, reduceCtorEq, beq_self_eq_true, Bool.and_true]
    refine AQ.guard_yes (by simp only [go_sem]) ?_
    refine AQ.fn (by kernel_rfl) rfl rfl rfl (c2) rfl ?_
    refine sI ?_
    refine AQ.nx rfl ?_
    simp only [go_sem, Nat.reduceAdd, Nat.reduceLeDiff, Nat.reduceSub, Int.reduceToNat, reduceCtorEq, beq_self_eq_true, Bool.and_true]
    refine AQ.guard_yes (by simp only [go_sem]) ?_
    refine AQ.fn (by kernel_rfl) rfl rfl rfl (s2) rfl ?_
    refine sI ?_
    refine AQ.nx rfl ?_
    simp only [go_sem, Nat.reduceAdd, Nat.reduceLeDiff, Nat.reduceSub, Int.reduceToNat, reduceCtorEq, beq_self_eq_true, Bool.and_true]
    refine AQ.guard_yes (by simp only [go_sem]) ?_
    refine AQ.fn (by kernel_rfl) rfl rfl rfl (s3) rfl ?_
    refine sI ?_
    refine AQ.nx rfl ?_
    simp only [go_sem, Nat.reduceAdd, Nat.reduceLeDiff, Nat.reduceSub, Int.reduceToNat, reduceCtorEq, beq_self_eq_true, Bool.and_true]
    refine AQ.guard_yes (by simp only [go_sem]) ?_
    refine AQ.fn (by kernel_rfl) rfl rfl rfl (f1) rfl ?_
    refine sI ?_
    refine AQ.nx rfl ?_
    simp only [go_sem, Nat.reduceAdd, Nat.reduceLeDiff, Nat.reduceSub, Int.reduceToNat, reduceCtorEq, beq_self_eq_true, Bool.and_true]
    refine AQ.guard_yes (by simp only [go_sem]) ?_
    refine AQ.fn (by kernel_rfl) rfl rfl rfl (c1) rfl ?_
    refine sI ?_
    refine AQ.nx rfl ?_
    simp only [go_sem, Nat.reduceAdd, Nat.reduceLeDiff, Nat.reduceSub, Int.reduceToNat, reduceCtorEq, beq_self_eq_true, Bool.and_true]
    refine AQ.guard_yes (by simp only [go_sem]) ?_
    refine AQ.fn (by kernel_rfl) rfl rfl rfl (f2) rfl ?_
    refine sI ?_
    refine AQ.nx rfl ?_
    simp only [go_sem, Nat.reduceAdd, Nat.reduceLeDiff, Nat.reduceSub, Int.reduceToNat, reduceCtorEq, beq_self_eq_true, Bool.and_true]
    refine AQ.guard_yes (by simp only [go_sem]) ?_
    refine AQ.fn (by kernel_rfl) rfl rfl rfl (e1) rfl ?_
    refine sI ?_
    refine AQ.nx rfl ?_
    simp only [go_sem, Nat.reduceAdd, Nat.reduceLeDiff, Nat.reduceSub, Int.reduceToNat, reduceCtorEq, beq_self_eq_true, Bool.and_true]
    refine AQ.guard_yes (by simp only [go_sem]) ?_
    refine AQ.fn (by kernel_rfl) rfl rfl rfl (awake_spec) rfl ?_
    refine sI ?_
    refine AQ.nx rfl ?_
    simp only [go_sem, Nat.reduceAdd, Nat.reduceLeDiff, Nat.reduceSub, Int.reduceToNat, reduceCtorEq, beq_self_eq_true, Bool.and_true]
    refine AQ.done ?_
    refine gO ?_
    exact AE.ret0 rfl ⟨rfl, trivial⟩ rfl ⟨rfl, rfl⟩
  · cases b with
    | false =>
      refine ACall.walk [0, 1, 2, 3, 4, 6, 7, 8, 9, 10, 20] [] Tryz.func9 rfl Tryz.ntmps9 (by kernel_rfl) (by rfl) rfl fun W own I0 φ0 lay => ?_
      refine gO ?_
      refine AQ.fn (by kernel_rfl) rfl rfl rfl (hsm) rfl ?_
      refine gO ?_
      refine AQ.fn (by kernel_rfl) rfl rfl rfl (awake_spec) rfl ?_
      refine gO ?_
      exact AE.ret0 rfl ⟨rfl, trivial⟩ rfl ⟨rfl, rfl⟩
    | true =>
      have hnl2 : (30 : Int) < (at'.length : Int) := by
        have : ¬ at'.length ≤ 30 := fun h => hc ⟨rfl, h⟩
        omega
      refine ACall.walk [0, 1, 2, 3, 4, 6, 7, 8, 9, 10, 20] [] Tryz.func9 rfl Tryz.ntmps9 (by kernel_rfl) (by rfl) rfl fun W own I0 φ0 lay => ?_
      refine gO ?_
      refine AQ.fn (by kernel_rfl) rfl rfl rfl (hsm) rfl ?_
      refine gE @stR_len ?_
      refine cT ?_
      refine gO ?_
      refine AQ.fn (by kernel_rfl) rfl rfl rfl (awake_spec) rfl ?_
      refine gO ?_
      exact AE.ret0 rfl ⟨rfl, trivial⟩ rfl ⟨rfl, rfl⟩
end Go.Proofs.YteacpafhmgdbkaaGreatDoor
end
