import Derived.Test.YteacpafhmgdbkaaGreatDoorW2
import Derived.Test.YteacpafhmgdbkaaGreatDoorCards
import Derived.Test.YteacpafhmgdbkaaGreatDoorTie
import Derived.Lib.LaidTab
import Derived.Stop.LaidErr
import Derived.Lib.Strings
import Derived.Lib.Walk
import Derived.Lib.BufferWrite
import Derived.Lib.UnsafeStr
import Derived.Lib.Hide
import Derived.Laws.MakeOwn
set_option linter.unusedSimpArgs false
set_option linter.unusedVariables false
set_option linter.unnecessarySimpa false
section
namespace Go.Proofs.YteacpafhmgdbkaaGreatDoor
open Go Go.AL Go.RowKit
set_option maxRecDepth 10000
set_option maxHeartbeats 4000000
def okW (L : Nat) (l : List Nm) : Prop := ∀ w ∈ l, w.length ≤ L
theorem okW.nil {L : Nat} : okW L [] := fun _ h => by cases h
theorem okW.cons {L : Nat} {x : Nm} {l : List Nm} (h1 : x.length ≤ L) (h2 : okW L l) : okW L (x :: l) := fun w h => by
  rcases List.mem_cons.1 h with h | h
  · exact h ▸ h1
  · exact h2 w h
theorem okW.app {L : Nat} {l m : List Nm} (h1 : okW L l) (h2 : okW L m) : okW L (l ++ m) := fun w h => by
  rcases List.mem_append.1 h with h | h
  · exact h1 w h
  · exact h2 w h
theorem okW.get {L : Nat} {l : List Nm} (h : okW L l) (i : Nat) : (l.getD i []).length ≤ L := by
  rw [List.getD_eq_getElem?_getD]
  cases hx : l[i]? with
  | none => simp
  | some x => exact h x (List.mem_of_getElem? hx)
theorem join_len (L : Nat) : ∀ l : List Nm, okW L l → (joinB l).length ≤ (L + 1) * l.length
  | [], _ => by simp [joinB, Lib.join_nil]
  | x :: r, h => by
    have hx := h x (List.mem_cons_self ..)
    have ht : ∀ r : List Nm, okW L r → (Lib.joinTail [32] r).length ≤ (L + 1) * r.length := fun r => by
      induction r with
      | nil => intro _; simp [Lib.joinTail]
      | cons y r ih =>
        intro h
        have := ih fun w hw => h w (List.mem_cons_of_mem _ hw)
        have hy := h y (List.mem_cons_self ..)
        simp only [Lib.joinTail, List.map_cons, List.flatten_cons, List.length_append, List.length_cons, List.length_nil] at this ⊢
        rw [Nat.mul_add]; omega
    have := ht r fun w hw => h w (List.mem_cons_of_mem _ hw)
    rw [joinB, Lib.join_cons, List.length_append, List.length_cons, Nat.mul_add]; omega
mutual
theorem tmW_ok {L : Nat} (hL : 60 ≤ L) {ns : List Nm} (hn : okW L ns) (b : Int) : ∀ t : Tm, wT t b = 0 → okW L (tmW ns t)
  | .mk nm ix xs, h => by
    have h0 := wT_nm h
    simp only [Tm.nm, Tm.xs] at h0
    rw [tmW]
    split
    · exact okW.cons (hn.get _) okW.nil
    · rename_i hnm
      refine okW.cons (by omega) ?_
      split
      · exact okW.nil
      · exact okW.cons (by simp; omega) ((tmsW_ok hL hn b xs (h0.2.2 hnm).2.2).app (okW.cons (by simp; omega) okW.nil))
theorem tmsW_ok {L : Nat} (hL : 60 ≤ L) {ns : List Nm} (hn : okW L ns) (b : Int) : ∀ l : List Tm, wTs l b = 0 → okW L (tmsW ns l)
  | [], _ => by rw [tmsW]; exact okW.nil
  | t :: l, h => by
    rw [tmsW]
    exact (tmW_ok hL hn b t (wTs_cons h).1).app (tmsW_ok hL hn b l (wTs_cons h).2)
end
theorem lsW_ok {L : Nat} (hL : 60 ≤ L) {ns : List Nm} (hn : okW L ns) (b : Int) (l : List Tm) (h : wTs l b = 0) : okW L (lsW ns l) := by
  unfold lsW
  split
  · exact okW.nil
  · exact okW.cons (by simp; omega) ((tmsW_ok hL hn b l h).app (okW.cons (by simp; omega) okW.nil))
theorem vN_len (tk ns : List Nm) : (vN (vnum tk ns)).length ≤ tk.length + ns.length + 2 := by
  obtain ⟨m, hm, hf⟩ := frV_ex tk ns
  have hle : vnum tk ns ≤ tk.length + ns.length := by
    rcases Classical.em (∀ j, j < m → frV tk ns j = false) with h | h
    · rw [vnum_eq hf h]; exact hm
    · obtain ⟨j, hj, hfj, hmin⟩ : ∃ j, j < m ∧ frV tk ns j = true ∧ ∀ i, i < j → frV tk ns i = false := by
        clear hf hm
        induction m with
        | zero => exact absurd (fun j hj => by omega) h
        | succ m ih =>
          rcases Classical.em (∀ j, j < m → frV tk ns j = false) with h2 | h2
          · refine ⟨m, by omega, ?_, h2⟩
            cases hb : frV tk ns m with
            | true => rfl
            | false =>
              exact absurd (fun j hj => by
                rcases Nat.lt_or_ge j m with h3 | h3
                · exact h2 j h3
                · rw [show j = m by omega, hb]) h
          · obtain ⟨j, hj, a, b⟩ := ih h2
            exact ⟨j, by omega, a, b⟩
      rw [vnum_eq hfj hmin]; omega
  have := itoa_len (vnum tk ns)
  rw [vN, List.length_cons]; omega
theorem sgn_len (k : Int) : (sgn k).length ≤ 2 := by
  have : okW 2 sgnL := by unfold okW; decide
  exact this.get _
mutual
theorem fmW_ok {L : Nat} (hL : 60 ≤ L) (tk : List Nm) : ∀ (f : Fm) {ns : List Nm} (b : Int), okW L ns → wF f b = 0 → tk.length + ns.length + szF f + 2 ≤ L → okW L (fmW tk ns f)
  | .mk k nm ts ps, ns, b, hn, h, hs => by
    obtain ⟨hsh, hwt, hwp⟩ := wF_parts h
    simp only [Fm.ts, Fm.ps] at hwt hwp
    rw [szF] at hs
    rw [fmW]
    split
    · rename_i hk
      refine okW.cons ?_ (lsW_ok hL hn b ts hwt)
      have hnm : isNm nm = true := by
        unfold shp at hsh
        simp only [Fm.k, Fm.nm, hk] at hsh
        rw [if_neg (by simp), if_pos trivial] at hsh
        simp only [Bool.and_eq_true] at hsh
        exact hsh.1
      have := (isNm_len hnm).1
      omega
    · refine okW.cons (by have := sgn_len k; omega) ((tmsW_ok hL hn b ts hwt).app ?_)
      have hv := vN_len tk ns
      split
      · refine okW.cons (by omega) (fmsW_ok hL tk ps _ (hn.app (okW.cons (by omega) okW.nil)) hwp (by simp; omega))
      · exact fmsW_ok hL tk ps _ hn hwp (by omega)
theorem fmsW_ok {L : Nat} (hL : 60 ≤ L) (tk : List Nm) : ∀ (l : List Fm) {ns : List Nm} (b : Int), okW L ns → wFs l b = 0 → tk.length + ns.length + szFs l + 2 ≤ L → okW L (fmsW tk ns l)
  | [], ns, b, _, _, _ => by rw [fmsW]; exact okW.nil
  | f :: l, ns, b, hn, h, hs => by
    rw [szFs] at hs
    rw [fmsW]
    exact (fmW_ok hL tk f b hn (wFs_cons h).1 (by omega)).app (fmsW_ok hL tk l b hn (wFs_cons h).2 (by omega))
end
mutual
theorem fmW_len (tk : List Nm) : ∀ (f : Fm) (ns : List Nm), (fmW tk ns f).length ≤ 3 * szF f
  | .mk k nm ts ps, ns => by
    rw [fmW, szF]
    have h1 := lsW_len ns ts
    have h2 := tmsW_len ns ts
    split
    · rw [List.length_cons]; omega
    · rw [List.length_cons, List.length_append]
      split
      · have := fmsW_len tk ps (ns ++ [vN (vnum tk ns)])
        rw [List.length_cons]; omega
      · have := fmsW_len tk ps ns
        omega
theorem fmsW_len (tk : List Nm) : ∀ (l : List Fm) (ns : List Nm), (fmsW tk ns l).length ≤ 3 * szFs l
  | [], ns => by simp [fmsW]
  | f :: l, ns => by
    rw [fmsW, szFs, List.length_append]
    have := fmW_len tk f ns
    have := fmsW_len tk l ns
    omega
end
end Go.Proofs.YteacpafhmgdbkaaGreatDoor
end

section
namespace Go.Proofs.YteacpafhmgdbkaaGreatDoor
open Go Go.AL Go.RowKit
set_option maxRecDepth 10000
set_option maxHeartbeats 4000000
@[go_sem] theorem frzs_valsT (b es : Nat) (rows : List (List IV)) : ∀ l : List Nm, frzs b es rows (valsT l) = valsT l
  | [] => rfl
  | _ :: l => by rw [valsT, List.map_cons, frzs, ← valsT, frzs_valsT b es rows l]; rfl
@[go_sem] theorem frzCs_valsT (b : Nat) (rows : List (List IV)) : ∀ l : List Nm, frzCs b rows (valsT l) = True
  | [] => rfl
  | _ :: l => by rw [valsT, List.map_cons, frzCs, ← valsT, frzCs_valsT b rows l]; simp [frzC]
def wdF (f : Fm) : List Nm := fmW (tkF f []) [] f
def txF (f : Fm) : Nm × Int := if unF f 0 = 0 then (if 40000 < (joinB (wdF f)).length then ([], 15) else (joinB (wdF f), 0)) else ([], unF f 0)
theorem text_spec (f : Fm) (hs : fmS f) : PFn Tryz.prog 33 [fmV f] (.tup [Sv (txF f).1, Iv (txF f).2]) := by
  obtain ⟨q, hq⟩ : ∃ q, txF f = q := ⟨_, rfl⟩
  rw [hq]
  unfold txF at hq
  have hwl := well_at f hs
  refine ACall.walk [0, 1, 2, 3, 4, 5, 6, 10, 28] [5, 14] Tryz.func33 rfl Tryz.ntmps33 (by kernel_rfl) (by rfl) rfl fun W own I0 φ0 lay => ?_
  refine gO ?_
  refine AQ.fn (by kernel_rfl) rfl rfl rfl (hwl) rfl ?_
  refine gO ?_
  refine AP.cond rfl rfl (fun h => ?_) (fun h => ?_)
  · have h : ¬ unF f 0 = 0 := by simpa using h
    rw [if_neg h] at hq
    subst hq
    refine gO ?_
    exact AE.ret0 rfl ⟨rfl, rfl, trivial⟩ rfl ⟨rfl, rfl⟩
  · have h : unF f 0 = 0 := by simpa using h
    rw [if_pos h] at hq
    have hf := un_fit h
    have hwl := fmW_len (tkF f []) f []
    have htl := tkF_len f []
    have hnd : (tkF f []).Nodup := tkF_nodup f List.nodup_nil
    have hok := fmW_ok (L := 4000 + 4000 + 2) (by omega) (tkF f []) f (ns := []) 0 okW.nil hf.2.2 (by simp at htl ⊢; omega)
    have hjl := join_len _ _ hok
    have hjb : (joinB (fmW (tkF f []) [] f)).length ≤ 1000000000 := by
      have : (4000 + 4000 + 2 + 1) * (fmW (tkF f []) [] f).length ≤ 8003 * 12000 := Nat.mul_le_mul_left _ (by omega)
      omega
    have hlv := leavesT_spec f [] List.nodup_nil hs
    have hwf := wform_spec (tkF f []) [] f [] hf.2.2 (by simp at htl; omega) hnd (by simp; omega) (by simp; omega)
    have hwd : wdF f = fmW (tkF f []) [] f := rfl
    rw [hwd] at hq
    rw [List.nil_append] at hwf
    generalize hws : fmW (tkF f []) [] f = ws at *
    have hjs := join_spec ws (by omega) hjb
    clear hok hjl hjb
    generalize tkF f [] = tk at *
    refine gO ?_
    refine AQ.mmake (by kernel_rfl) ?_
    refine sI ?_
    refine gO ?_
    refine AQ.callH [(0, 2), (1, 1), (2, 0)] (by kernel_rfl) rfl rfl rfl rfl rfl rfl (by exact ⟨rfl, rfl, rfl, trivial⟩) rfl hlv ?_
    rintro r H' ⟨rfl, rfl⟩
    refine ⟨rfl, ?_⟩
    refine sH ?_
    refine AQ.ownCell 1 0 9 1 rfl rfl ?_
    refine sI ?_
    refine AQ.ownCell 1 2 9 1 rfl rfl ?_
    refine sI ?_
    refine gO ?_
    refine AQ.callH [(0, 1), (1, 0), (2, 3), (3, 4)] (by kernel_rfl) rfl rfl rfl rfl rfl rfl (by refine ⟨rfl, ?_, rfl, rfl, trivial⟩; rw [rnO, rns_valsT]; rfl) rfl hwf ?_
    rintro r H' ⟨rfl, rfl⟩
    refine ⟨rfl, ?_⟩
    refine sH ?_
    refine gO ?_
    refine AQ.freeze 9 (el := 9) (es := 1) (rows := stR ws) rfl (by simp only [go_sem, Nat.reduceAdd, Nat.reduceLeDiff, Nat.reduceSub, Int.reduceToNat, reduceCtorEq, stR_len]; first | done | trivial | omega | (simp; done) | (simp; omega)) (by simp only [go_sem, Nat.reduceAdd, Nat.reduceLeDiff, Nat.reduceSub, Int.reduceToNat, reduceCtorEq, stR_len]; first | done | trivial | omega | (simp; done) | (simp; omega)) ?_; simp only [go_sem, Nat.reduceAdd, Nat.reduceLeDiff, Nat.reduceSub, Int.reduceToNat, reduceCtorEq, stR_len]
    rw [stT ws ws.length (Nat.le_refl _)]
    refine AQ.fn (by kernel_rfl) rfl rfl rfl (hjs) rfl ?_
    refine gO ?_
    refine AP.cond rfl rfl (fun h4 => ?_) (fun h4 => ?_)
    · have h4 : 40000 < (joinB ws).length := by simp only [decide_eq_true_eq] at h4; omega
      rw [if_pos h4] at hq
      subst hq
      refine gO ?_
      exact AE.retD [2, 1, 0, 10] rfl ⟨rfl, rfl, trivial⟩ (by simp only [go_sem, Nat.reduceAdd, Nat.reduceLeDiff, Nat.reduceSub, Int.reduceToNat, reduceCtorEq, dropOk, noMen, AV.mens, AV.men, mens_valsT, Bool.or_false]; first | done | rfl) ⟨rfl, rfl⟩
    · have h4 : ¬ 40000 < (joinB ws).length := by simp only [decide_eq_false_iff_not] at h4; omega
      rw [if_neg h4] at hq
      subst hq
      refine gO ?_
      exact AE.retD [2, 1, 0, 10] rfl ⟨rfl, rfl, trivial⟩ (by simp only [go_sem, Nat.reduceAdd, Nat.reduceLeDiff, Nat.reduceSub, Int.reduceToNat, reduceCtorEq, dropOk, noMen, AV.mens, AV.men, mens_valsT, Bool.or_false]; first | done | rfl) ⟨rfl, rfl⟩
end Go.Proofs.YteacpafhmgdbkaaGreatDoor
end

section
namespace Go.Proofs.YteacpafhmgdbkaaGreatDoor
open Go Go.AL Go.RowKit
set_option maxRecDepth 10000
set_option maxHeartbeats 4000000
def exP : Fm := .mk 1 [112] [] []
def exD : Dv := .mk 3 0 [] (.mk [] 0 []) exP [.mk 1 0 [] (.mk [] 0 []) (.mk 0 [] [] []) []]
theorem ex_check : ckC [] [] exD = .ok (conn 4 [exP, exP]) := by kernel_rfl
theorem ex_text : txF (conn 4 [exP, exP]) = ([36, 62, 32, 112, 32, 112], 0) := by kernel_rfl
theorem exD_S : dvS exD := by
  simp only [exD, exP, dvS, dvsS, tmS, tmsS, fmS, fmsS]
  simp
theorem check_ex : PFn Tryz.prog 13 [.im (.sl 4 (fmR [])), .im (.sl 4 (fmR [])), dvV exD] (rsV (.ok (conn 4 [exP, exP]))) := by
  have h := (check_walk [] [] exD exD_S fmsS_nil fmsS_nil (by simp) (by simp) (fun _ => by decide)).toA fun _ _ h => h
  rw [ex_check] at h
  exact h.mono fun r H' ⟨a, b⟩ => ⟨b, a⟩
theorem text_ex : PFn Tryz.prog 33 [fmV (conn 4 [exP, exP])] (.tup [Sv [36, 62, 32, 112, 32, 112], Iv 0]) := by
  have h := text_spec (conn 4 [exP, exP]) (by simp only [exP, fmS, fmsS, tmsS]; simp)
  rw [ex_text] at h
  exact h
abbrev exV : AV := .agg [Iv 4, Sv [], .im (.sl 3 []), .im (.sl 4 [[Ii 1, Si [112], .sl 3 [], .sl 4 []], [Ii 1, Si [112], .sl 3 [], .sl 4 []]])]
theorem awake_spec : PFn Tryz.prog 12 [] (Bv true) := by
  have hc0 : PFn Tryz.prog 13 [.im (.sl 4 []), .im (.sl 4 []), .agg [Iv 3, Iv 0, Sv [], Sv [], Iv 0, .im (.sl 3 []), Iv 1, Sv [112], .im (.sl 3 []), .im (.sl 4 []), .im (.sl 11 [[Ii 1, Ii 0, Si [], Si [], Ii 0, .sl 3 [], Ii 0, Si [], .sl 3 [], .sl 4 [], .sl 11 []]])]] (.tup [exV, .im (.sl 1 []), Iv 0]) := check_ex
  have hc := hc0.argLe (xs := [nilV, nilV, .agg [Iv 3, Iv 0, Sv [], Sv [], Iv 0, nilV, Iv 1, Sv [112], nilV, nilV, .im (.sl 11 [[Ii 1, Ii 0, Si [], Si [], Ii 0, .v (.slice none 0 0), Ii 0, Si [], .v (.slice none 0 0), .v (.slice none 0 0), .v (.slice none 0 0)]])]]) (by repeat' (first | with_reducible exact AVle.refl _ | with_reducible exact IVle.refl _ | exact IVle.nil _ | with_reducible exact cellsLe.refl _ | with_reducible exact rowLe.refl _ | with_reducible exact rowsLe.refl _ | refine cellsLe.cons2 ?_ ?_ | refine AVle.agg ?_ | refine AVle.im ?_ | refine IVle.sl ?_ | refine rowsLe.cons ?_ ?_ | refine rowLe.cons ?_ ?_))
  have ht : PFn Tryz.prog 33 [exV] (.tup [Sv [36, 62, 32, 112, 32, 112], Iv 0]) := text_ex
  refine ACall.walk [0, 1, 2, 4, 5, 6] [1, 2] Tryz.func12 rfl Tryz.ntmps12 (by kernel_rfl) (by rfl) rfl fun W own I0 φ0 lay => ?_
  refine gO ?_
  refine AQ.fn (by kernel_rfl) rfl rfl rfl (hc) rfl ?_
  refine gO ?_
  refine AQ.fn (by kernel_rfl) rfl rfl rfl (ht) rfl ?_
  refine gO ?_
  exact AE.retD [1, 0] rfl ⟨rfl, trivial⟩ rfl ⟨rfl, rfl⟩
end Go.Proofs.YteacpafhmgdbkaaGreatDoor
end

section
namespace Go.Proofs.YteacpafhmgdbkaaGreatDoor
open Go Go.AL Go.RowKit
set_option maxRecDepth 100000
theorem typed_slice2 {P : Program} {n : Nat} {t e : TypeId} {xs : List IV} (ht : P.underlying t = some (.slice e)) (h : Typed P n t xs) : ∃ rows m, n = m + 1 ∧ xs = [.sl (P.cellsOf e) rows] ∧ rows.length ≤ maxLen ∧ ∀ r ∈ rows, Typed P m e r := by
  cases n with
  | zero => exact h.elim
  | succ n =>
    simp only [Typed, ht] at h
    obtain ⟨rows, h1, h2, h3⟩ := h
    exact ⟨rows, n, rfl, h1, h2, h3⟩
theorem typed_struct2 {P : Program} {n : Nat} {t : TypeId} {fs : Array Field} {xs : List IV} (ht : P.underlying t = some (.struct fs)) (h : Typed P n t xs) :
    ∃ m, n = m + 1 ∧ xs.length = P.cellsOf t ∧ ∀ (i : Nat) (f : Field), fs.toList[i]? = some f → Typed P m f.type ((xs.drop f.offset).take (P.cellsOf f.type)) := by
  cases n with
  | zero => exact h.elim
  | succ n =>
    simp only [Typed, ht] at h
    exact ⟨n, rfl, h⟩
theorem str_of {n : Nat} {xs : List IV} (h : Typed Tryz.prog n 9 xs) : ∃ l : List UInt8, xs = [Si l] ∧ l.length ≤ 9223372036854775807 := by
  obtain ⟨s, rfl, hs⟩ := typed_str Tryz.underlying9 h
  refine ⟨s.data.toList, congrArg (fun x => [IV.v (Value.string x)]) (BA_of s), ?_⟩
  have e : s.size = s.data.size := rfl
  have e2 : s.data.toList.length = s.data.size := Array.length_toList
  unfold maxLen at hs
  omega
theorem tmsS_of : ∀ {l : List Tm}, (∀ t ∈ l, tmS t) → tmsS l
  | [], _ => by rw [tmsS]; trivial
  | t :: l, h => by rw [tmsS]; exact ⟨h t (List.mem_cons_self ..), tmsS_of fun u hu => h u (List.mem_cons_of_mem _ hu)⟩
theorem fmsS_of : ∀ {l : List Fm}, (∀ t ∈ l, fmS t) → fmsS l
  | [], _ => by rw [fmsS]; trivial
  | t :: l, h => by rw [fmsS]; exact ⟨h t (List.mem_cons_self ..), fmsS_of fun u hu => h u (List.mem_cons_of_mem _ hu)⟩
theorem tm_of : ∀ (n : Nat) {xs : List IV}, Typed Tryz.prog n 25 xs → ∃ t : Tm, xs = tmC t ∧ tmS t := by
  intro n
  induction n using Nat.strongRecOn with
  | _ n ih =>
  intro xs h
  have hc : Tryz.prog.cellsOf 25 = 3 := by kernel_rfl
  have hc9 : Tryz.prog.cellsOf 9 = 1 := by kernel_rfl
  have hc3 : Tryz.prog.cellsOf 3 = 1 := by kernel_rfl
  have hc23 : Tryz.prog.cellsOf 23 = 1 := by kernel_rfl
  obtain ⟨m, rfl, hlen, hf⟩ := typed_struct2 Tryz.underlying25 h
  rw [hc] at hlen
  match xs, hlen with
  | [a, b, c], _ =>
    have f0 := hf 0 _ rfl
    have f1 := hf 1 _ rfl
    have f2 := hf 2 _ rfl
    simp only [hc9, hc3, hc23, List.drop_zero, List.take_succ_cons, List.take_zero, List.drop_succ_cons] at f0 f1 f2
    obtain ⟨nm, e0, l0⟩ := str_of f0
    obtain ⟨ix, e1, _⟩ := typed_int Tryz.underlying3 f1
    obtain ⟨rows, m', rfl, e2, hl, hrow⟩ := typed_slice2 Tryz.underlying23 f2
    obtain ⟨l, rfl, hp⟩ := rows_of (p := tmS) (f := tmC) rows fun r hr => ih m' (by omega) (hrow r hr)
    cases e0; cases e1; cases e2
    rw [List.length_map] at hl
    unfold maxLen at hl
    exact ⟨.mk nm ix l, by rw [tmC, tmR_map, hc], by rw [tmS]; exact ⟨l0, by omega, tmsS_of hp⟩⟩
theorem tms_of (n : Nat) {xs : List IV} (h : Typed Tryz.prog n 23 xs) : ∃ l : List Tm, xs = [.sl 3 (tmR l)] ∧ l.length ≤ 9223372036854775807 ∧ tmsS l := by
  have hc : Tryz.prog.cellsOf 25 = 3 := by kernel_rfl
  obtain ⟨rows, m', rfl, rfl, hl, hrow⟩ := typed_slice2 Tryz.underlying23 h
  obtain ⟨l, rfl, hp⟩ := rows_of (p := tmS) (f := tmC) rows fun r hr => tm_of m' (hrow r hr)
  rw [List.length_map] at hl
  unfold maxLen at hl
  exact ⟨l, by rw [tmR_map, hc], by omega, tmsS_of hp⟩
theorem fm_of : ∀ (n : Nat) {xs : List IV}, Typed Tryz.prog n 27 xs → ∃ t : Fm, xs = fmC t ∧ fmS t := by
  intro n
  induction n using Nat.strongRecOn with
  | _ n ih =>
  intro xs h
  have hc : Tryz.prog.cellsOf 27 = 4 := by kernel_rfl
  have hc9 : Tryz.prog.cellsOf 9 = 1 := by kernel_rfl
  have hc3 : Tryz.prog.cellsOf 3 = 1 := by kernel_rfl
  have hc23 : Tryz.prog.cellsOf 23 = 1 := by kernel_rfl
  have hc22 : Tryz.prog.cellsOf 22 = 1 := by kernel_rfl
  obtain ⟨m, rfl, hlen, hf⟩ := typed_struct2 Tryz.underlying27 h
  rw [hc] at hlen
  match xs, hlen with
  | [a, b, c, d], _ =>
    have f0 := hf 0 _ rfl
    have f1 := hf 1 _ rfl
    have f2 := hf 2 _ rfl
    have f3 := hf 3 _ rfl
    simp only [hc9, hc3, hc23, hc22, List.drop_zero, List.take_succ_cons, List.take_zero, List.drop_succ_cons] at f0 f1 f2 f3
    obtain ⟨k, e0, _⟩ := typed_int Tryz.underlying3 f0
    obtain ⟨nm, e1, l1⟩ := str_of f1
    obtain ⟨ts, e2, l2, p2⟩ := tms_of m f2
    obtain ⟨rows, m', rfl, e3, hl, hrow⟩ := typed_slice2 Tryz.underlying22 f3
    obtain ⟨l, rfl, hp⟩ := rows_of (p := fmS) (f := fmC) rows fun r hr => ih m' (by omega) (hrow r hr)
    cases e0; cases e1; cases e2; cases e3
    rw [List.length_map] at hl
    unfold maxLen at hl
    exact ⟨.mk k nm ts l, by rw [fmC, fmR_map, hc], by rw [fmS]; exact ⟨l1, l2, p2, by omega, fmsS_of hp⟩⟩
end Go.Proofs.YteacpafhmgdbkaaGreatDoor
end

section
namespace Go.Proofs.YteacpafhmgdbkaaGreatDoor
open Go Go.AL Go.RowKit
set_option maxRecDepth 100000
theorem gPow : Tryz.prog.globalNamed "internal/strconv.uint64pow10" = some 3 := by kernel_rfl
theorem gSyn : Tryz.prog.globalNamed "strconv.ErrSyntax" = none := by kernel_rfl
theorem gRng : Tryz.prog.globalNamed "strconv.ErrRange" = none := by kernel_rfl
theorem gPowT : (Tryz.prog.globals[3]?).map (·.type) = some 310 := by kernel_rfl
theorem var_cells {P : Program} {W : World} {n : String} {g : Nat} {cs : Array Value} (hg : P.globalNamed n = some g) (h : W.var? P n = some cs) : g < W.heap.size ∧ ∃ T fz, W.heap[g]? = some (.cells cs T fz) := by
  unfold World.var? at h
  rw [hg, Option.bind_some] at h
  split at h
  · rename_i cs' T fz hh
    cases h
    refine ⟨?_, T, fz, hh⟩
    rcases Nat.lt_or_ge g W.heap.size with h' | h'
    · exact h'
    · rw [Array.getElem?_eq_none h'] at hh; cases hh
  · cases h
theorem vk_of {W : World} (h : laidMet Tryz.prog [("math/bits.deBruijn32tab", Rows.laid_math_bits_deBruijn32tab), ("math/bits.deBruijn64tab", Rows.laid_math_bits_deBruijn64tab), ("internal/strconv.uint64pow10", Rows.laid_internal_strconv_uint64pow10)] W) :
    VK Tryz.prog W (fun g => g < W.heap.size) := by
  have h3 := h.tail.tail
  intro x hx g hg
  simp only [laidVars, List.mem_cons, List.not_mem_nil, or_false] at hx
  rcases hx with rfl | rfl | rfl
  · rw [gSyn] at hg; cases hg
  · rw [gRng] at hg; cases hg
  · have ht : Lib.TabIs Tryz.prog W "internal/strconv.uint64pow10" .u64 Lib.pow10Tab := Lib.tabIs_of_head (rest := _) gPow gPowT Tryz.underlying310 Tryz.underlying278 (by kernel_rfl) (by kernel_rfl) h3
    obtain ⟨h1, T, fz, h2⟩ := var_cells hg ht
    exact ⟨h1, _, h2, T, fz, rfl⟩
def litCells (d : DataW Unit) : Array Value := match d with
  | .agg l => (l.map fun x => match x with
    | .lit (.int k z) => Value.int k z
    | _ => .nilIface).toArray
  | _ => #[]
def putCells (cs : Array Value) : Obj → Obj
  | .cells _ t frozen => .cells cs t frozen
  | o => o
noncomputable def laidWorld (os : Os) : World :=
  let w0 := World.holding Tryz.prog os ⟨#[], #[], []⟩
  { w0 with heap := ((w0.heap.modify 3 (putCells (litCells Rows.laid_internal_strconv_uint64pow10))).modify 4 (putCells (litCells Rows.laid_math_bits_deBruijn32tab))).modify 5 (putCells (litCells Rows.laid_math_bits_deBruijn64tab)) }
end Go.Proofs.YteacpafhmgdbkaaGreatDoor
end

section
namespace Go.Proofs.YteacpafhmgdbkaaGreatDoor
open Go Go.AL Go.RowKit
set_option maxRecDepth 10000
set_option maxHeartbeats 4000000
set_option maxHeartbeats 4000000 in
set_option maxRecDepth 100000 in
theorem clone217 (s : ByteArray) (w : World) (hlim : s.size ≤ 281474976710656) :
    Calls Tryz.prog 217 #[.string s] w fun e w' => e = .returned (.string s) ∧ Below w.heap.size w w' := by
  have i5 : (Tryz.prog.info? 5).map (fun i => (i.zero, i.size, i.bytes)) = some (some (Value.int IntKind.u8 0), 1, 1) := by kernel_rfl
  by_cases h0 : s.size = 0
  · have hs : s = ⟨#[]⟩ := by
      apply ByteArray.ext
      exact Array.eq_empty_of_size_eq_zero h0
    subst hs
    go_enter Tryz.func217, Tryz.ntmps217
    go_wp2
    go_ret
    exact ⟨rfl, Below.refl _ _⟩
  · obtain ⟨i0, hi, hz0, hz1, hz2⟩ := info_parts i5
    have hinfo : (Tryz.prog.info? 5).map (·.size) = some 1 := by rw [hi]; simp [hz1]
    have hco : Tryz.prog.cellsOf 5 = 1 := by simp [Program.cellsOf, hi, hz1]
    -- 'make([]byte, len(s))', for the walk to take; what it lays under a name
    obtain ⟨M, hM⟩ : ∃ M, M = madeCells (Value.int .u8 0).cells (((s.size : Nat) : Int).toNat * i0.size) := ⟨_, rfl⟩
    have hMs : M.size = s.size := by rw [hM, size_madeCells, hz1]; simp
    have hmk : ∀ W : World, (Instr.makeSlice 178 (.int .i64 (s.size : Int)) (.int .i64 (s.size : Int))).run Tryz.prog W = .ok (.slice (some ⟨W.heap.size, 0, none⟩) s.size s.size) (W.alloc (.cells M 5)) := fun W => by
      have h := run_make (P := Tryz.prog) W 178 5 i0 (.int .u8 0) Tryz.underlying178 hi hz0 .i64 .i64 (s.size : Int) (s.size : Int) (by omega) (by omega) (by rw [hz2]; omega) (by omega)
      rw [← hM] at h
      simpa using h
    clear hM
    -- 'copy(b, s)'
    have hcp := Lib.run_copy_row_string (P := Tryz.prog) (w.alloc (.cells M 5)) 178 9 3 5 w.heap.size 0 s.size s.size s M 5 Tryz.underlying178 hinfo (heap_alloc_new w _) (Nat.le_refl _) (by omega)
    obtain ⟨Y, hY⟩ : ∃ Y, Y = (M.toList.take 0 ++ Lib.byteCells s.data.toList ++ M.toList.drop (0 + s.size)).toArray := ⟨_, rfl⟩
    rw [← hY] at hcp
    have hYl : Y.toList = Lib.byteCells s.data.toList := by
      rw [hY, List.toList_toArray, List.take_zero, List.nil_append, List.drop_of_length_le (by rw [Array.length_toList]; omega), List.append_nil]
    have hYs : Y.size = s.size := by rw [← Array.length_toList, hYl, Lib.byteCells_length, ← Lib.size_eq]
    have hgY : ((w.alloc (.cells M 5)).setRow w.heap.size Y).heap[w.heap.size]? = some (.cells Y 5 (0, 0)) := setRow_heap _ _ M _ 5 (0, 0) (heap_alloc_new w _)
    -- 'unsafe.String(&b[0], len(b))'
    have hne : s.data.toList ≠ [] := fun e => h0 (by rw [Lib.size_eq, e]; rfl)
    have hUS := Lib.run_unsafeString_row (P := Tryz.prog) ((w.alloc (.cells M 5)).setRow w.heap.size Y) 250 3 9 5 Tryz.underlying250 hco w.heap.size Y.size (by unfold World.shape?; rw [hgY]) s.data.toList hne (by rw [← Lib.size_eq]; omega) (by rw [← Lib.size_eq]; omega)
      (fun j x hx => Lib.cells_of_row hgY Y.size j _ (by rw [List.take_of_length_le (by rw [Array.length_toList]; exact Nat.le_refl _), hYl]; simp [Lib.byteCells, hx]))
    rw [← Lib.size_eq] at hUS
    clear hY
    go_enter Tryz.func217, Tryz.ntmps217
    go_wp2
    go_ret
    have hb1 : Below w.heap.size w (w.alloc (.cells M 5)) := (Below.refl _ w).alloc (Nat.le_refl _) _
    have hb2 : Below w.heap.size (w.alloc (.cells M 5)) ((w.alloc (.cells M 5)).setRow w.heap.size Y) := ⟨rfl, rfl, rfl, by simp, fun k hk => setRow_other _ _ _ _ (by omega)⟩
    exact ⟨rfl, Lib.below_freeze (hb1.trans hb2) (p := ⟨w.heap.size, 0, none⟩) (Nat.le_refl _) _⟩
theorem clone217_spec (s : ByteArray) (h : s.size ≤ 1000000000000) : PFn Tryz.prog 217 [.im (.v (.string s))] (.im (.v (.string s))) := by
  refine PFn.of_below (by rfl) rfl fun w φ I vs hd _ => ?_
  simp only [AV.dens, AV.den, IV.den] at hd
  obtain ⟨u, us, rfl, ⟨rfl, _⟩, rfl⟩ := hd
  refine (clone217 s w (by omega)).mono fun e w' ⟨he, hb⟩ => ⟨_, he, ?_, hb⟩
  simp only [AV.den, IV.den]
  exact ⟨trivial, rfl⟩
theorem sclone_spec (s : ByteArray) (h : s.size ≤ 1000000000000) : PFn Tryz.prog 159 [.im (.v (.string s))] (.im (.v (.string s))) := by
  refine ACall.walk [0, 2] [] Tryz.func159 rfl Tryz.ntmps159 (by kernel_rfl) (by rfl) rfl fun W own I0 φ0 lay => ?_
  refine gO ?_
  refine AQ.fn (by kernel_rfl) rfl rfl rfl (clone217_spec s h) rfl ?_
  refine gO ?_
  exact AE.ret rfl ⟨rfl, trivial⟩ ⟨rfl, rfl⟩
abbrev Tok := List UInt8 × Nat
def push (b : UInt8) (o : Nat) : List UInt8 → List Tok → List Tok
  | [], _ => [([b], o)]
  | c :: _, r => if sp c then ([b], o) :: r else match r with
    | (x, _) :: r => (b :: x, o) :: r
    | [] => []
def toks : List UInt8 → Nat → List Tok
  | [], _ => []
  | b :: l, o => if sp b then toks l (o + 1) else push b o l (toks l (o + 1))
theorem toks_sp {b : UInt8} {l : List UInt8} {o : Nat} (h : sp b = true) : toks (b :: l) o = toks l (o + 1) := by simp only [toks, h, if_true]
theorem toks_last {b : UInt8} {o : Nat} (h : sp b = false) : toks [b] o = [([b], o)] := by simp [toks, h, push]
theorem toks_end {b c : UInt8} {l : List UInt8} {o : Nat} (h : sp b = false) (h' : sp c = true) : toks (b :: c :: l) o = ([b], o) :: toks (c :: l) (o + 1) := by
  rw [toks, h]; simp [h', push]
theorem toks_more {b c : UInt8} {l : List UInt8} {o : Nat} (h : sp b = false) (h' : sp c = false) {x : List UInt8} {o' : Nat} {r : List Tok} (e : toks (c :: l) (o + 1) = (x, o') :: r) : toks (b :: c :: l) o = (b :: x, o) :: r := by
  rw [toks, h, e]; simp [h', push]
theorem toks_word : ∀ (x : List UInt8) (l : List UInt8) (o : Nat), x ≠ [] → (∀ b ∈ x, sp b = false) → (∀ c l', l = c :: l' → sp c = true) → toks (x ++ l) o = (x, o) :: toks l (o + x.length)
  | [], _, _, h, _, _ => absurd rfl h
  | [b], [], o, _, hx, _ => by rw [List.append_nil, toks_last (hx b (by simp))]; rfl
  | [b], c :: l, o, _, hx, hl => by exact toks_end (hx b (by simp)) (hl c l rfl)
  | b :: c :: x, l, o, _, hx, hl => by
    have := toks_word (c :: x) l (o + 1) (by simp) (fun d hd => hx d (List.mem_cons_of_mem _ hd)) hl
    rw [List.cons_append] at this
    rw [List.cons_append, List.cons_append, toks_more (hx b (by simp)) (hx c (by simp)) this]
    rw [show o + 1 + (c :: x).length = o + (b :: c :: x).length by simp; omega]
def okT (t : List UInt8) : Bool := t.all fun b => !(cls b.toNat == 0)
def badAt (t : List UInt8) : Nat := t.findIdx fun b => cls b.toNat == 0
def tokRow (k : Tok) : List IV := [Si k.1, Ii k.2]
def tokRows (l : List Tok) : List (List IV) := l.map tokRow
theorem tokRows_len (l : List Tok) : (tokRows l).length = l.length := by simp [tokRows]
attribute [go_sem] tokRows_len
def scanOf (t : List UInt8) : AV := if okT t then .tup [.im (.sl 2 (tokRows (toks t 0))), Iv 0, Iv 0] else .tup [.im (.sl 2 []), Iv (badAt t), Iv 30]
theorem drop_cons (t : List UInt8) (i : Nat) (h : i < t.length) : t.drop i = t.getD i 0 :: t.drop (i + 1) := by
  rw [List.drop_eq_getElem_cons h, List.getD_eq_getElem?_getD, List.getElem?_eq_getElem h]; rfl
theorem bad_at (t : List UInt8) (k : Nat) (hk : k < t.length) (h : ((t.take k).all fun b => !(cls b.toNat == 0)) = true) (h' : (cls (t.getD k 0).toNat == 0) = true) : badAt t = k := by
  unfold badAt
  rw [List.findIdx_eq hk]
  rw [List.getD_eq_getElem?_getD, List.getElem?_eq_getElem hk] at h'
  refine ⟨h', fun j hj => ?_⟩
  rw [List.all_eq_true] at h
  have := h t[j] (by rw [List.mem_take_iff_getElem]; exact ⟨j, by omega, rfl⟩)
  simpa using this
theorem toks_ne : ∀ (l : List UInt8) (c : UInt8) (o : Nat), sp c = false → ∃ y r, toks (c :: l) o = y :: r
  | [], c, o, h => ⟨_, _, toks_last h⟩
  | d :: l, c, o, h => by
    cases hd : sp d with
    | true => exact ⟨_, _, toks_end h hd⟩
    | false =>
      obtain ⟨⟨x, i⟩, r, e⟩ := toks_ne l d (o + 1) hd
      exact ⟨_, _, toks_more h hd e⟩
theorem toks_room {t : List UInt8} {k : Nat} {out : List Tok} (hk : k < t.length) (hs : sp (t.getD k 0) = false) (htk : toks t 0 = out ++ toks (t.drop k) k) (h : (toks t 0).length ≤ 8000) : ((out.length : Int) == 8000) = false := by
  obtain ⟨y, r, e⟩ := toks_ne (t.drop (k + 1)) (t.getD k 0) k hs
  rw [htk, drop_cons t k hk, e, List.length_append, List.length_cons] at h
  simp; omega
theorem word_step (t : List UInt8) (k e : Nat) (hke : k ≤ e) (he : e < t.length) (h : ∀ b ∈ (t.drop k).take (e - k), sp b = false) (h' : sp (t.getD e 0) = false) : ∀ b ∈ (t.drop k).take (e + 1 - k), sp b = false := by
  intro b hb
  rw [show e + 1 - k = e - k + 1 by omega, List.take_add_one] at hb
  rcases List.mem_append.1 hb with hb | hb
  · exact h b hb
  · rw [List.getElem?_drop, show k + (e - k) = e by omega, List.getElem?_eq_getElem he] at hb
    rw [List.getD_eq_getElem?_getD, List.getElem?_eq_getElem he] at h'
    simp at hb
    rw [hb]; exact h'
theorem scan_spec (t : List UInt8) (ht : t.length ≤ 40000) (htl : (toks t 0).length ≤ 8000) : PFn Tryz.prog 87 [Sv t] (scanOf t) := by
  refine ACall.walk [0, 2, 3, 4, 5, 6, 7, 8, 9, 12, 15, 16, 17, 24, 38, 41, 46, 63] [5] Tryz.func87 rfl Tryz.ntmps87 (by kernel_rfl) (by rfl) rfl fun W own I0 φ0 lay => ?_
  refine gO ?_
  have h1 : ¬ ((40000 : Int) < t.length) := by omega
  refine AP.cond_false rfl (by rw [← decide_eq_false h1]; rfl) ?_
  refine gO ?_
  refine AQ.fn (by kernel_rfl) rfl rfl rfl classes_spec rfl ?_
  refine gO ?_
  refine AP.loop rfl (α := Nat) (fun k => [(0, Sv t), (5, .ob 0 0), (15, Iv t.length), (16, Iv k)]) (fun k => [(0, .vec 227 1 tabRows)]) (fun k => k ≤ t.length ∧ ((t.take k).all fun b => !(cls b.toNat == 0)) = true) (fun k => t.length - k) 0 (by simp) (Sub.cons rfl (Sub.cons rfl (Sub.cons rfl (Sub.cons rfl (Sub.nil _))))) (by simp) fun k hk => ?_
  obtain ⟨hk, hx⟩ := hk
  have hw := wr (x := (k : Int) + 1) (by omega)
  refine gE @hw ?_
  refine AP.cond rfl rfl (fun hc => ?_) (fun hc => ?_)
  · have hk' : k < t.length := by simp at hc; omega
    have hb := (t.getD k 0).toNat_lt
    refine gE @hw ?_
    refine AP.cond rfl rfl (fun h2 => ?_) (fun h2 => ?_)
    · refine gE @hw ?_
      refine AE.nilsl 2 2 rfl ?_
      refine AE.ret0 rfl ⟨rfl, rfl, rfl, trivial⟩ rfl ⟨rfl, ?_⟩
      have : okT t = false := all_no t _ k hk' (by rw [h2]; rfl)
      rw [scanOf, this, bad_at t k hk' hx h2]; rfl
    · refine gE @hw ?_
      exact AE.round (k + 1) ⟨by omega, all_step t _ k hk' hx (by rw [h2]; rfl)⟩ (by omega) (Sub.cons rfl (Sub.cons rfl (Sub.cons rfl (Sub.cons rfl (Sub.nil _))))) rfl
  · have hk' : k = t.length := by simp at hc; omega
    rw [hk', List.take_length] at hx
    refine gE @hw ?_
    refine AP.own 7 161 2 rfl ?_
    refine AP.loop rfl (α := Nat × List Tok) (fun p => [(0, Sv t), (5, .ob 0 0), (7, .os 1 2 0 p.2.length), (8, Iv p.1)]) (fun p => [(1, .vec 161 2 (tokRows p.2)), (0, .vec 227 1 tabRows)]) (fun p => p.1 ≤ t.length ∧ p.2.length ≤ p.1 ∧ toks t 0 = p.2 ++ toks (t.drop p.1) p.1) (fun p => t.length - p.1) (0, []) (by simp) (Sub.cons rfl (Sub.cons rfl (Sub.cons rfl (Sub.cons rfl (Sub.nil _))))) (by rfl) fun p hp => ?_
    obtain ⟨a0, out⟩ := p
    obtain ⟨ha0, hout, htk⟩ := hp
    simp only at ha0 hout htk
    refine gO ?_
    refine AP.loop rfl (α := Nat) (fun k => [(0, Sv t), (5, .ob 0 0), (7, .os 1 2 0 out.length), (8, Iv k)]) (fun _ => [(1, .vec 161 2 (tokRows out)), (0, .vec 227 1 tabRows)]) (fun k => a0 ≤ k ∧ k ≤ t.length ∧ toks t 0 = out ++ toks (t.drop k) k) (fun k => t.length - k) a0 ⟨by omega, ha0, htk⟩ (Sub.cons rfl (Sub.cons rfl (Sub.cons rfl (Sub.cons rfl (Sub.nil _))))) (by rfl) fun k hk => ?_
    obtain ⟨hak, hk, htk⟩ := hk
    have hw := wr (x := (k : Int) + 1) (by omega)
    have hb := (t.getD k 0).toNat_lt
    refine gE @hw ?_
    refine AP.cond rfl rfl (fun hc => ?_) (fun hc => ?_)
    · simp only [Bool.and_eq_true, decide_eq_true_eq] at hc
      have hk' : k < t.length := by omega
      refine gE @hw ?_
      refine AE.round (k + 1) ⟨by omega, by omega, ?_⟩ (by omega) (Sub.cons rfl (Sub.cons rfl (Sub.cons rfl (Sub.cons rfl (Sub.nil _))))) rfl
      rw [htk, drop_cons t k hk', toks_sp hc.2]
    · refine gE @hw ?_
      refine AP.cond rfl rfl (fun h2 => ?_) (fun h2 => ?_)
      · have hk' : k = t.length := by simp at h2; omega
        refine gO ?_
        refine sI ?_
        refine AE.freeze 1 (el := 161) (es := 2) (rows := tokRows out) rfl (by simp [go_sem, tokRows_len]) (by simp [go_sem, tokRows_len]) ?_
        refine AE.ret0 rfl ⟨rfl, rfl, rfl, trivial⟩ rfl ⟨rfl, ?_⟩
        have e1 : okT t = true := hx
        have e2 : toks t 0 = out := by rw [htk, hk', List.drop_length, toks, List.append_nil]
        rw [scanOf, e1, if_pos rfl, e2]
        have e3 : ((tokRows out).drop 0).take out.length = tokRows out := by rw [List.drop_zero, ← tokRows_len out, List.take_length]
        show AV.tup [.im (.sl 2 (((tokRows out).drop 0).take out.length)), Iv 0, Iv 0] = _
        rw [e3]
      · have hk' : k < t.length := by simp at h2; omega
        have hsp : sp (t.getD k 0) = false := by
          simp only [Bool.and_eq_false_iff, decide_eq_false_iff_not] at hc
          rcases hc with hc | hc
          · omega
          · exact hc
        refine gO ?_
        refine AP.cond_false rfl (by rw [← toks_room hk' hsp htk htl]; rfl) ?_
        refine gO ?_
        refine AP.loop rfl (α := Nat) (fun e => [(0, Sv t), (5, .ob 0 0), (7, .os 1 2 0 out.length), (8, Iv k), (9, Iv e)]) (fun _ => [(1, .vec 161 2 (tokRows out)), (0, .vec 227 1 tabRows)]) (fun e => k ≤ e ∧ e ≤ t.length ∧ ∀ b ∈ (t.drop k).take (e - k), sp b = false) (fun e => t.length - e) k ⟨by omega, hk, by simp⟩ (Sub.cons rfl (Sub.cons rfl (Sub.cons rfl (Sub.cons rfl (Sub.cons rfl (Sub.nil _)))))) (by rfl) fun e he => ?_
        obtain ⟨hke, he, hwd⟩ := he
        have hw2 := wr (x := (e : Int) + 1) (by omega)
        have hb2 := (t.getD e 0).toNat_lt
        refine gE @hw2 ?_
        refine AP.cond rfl rfl (fun h3 => ?_) (fun h3 => ?_)
        · simp only [Bool.and_eq_true, decide_eq_true_eq] at h3
          have he' : e < t.length := by omega
          refine gE @hw2 ?_
          refine AE.round (e + 1) ⟨by omega, by omega, ?_⟩ (by omega) (Sub.cons rfl (Sub.cons rfl (Sub.cons rfl (Sub.cons rfl (Sub.cons rfl (Sub.nil _)))))) rfl
          exact word_step t k e hke he' hwd (by simpa [sp] using h3.2)
        · refine gE @hw2 ?_
          refine AQ.fn (by kernel_rfl) rfl rfl rfl (sclone_spec _ (by rw [BA_size, List.length_take, List.length_drop]; omega)) rfl ?_
          refine gE @hw2 ?_
          have hlt : k < e := by
            rcases Nat.lt_or_ge k e with h | h
            · exact h
            · have : e = k := by omega
              subst this
              simp only [Bool.and_eq_false_iff, decide_eq_false_iff_not, bne_eq_false_iff_eq] at h3
              rcases h3 with h3 | h3
              · omega
              · have : sp (t.getD e 0) = true := by unfold sp; rw [h3]; rfl
                rw [this] at hsp; cases hsp
          refine AQ.append (hnb := rfl) (rows := tokRows out) (xs := tokRows [((t.drop k).take (e - k), k)]) (es := 1) (by kernel_rfl) rfl rfl rfl rfl Tryz.tk147 Tryz.sz161 (by rw [Tryz.zr161]; rfl) Tryz.by161 (tokRows_len out).symm (by simp only [tokRows_len, List.length_cons, List.length_nil]; omega) (by simp only [tokRows_len, List.length_cons, List.length_nil]; omega) ?_
          refine gO ?_
          refine AE.round (e, out ++ [((t.drop k).take (e - k), k)]) ⟨he, ?_, ?_⟩ (by simp only; omega) (Sub.cons rfl (Sub.cons rfl (Sub.cons ?_ (Sub.cons rfl (Sub.nil _))))) ?_
          · simp only [List.length_append, List.length_cons, List.length_nil]; omega
          · have hd : t.drop k = (t.drop k).take (e - k) ++ t.drop e := by
              conv => lhs; rw [← List.take_append_drop (e - k) (t.drop k)]
              rw [List.drop_drop, show k + (e - k) = e by omega]
            have hl : ((t.drop k).take (e - k)).length = e - k := by rw [List.length_take, List.length_drop]; omega
            rw [htk, List.append_assoc]
            congr 1
            conv => lhs; rw [hd]
            rw [toks_word _ _ _ (fun h => by rw [h] at hl; simp at hl; omega) hwd (fun c l' hcl => ?_), hl, show k + (e - k) = e by omega]
            · rfl
            · have he' : e < t.length := by
                rcases Nat.lt_or_ge e t.length with h | h
                · exact h
                · rw [List.drop_of_length_le h] at hcl; cases hcl
              rw [drop_cons t e he'] at hcl
              injection hcl with hcl _
              subst hcl
              simp only [Bool.and_eq_false_iff, decide_eq_false_iff_not, bne_eq_false_iff_eq] at h3
              rcases h3 with h3 | h3
              · omega
              · unfold sp; rw [h3]; rfl
          · simp only [List.length_append, List.length_cons, List.length_nil]; rfl
          · simp only [tokRows, List.map_append]
theorem space_spec (b : UInt8) : PFn Tryz.prog 164 [.im (.v (.int .u8 b.toNat))] (Bv (sp b)) := by
  refine ACall.walk [0, 2] [] Tryz.func164 rfl Tryz.ntmps164 (by kernel_rfl) (by rfl) rfl fun W own I0 φ0 lay => ?_
  refine gO ?_
  refine AE.ret rfl ⟨rfl, trivial⟩ ⟨rfl, ?_⟩
  rw [sp_eq]; rfl
theorem bad_eq (b : UInt8) : (!(sp b) && !(pr b)) = (cls b.toNat == 0) := by
  have := byte_all (p := fun n => (!(cls n == 1) && !(!(cls n == 0) && !(cls n == 1))) == (cls n == 0)) (by decide +kernel) b
  rw [beq_iff_eq] at this
  exact this
theorem pr_sp {b : UInt8} (h : pr b = true) : sp b = false := by
  unfold pr at h
  simp only [Bool.and_eq_true, Bool.not_eq_true'] at h
  exact h.2
theorem ok_pr {t : List UInt8} (h : okT t = true) (k : Nat) (hk : k < t.length) (hs : sp (t.getD k 0) = false) : pr (t.getD k 0) = true := by
  unfold okT at h
  rw [List.all_eq_true] at h
  have h2 := h (t.getD k 0) (by rw [List.getD_eq_getElem?_getD, List.getElem?_eq_getElem hk]; simp)
  unfold pr
  rw [h2, hs]; rfl
theorem tok_step (t : List UInt8) (k e : Nat) (out : List Tok) (hlt : k < e) (he : e ≤ t.length) (hwd : ∀ b ∈ (t.drop k).take (e - k), sp b = false) (hend : e < t.length → sp (t.getD e 0) = true)
    (htk : toks t 0 = out ++ toks (t.drop k) k) : toks t 0 = (out ++ [((t.drop k).take (e - k), k)]) ++ toks (t.drop e) e := by
  have hd : t.drop k = (t.drop k).take (e - k) ++ t.drop e := by
    conv => lhs; rw [← List.take_append_drop (e - k) (t.drop k)]
    rw [List.drop_drop, show k + (e - k) = e by omega]
  have hl : ((t.drop k).take (e - k)).length = e - k := by rw [List.length_take, List.length_drop]; omega
  rw [htk, List.append_assoc]
  congr 1
  conv => lhs; rw [hd]
  rw [toks_word _ _ _ (fun h => by rw [h] at hl; simp at hl; omega) hwd (fun c l' hcl => ?_), hl, show k + (e - k) = e by omega]
  · rfl
  · have he' : e < t.length := by
      rcases Nat.lt_or_ge e t.length with h | h
      · exact h
      · rw [List.drop_of_length_le h] at hcl; cases hcl
    rw [drop_cons t e he'] at hcl
    injection hcl with hcl _
    subst hcl
    exact hend he'
theorem scan_ref (t : List UInt8) (ht : t.length ≤ 40000) (htl : (toks t 0).length ≤ 8000) : PFn Tryz.prog 91 [Sv t] (scanOf t) := by
  refine ACall.walk [0, 2, 3, 4, 5, 6, 7, 8, 11, 15, 29, 35, 39, 52, 57] [] Tryz.func91 rfl Tryz.ntmps91 (by kernel_rfl) (by rfl) rfl fun W own I0 φ0 lay => ?_
  refine gO ?_
  have h1 : ¬ ((40000 : Int) < t.length) := by omega
  refine AP.cond_false rfl (by rw [← decide_eq_false h1]; rfl) ?_
  refine gO ?_
  refine AP.loop rfl (α := Nat) (fun k => [(0, Sv t), (5, Iv k)]) (fun k => []) (fun k => k ≤ t.length ∧ ((t.take k).all fun b => !(cls b.toNat == 0)) = true) (fun k => t.length - k) 0 (by simp) (Sub.cons rfl (Sub.cons rfl (Sub.nil _))) (by simp) fun k hk => ?_
  obtain ⟨hk, hx⟩ := hk
  have hw := wr (x := (k : Int) + 1) (by omega)
  refine gE @hw ?_
  refine AP.cond rfl rfl (fun hc => ?_) (fun hc => ?_)
  · have hk' : k < t.length := by simp at hc; omega
    refine gE @hw ?_
    refine AQ.fn (by kernel_rfl) rfl rfl rfl (space_spec (t.getD k 0)) rfl ?_
    refine gE @hw ?_
    refine AQ.fn_g (by kernel_rfl) rfl rfl (fun h => by simpa [gs, AV.g, bw] using h) rfl (fun _ => printable_spec (t.getD k 0)) rfl ?_
    refine gE (an @hw @bad_eq) ?_
    refine AP.cond rfl rfl (fun h2 => ?_) (fun h2 => ?_)
    · refine gE @hw ?_
      refine AE.nilsl 2 2 rfl ?_
      refine AE.ret0 rfl ⟨rfl, rfl, rfl, trivial⟩ rfl ⟨rfl, ?_⟩
      have : okT t = false := all_no t _ k hk' (by rw [h2]; rfl)
      rw [scanOf, this, bad_at t k hk' hx h2]; rfl
    · refine gE @hw ?_
      exact AE.round (k + 1) ⟨by omega, all_step t _ k hk' hx (by rw [h2]; rfl)⟩ (by omega) (Sub.cons rfl (Sub.cons rfl (Sub.nil _))) rfl
  · have hk' : k = t.length := by simp at hc; omega
    rw [hk', List.take_length] at hx
    refine gE @hw ?_
    refine AP.loop rfl (α := Nat × List Tok) (fun p => [(0, Sv t), (6, .os 0 2 0 p.2.length), (7, Iv p.1)]) (fun p => [(0, .vec 161 2 (tokRows p.2))]) (fun p => p.1 ≤ t.length ∧ p.2.length ≤ p.1 ∧ toks t 0 = p.2 ++ toks (t.drop p.1) p.1) (fun p => t.length - p.1) (0, []) (by simp) (Sub.cons rfl (Sub.cons rfl (Sub.cons rfl (Sub.nil _)))) (by rfl) fun p hp => ?_
    obtain ⟨k, out⟩ := p
    obtain ⟨hk, hout, htk⟩ := hp
    simp only at hk hout htk
    have hw := wr (x := (k : Int) + 1) (by omega)
    have hb := (t.getD k 0).toNat_lt
    refine gE @hw ?_
    refine AP.cond rfl rfl (fun hc => ?_) (fun hc => ?_)
    · have hk' : k < t.length := by simp at hc; omega
      refine gE @hw ?_
      refine AQ.fn (by kernel_rfl) rfl rfl rfl (space_spec (t.getD k 0)) rfl ?_
      refine gE @hw ?_
      refine AP.cond rfl rfl (fun h2 => ?_) (fun h2 => ?_)
      · refine gE @hw ?_
        refine AE.round (k + 1, out) ⟨by simp only; omega, by simp only; omega, ?_⟩ (by simp only; omega) (Sub.cons rfl (Sub.cons rfl (Sub.cons rfl (Sub.nil _)))) rfl
        rw [htk, drop_cons t k hk', toks_sp h2]
      · refine gE @hw ?_
        refine AP.loop rfl (α := Nat) (fun e => [(0, Sv t), (6, .os 0 2 0 out.length), (7, Iv k), (8, Iv e)]) (fun _ => [(0, .vec 161 2 (tokRows out))]) (fun e => k ≤ e ∧ e ≤ t.length ∧ ∀ b ∈ (t.drop k).take (e - k), sp b = false) (fun e => t.length - e) k ⟨by omega, hk, by simp⟩ (Sub.cons rfl (Sub.cons rfl (Sub.cons rfl (Sub.cons rfl (Sub.nil _))))) (by rfl) fun e he => ?_
        obtain ⟨hke, he, hwd⟩ := he
        have hw2 := wr (x := (e : Int) + 1) (by omega)
        have hb2 := (t.getD e 0).toNat_lt
        refine gE @hw2 ?_
        refine AQ.fn_g (by kernel_rfl) rfl rfl (fun h => by simpa [gs, AV.g, bw] using h) rfl (fun _ => printable_spec (t.getD e 0)) rfl ?_
        refine gE @hw2 ?_
        refine AP.cond rfl rfl (fun h3 => ?_) (fun h3 => ?_)
        · simp only [Bool.and_eq_true, decide_eq_true_eq] at h3
          have he' : e < t.length := by omega
          refine gE @hw2 ?_
          refine AE.round (e + 1) ⟨by omega, by omega, ?_⟩ (by omega) (Sub.cons rfl (Sub.cons rfl (Sub.cons rfl (Sub.cons rfl (Sub.nil _))))) rfl
          exact word_step t k e hke he' hwd (pr_sp h3.2)
        · refine gE @hw2 ?_
          refine AP.cond_false rfl (by rw [← toks_room hk' h2 htk htl]; rfl) ?_
          refine gE @hw2 ?_
          have hpe : e < t.length → sp (t.getD e 0) = true := fun hlt => by
            cases hs : sp (t.getD e 0) with
            | true => rfl
            | false =>
              rw [ok_pr hx e hlt hs] at h3
              simp at h3
              omega
          have hlt : k < e := by
            rcases Nat.lt_or_ge k e with h | h
            · exact h
            · have : e = k := by omega
              subst this
              rw [hpe hk'] at h2; cases h2
          refine AQ.append (hnb := rfl) (rows := tokRows out) (xs := tokRows [((t.drop k).take (e - k), k)]) (es := 1) (by kernel_rfl) rfl rfl rfl rfl Tryz.tk147 Tryz.sz161 (by rw [Tryz.zr161]; rfl) Tryz.by161 (tokRows_len out).symm (by simp only [tokRows_len, List.length_cons, List.length_nil]; omega) (by simp only [tokRows_len, List.length_cons, List.length_nil]; omega) ?_
          refine gO ?_
          refine AE.round (e, out ++ [((t.drop k).take (e - k), k)]) ⟨he, ?_, tok_step t k e out hlt he hwd hpe htk⟩ (by simp only; omega) (Sub.cons rfl (Sub.cons ?_ (Sub.cons rfl (Sub.nil _)))) ?_
          · simp only [List.length_append, List.length_cons, List.length_nil]; omega
          · simp only [List.length_append, List.length_cons, List.length_nil]; rfl
          · simp only [tokRows, List.map_append]
    · have hk' : k = t.length := by simp at hc; omega
      refine gE @hw ?_
      refine sI ?_
      refine AE.freeze 0 (el := 161) (es := 2) (rows := tokRows out) rfl (by simp [go_sem, tokRows_len]) (by simp [go_sem, tokRows_len]) ?_
      refine AE.ret0 rfl ⟨rfl, rfl, rfl, trivial⟩ rfl ⟨rfl, ?_⟩
      have e1 : okT t = true := hx
      have e2 : toks t 0 = out := by rw [htk, hk', List.drop_length, toks, List.append_nil]
      rw [scanOf, e1, if_pos rfl, e2]
      have e3 : ((tokRows out).drop 0).take out.length = tokRows out := by rw [List.drop_zero, ← tokRows_len out, List.take_length]
      show AV.tup [.im (.sl 2 (((tokRows out).drop 0).take out.length)), Iv 0, Iv 0] = _
      rw [e3]
def scanT (t : List UInt8) : List Tok := if 40000 < t.length then [] else if okT t then toks t 0 else []
def scanA (t : List UInt8) : Int := if 40000 < t.length then 0 else if okT t then 0 else badAt t
def scanE (t : List UInt8) : Int := if 40000 < t.length then 4 else if okT t then 0 else 30
theorem scanOf_eq (t : List UInt8) (h : t.length ≤ 40000) : scanOf t = .tup [.im (.sl 2 (tokRows (scanT t))), Iv (scanA t), Iv (scanE t)] := by
  have : ¬ 40000 < t.length := by omega
  unfold scanOf scanT scanA scanE
  cases okT t <;> simp [this] <;> rfl
theorem scan1 (t : List UInt8) (ht : t.length ≤ 40000) (htl : (toks t 0).length ≤ 8000) : PFn Tryz.prog 87 [Sv t] (.tup [.im (.sl 2 (tokRows (scanT t))), Iv (scanA t), Iv (scanE t)]) := by
  rw [← scanOf_eq t ht]; exact scan_spec t ht htl
theorem scan2 (t : List UInt8) (ht : t.length ≤ 40000) (htl : (toks t 0).length ≤ 8000) : PFn Tryz.prog 91 [Sv t] (.tup [.im (.sl 2 (tokRows (scanT t))), Iv (scanA t), Iv (scanE t)]) := by
  rw [← scanOf_eq t ht]; exact scan_ref t ht htl
theorem toks_len : ∀ (t : List UInt8) (o : Nat), (toks t o).length ≤ t.length
  | [], _ => by simp [toks]
  | b :: l, o => by
    have ih := toks_len l (o + 1)
    rw [toks]
    split
    · simp only [List.length_cons]; omega
    · unfold push
      split
      · simp
      · split
        · simp only [List.length_cons] at ih ⊢; omega
        · split
          · rename_i e; rw [e] at ih; simp only [List.length_cons] at ih ⊢; omega
          · simp
end Go.Proofs.YteacpafhmgdbkaaGreatDoor
end

section
namespace Go.Proofs.YteacpafhmgdbkaaGreatDoor
open Go Go.AL Go.RowKit
set_option maxRecDepth 10000
set_option maxHeartbeats 4000000
/-- what a parser gives: the place where it failed, or a value and the place behind it -/
inductive PR (α : Type) where
  | bad (i : Nat)
  | ok (x : α) (i : Nat)
def tkS (L : List Tok) (i : Nat) : Nm := (L.getD i ([], 0)).1
def bkN (ns : List Nm) (s : Nm) : Nat → Option Nat
  | 0 => none
  | k + 1 => if ns.getD k [] = s then some k else bkN ns s k
def mkT (ns : List Nm) (s : Nm) (l : List Tm) : Tm :=
  if l = [] then (match bkN ns s ns.length with
    | some k => .mk [] (ns.length - 1 - k : Nat) []
    | none => .mk s 0 [])
  else .mk s 0 l
mutual
def pT (L : List Tok) (ns : List Nm) : Nat → Nat → PR Tm
  | 0, i => .bad i
  | f + 1, i => if isNm (tkS L i) = false then .bad i else
    if tkS L (i + 1) = [36, 40] then (match pTs L ns f true (i + 2) with
      | .bad j => .bad j
      | .ok l j => .ok (mkT ns (tkS L i) l) j)
    else .ok (mkT ns (tkS L i) []) (i + 1)
def pTs (L : List Tok) (ns : List Nm) : Nat → Bool → Nat → PR (List Tm)
  | 0, _, i => .bad i
  | f + 1, b, i => if b = false ∧ tkS L i = [36, 41] then .ok [] (i + 1) else
    match pT L ns f i with
    | .bad j => .bad j
    | .ok t j => match pTs L ns f false j with
      | .bad k => .bad k
      | .ok l k => .ok (t :: l) k
end
def pL (L : List Tok) (ns : List Nm) (f i : Nat) : PR (List Tm) :=
  if tkS L i = [36, 40] then pTs L ns f true (i + 1) else .ok [] i
theorem pT_succ (L : List Tok) (ns : List Nm) (f i : Nat) : pT L ns (f + 1) i = if isNm (tkS L i) = false then .bad i else
    match pL L ns f (i + 1) with
    | .bad j => .bad j
    | .ok l j => .ok (mkT ns (tkS L i) l) j := by
  rw [pT, pL]
  split
  · rfl
  · split <;> rfl
def sgK (s : Nm) : Int := if s = [36, 61] then 2 else if s = [36, 70] then 3 else if s = [36, 62] then 4 else if s = [36, 38] then 5 else if s = [36, 124] then 6 else if s = [36, 65] then 7 else if s = [36, 69] then 8 else 1
def pF (L : List Tok) : Nat → List Nm → Nat → PR Fm
  | 0, _, i => .bad i
  | f + 1, ns, i =>
    if sgK (tkS L i) = 1 then (if isNm (tkS L i) = false then .bad i else match pL L ns f (i + 1) with
      | .bad j => .bad j
      | .ok l j => .ok (.mk 1 (tkS L i) l []) j)
    else if sgK (tkS L i) = 2 then (match pT L ns f (i + 1) with
      | .bad j => .bad j
      | .ok a j => match pT L ns f j with
        | .bad k => .bad k
        | .ok b k => .ok (.mk 2 [] [a, b] []) k)
    else if sgK (tkS L i) = 3 then .ok (.mk 3 [] [] []) (i + 1)
    else if sgK (tkS L i) = 7 ∨ sgK (tkS L i) = 8 then (if isNm (tkS L (i + 1)) = false then .bad (i + 1) else
      match pF L f (ns ++ [tkS L (i + 1)]) (i + 2) with
      | .bad j => .bad j
      | .ok p j => .ok (.mk (sgK (tkS L i)) [] [] [p]) j)
    else (match pF L f ns (i + 1) with
      | .bad j => .bad j
      | .ok a j => match pF L f ns j with
        | .bad k => .bad k
        | .ok b k => .ok (.mk (sgK (tkS L i)) [] [] [a, b]) k)
def paF (t : List UInt8) : Fm × Int × Int :=
  if scanE t ≠ 0 then (fm0, scanA t, scanE t) else
    match pF (scanT t) (2 * (scanT t).length + 1) [] 0 with
    | .bad j => (fm0, if j < (scanT t).length then ((scanT t).getD j ([], 0)).2 else t.length, 2)
    | .ok f j => if j < (scanT t).length then (fm0, ((scanT t).getD j ([], 0)).2, 2) else
      if unF f 0 = 0 then (f, 0, 0) else (fm0, 0, unF f 0)
def PR.gt {α : Type} (n i : Nat) : PR α → Prop
  | .bad j => i ≤ j ∧ j ≤ n
  | .ok _ j => i < j ∧ j ≤ n
theorem tkS_out {L : List Tok} {i : Nat} (h : L.length ≤ i) : tkS L i = [] := by
  rw [tkS, List.getD_eq_getElem?_getD, List.getElem?_eq_none h]; rfl
theorem tkS_in {L : List Tok} {i : Nat} (h : tkS L i ≠ []) : i < L.length := by
  rcases Nat.lt_or_ge i L.length with h1 | h1
  · exact h1
  · exact absurd (tkS_out h1) h
theorem isNm_in {L : List Tok} {i : Nat} (h : ¬ isNm (tkS L i) = false) : i < L.length := tkS_in fun e => h (by rw [e]; rfl)
theorem pTs_gt' (L : List Tok) (ns : List Nm) : ∀ f, (∀ i, i ≤ L.length → (pT L ns f i).gt L.length i) ∧ (∀ b i, i ≤ L.length → (pTs L ns f b i).gt L.length i)
  | 0 => ⟨fun i hi => by rw [pT]; exact ⟨Nat.le_refl _, hi⟩, fun b i hi => by rw [pTs]; exact ⟨Nat.le_refl _, hi⟩⟩
  | f + 1 => by
    obtain ⟨h1, h2⟩ := pTs_gt' L ns f
    refine ⟨fun i hi => ?_, fun b i hi => ?_⟩
    · rw [pT]
      split
      · exact ⟨Nat.le_refl _, hi⟩
      · rename_i hn
        have hlt := isNm_in hn
        split
        · rename_i ho
          have hlt2 : i + 1 < L.length := tkS_in (by rw [ho]; simp)
          have := h2 true (i + 2) (by omega)
          revert this
          cases pTs L ns f true (i + 2) with
          | bad j => intro h; exact ⟨by have := h.1; omega, h.2⟩
          | ok l j => intro h; exact ⟨by have := h.1; omega, h.2⟩
        · exact ⟨by omega, by omega⟩
    · rw [pTs]
      split
      · rename_i hc
        have hlt : i < L.length := tkS_in (by rw [hc.2]; simp)
        exact ⟨by omega, by omega⟩
      · have := h1 i hi
        revert this
        cases pT L ns f i with
        | bad j => intro h; exact h
        | ok t j =>
          intro h
          have h3 := h2 false j h.2
          simp only
          revert h3
          cases pTs L ns f false j with
          | bad k => intro h3; exact ⟨by have := h.1; have := h3.1; omega, h3.2⟩
          | ok l k => intro h3; exact ⟨by have := h.1; have := h3.1; omega, h3.2⟩
theorem pT_gt {L : List Tok} {ns : List Nm} {f i : Nat} (h : i ≤ L.length) : (pT L ns f i).gt L.length i := (pTs_gt' L ns f).1 i h
theorem pTs_gt {L : List Tok} {ns : List Nm} {f i : Nat} {b : Bool} (h : i ≤ L.length) : (pTs L ns f b i).gt L.length i := (pTs_gt' L ns f).2 b i h
def PR.ge {α : Type} (n i : Nat) : PR α → Prop
  | .bad j => i ≤ j ∧ j ≤ n
  | .ok _ j => i ≤ j ∧ j ≤ n
theorem pL_ge {L : List Tok} {ns : List Nm} {f i : Nat} (h : i ≤ L.length) : (pL L ns f i).ge L.length i := by
  rw [pL]
  split
  · rename_i ho
    have hlt : i < L.length := tkS_in (by rw [ho]; simp)
    have := pTs_gt (ns := ns) (f := f) (b := true) (show i + 1 ≤ L.length by omega)
    revert this
    cases pTs L ns f true (i + 1) with
    | bad j => intro h; exact ⟨by have := h.1; omega, h.2⟩
    | ok l j => intro h; exact ⟨by have := h.1; omega, h.2⟩
  · exact ⟨Nat.le_refl _, h⟩
theorem sgK_in {L : List Tok} {i : Nat} (h : ¬ sgK (tkS L i) = 1) : i < L.length := tkS_in fun e => h (by rw [e]; rfl)
theorem pF_gt {L : List Tok} : ∀ {f : Nat} {ns : List Nm} {i : Nat}, i ≤ L.length → (pF L f ns i).gt L.length i
  | 0, ns, i, hi => by rw [pF]; exact ⟨Nat.le_refl _, hi⟩
  | f + 1, ns, i, hi => by
    rw [pF]
    split
    · split
      · exact ⟨Nat.le_refl _, hi⟩
      · rename_i hn
        have hlt := isNm_in hn
        have := pL_ge (ns := ns) (f := f) (show i + 1 ≤ L.length by omega)
        revert this
        cases pL L ns f (i + 1) with
        | bad j => intro h; exact ⟨by have := h.1; omega, h.2⟩
        | ok l j => intro h; exact ⟨by have := h.1; omega, h.2⟩
    · rename_i hk
      have hlt := sgK_in hk
      split
      · have := pT_gt (ns := ns) (f := f) (show i + 1 ≤ L.length by omega)
        revert this
        cases pT L ns f (i + 1) with
        | bad j => intro h; exact ⟨by have := h.1; omega, h.2⟩
        | ok a j =>
          intro h
          have h3 := pT_gt (ns := ns) (f := f) h.2
          simp only
          revert h3
          cases pT L ns f j with
          | bad k => intro h3; exact ⟨by have := h.1; have := h3.1; omega, h3.2⟩
          | ok b k => intro h3; exact ⟨by have := h.1; have := h3.1; omega, h3.2⟩
      · split
        · exact ⟨by omega, by omega⟩
        · split
          · split
            · exact ⟨by omega, by omega⟩
            · rename_i hn
              have hlt2 := isNm_in hn
              have := pF_gt (f := f) (ns := ns ++ [tkS L (i + 1)]) (show i + 2 ≤ L.length by omega)
              revert this
              cases pF L f (ns ++ [tkS L (i + 1)]) (i + 2) with
              | bad j => intro h; exact ⟨by have := h.1; omega, h.2⟩
              | ok p j => intro h; exact ⟨by have := h.1; omega, h.2⟩
          · have := pF_gt (f := f) (ns := ns) (show i + 1 ≤ L.length by omega)
            revert this
            cases pF L f ns (i + 1) with
            | bad j => intro h; exact ⟨by have := h.1; omega, h.2⟩
            | ok a j =>
              intro h
              have h3 := pF_gt (f := f) (ns := ns) h.2
              simp only
              revert h3
              cases pF L f ns j with
              | bad k => intro h3; exact ⟨by have := h.1; have := h3.1; omega, h3.2⟩
              | ok b k => intro h3; exact ⟨by have := h.1; have := h3.1; omega, h3.2⟩
end Go.Proofs.YteacpafhmgdbkaaGreatDoor
end

section
namespace Go.Proofs.YteacpafhmgdbkaaGreatDoor
open Go Go.AL Go.RowKit
set_option maxRecDepth 10000
set_option maxHeartbeats 4000000
abbrev rdH (b : Nat) (L : List Tok) (e : Int) (i : Nat) (ns : List Nm) : Heap := [(0, .var 155 [.im (.sl 2 (tokRows L)), Iv e, Iv i, .os b 1 0 ns.length]), (b, .vec 9 1 (stR ns))]
abbrev misV (a : Int) : AV := .wr (.iface 151) (.agg [Iv a])
abbrev rdT : Heap := [(0, .var 155 [.top, .top, .top, .top])]
theorem le_tops (a b c d : AV) : cellsLe [a, b, c, d] [.top, .top, .top, .top] := fun w φ I us h => by
  simp only [AV.dens, AV.den] at h ⊢
  obtain ⟨u1, us1, rfl, _, u2, us2, rfl, _, u3, us3, rfl, _, u4, us4, rfl, _, rfl⟩ := h
  exact ⟨_, _, rfl, trivial, _, _, rfl, trivial, _, _, rfl, trivial, _, _, rfl, trivial, rfl⟩
def offA (L : List Tok) (e : Int) (i : Nat) : Int := if i < L.length then ((L.getD i ([], 0)).2 : Int) else e
def tkOk (L : List Tok) : Prop := L.length ≤ 100000 ∧ ∀ x ∈ L, x.1.length ≤ 100000
theorem tkOk.get {L : List Tok} (h : tkOk L) (i : Nat) : (tkS L i).length ≤ 100000 := by
  unfold tkS
  rw [List.getD_eq_getElem?_getD]
  cases hx : L[i]? with
  | none => simp
  | some x => exact h.2 x (List.mem_of_getElem? hx)
theorem tokRows_get (l : List Tok) (k : Nat) (h : k < l.length) : (tokRows l).getD k [] = [Si (l.getD k ([], 0)).1, Ii (l.getD k ([], 0)).2] := by
  simp [tokRows, tokRow, List.getD_eq_getElem?_getD, h]
theorem peek_spec (L : List Tok) (e : Int) (i : Nat) (ns : List Nm) (hi : i ≤ 1000000) (hL : tkOk L) : ACall Tryz.prog 160 [.ob 0 0] (rdH 1 L e i ns) (fun r H' => r = Sv (tkS L i) ∧ H' = rdH 1 L e i ns) := by
  have hl := hL.1
  refine ACall.walk [0, 2, 12] [] Tryz.func160 rfl Tryz.ntmps160 (by kernel_rfl) (by rfl) rfl fun W own I0 φ0 lay => ?_
  refine gO ?_
  refine AP.cond rfl rfl (fun h => ?_) (fun h => ?_)
  · have h : i < L.length := by simp only [tokRows_len, decide_eq_true_eq] at h; omega
    have hrow := tokRows_get L i h
    refine gE @hrow ?_
    exact AE.ret rfl ⟨rfl, trivial⟩ ⟨rfl, rfl⟩
  · have h : L.length ≤ i := by simp only [tokRows_len, decide_eq_false_iff_not] at h; omega
    refine gO ?_
    exact AE.ret rfl ⟨rfl, trivial⟩ ⟨by rw [tkS_out h]; rfl, rfl⟩
theorem rfail_spec (L : List Tok) (e : Int) (i : Nat) (ns : List Nm) (hi : i ≤ 1000000) (hL : tkOk L) : ACallX Tryz.prog 90 [.ob 0 0] (rdH 1 L e i ns) (fun _ _ => False) (fun r H' => r = misV (offA L e i) ∧ H' = rdT) := by
  have hl := hL.1
  refine ACallX.walk [0, 11] [] Tryz.func90 rfl Tryz.ntmps90 (by kernel_rfl) (by rfl) rfl fun W own I0 φ0 lay => ?_
  refine gO ?_
  refine AP.cond rfl rfl (fun h => ?_) (fun h => ?_)
  · have h : i < L.length := by simp only [tokRows_len, decide_eq_true_eq] at h; omega
    have hrow := tokRows_get L i h
    refine AP.drawE 14 (Tree.node [] [0, 1, 2, 3, 4, 5, 6, 7, 8, 9, 10, 11] [12] [Tree.node [] [] [13] [Tree.node [] [] [] []]]) (by kernel_rfl) rfl (by kernel_rfl) (by kernel_rfl) ?_
    refine vd_node ?_
    refine sE @hrow ?_
    refine ⟨by omega, ?_⟩
    refine xI ?_; refine sI ?_
    refine AQ.nx rfl ?_
    refine sI ?_
    refine AQ.cellsW 0 _ rfl (le_tops _ _ _ _) ?_
    refine sI ?_
    refine AQ.panic rfl ?_
    exact AEX.outR [1] rfl rfl rfl ⟨by rw [offA, if_pos h], rfl⟩
  · have h : L.length ≤ i := by simp only [tokRows_len, decide_eq_false_iff_not] at h; omega
    refine gO ?_
    refine xI ?_; refine sI ?_
    refine gO ?_
    refine AQ.cellsW 0 _ rfl (le_tops _ _ _ _) ?_
    refine sI ?_
    refine AQ.panic rfl ?_
    exact AEX.out [1] rfl rfl ⟨by rw [offA, if_neg (by omega)], rfl⟩
theorem name_spec (L : List Tok) (e : Int) (i : Nat) (ns : List Nm) (hi : i ≤ 1000000) (hL : tkOk L) : ACallX Tryz.prog 161 [.ob 0 0] (rdH 1 L e i ns) (fun r H' => isNm (tkS L i) = true ∧ r = Sv (tkS L i) ∧ H' = rdH 1 L e (i + 1) ns) (fun r H' => isNm (tkS L i) = false ∧ r = misV (offA L e i) ∧ H' = rdT) := by
  have hp := peek_spec L e i ns hi hL
  have hf := rfail_spec L e i ns hi hL
  have hs := hL.get i
  have hw := wr (x := (i : Int) + 1) (by omega)
  obtain ⟨s, he⟩ : ∃ s, tkS L i = s := ⟨_, rfl⟩
  rw [he] at hp hs ⊢
  refine ACallX.walk [0, 2, 3, 8] [] Tryz.func161 rfl Tryz.ntmps161 (by kernel_rfl) (by rfl) rfl fun W own I0 φ0 lay => ?_
  refine gO ?_
  refine AQ.callH [(0, 0), (1, 1)] (by kernel_rfl) rfl rfl rfl rfl rfl rfl (by exact ⟨rfl, rfl, trivial⟩) rfl hp ?_
  rintro r H' ⟨rfl, rfl⟩
  refine ⟨rfl, ?_⟩
  refine sH ?_
  refine gO ?_
  refine AQ.fn (by kernel_rfl) rfl rfl rfl (isName_spec s (by omega)) rfl ?_
  refine gO ?_
  refine AP.cond rfl rfl (fun h => ?_) (fun h => ?_)
  · have h : isNm s = false := by simpa using h
    refine gO ?_
    refine AQ.callHX [(0, 0), (1, 1)] (by kernel_rfl) rfl rfl rfl rfl rfl rfl (by exact ⟨rfl, rfl, trivial⟩) rfl hf ?_ ?_
    · rintro r H' ⟨rfl, rfl⟩
      refine ⟨rfl, ?_⟩; refine sH ?_
      exact AEX.out [] rfl rfl ⟨h, rfl, rfl⟩
    · rintro r H' hc
      exact hc.elim
  · have h : isNm s = true := by simpa using h
    refine gE @hw ?_
    exact AE.ret rfl ⟨rfl, trivial⟩ ⟨h, rfl, rfl⟩
end Go.Proofs.YteacpafhmgdbkaaGreatDoor
end

section
namespace Go.Proofs.YteacpafhmgdbkaaGreatDoor
open Go Go.AL Go.RowKit
set_option maxRecDepth 10000
set_option maxHeartbeats 4000000
abbrev pV (L : List Tok) (i : Nat) (b : Bool) : AV := .agg [.im (.sl 2 (tokRows L)), Iv i, Bv b]
theorem pbad_spec (L : List Tok) (i : Nat) (b : Bool) : PFn Tryz.prog 166 [pV L i b] (pV L i true) := by
  refine ACall.walk [0, 1, 2] [1, 2] Tryz.func166 rfl Tryz.ntmps166 (by kernel_rfl) (by rfl) rfl fun W own I0 φ0 lay => ?_
  refine gO ?_
  exact AE.retD [1, 0] rfl ⟨⟨rfl, Nat.le_of_ble_eq_true (by kernel_rfl)⟩, trivial⟩ rfl ⟨rfl, rfl⟩
theorem pis_spec (L : List Tok) (i : Nat) (s : Nm) (hs : s ≠ []) (hL : tkOk L) : PFn Tryz.prog 167 [pV L i false, Sv s] (Bv (tkS L i == s)) := by
  have hl := hL.1
  refine ACall.walk [0, 1, 2, 4] [] Tryz.func167 rfl Tryz.ntmps167 (by kernel_rfl) (by rfl) rfl fun W own I0 φ0 lay => ?_
  rcases Nat.lt_or_ge i L.length with h | h
  · have hrow := tokRows_get L i h
    have hd : decide ((i : Int) < L.length) = true := by simp; omega
    have e : (L.getD i ([], 0)).1 = tkS L i := rfl
    refine gE (an @hd @hrow) ?_
    rw [e]
    exact AE.ret0 rfl ⟨rfl, trivial⟩ rfl ⟨rfl, rfl⟩
  · have hd : decide ((i : Int) < L.length) = false := by simp; omega
    have e : (tkS L i == s) = false := by rw [tkS_out h]; simpa using fun h => hs h
    rw [e]
    refine xA ?_
    refine xR ?_
    refine sI ?_
    refine xD ?_
    refine xC ?_
    refine AP.regionS [(16, .top), (17, .top), (18, .top), (19, .top), (20, Bv false)] rfl (by kernel_rfl) ?_
    refine sE @hd ?_
    refine gO ?_
    exact AE.ret0 rfl ⟨rfl, trivial⟩ rfl ⟨rfl, rfl⟩
def pnV (L : List Tok) (i : Nat) : AV := if isNm (tkS L i) = true then .tup [pV L (i + 1) false, Sv (tkS L i)] else .tup [pV L i true, Sv []]
theorem pname_spec (L : List Tok) (i : Nat) (hi : i ≤ 1000000) (hL : tkOk L) : PFn Tryz.prog 168 [pV L i false] (pnV L i) := by
  have hl := hL.1
  have hs := hL.get i
  unfold pnV
  refine ACall.walk [0, 1, 2, 3, 24] [1, 2] Tryz.func168 rfl Tryz.ntmps168 (by kernel_rfl) (by rfl) rfl fun W own I0 φ0 lay => ?_
  rcases Nat.lt_or_ge i L.length with h | h
  · have hrow := tokRows_get L i h
    have hd : decide ((L.length : Int) ≤ i) = false := by simp; omega
    have e : (L.getD i ([], 0)).1 = tkS L i := rfl
    have hw := wr (x := (i : Int) + 1) (by omega)
    have hw2 := wr (x := (i : Int)) (by omega)
    have e2 : (i : Int) + 1 - 1 = i := by omega
    have hsy := isSym_ref (tkS L i) (by omega)
    obtain ⟨s, hs⟩ : ∃ s, tkS L i = s := ⟨_, rfl⟩
    rw [hs] at e hsy ⊢
    rw [e] at hrow
    refine gE (an @hd @hrow) ?_
    refine AQ.guard_yes (by simp only [go_sem]) ?_
    refine AQ.strip ?_
    refine sI ?_
    refine AQ.fn (by kernel_rfl) rfl rfl rfl (hsy) rfl ?_
    refine gO ?_
    refine AP.cond rfl rfl (fun h2 => ?_) (fun h2 => ?_)
    · have h2 : isNm s = false := by simpa using h2
      rw [if_neg (by rw [h2]; simp)]
      refine gO ?_
      refine AQ.fn (by kernel_rfl) rfl rfl rfl (pbad_spec L i false) rfl ?_
      refine gO ?_
      exact AE.retD [1, 0] rfl ⟨⟨rfl, Nat.le_of_ble_eq_true (by kernel_rfl)⟩, rfl, trivial⟩ rfl ⟨rfl, rfl⟩
    · have h2 : isNm s = true := by simpa using h2
      rw [if_pos h2]
      refine gE @hw ?_
      refine AP.drawE 11 (Tree.node [] [0, 1, 2, 3, 4, 5, 6, 7, 8] [9] [Tree.node [1, 2, 3, 4, 5, 6, 7, 8] [10] [] []]) (by kernel_rfl) rfl (by kernel_rfl) (by kernel_rfl) ?_
      refine vd_node ?_
      refine sE (an @hw2 (an @e2 (an @hrow @Int.toNat_natCast))) ?_
      refine ⟨by omega, ?_⟩
      refine AQ.go (by kernel_rfl) ?_
      refine sI ?_
      refine AQ.nx rfl ?_
      refine sI ?_
      refine ⟨⟨by rw [e2, hw2], by omega, by rw [hrow]⟩, ?_⟩
      refine AQ.done ?_
      refine sI ?_
      refine gO ?_
      exact AE.retD [1, 0] rfl ⟨⟨rfl, Nat.le_of_ble_eq_true (by kernel_rfl)⟩, rfl, trivial⟩ rfl ⟨rfl, rfl⟩
  · have hd : decide ((L.length : Int) ≤ i) = true := by simp; omega
    rw [if_neg (by rw [tkS_out h]; decide)]
    refine xA ?_
    refine xR ?_
    refine sI ?_
    refine xD ?_
    refine xC ?_
    refine AP.regionS [(15, .top), (16, .top), (17, .top), (18, Bv false), (19, Bv false)] rfl (by kernel_rfl) ?_
    refine sE @hd ?_
    refine gO ?_
    refine AQ.fn (by kernel_rfl) rfl rfl rfl (pbad_spec L i false) rfl ?_
    refine gO ?_
    exact AE.retD [1, 0] rfl ⟨⟨rfl, Nat.le_of_ble_eq_true (by kernel_rfl)⟩, rfl, trivial⟩ rfl ⟨rfl, rfl⟩
end Go.Proofs.YteacpafhmgdbkaaGreatDoor
end

section
namespace Go.Proofs.YteacpafhmgdbkaaGreatDoor
open Go Go.AL Go.RowKit
set_option maxRecDepth 10000
set_option maxHeartbeats 4000000
theorem backward_spec (L : List Tok) (e : Int) (i : Nat) (ns : List Nm) (s : Nm) : ACall Tryz.prog 218 [.os 1 1 0 ns.length] ([(4, .var 9 [Sv s]), (3, .var 25 [Sv [], Iv 0, nilV]), (2, .var 153 [.ob 0 0])] ++ rdH 1 L e i ns) (fun r H' => r = .fn 248 [] [.ob 5 0] ∧ H' = [(5, .var 67 [.os 1 1 0 ns.length]), (4, .var 9 [Sv s]), (3, .var 25 [Sv [], Iv 0, nilV]), (2, .var 153 [.ob 0 0])] ++ rdH 1 L e i ns) := by
  refine ACall.walk [0, 1, 2] [1] Tryz.func218 rfl Tryz.ntmps218 (by kernel_rfl) (by rfl) rfl fun W own I0 φ0 lay => ?_
  refine gO ?_
  exact AE.ret rfl ⟨rfl, trivial⟩ ⟨rfl, rfl⟩
theorem paramT_spec (s : Nm) : PFn Tryz.prog 219 [Sv s] (.agg [Sv s, Iv 0, nilV]) := by
  refine ACall.walk [0, 2] [2] Tryz.func219 rfl Tryz.ntmps219 (by kernel_rfl) (by rfl) rfl fun W own I0 φ0 lay => ?_
  refine gO ?_
  exact AE.retD [0] rfl ⟨⟨rfl, Nat.le_of_ble_eq_true (by kernel_rfl)⟩, trivial⟩ rfl ⟨rfl, rfl⟩
abbrev bkEL : Env := [(1, .ob 2 0), (2, .ob 3 0), (3, .ob 4 0)]
noncomputable abbrev bkH (q : Nat) (st : LpSt) (cell : List AV) (L : List Tok) (e : Int) (i : Nat) (ns : List Nm) (s : Nm) : Heap :=
  [(6, .lp q 37 st Tryz.f163 [0, 1, 0, 1, 1, 1] [21, 22] bkEL), (5, .var 67 [.os 1 1 0 ns.length]), (4, .var 9 [Sv s]), (3, .var 25 cell), (2, .var 153 [.ob 0 0])] ++ rdH 1 L e i ns
theorem bk_round (q : Nat) (L : List Tok) (e : Int) (i : Nat) (ns : List Nm) (s : Nm) (k : Nat) (hk : k < ns.length) (hn : ns.length ≤ 1000000) :
    (¬ ns.getD k [] = s → YCallN Tryz.prog 6 q [Iv k, Sv (ns.getD k [])] (bkH q .ready [Sv [], Iv 0, nilV] L e i ns s) (fun r H' => r = Bv true ∧ H' = bkH q .ready [Sv [], Iv 0, nilV] L e i ns s)) ∧
    (ns.getD k [] = s → YCallN Tryz.prog 6 q [Iv k, Sv (ns.getD k [])] (bkH q .ready [Sv [], Iv 0, nilV] L e i ns s) (fun r H' => r = Bv false ∧ H' = bkH q (.done .ret) [Sv [], Iv (ns.length - 1 - k : Nat), nilV] L e i ns s)) := by
  have w1 := wr (x := (ns.length : Int) - 1) (by omega)
  have w2 := wr (x := (ns.length : Int) - 1 - k) (by omega)
  refine ⟨fun h => ?_, fun h => ?_⟩
  · have hb : (ns.getD k [] == s) = false := by simpa using h
    generalize ns.getD k [] = w at *
    refine YCallN.walk (b := 6) [0, 1, 2, 3, 4, 5, 6, 12, 20, 21, 22, 25] [] rfl rfl rfl fun w0 own I0 φ0 lay => ?_
    simp only [go_sem, Nat.reduceAdd, Nat.reduceLeDiff, Nat.reduceSub, Int.reduceToNat, reduceCtorEq, zipP, bkEL, bkH, rdH]
    refine gO ?_
    refine AE.begin (b := 6) rfl rfl _ ?_
    refine sI ?_
    refine gE @hb ?_
    exact AE.roundEnd (b := 6) rfl ⟨rfl, rfl⟩
  · have hb : (ns.getD k [] == s) = true := by simpa using h
    generalize ns.getD k [] = w at *
    refine YCallN.walk (b := 6) [0, 1, 2, 3, 4, 5, 6, 12, 20, 21, 22, 25] [] rfl rfl rfl fun w0 own I0 φ0 lay => ?_
    simp only [go_sem, Nat.reduceAdd, Nat.reduceLeDiff, Nat.reduceSub, Int.reduceToNat, reduceCtorEq, zipP, bkEL, bkH, rdH]
    refine gO ?_
    refine AE.begin (b := 6) rfl rfl _ ?_
    refine sI ?_
    refine gE (an @hb (an @w1 @w2)) ?_
    rw [show (ns.length : Int) - 1 - (k : Int) = ((ns.length - 1 - k : Nat) : Int) by omega]
    exact AE.roundRet (b := 6) rfl ⟨rfl, rfl⟩
def bkR (q : Nat) (L : List Tok) (e : Int) (i : Nat) (ns : List Nm) (s : Nm) (_ : AV) (H' : Heap) : Prop :=
  (bkN ns s ns.length = none ∧ H' = bkH q .ready [Sv [], Iv 0, nilV] L e i ns s) ∨ ∃ k, bkN ns s ns.length = some k ∧ H' = bkH q (.done .ret) [Sv [], Iv (ns.length - 1 - k : Nat), nilV] L e i ns s
theorem bk_walk (q : Nat) (L : List Tok) (e : Int) (i : Nat) (ns : List Nm) (s : Nm) (hn : ns.length ≤ 1000000) : ACallN Tryz.prog 6 248 [Yl q, .ob 5 0] (bkH q .ready [Sv [], Iv 0, nilV] L e i ns s) (bkR q L e i ns s) := by
  have w1 := wr (x := (ns.length : Int) - 1) (by omega)
  refine ACallN.walk [0, 1, 3, 8, 18] [] Tryz.func248 rfl Tryz.ntmps248 (by kernel_rfl) (by rfl) fun W own I0 φ0 lay => ?_
  refine gE @w1 ?_
  refine AP.loop rfl (α := Nat) (fun k => [(0, Yl q), (1, .ob 5 0), (3, Iv ((k : Int) - 1))]) (fun _ => bkH q .ready [Sv [], Iv 0, nilV] L e i ns s) (fun k => k ≤ ns.length ∧ bkN ns s ns.length = bkN ns s k) (fun k => k) ns.length ⟨Nat.le_refl _, rfl⟩ (sU) rfl fun k ⟨hk, hm⟩ => ?_
  cases k with
  | zero =>
    refine gO ?_
    exact AE.fall rfl trivial (.inl ⟨hm, rfl⟩)
  | succ k =>
    have hy := bk_round q L e i ns s k (by omega) hn
    have hrow := stR_get ns k (by omega)
    have ek : (((k + 1 : Nat) : Int) - 1) = (k : Int) := by omega
    have w3 := wr (x := (k : Int) - 1) (by omega)
    rw [bkN] at hm
    simp only [ek]
    refine gE (an @hrow @stR_len) ?_
    by_cases hs : ns.getD k [] = s
    · rw [if_pos hs] at hm
      refine AQ.yieldN 6 (by kernel_rfl) (by kernel_rfl) rfl ⟨rfl, rfl⟩ rfl rfl (hy.2 hs) (fun r H' h => by rw [h.2]; exact lowSame.of _ _ _ rfl) fun r H' h => ?_
      obtain ⟨rfl, rfl⟩ := h
      refine sI ?_
      refine AQ.go (by kernel_rfl) ?_
      refine sI ?_
      refine gO ?_
      exact AE.ret rfl trivial (.inr ⟨k, hm, rfl⟩)
    · rw [if_neg hs] at hm
      refine AQ.yieldN 6 (by kernel_rfl) (by kernel_rfl) rfl ⟨rfl, rfl⟩ rfl rfl (hy.1 hs) (fun r H' h => by rw [h.2]; exact lowSame.of _ _ _ rfl) fun r H' h => ?_
      obtain ⟨rfl, rfl⟩ := h
      refine sI ?_
      refine AQ.go (by kernel_rfl) ?_
      refine sI ?_
      refine gE @w3 ?_
      exact AE.round k ⟨by omega, hm⟩ (by omega) (sU) rfl
end Go.Proofs.YteacpafhmgdbkaaGreatDoor
end

section
namespace Go.Proofs.YteacpafhmgdbkaaGreatDoor
open Go Go.AL Go.RowKit
set_option maxRecDepth 10000
set_option maxHeartbeats 4000000
/-- what a reading comes to -/
def RdR {α : Type} (V : α → AV) (q : PR α) (L : List Tok) (e : Int) (ns : List Nm) (b : Nat) (r : AV) (H' : Heap) : Prop := ∃ x j, q = .ok x j ∧ r = V x ∧ H' = rdH b L e j ns
def RdX {α : Type} (q : PR α) (L : List Tok) (e : Int) (r : AV) (H' : Heap) : Prop := ∃ j, q = .bad j ∧ r = misV (offA L e j) ∧ H' = rdT
def prep (a : List Tm) : PR (List Tm) → PR (List Tm)
  | .bad j => .bad j
  | .ok l j => .ok (a ++ l) j
theorem prep_prep (a b : List Tm) (q : PR (List Tm)) : prep (a ++ b) q = prep a (prep b q) := by cases q <;> simp [prep]
def lsV (l : List Tm) : AV := if l = [] then nilV else .im (.sl 3 (tmR l))
theorem list_walk (L : List Tok) (e : Int) (ns : List Nm) (hL : tkOk L) (hn : ns.length ≤ 1000000) (f i : Nat) (hi : i ≤ L.length) (hf : 2 * (L.length - i) ≤ f)
    (ih : ∀ f' i', f' < f → i ≤ i' → i' ≤ L.length → 2 * (L.length - i') + 1 ≤ f' → ACallX Tryz.prog 163 [.ob 0 0] (rdH 1 L e i' ns) (RdR tmV (pT L ns f' i') L e ns 1) (RdX (pT L ns f' i') L e)) :
    ACallX Tryz.prog 162 [.ob 0 0] (rdH 1 L e i ns) (RdR lsV (pL L ns f i) L e ns 1) (RdX (pL L ns f i) L e) := by
  have hl := hL.1
  have hp := peek_spec L e i ns (by omega) hL
  have hs := hL.get i
  refine ACallX.walk [0, 2, 3, 6, 21] [] Tryz.func162 rfl Tryz.ntmps162 (by kernel_rfl) (by rfl) rfl fun W own I0 φ0 lay => ?_
  refine gO ?_
  refine AQ.callH [(0, 0), (1, 1)] (by kernel_rfl) rfl rfl rfl rfl rfl rfl (by exact ⟨rfl, rfl, trivial⟩) rfl hp ?_
  rintro r H' ⟨rfl, rfl⟩
  refine ⟨rfl, ?_⟩
  refine sH ?_
  refine gO ?_
  refine AP.cond rfl rfl (fun h => ?_) (fun h => ?_)
  · have h : ¬ tkS L i = [36, 40] := by simpa using h
    refine gO ?_
    exact AE.ret rfl ⟨rfl, trivial⟩ ⟨[], i, by rw [pL, if_neg h], rfl, rfl⟩
  · have h : tkS L i = [36, 40] := by simpa using h
    have hlt : i < L.length := tkS_in (by rw [h]; simp)
    have hw := wr (x := (i : Int) + 1) (by omega)
    have hpl : pL L ns f i = pTs L ns f true (i + 1) := by rw [pL, if_pos h]
    rw [hpl]
    obtain ⟨Q, hQ⟩ : ∃ Q, pTs L ns f true (i + 1) = Q := ⟨_, rfl⟩
    rw [hQ]
    refine gE @hw ?_
    refine AP.own 3 25 3 rfl ?_
    refine AP.loop rfl (α := Nat × List Tm × Nat) (fun s => [(0, .ob 0 0), (3, .os 2 3 0 s.2.1.length)]) (fun s => (2, .vec 25 3 (tmR s.2.1)) :: rdH 1 L e s.1 ns) (fun s => i + 1 ≤ s.1 ∧ s.1 ≤ L.length ∧ s.2.1.length ≤ s.1 ∧ 2 * (L.length - s.1) + 2 ≤ s.2.2 ∧ s.2.2 ≤ f ∧ Q = prep s.2.1 (pTs L ns s.2.2 (decide (s.2.1.length = 0)) s.1)) (fun s => L.length + 1 - s.1) (i + 1, [], f) ⟨by simp, by simp only; omega, by simp, by simp only; omega, by simp, by show Q = prep [] (pTs L ns f true (i + 1)); rw [hQ]; cases Q <;> rfl⟩ (sU) rfl fun s ⟨s1, s2, s3, s4, s5, s6⟩ => ?_
    obtain ⟨i', a, f'⟩ := s
    simp only at s1 s2 s3 s4 s5 s6 ⊢
    obtain ⟨f', rfl⟩ : ∃ g, f' = g + 1 := ⟨f' - 1, by omega⟩
    have hp2 := peek_spec L e i' ns (by omega) hL
    have hs2 := hL.get i'
    have hw2 := wr (x := (i' : Int) + 1) (by omega)
    have ih2 := ih f' i' (by omega) (by omega) s2 (by omega)
    have hgt := pT_gt (L := L) (ns := ns) (f := f') s2
    rw [pTs] at s6
    refine xA ?_
    refine AP.cut (α := Unit) (fun _ => [(0, .ob 0 0), (3, .os 2 3 0 a.length), (21, Bv (!(decide (a.length = 0)) && tkS L i' == [36, 41]))]) (fun _ => (2, .vec 25 3 (tmR a)) :: rdH 1 L e i' ns) (fun _ => True) ?_ fun _ _ => ?_
    · rcases Nat.eq_zero_or_pos a.length with ha | ha
      · refine gE @ha ?_
        exact AE.meet () trivial (sU) rfl
      · have hd : decide (0 < (a.length : Int)) = true := by simp; omega
        have hd2 : decide (a.length = 0) = false := decide_eq_false (by omega)
        refine gE @hd ?_
        refine AQ.guard_yes (by simp only [go_sem]) ?_
        refine AQ.strip ?_
        refine sI ?_
        refine AQ.callH [(0, 0), (1, 1)] (by kernel_rfl) rfl rfl rfl rfl rfl rfl (by exact ⟨rfl, rfl, trivial⟩) rfl hp2 ?_
        rintro r H' ⟨rfl, rfl⟩
        refine ⟨rfl, ?_⟩
        refine sH ?_
        refine gE @hd ?_
        rw [hd2]
        exact AE.meet () trivial (sU) rfl
    · refine gO ?_
      refine AP.cond rfl rfl (fun h2 => ?_) (fun h2 => ?_)
      · have h2 : ¬ a.length = 0 ∧ tkS L i' = [36, 41] := by simpa using h2
        have hlt2 : i' < L.length := tkS_in (by rw [h2.2]; simp)
        rw [if_pos ⟨decide_eq_false h2.1, h2.2⟩] at s6
        refine gE @hw2 ?_
        refine AE.freeze 2 (el := 25) (es := 3) (rows := tmR a) rfl (by simp only [go_sem, Nat.reduceAdd, Nat.reduceLeDiff, Nat.reduceSub, Int.reduceToNat, reduceCtorEq, tmR_len]; first | done | trivial | omega | (simp; done) | (simp; omega)) (by simp only [go_sem, Nat.reduceAdd, Nat.reduceLeDiff, Nat.reduceSub, Int.reduceToNat, reduceCtorEq, tmR_len]; first | done | trivial | omega | (simp; done) | (simp; omega)) ?_; simp only [go_sem, Nat.reduceAdd, Nat.reduceLeDiff, Nat.reduceSub, Int.reduceToNat, reduceCtorEq, tmR_len]
        rw [List.take_of_length_le (by rw [tmR_len]; exact Nat.le_refl _)]
        exact AE.ret rfl ⟨rfl, trivial⟩ ⟨a, i' + 1, by rw [s6]; simp [prep], by rw [lsV, if_neg (fun e => h2.1 (by rw [e]; rfl))]; rfl, rfl⟩
      · have h2 : ¬ (decide (a.length = 0) = false ∧ tkS L i' = [36, 41]) := fun hc => by
          rw [hc.1, hc.2] at h2; revert h2; decide
        rw [if_neg h2] at s6
        refine gO ?_
        refine AQ.callHX [(0, 0), (1, 1)] (by kernel_rfl) rfl rfl rfl rfl rfl rfl (by exact ⟨rfl, rfl, trivial⟩) rfl ih2 ?_ ?_
        · rintro r H' ⟨j, hj, rfl, rfl⟩
          rw [hj] at s6
          refine ⟨rfl, ?_⟩; refine sH ?_
          exact AEX.out [2] rfl rfl ⟨j, s6, rfl, rfl⟩
        · rintro r H' ⟨u, j, hj, rfl, rfl⟩
          rw [hj] at s6 hgt
          refine ⟨rfl, ?_⟩; refine sH ?_
          refine AQ.go (by kernel_rfl) ?_
          refine sI ?_
          refine gO ?_
          refine AQ.kill 3 ?_
          refine sI ?_
          refine AQ.append (hnb := rfl) (rows := tmR a) (es := 2) (by kernel_rfl) rfl rfl rfl (by rfl) Tryz.tk23 Tryz.sz25 (by show Option.map _ (zro Tryz.prog 25) = _; rw [Tryz.zr25]; rfl) Tryz.by25 (by first | rfl | (simp only [tmR_len, List.length_cons, List.length_nil]; done) | (simp only [tmR_len, List.length_cons, List.length_nil]; omega)) (by simp only [tmR_len, List.length_cons, List.length_nil]; omega) (by simp only [tmR_len, List.length_cons, List.length_nil]; omega) ?_
          refine sE @tmR_len ?_
          refine gO ?_
          have e1 : tmR a ++ [[IV.v (Value.string (BA u.nm)), IV.v (Value.int .i64 u.ix), IV.sl 3 (tmR u.xs)]] = tmR (a ++ [u]) := by rw [tmR_map a, tmR_map (a ++ [u]), List.map_append, List.map_cons, List.map_nil, tmC_eq]
          rw [e1]
          refine AE.round (j, a ++ [u], f') ⟨by have := hgt.1; simp only; omega, hgt.2, by have := hgt.1; simp; omega, by have := hgt.1; have := hgt.2; simp only; omega, by simp only; omega, ?_⟩ (by have := hgt.1; have := hgt.2; simp only; omega) (by simp only [List.length_append, List.length_singleton]; exact (sU)) rfl
          simp only at s6 ⊢
          rw [s6, prep_prep, decide_eq_false (by simp)]
          cases pTs L ns f' false j <;> rfl
end Go.Proofs.YteacpafhmgdbkaaGreatDoor
end

section
namespace Go.Proofs.YteacpafhmgdbkaaGreatDoor
open Go Go.AL Go.RowKit
set_option maxRecDepth 10000
set_option maxHeartbeats 4000000
def RfR {α : Type} (V : α → AV) (q : PR α) (L : List Tok) (r : AV) (H' : Heap) : Prop := H' = [] ∧ ∃ x j, (q = .ok x j ∧ r = .tup [pV L j false, V x]) ∨ (q = .bad j ∧ r = .tup [pV L j true, V x])
abbrev tlV (l : List Tm) : AV := .im (.sl 3 (tmR l))
theorem plist_walk (L : List Tok) (ns : List Nm) (hL : tkOk L) (hn : ns.length ≤ 1000000) (f i : Nat) (hi : i ≤ L.length) (hf : 2 * (L.length - i) ≤ f)
    (ih : ∀ f' i', f' < f → i ≤ i' → i' ≤ L.length → 2 * (L.length - i') + 1 ≤ f' → ACall Tryz.prog 170 [pV L i' false, .im (.sl 1 (stR ns))] [] (RfR tmV (pT L ns f' i') L)) :
    ACall Tryz.prog 169 [pV L i false, .im (.sl 1 (stR ns))] [] (RfR tlV (pL L ns f i) L) := by
  have hl := hL.1
  have hp := pis_spec L i [36, 40] (by simp) hL
  refine ACall.walk [0, 1, 2, 4, 5, 6, 7, 8, 11, 30, 44] [2, 4, 7, 8] Tryz.func169 rfl Tryz.ntmps169 (by kernel_rfl) (by rfl) rfl fun W own I0 φ0 lay => ?_
  refine gO ?_
  refine AQ.fn (by kernel_rfl) rfl rfl rfl (hp) rfl ?_
  refine gO ?_
  refine AP.cond rfl rfl (fun h => ?_) (fun h => ?_)
  · have h : ¬ tkS L i = [36, 40] := by simpa using h
    refine gO ?_
    refine AE.nilsl 5 3 rfl ?_
    exact AE.retD [1, 0] rfl ⟨⟨rfl, Nat.le_of_ble_eq_true (by kernel_rfl)⟩, rfl, trivial⟩ rfl ⟨rfl, [], i, .inl ⟨by rw [pL, if_neg h], rfl⟩⟩
  · have h : tkS L i = [36, 40] := by simpa using h
    have hlt : i < L.length := tkS_in (by rw [h]; simp)
    have hw := wr (x := (i : Int) + 1) (by omega)
    have hpl : pL L ns f i = pTs L ns f true (i + 1) := by rw [pL, if_pos h]
    rw [hpl]
    obtain ⟨Q, hQ⟩ : ∃ Q, pTs L ns f true (i + 1) = Q := ⟨_, rfl⟩
    rw [hQ]
    refine gE @hw ?_
    refine AP.loop rfl (α := Nat × List Tm × Nat × Bool) (fun s => [(1, .im (.sl 1 (stR ns))), (2, .ob 0 0), (4, .ob 1 0), (6, .os 2 3 0 s.2.1.length)]) (fun s => [(2, .vec 45 3 (tmR s.2.1)), (1, .var 157 [nilV, Iv 0, Bv false]), (0, .var 157 [.im (.sl 2 (tokRows L)), Iv s.1, Bv s.2.2.2])]) (fun s => i + 1 ≤ s.1 ∧ s.1 ≤ L.length ∧ s.2.1.length ≤ s.1 + 1 ∧ ((s.2.2.2 = true ∧ Q = .bad s.1) ∨ (s.2.2.2 = false ∧ s.2.1.length ≤ s.1 ∧ 2 * (L.length - s.1) + 2 ≤ s.2.2.1 ∧ s.2.2.1 ≤ f ∧ Q = prep s.2.1 (pTs L ns s.2.2.1 (decide (s.2.1.length = 0)) s.1)))) (fun s => if s.2.2.2 = true then 0 else L.length + 1 - s.1) (i + 1, [], f, false) ⟨by simp, by simp only; omega, by simp, .inr ⟨rfl, by simp, by simp only; omega, by simp, by show Q = prep [] (pTs L ns f true (i + 1)); rw [hQ]; cases Q <;> rfl⟩⟩ (sU) rfl fun s ⟨s1, s2, s3, s4⟩ => ?_
    obtain ⟨i', a, f', b⟩ := s
    simp only at s1 s2 s3 s4 ⊢
    rcases s4 with ⟨rfl, hq⟩ | ⟨rfl, s3, s4, s5, s6⟩
    · refine xA ?_
      refine AP.regionS [(4, .top), (5, .top), (6, .top), (7, Bv false), (8, .top), (9, .top), (10, .top), (11, Bv false)] rfl (by kernel_rfl) ?_
      refine sI ?_
      refine gO ?_
      refine AE.freeze 2 (el := 45) (es := 3) (rows := tmR a) rfl (by simp only [go_sem, Nat.reduceAdd, Nat.reduceLeDiff, Nat.reduceSub, Int.reduceToNat, reduceCtorEq, tmR_len]; first | done | trivial | omega | (simp; done) | (simp; omega)) (by simp only [go_sem, Nat.reduceAdd, Nat.reduceLeDiff, Nat.reduceSub, Int.reduceToNat, reduceCtorEq, tmR_len]; first | done | trivial | omega | (simp; done) | (simp; omega)) ?_; simp only [go_sem, Nat.reduceAdd, Nat.reduceLeDiff, Nat.reduceSub, Int.reduceToNat, reduceCtorEq, tmR_len]
      rw [List.take_of_length_le (by rw [tmR_len]; exact Nat.le_refl _)]
      exact AE.retD [1, 0] rfl ⟨⟨rfl, Nat.le_of_ble_eq_true (by kernel_rfl)⟩, rfl, trivial⟩ rfl ⟨rfl, a, _, .inr ⟨hq, rfl⟩⟩
    · obtain ⟨f', rfl⟩ : ∃ g, f' = g + 1 := ⟨f' - 1, by omega⟩
      have hp2 := pis_spec L i' [36, 41] (by simp) hL
      have hw2 := wr (x := (i' : Int) + 1) (by omega)
      have ih2 := ih f' i' (by omega) (by omega) s2 (by omega)
      have hgt := pT_gt (L := L) (ns := ns) (f := f') s2
      rw [pTs] at s6
      refine xA ?_
      refine AP.cut (α := Unit) (fun _ => [(1, .im (.sl 1 (stR ns))), (2, .ob 0 0), (4, .ob 1 0), (6, .os 2 3 0 a.length), (30, Bv (decide (a.length = 0) || !(tkS L i' == [36, 41])))]) (fun _ => [(2, .vec 45 3 (tmR a)), (1, .var 157 [nilV, Iv 0, Bv false]), (0, .var 157 [.im (.sl 2 (tokRows L)), Iv i', Bv false])]) (fun _ => True) ?_ fun _ _ => ?_
      · rcases Nat.eq_zero_or_pos a.length with ha | ha
        · refine gE @ha ?_
          exact AE.meet () trivial (sU) rfl
        · have hd : ((a.length : Int) == 0) = false := beq_false_of_ne (by omega)
          have hd2 : decide (a.length = 0) = false := decide_eq_false (by omega)
          refine gE @hd ?_
          refine AQ.guard_yes (by simp only [go_sem]) ?_
          refine AQ.strip ?_
          refine sI ?_
          refine AQ.fn (by kernel_rfl) rfl rfl rfl (hp2) rfl ?_
          refine gO ?_
          rw [hd2]
          exact AE.meet () trivial (sU) rfl
      · refine gO ?_
        refine AP.cond rfl rfl (fun h2 => ?_) (fun h2 => ?_)
        · have h2 : ¬ (decide (a.length = 0) = false ∧ tkS L i' = [36, 41]) := fun hc => by
            rw [hc.1, hc.2] at h2; revert h2; decide
          rw [if_neg h2] at s6
          refine gO ?_
          refine AQ.callv (by kernel_rfl) rfl rfl rfl ih2 ?_
          rintro r H' ⟨rfl, u, j, ⟨hj, rfl⟩ | ⟨hj, rfl⟩⟩
          · rw [hj] at s6 hgt
            refine sI ?_
            refine gO ?_
            refine AQ.append (hnb := rfl) (rows := tmR a) (es := 2) (by kernel_rfl) rfl rfl rfl (by rfl) Tryz.tk37 Tryz.sz45 (by show Option.map _ (zro Tryz.prog 45) = _; rw [Tryz.zr45]; rfl) Tryz.by45 (by first | rfl | (simp only [tmR_len, List.length_cons, List.length_nil]; done) | (simp only [tmR_len, List.length_cons, List.length_nil]; omega)) (by simp only [tmR_len, List.length_cons, List.length_nil]; omega) (by simp only [tmR_len, List.length_cons, List.length_nil]; omega) ?_
            refine sE @tmR_len ?_
            refine gO ?_
            have e1 : tmR a ++ [[IV.v (Value.string (BA u.nm)), IV.v (Value.int .i64 u.ix), IV.sl 3 (tmR u.xs)]] = tmR (a ++ [u]) := by rw [tmR_map a, tmR_map (a ++ [u]), List.map_append, List.map_cons, List.map_nil, tmC_eq]
            rw [e1]
            refine AE.forgets [4, 3] rfl ?_
            refine sI ?_
            refine AE.round (j, a ++ [u], f', false) ⟨by have := hgt.1; simp only; omega, hgt.2, by have := hgt.1; simp; omega, .inr ⟨rfl, by have := hgt.1; simp; omega, by have := hgt.1; have := hgt.2; simp only; omega, by simp only; omega, ?_⟩⟩ (by have := hgt.1; have := hgt.2; simp; omega) (by simp only [List.length_append, List.length_singleton]; exact (sU)) rfl
            simp only at s6 ⊢
            rw [s6, prep_prep, decide_eq_false (by simp)]
            cases pTs L ns f' false j <;> rfl
          · rw [hj] at s6 hgt
            refine sI ?_
            refine gO ?_
            refine AQ.append (hnb := rfl) (rows := tmR a) (es := 2) (by kernel_rfl) rfl rfl rfl (by rfl) Tryz.tk37 Tryz.sz45 (by show Option.map _ (zro Tryz.prog 45) = _; rw [Tryz.zr45]; rfl) Tryz.by45 (by first | rfl | (simp only [tmR_len, List.length_cons, List.length_nil]; done) | (simp only [tmR_len, List.length_cons, List.length_nil]; omega)) (by simp only [tmR_len, List.length_cons, List.length_nil]; omega) (by simp only [tmR_len, List.length_cons, List.length_nil]; omega) ?_
            refine sE @tmR_len ?_
            refine gO ?_
            have e1 : tmR a ++ [[IV.v (Value.string (BA u.nm)), IV.v (Value.int .i64 u.ix), IV.sl 3 (tmR u.xs)]] = tmR (a ++ [u]) := by rw [tmR_map a, tmR_map (a ++ [u]), List.map_append, List.map_cons, List.map_nil, tmC_eq]
            rw [e1]
            refine AE.forgets [4, 3] rfl ?_
            refine sI ?_
            exact AE.round (j, a ++ [u], f', true) ⟨by have := hgt.1; simp only; omega, hgt.2, by have := hgt.1; simp; omega, .inl ⟨rfl, s6⟩⟩ (by simp; omega) (by simp only [List.length_append, List.length_singleton]; exact (sU)) rfl
        · have h2 : ¬ a.length = 0 ∧ tkS L i' = [36, 41] := by simpa using h2
          have hlt2 : i' < L.length := tkS_in (by rw [h2.2]; simp)
          rw [if_pos ⟨decide_eq_false h2.1, h2.2⟩] at s6
          refine gE @hw2 ?_
          refine AE.freeze 2 (el := 45) (es := 3) (rows := tmR a) rfl (by simp only [go_sem, Nat.reduceAdd, Nat.reduceLeDiff, Nat.reduceSub, Int.reduceToNat, reduceCtorEq, tmR_len]; first | done | trivial | omega | (simp; done) | (simp; omega)) (by simp only [go_sem, Nat.reduceAdd, Nat.reduceLeDiff, Nat.reduceSub, Int.reduceToNat, reduceCtorEq, tmR_len]; first | done | trivial | omega | (simp; done) | (simp; omega)) ?_; simp only [go_sem, Nat.reduceAdd, Nat.reduceLeDiff, Nat.reduceSub, Int.reduceToNat, reduceCtorEq, tmR_len]
          rw [List.take_of_length_le (by rw [tmR_len]; exact Nat.le_refl _)]
          exact AE.retD [1, 0] rfl ⟨⟨rfl, Nat.le_of_ble_eq_true (by kernel_rfl)⟩, rfl, trivial⟩ rfl ⟨rfl, a, _, .inl ⟨by rw [s6]; simp [prep], rfl⟩⟩
end Go.Proofs.YteacpafhmgdbkaaGreatDoor
end

section
namespace Go.Proofs.YteacpafhmgdbkaaGreatDoor
open Go Go.AL Go.RowKit
set_option maxRecDepth 10000
set_option maxHeartbeats 4000000
theorem mkT_some {ns : List Nm} {s : Nm} {k : Nat} (h : bkN ns s ns.length = some k) : mkT ns s [] = .mk [] (ns.length - 1 - k : Nat) [] := by rw [mkT, if_pos rfl, h]
theorem mkT_none {ns : List Nm} {s : Nm} (h : bkN ns s ns.length = none) : mkT ns s [] = .mk s 0 [] := by rw [mkT, if_pos rfl, h]
theorem mkT_args {ns : List Nm} {s : Nm} {l : List Tm} (h : l ≠ []) : mkT ns s l = .mk s 0 l := by rw [mkT, if_neg h]
theorem rterm_spec (L : List Tok) (e : Int) (ns : List Nm) (hL : tkOk L) (hn : ns.length ≤ 1000000) : ∀ (f i : Nat), i ≤ L.length → 2 * (L.length - i) + 1 ≤ f →
    ACallX Tryz.prog 163 [.ob 0 0] (rdH 1 L e i ns) (RdR tmV (pT L ns f i) L e ns 1) (RdX (pT L ns f i) L e) := by
  intro f
  induction f using Nat.strongRecOn with
  | _ f ih =>
    intro i hi hf
    obtain ⟨f, rfl⟩ : ∃ g, f = g + 1 := ⟨f - 1, by omega⟩
    have hl := hL.1
    have hnm := name_spec L e i ns (by omega) hL
    rw [pT_succ]
    have hpl := fun hlt : i < L.length => list_walk L e ns hL hn f (i + 1) (by omega) (by omega) fun f' i' h1 h2 h3 h4 => ih f' (by omega) i' h3 h4
    refine ACallX.walk [0, 1, 2, 3, 4, 5, 6, 12, 20, 21, 22, 25] [1, 2, 3] Tryz.func163 rfl Tryz.ntmps163 (by kernel_rfl) (by rfl) rfl fun W own I0 φ0 lay => ?_
    refine gO ?_
    refine AQ.callHX [(0, 0), (1, 1)] (by kernel_rfl) rfl rfl rfl rfl rfl rfl (by exact ⟨rfl, rfl, trivial⟩) rfl hnm ?_ ?_
    · rintro r H' ⟨h, rfl, rfl⟩
      refine ⟨rfl, ?_⟩; refine sH ?_
      exact AEX.out [2, 3] rfl rfl ⟨i, by rw [if_pos h], rfl, rfl⟩
    rintro r H' ⟨h, rfl, rfl⟩
    have hnf : ¬ isNm (tkS L i) = false := by rw [h]; simp
    have hlt : i < L.length := isNm_in hnf
    have hpl := hpl hlt
    have hbk := backward_spec L e
    rw [if_neg hnf]
    refine ⟨rfl, ?_⟩; refine sH ?_
    refine AQ.go (by kernel_rfl) ?_
    refine sI ?_
    refine gO ?_
    refine AQ.callHX [(0, 0), (1, 1)] (by kernel_rfl) rfl rfl rfl rfl rfl rfl (by exact ⟨rfl, rfl, trivial⟩) rfl hpl ?_ ?_
    · rintro r H' ⟨j, hj, rfl, rfl⟩
      refine ⟨rfl, ?_⟩; refine sH ?_
      exact AEX.out [4, 3, 2] rfl rfl ⟨j, by rw [hj], rfl, rfl⟩
    rintro r H' ⟨l, j, hj, rfl, rfl⟩
    rw [hj]
    simp only
    by_cases hl0 : l = []
    · subst hl0
      have elv : lsV [] = nilV := by rw [lsV, if_pos rfl]
      rw [elv]
      refine ⟨rfl, ?_⟩; refine sH ?_
      refine AQ.go (by kernel_rfl) ?_
      refine sI ?_
      refine gO ?_
      refine AQ.callH [(4, 4), (3, 3), (2, 2), (0, 0), (1, 1)] (by kernel_rfl) rfl rfl rfl rfl rfl rfl (by exact ⟨rfl, rfl, rfl, rfl, rfl, trivial⟩) rfl (backward_spec L e j ns (tkS L i)) ?_
      rintro r H' ⟨rfl, rfl⟩
      refine ⟨rfl, ?_⟩
      refine sH ?_
      refine AQ.rename 10 5 rfl rfl rfl ?_; refine sI ?_
      refine gO ?_
      refine AP.rangeB 6 0 6 bkEL (R := fun q => bkR q L e j ns (tkS L i)) rfl rfl (by kernel_rfl) (sU) rfl rfl (fun q => bk_walk q L e j ns (tkS L i) hn) (fun q r H' hR => ?_)
      rcases hR with ⟨hb, rfl⟩ | ⟨k, hb, rfl⟩
      · refine ⟨lowSame.of _ _ _ rfl, .ready, _, rfl, rfl, ?_⟩
        refine sI ?_
        refine gO ?_
        refine AQ.fn (by kernel_rfl) rfl rfl rfl (paramT_spec (tkS L i)) rfl ?_
        refine gO ?_
        rw [mkT_none hb]
        refine AE.cellsW 3 [Sv (tkS L i), Iv 0, .im (.sl 3 [])] rfl (cellsLe.cons (cellsLe.cons (cellsLe.nil (cellsLe.refl _)))) ?_
        refine sI ?_
        exact AE.retD [5, 4, 3, 2] rfl ⟨⟨rfl, Nat.le_of_ble_eq_true (by kernel_rfl)⟩, trivial⟩ rfl ⟨_, j, rfl, rfl, rfl⟩
      · refine ⟨lowSame.of _ _ _ rfl, .done .ret, _, rfl, rfl, ?_⟩
        refine sI ?_
        refine gO ?_
        rw [mkT_some hb]
        refine AE.cellsW 3 [Sv [], Iv (ns.length - 1 - k : Nat), .im (.sl 3 [])] rfl (cellsLe.cons (cellsLe.cons (cellsLe.nil (cellsLe.refl _)))) ?_
        refine sI ?_
        exact AE.retD [5, 4, 3, 2] rfl ⟨⟨rfl, Nat.le_of_ble_eq_true (by kernel_rfl)⟩, trivial⟩ rfl ⟨_, j, rfl, rfl, rfl⟩
    · have elv : lsV l = .im (.sl 3 (tmR l)) := by rw [lsV, if_neg hl0]
      rw [elv, mkT_args hl0]
      refine ⟨rfl, ?_⟩; refine sH ?_
      refine AQ.go (by kernel_rfl) ?_
      refine sI ?_
      refine gO ?_
      refine ⟨by intro e; apply hl0; have := congrArg List.length e; rw [tmR_len] at this; exact List.eq_nil_of_length_eq_zero this, ?_⟩
      refine gO ?_
      exact AE.retD [4, 3, 2] rfl ⟨⟨rfl, Nat.le_of_ble_eq_true (by kernel_rfl)⟩, trivial⟩ rfl ⟨_, j, rfl, rfl, rfl⟩
end Go.Proofs.YteacpafhmgdbkaaGreatDoor
end

section
namespace Go.Proofs.YteacpafhmgdbkaaGreatDoor
open Go Go.AL Go.RowKit
set_option maxRecDepth 10000
set_option maxHeartbeats 4000000
theorem pterm_spec (L : List Tok) (ns : List Nm) (hL : tkOk L) (hn : ns.length ≤ 1000000) : ∀ (f i : Nat), i ≤ L.length → 2 * (L.length - i) + 1 ≤ f →
    ACall Tryz.prog 170 [pV L i false, .im (.sl 1 (stR ns))] [] (RfR tmV (pT L ns f i) L) := by
  intro f
  induction f using Nat.strongRecOn with
  | _ f ih =>
    intro i hi hf
    obtain ⟨f, rfl⟩ : ∃ g, f = g + 1 := ⟨f - 1, by omega⟩
    have hl := hL.1
    have hnm := pname_spec L i (by omega) hL
    have hpl := fun hlt : i < L.length => plist_walk L ns hL hn f (i + 1) (by omega) (by omega) fun f' i' h1 h2 h3 h4 => ih f' (by omega) i' h3 h4
    unfold pnV at hnm
    by_cases h : isNm (tkS L i) = true
    · have hnf : ¬ isNm (tkS L i) = false := by rw [h]; simp
      have hlt : i < L.length := isNm_in hnf
      have hpl := hpl hlt
      rw [if_pos h] at hnm
      refine ACall.walk [0, 1, 2, 4, 5, 6, 7, 8, 15, 26, 31, 39] [2, 4, 5] Tryz.func170 rfl Tryz.ntmps170 (by kernel_rfl) (by rfl) rfl fun W own I0 φ0 lay => ?_
      refine gO ?_
      refine AQ.fn (by kernel_rfl) rfl rfl rfl (hnm) rfl ?_
      refine gO ?_
      refine AQ.callv (by kernel_rfl) rfl rfl rfl hpl ?_
      rintro r H' ⟨rfl, l, j, hq⟩
      have hone : ∃ b, r = .tup [pV L j b, tlV l] ∧ ((b = false ∧ pL L ns f (i + 1) = .ok l j) ∨ (b = true ∧ pL L ns f (i + 1) = .bad j)) := by
        rcases hq with ⟨h1, h2⟩ | ⟨h1, h2⟩
        · exact ⟨false, h2, .inl ⟨rfl, h1⟩⟩
        · exact ⟨true, h2, .inr ⟨rfl, h1⟩⟩
      clear hq
      obtain ⟨b, rfl, hq⟩ := hone
      have hR : ∀ r : AV, r = .tup [pV L j b, tmV (mkT ns (tkS L i) l)] → RfR tmV (pT L ns (f + 1) i) L r [] := fun r hr => by
        refine ⟨rfl, mkT ns (tkS L i) l, j, ?_⟩
        rcases hq with ⟨rfl, hq⟩ | ⟨rfl, hq⟩
        · exact .inl ⟨by rw [pT_succ, if_neg hnf, hq], hr⟩
        · exact .inr ⟨by rw [pT_succ, if_neg hnf, hq], hr⟩
      clear hq
      have w1 := wr (x := (ns.length : Int) - 1) (by omega)
      by_cases hl0 : l = []
      · subst hl0
        refine sI ?_
        refine gE (an @tmR_len (an @List.length_nil.{0} (an @w1 @stR_len))) ?_
        refine AP.loop rfl (α := Nat) (fun k => [(1, .im (.sl 1 (stR ns))), (2, .ob 0 0), (4, .ob 1 0), (5, .ob 2 0), (6, Sv (tkS L i)), (7, .im (.sl 3 [])), (8, Iv ((k : Int) - 1))]) (fun _ => [(2, .var 45 [Sv [], Iv 0, nilV]), (1, .var 157 [nilV, Iv 0, Bv false]), (0, .var 157 [.im (.sl 2 (tokRows L)), Iv j, Bv b])]) (fun k => k ≤ ns.length ∧ bkN ns (tkS L i) ns.length = bkN ns (tkS L i) k) (fun k => k) ns.length ⟨Nat.le_refl _, rfl⟩ (sU) rfl fun k ⟨hk, hm⟩ => ?_
        cases k with
        | zero =>
          rw [bkN] at hm
          have hm := mkT_none hm
          refine gO ?_
          exact AE.retD [2, 1, 0] rfl ⟨⟨rfl, Nat.le_of_ble_eq_true (by kernel_rfl)⟩, ⟨rfl, Nat.le_of_ble_eq_true (by kernel_rfl)⟩, trivial⟩ rfl (hR _ (by rw [hm]; rfl))
        | succ k =>
          have hrow := stR_get ns k (by omega)
          have ek : (((k + 1 : Nat) : Int) - 1) = (k : Int) := by omega
          have w3 := wr (x := (k : Int) - 1) (by omega)
          have w2 := wr (x := (ns.length : Int) - 1 - k) (by omega)
          rw [bkN] at hm
          simp only [ek]
          refine gE (an @hrow @stR_len) ?_
          refine AP.cond rfl rfl (fun h3 => ?_) (fun h3 => ?_)
          · have h3 : ns.getD k [] = tkS L i := by simpa using h3
            rw [if_pos h3] at hm
            have hm := mkT_some hm
            refine gE (an @w1 (an @w2 @stR_len)) ?_
            rw [show (ns.length : Int) - 1 - (k : Int) = ((ns.length - 1 - k : Nat) : Int) by omega]
            refine AE.cellsW 2 [Sv [], Iv (ns.length - 1 - k : Nat), .im (.sl 3 [])] rfl (cellsLe.cons (cellsLe.cons (cellsLe.nil (cellsLe.refl _)))) ?_
            refine sI ?_
            exact AE.retD [2, 1, 0] rfl ⟨⟨rfl, Nat.le_of_ble_eq_true (by kernel_rfl)⟩, ⟨rfl, Nat.le_of_ble_eq_true (by kernel_rfl)⟩, trivial⟩ rfl (hR _ (by rw [hm]; rfl))
          · have h3 : ¬ ns.getD k [] = tkS L i := by simpa using h3
            rw [if_neg h3] at hm
            refine gE @w3 ?_
            exact AE.round k ⟨by omega, hm⟩ (by omega) (sU) rfl
      · have hlp : 0 < l.length := List.length_pos_iff.2 hl0
        have hlz : ((l.length : Int) == 0) = false := beq_false_of_ne (by omega)
        have hm := mkT_args (ns := ns) (s := tkS L i) hl0
        refine sI ?_
        refine gE (an @tmR_len @hlz) ?_
        exact AE.retD [2, 1, 0] rfl ⟨⟨rfl, Nat.le_of_ble_eq_true (by kernel_rfl)⟩, ⟨rfl, Nat.le_of_ble_eq_true (by kernel_rfl)⟩, trivial⟩ rfl (hR _ (by rw [hm]; rfl))
    · have hnf : isNm (tkS L i) = false := by simpa using h
      rw [if_neg h] at hnm
      refine ACall.walk [0, 1, 2, 4, 5, 6, 7, 8, 15, 26, 31, 39] [2, 4, 5] Tryz.func170 rfl Tryz.ntmps170 (by kernel_rfl) (by rfl) rfl fun W own I0 φ0 lay => ?_
      refine gO ?_
      refine AQ.fn (by kernel_rfl) rfl rfl rfl (hnm) rfl ?_
      refine gO ?_
      refine AE.cellsW 2 [Sv [], Iv 0, .im (.sl 3 [])] rfl (cellsLe.cons (cellsLe.cons (cellsLe.nil (cellsLe.refl _)))) ?_
      refine sI ?_
      exact AE.retD [2, 1, 0] rfl ⟨⟨rfl, Nat.le_of_ble_eq_true (by kernel_rfl)⟩, ⟨rfl, Nat.le_of_ble_eq_true (by kernel_rfl)⟩, trivial⟩ rfl ⟨rfl, .mk [] 0 [], i, .inr ⟨by rw [pT_succ, if_pos hnf], rfl⟩⟩
end Go.Proofs.YteacpafhmgdbkaaGreatDoor
end

section
namespace Go.Proofs.YteacpafhmgdbkaaGreatDoor
open Go Go.AL Go.RowKit
set_option maxRecDepth 10000
set_option maxHeartbeats 4000000
abbrev rwH (b : Nat) (o : List Nm) : Heap := [(b, .vec 9 1 (stR o))]
abbrev rwV (b : Nat) (o : List Nm) : AV := .os b 1 0 o.length
theorem ltext_walk (nm : Nm) (ns out : List Nm) (l : List Tm) (hl : out.length + 1 + (lsW ns l).length ≤ 1000000) (hn : ns.length ≤ 1000000)
    (ih : ∀ (k : Nat) (t : Tm) (o : List Nm), l[k]? = some t → o.length + (tmW ns t).length ≤ 1000000 → ACall Tryz.prog 155 [tmV t, .im (.sl 1 (stR ns)), rwV 0 o] (rwH 0 o) (fun r H' => r = rwV 1 (o ++ tmW ns t) ∧ H' = rwH 1 (o ++ tmW ns t))) :
    ACall Tryz.prog 153 [Sv nm, .im (.sl 3 (tmR l)), .im (.sl 1 (stR ns)), rwV 0 out] (rwH 0 out) (fun r H' => r = rwV 1 (out ++ nm :: lsW ns l) ∧ H' = rwH 1 (out ++ nm :: lsW ns l)) := by
  have hll2 := lsW_len ns l
  have hge := tmsW_ge ns l
  refine ACall.walk [0, 1, 2, 3, 8, 9, 16, 24] [] Tryz.func153 rfl Tryz.ntmps153 (by kernel_rfl) (by rfl) rfl fun W own I0 φ0 lay => ?_
  refine AP.rename 0 1 rfl rfl rfl ?_; refine sI ?_
  refine gO ?_
  refine AQ.append (hnb := rfl) (rows := stR out) (es := 0) (by kernel_rfl) rfl rfl rfl (by rfl) Tryz.tk67 Tryz.sz9 (by show Option.map _ (zro Tryz.prog 9) = _; rw [Tryz.zr9]; rfl) Tryz.by9 (by first | rfl | (simp only [stR_len, List.length_cons, List.length_nil]; done) | (simp only [stR_len, List.length_cons, List.length_nil]; omega)) (by simp only [stR_len, List.length_cons, List.length_nil]; omega) (by simp only [stR_len, List.length_cons, List.length_nil]; omega) ?_
  refine sE @stR_len ?_
  refine gE @tmR_len ?_
  rw [stR_snc, show out.length + 1 = (out ++ [nm]).length by simp]
  refine AP.cond rfl rfl (fun h => ?_) (fun h => ?_)
  · have h : l.length = 0 := by simp only [beq_iff_eq] at h; omega
    rw [lsW, if_pos h]
    refine gO ?_
    exact AE.ret rfl ⟨rfl, trivial⟩ ⟨rfl, rfl⟩
  · have h : ¬ l.length = 0 := by simp only [beq_eq_false_iff_ne, ne_eq] at h; omega
    have hll : (lsW ns l).length = (tmsW ns l).length + 2 := by rw [lsW, if_neg h]; simp
    have hol : (out ++ [nm]).length = out.length + 1 := by simp
    obtain ⟨o1, ho1⟩ : ∃ o1, out ++ [nm] = o1 := ⟨_, rfl⟩
    rw [ho1] at hol ⊢
    refine gO ?_
    refine AQ.append (hnb := rfl) (rows := stR o1) (es := 0) (by kernel_rfl) rfl rfl rfl (by rfl) Tryz.tk67 Tryz.sz9 (by show Option.map _ (zro Tryz.prog 9) = _; rw [Tryz.zr9]; rfl) Tryz.by9 (by first | rfl | (simp only [stR_len, List.length_cons, List.length_nil]; done) | (simp only [stR_len, List.length_cons, List.length_nil]; omega)) (by simp only [stR_len, List.length_cons, List.length_nil]; omega) (by simp only [stR_len, List.length_cons, List.length_nil]; omega) ?_
    refine sE @stR_len ?_
    refine gO ?_
    rw [stR_snc, show o1.length + 1 = (o1 ++ [[36, 40]]).length by simp]
    refine AP.loop rfl (α := Nat × List Nm) (fun s => [(1, .im (.sl 3 (tmR l))), (2, .im (.sl 1 (stR ns))), (3, rwV 1 s.2), (9, Iv s.1)]) (fun s => rwH 1 s.2) (fun s => s.1 ≤ l.length ∧ s.2 = o1 ++ [[36, 40]] ++ tmsW ns (l.take s.1)) (fun s => l.length - s.1) (0, o1 ++ [[36, 40]]) ⟨by omega, by simp [tmsW]⟩ (sU) rfl fun s ⟨hk, hs⟩ => ?_
    obtain ⟨k, s⟩ := s
    simp only at hk hs ⊢
    rcases Nat.eq_or_lt_of_le hk with hke | hlt
    · have hsl : s.length = o1.length + 1 + (tmsW ns l).length := by rw [hs, hke, List.take_length]; simp; omega
      refine gE @tmR_len ?_
      refine cF ?_
      refine gO ?_
      refine AQ.append (hnb := rfl) (rows := stR s) (es := 0) (by kernel_rfl) rfl rfl rfl (by rfl) Tryz.tk67 Tryz.sz9 (by show Option.map _ (zro Tryz.prog 9) = _; rw [Tryz.zr9]; rfl) Tryz.by9 (by first | rfl | (simp only [stR_len, List.length_cons, List.length_nil]; done) | (simp only [stR_len, List.length_cons, List.length_nil]; omega)) (by simp only [stR_len, List.length_cons, List.length_nil]; omega) (by simp only [stR_len, List.length_cons, List.length_nil]; omega) ?_
      refine sE @stR_len ?_
      refine gO ?_
      rw [stR_snc, show s.length + 1 = (s ++ [[36, 41]]).length by simp]
      have e : s ++ [[36, 41]] = out ++ nm :: lsW ns l := by rw [hs, hke, List.take_length, lsW, if_neg h, ← ho1]; simp
      rw [e]
      exact AE.ret rfl ⟨rfl, trivial⟩ ⟨rfl, rfl⟩
    · obtain ⟨u, hu, hrow⟩ := tmR_get l k hlt
      have hw := wr (x := (k : Int) + 1) (by omega)
      have hsn := tmsW_snc ns hu
      have htl : (tmsW ns (l.take (k + 1))).length ≤ (tmsW ns l).length := by
        have := congrArg (tmsW ns) (List.take_append_drop (k + 1) l)
        rw [tmsW_app] at this
        rw [← this, List.length_append]; omega
      have hi := ih k u s hu (by rw [hsn, List.length_append] at htl; rw [hs]; simp; omega)
      refine gE @tmR_len ?_
      refine cT ?_
      refine gE (an @hrow @tmR_len) ?_
      refine AQ.callH [(0, 1)] (by kernel_rfl) rfl rfl rfl rfl rfl rfl (by exact ⟨rfl, trivial⟩) rfl hi ?_
      rintro r H' ⟨rfl, rfl⟩
      refine ⟨rfl, ?_⟩
      refine sH ?_
      refine AQ.rename 3 1 rfl rfl rfl ?_; refine sI ?_
      refine gE @hw ?_
      exact AE.round (k + 1, s ++ tmW ns u) ⟨by simp only; omega, by simp only; rw [hs, hsn, List.append_assoc]⟩ (by simp only; omega) (sU) rfl
theorem ttext_spec (ns : List Nm) (t : Tm) (o : List Nm) (hw : wT t ns.length = 0) (hl : o.length + (tmW ns t).length ≤ 1000000) (hn : ns.length ≤ 1000000) :
    ACall Tryz.prog 155 [tmV t, .im (.sl 1 (stR ns)), rwV 0 o] (rwH 0 o) (fun r H' => r = rwV 1 (o ++ tmW ns t) ∧ H' = rwH 1 (o ++ tmW ns t)) := by
  have h0 := wT_nm hw
  have he := tmW_eq ns t
  refine ACall.walk [0, 1, 2, 3, 6, 9] [] Tryz.func155 rfl Tryz.ntmps155 (by kernel_rfl) (by rfl) rfl fun W own I0 φ0 lay => ?_
  refine AP.rename 0 1 rfl rfl rfl ?_; refine sI ?_
  refine gO ?_
  refine AP.cond rfl rfl (fun h => ?_) (fun h => ?_)
  · have h : t.nm = [] := by simpa using h
    obtain ⟨hx, hi⟩ := h0.2.1 h
    have hlt : ((ns.length : Int) - 1 - t.ix).toNat < ns.length := by omega
    have w1 := wr (x := (ns.length : Int) - 1) (by omega)
    have w2 := wr (x := (ns.length : Int) - 1 - t.ix) (by omega)
    have hrow := stR_get ns _ hlt
    rw [if_pos h] at he
    have hln : (tmW ns t).length = 1 := by rw [he]; rfl
    rw [he]
    generalize ns.getD ((ns.length : Int) - 1 - t.ix).toNat [] = v at *
    refine gE (an @stR_len (an @w1 (an @w2 @hrow))) ?_
    refine AQ.append (hnb := rfl) (rows := stR o) (es := 0) (by kernel_rfl) rfl rfl rfl (by rfl) Tryz.tk67 Tryz.sz9 (by show Option.map _ (zro Tryz.prog 9) = _; rw [Tryz.zr9]; rfl) Tryz.by9 (by first | rfl | (simp only [stR_len, List.length_cons, List.length_nil]; done) | (simp only [stR_len, List.length_cons, List.length_nil]; omega)) (by simp only [stR_len, List.length_cons, List.length_nil]; omega) (by simp only [stR_len, List.length_cons, List.length_nil]; omega) ?_
    refine sE @stR_len ?_
    refine gO ?_
    rw [stR_snc, show o.length + 1 = (o ++ [v]).length by simp]
    exact AE.ret rfl ⟨rfl, trivial⟩ ⟨rfl, rfl⟩
  · have h : ¬ t.nm = [] := by simpa using h
    rw [if_neg h] at he
    have hxs := (h0.2.2 h).2.2
    have hln : (tmW ns t).length = (lsW ns t.xs).length + 1 := by rw [he]; rfl
    rw [he]
    have hli := ltext_walk t.nm ns o t.xs (by omega) hn fun k u ws hu hl => ttext_spec ns u ws (wTs_get hxs hu) hl hn
    refine gO ?_
    refine AQ.callH [(0, 1)] (by kernel_rfl) rfl rfl rfl rfl rfl rfl (by exact ⟨rfl, trivial⟩) rfl hli ?_
    rintro r H' ⟨rfl, rfl⟩
    refine ⟨rfl, ?_⟩
    refine sH ?_
    refine AQ.rename 3 1 rfl rfl rfl ?_; refine sI ?_
    refine gO ?_
    exact AE.ret rfl ⟨rfl, trivial⟩ ⟨rfl, rfl⟩
termination_by SizeOf.sizeOf t
decreasing_by exact tm_mem hu
end Go.Proofs.YteacpafhmgdbkaaGreatDoor
end

section
namespace Go.Proofs.YteacpafhmgdbkaaGreatDoor
open Go Go.AL Go.RowKit
set_option maxRecDepth 10000
set_option maxHeartbeats 4000000
theorem sign_spec (k : Int) (h : 1 ≤ k ∧ k ≤ 8) : PFn Tryz.prog 154 [Iv k] (Sv (sgn k)) := by
  obtain ⟨j, rfl⟩ : ∃ j : Nat, k = (j : Int) := ⟨k.toNat, by omega⟩
  have hj : j < 9 := by omega
  have hg : ([[Si []], [Si []], [Si [36, 61]], [Si [36, 70]], [Si [36, 62]], [Si [36, 38]], [Si [36, 124]], [Si [36, 65]], [Si [36, 69]]] : List (List IV)).getD j [] = [Si (sgn j)] := by
    match j, hj with
    | 0, _ => rfl
    | 1, _ => rfl
    | 2, _ => rfl
    | 3, _ => rfl
    | 4, _ => rfl
    | 5, _ => rfl
    | 6, _ => rfl
    | 7, _ => rfl
    | 8, _ => rfl
  generalize sgn j = v at *
  refine ACall.walk [0, 2] [] Tryz.func154 rfl Tryz.ntmps154 (by kernel_rfl) (by rfl) rfl fun W own I0 φ0 lay => ?_
  refine gE (an @Int.toNat_natCast @hg) ?_
  exact AE.ret0 rfl ⟨rfl, trivial⟩ rfl ⟨rfl, rfl⟩
theorem ftext_walk (tk ns o : List Nm) (f : Fm) (hw : wF f ns.length = 0) (htk : tk.length ≤ 1000000) (hl : o.length + (fmW tk ns f).length ≤ 1000000) (hn : ns.length + 1 ≤ 1000000)
    (ih : ∀ (k : Nat) (u : Fm) (ns' o' : List Nm), f.ps[k]? = some u → ns'.length ≤ ns.length + 1 → wF u ns'.length = 0 → o'.length + (fmW tk ns' u).length ≤ 1000000 → ACall Tryz.prog 86 [fmV u, .im (.sl 1 (stR tk)), .im (.sl 1 (stR ns')), rwV 0 o'] (rwH 0 o') (fun r H' => r = rwV 1 (o' ++ fmW tk ns' u) ∧ H' = rwH 1 (o' ++ fmW tk ns' u))) :
    ACall Tryz.prog 86 [fmV f, .im (.sl 1 (stR tk)), .im (.sl 1 (stR ns)), rwV 0 o] (rwH 0 o) (fun r H' => r = rwV 1 (o ++ fmW tk ns f) ∧ H' = rwH 1 (o ++ fmW tk ns f)) := by
  have he := fmW_eq tk ns f
  obtain ⟨hsh, hwt, hwp⟩ := wF_parts hw
  have hsk := shp_k hsh
  obtain ⟨W1, hW⟩ : ∃ W1, fmW tk ns f = W1 := ⟨_, rfl⟩
  rw [hW] at hl he ⊢
  by_cases h1 : f.k = 1
  · rw [if_pos h1] at he
    subst he
    have hli := ltext_walk f.nm ns o f.ts (by rw [List.length_cons] at hl; omega) (by omega) fun k u ws hu hl => ttext_spec ns u ws (wTs_get hwt hu) hl (by omega)
    have hb : (f.k == 1) = true := by simpa using h1
    refine ACall.walk [0, 1, 2, 3, 4, 8, 9, 10, 11, 14, 32, 50, 62, 86] [] Tryz.func86 rfl Tryz.ntmps86 (by kernel_rfl) (by rfl) rfl fun W own I0 φ0 lay => ?_
    refine AP.rename 0 1 rfl rfl rfl ?_; refine sI ?_
    refine gO ?_
    simp only [go_sem, Nat.reduceAdd, Nat.reduceLeDiff, Nat.reduceSub, Int.reduceToNat, reduceCtorEq, hb]
    refine gO ?_
    refine AQ.callH [(0, 1)] (by kernel_rfl) rfl rfl rfl rfl rfl rfl (by exact ⟨rfl, trivial⟩) rfl hli ?_
    rintro r H' ⟨rfl, rfl⟩
    refine ⟨rfl, ?_⟩
    refine sH ?_
    refine AQ.rename 3 1 rfl rfl rfl ?_; refine sI ?_
    refine gO ?_
    exact AE.ret rfl ⟨rfl, trivial⟩ ⟨rfl, rfl⟩
  · rw [if_neg h1] at he
    have hb : (f.k == 1) = false := by simpa using h1
    have hsg := sign_spec f.k hsk
    generalize sgn f.k = sg at *
    refine ACall.walk [0, 1, 2, 3, 4, 8, 9, 10, 11, 14, 32, 50, 62, 86] [] Tryz.func86 rfl Tryz.ntmps86 (by kernel_rfl) (by rfl) rfl fun W own I0 φ0 lay => ?_
    refine AP.rename 0 1 rfl rfl rfl ?_; refine sI ?_
    refine gO ?_
    simp only [go_sem, Nat.reduceAdd, Nat.reduceLeDiff, Nat.reduceSub, Int.reduceToNat, reduceCtorEq, hb]
    refine gO ?_
    refine AQ.fn (by kernel_rfl) rfl rfl rfl (hsg) rfl ?_
    refine gO ?_
    have hge := tmsW_ge ns f.ts
    have hgs := fun n2 => fmsW_ge tk n2 f.ps
    have hWl := congrArg List.length he
    simp only [List.length_cons, List.length_append] at hWl
    refine AQ.append (hnb := rfl) (rows := stR o) (es := 0) (by kernel_rfl) rfl rfl rfl (by rfl) Tryz.tk67 Tryz.sz9 (by show Option.map _ (zro Tryz.prog 9) = _; rw [Tryz.zr9]; rfl) Tryz.by9 (by first | rfl | (simp only [stR_len, List.length_cons, List.length_nil]; done) | (simp only [stR_len, List.length_cons, List.length_nil]; omega)) (by simp only [stR_len, List.length_cons, List.length_nil]; omega) (by simp only [stR_len, List.length_cons, List.length_nil]; omega) ?_
    refine sE @stR_len ?_
    refine gO ?_
    rw [stR_snc, show o.length + 1 = (o ++ [sg]).length by simp]
    refine AP.loop rfl (α := Nat × List Nm) (fun s => [(1, .im (.sl 1 (stR tk))), (2, .im (.sl 1 (stR ns))), (3, rwV 1 s.2), (4, .im (fmP f)), (9, Iv s.1)]) (fun s => rwH 1 s.2) (fun s => s.1 ≤ f.ts.length ∧ s.2 = o ++ [sg] ++ tmsW ns (f.ts.take s.1)) (fun s => f.ts.length - s.1) (0, o ++ [sg]) ⟨by omega, by simp [tmsW]⟩ (sU) rfl fun s ⟨hk, hs⟩ => ?_
    obtain ⟨k, s⟩ := s
    simp only at hk hs ⊢
    rcases Nat.eq_or_lt_of_le hk with hke | hlt
    · rw [hke, List.take_length] at hs
      have hsl : s.length = o.length + 1 + (tmsW ns f.ts).length := by rw [hs]; simp; omega
      refine gE @tmR_len ?_
      refine cF ?_
      refine gO ?_
      obtain ⟨ns2, hns2⟩ : ∃ n2, n2 = if f.k = 7 ∨ f.k = 8 then ns ++ [vN (vnum tk ns)] else ns := ⟨_, rfl⟩
      obtain ⟨o3, ho3⟩ : ∃ o3, o3 = if f.k = 7 ∨ f.k = 8 then s ++ [vN (vnum tk ns)] else s := ⟨_, rfl⟩
      have hfin : o3 ++ fmsW tk ns2 f.ps = o ++ W1 := by
        rw [he, ho3, hns2, hs, psW]
        split <;> simp
      have hnl : ns2.length = ns.length + bnd f ∧ ns2.length ≤ ns.length + 1 := by
        rw [hns2, bnd]
        split <;> simp
      rw [← hnl.1] at hwp
      have hfl := congrArg List.length hfin
      simp only [List.length_append] at hfl
      refine AP.cut (α := Unit) (fun _ => [(1, .im (.sl 1 (stR tk))), (2, .im (.sl 1 (stR ns2))), (3, rwV 1 o3), (4, .im (fmP f))]) (fun _ => rwH 1 o3) (fun _ => True) ?_ fun _ _ => ?_
      · refine AP.cond rfl rfl (fun h => ?_) (fun h => ?_)
        · have h : f.k = 7 ∨ f.k = 8 := by simpa using h
          rw [if_pos h] at hns2 ho3
          subst hns2 ho3
          refine gO ?_
          refine AP.loop rfl (α := Nat) (fun j => [(1, .im (.sl 1 (stR tk))), (2, .im (.sl 1 (stR ns))), (3, rwV 1 s), (4, .im (fmP f)), (10, Iv j)]) (fun _ => rwH 1 s) (fun j => ∀ i, i < j → frV tk ns i = false) (fun j => 2000001 - j) 0 (by intro i hi; omega) (sU) rfl fun j hj => ?_
          have hkb := vnum_lt hj
          have hit := itoa_spec j (by omega)
          have hwj := wr (x := (j : Int) + 1) (by omega)
          have hil := itoa_len j
          have e : (118 :: Lib.itoa (j : Int)) = vN j := rfl
          have hfr : frV tk ns j = (!hasS (vN j) tk && !hasS (vN j) ns) := by rw [frV]
          have ha := has_spec tk (vN j) (by omega)
          have hb2 := has_spec ns (vN j) (by omega)
          refine gO ?_
          refine AQ.fn (by kernel_rfl) rfl rfl rfl (hit) rfl ?_
          refine gO ?_
          simp only [e]
          refine AQ.fn (by kernel_rfl) rfl rfl rfl (ha) rfl ?_
          cases ht : hasS (vN j) tk with
          | true =>
            refine gE @hwj ?_
            exact AE.round (j + 1) (fun i hi => by
              rcases Nat.lt_or_ge i j with h | h
              · exact hj i h
              · have : i = j := by omega
                subst this; rw [hfr, ht]; rfl) (by omega) (sU) rfl
          | false =>
            repeat (first | refine xA ?_ | refine xB ?_ | refine xC ?_ | refine xE ?_ | refine xD ?_ | refine xK ?_ | refine xS ?_ | refine xM ?_ | refine xT ?_ | refine xF ?_ | ((first | refine xR ?_ | refine xW ?_ | refine vq_id ?_); simp only [go_sem, Nat.reduceAdd, Nat.reduceLeDiff, Nat.reduceSub, Int.reduceToNat, reduceCtorEq, Bool.not_false]) | (refine ⟨by first | omega | (intros; simp_all; done) | (intros; simp_all; omega), ?_⟩; try simp only [go_sem, Nat.reduceAdd, Nat.reduceLeDiff, Nat.reduceSub, Int.reduceToNat, reduceCtorEq, Bool.not_false]))
            refine AQ.guard_yes (by simp only [go_sem]) ?_
            refine AQ.fn (by kernel_rfl) rfl rfl rfl (hit) rfl ?_
            refine gO ?_
            simp only [e]
            refine AQ.guard_yes (by simp only [go_sem]) ?_
            refine AQ.fn (by kernel_rfl) rfl rfl rfl (hb2) rfl ?_
            cases h2 : hasS (vN j) ns with
            | true =>
              refine gE @hwj ?_
              exact AE.round (j + 1) (fun i hi => by
                rcases Nat.lt_or_ge i j with h | h
                · exact hj i h
                · have : i = j := by omega
                  subst this; rw [hfr, ht, h2]; rfl) (by omega) (sU) rfl
            | false =>
              have hvn : vnum tk ns = j := vnum_eq (by rw [hfr, ht, h2]; rfl) hj
              rw [hvn]
              rw [hvn] at hfin hnl hfl
              clear hj hfr ht h2 ha hb2 hwj
              have hrow := stR_get (ns ++ [vN j]) ns.length (by simp)
              have hlast : (ns ++ [vN j]).getD ns.length [] = vN j := by simp [List.getD_eq_getElem?_getD]
              rw [hlast] at hrow
              have w3 := wr (x := ((ns.length + 1 : Nat) : Int) - 1) (by omega)
              refine gO ?_
              refine AQ.append (hnb := rfl) (rows := []) (es := 0) (by kernel_rfl) rfl rfl rfl (by rfl) Tryz.tk67 Tryz.sz9 (by show Option.map _ (zro Tryz.prog 9) = _; rw [Tryz.zr9]; rfl) Tryz.by9 (by first | rfl | (simp only [stR_len, List.length_cons, List.length_nil]; done) | (simp only [stR_len, List.length_cons, List.length_nil]; omega)) (by simp only [stR_len, List.length_cons, List.length_nil]; omega) (by simp only [stR_len, List.length_cons, List.length_nil]; omega) ?_
              simp only [go_sem, Nat.reduceAdd, Nat.reduceLeDiff, Nat.reduceSub, Int.reduceToNat, reduceCtorEq, List.nil_append, stR_len, List.length_nil, Nat.zero_add]
              refine gO ?_
              refine AQ.fn (by kernel_rfl) rfl rfl rfl (hit) rfl ?_
              refine gO ?_
              simp only [e]
              have hw4 : IntKind.i64.wrap (((ns.length + 1 : Nat) : Int) - 1) = (ns.length : Int) := by rw [w3]; omega
              have hrow2 : (stR ns ++ [[IV.v (Value.string (BA (vN j)))]]).getD ns.length [] = [Si (vN j)] := by rw [stR_snc]; exact hrow
              have hlen2 : (stR ns ++ [[IV.v (Value.string (BA (vN j)))]]).length = ns.length + 1 := by rw [stR_snc, stR_len]; simp
              refine AQ.append (hnb := rfl) (rows := stR ns) (es := 0) (by kernel_rfl) rfl rfl rfl (by rfl) Tryz.tk67 Tryz.sz9 (by show Option.map _ (zro Tryz.prog 9) = _; rw [Tryz.zr9]; rfl) Tryz.by9 (by first | rfl | (simp only [stR_len, List.length_cons, List.length_nil]; done) | (simp only [stR_len, List.length_cons, List.length_nil]; omega)) (by simp only [stR_len, List.length_cons, List.length_nil]; omega) (by simp only [stR_len, List.length_cons, List.length_nil]; omega) ?_
              refine sE (an @stR_len (an @hw4 (an @Int.toNat_natCast (an @hrow2 @hlen2)))) ?_
              refine gE (an @stR_len (an @hw4 (an @Int.toNat_natCast (an @hrow2 @hlen2)))) ?_
              dsimp only [rwH, rwV]
              refine AQ.append (hnb := rfl) (rows := stR s) (es := 0) (by kernel_rfl) rfl rfl rfl (by rfl) Tryz.tk67 Tryz.sz9 (by show Option.map _ (zro Tryz.prog 9) = _; rw [Tryz.zr9]; rfl) Tryz.by9 (by first | rfl | (simp only [stR_len, List.length_cons, List.length_nil]; done) | (simp only [stR_len, List.length_cons, List.length_nil]; omega)) (by simp only [stR_len, List.length_cons, List.length_nil]; omega) (by simp only [stR_len, List.length_cons, List.length_nil]; omega) ?_
              refine sE @stR_len ?_
              refine gO ?_
              rw [stR_snc, stR_snc, show s.length + 1 = (s ++ [vN j]).length by simp]
              refine AE.freeze 2 (el := 9) (es := 1) (rows := stR (ns ++ [vN j])) rfl (by simp only [go_sem, Nat.reduceAdd, Nat.reduceLeDiff, Nat.reduceSub, Int.reduceToNat, reduceCtorEq, stR_len, List.length_append, List.length_cons, List.length_nil]; first | done | trivial | omega | (simp; done) | (simp; omega)) (by simp only [go_sem, Nat.reduceAdd, Nat.reduceLeDiff, Nat.reduceSub, Int.reduceToNat, reduceCtorEq, stR_len, List.length_append, List.length_cons, List.length_nil]; first | done | trivial | omega | (simp; done) | (simp; omega)) ?_; simp only [go_sem, Nat.reduceAdd, Nat.reduceLeDiff, Nat.reduceSub, Int.reduceToNat, reduceCtorEq, stR_len, List.length_append, List.length_cons, List.length_nil]
              rw [show List.take (ns.length + 1) (stR (ns ++ [vN j])) = stR (ns ++ [vN j]) from List.take_of_length_le (by rw [stR_len]; simp)]
              rw [show s.length + 1 = (s ++ [vN j]).length by simp]
              exact AE.meet () trivial (sU) rfl
        · have h : ¬ (f.k = 7 ∨ f.k = 8) := by simpa using h
          rw [if_neg h] at hns2 ho3
          subst hns2 ho3
          refine gO ?_
          exact AE.meet () trivial (sU) rfl
      clear hns2 ho3 hs he hsl
      have hpl := hgs ns2
      refine gO ?_
      refine AP.loop rfl (α := Nat × List Nm) (fun s => [(1, .im (.sl 1 (stR tk))), (2, .im (.sl 1 (stR ns2))), (3, rwV 1 s.2), (4, .im (fmP f)), (11, Iv s.1)]) (fun s => rwH 1 s.2) (fun s => s.1 ≤ f.ps.length ∧ s.2 = o3 ++ fmsW tk ns2 (f.ps.take s.1)) (fun s => f.ps.length - s.1) (0, o3) ⟨by omega, by simp [fmsW]⟩ (sU) rfl fun s ⟨hk, hs⟩ => ?_
      obtain ⟨k, s⟩ := s
      simp only at hk hs ⊢
      rcases Nat.eq_or_lt_of_le hk with hke | hlt
      · rw [hke, List.take_length, hfin] at hs
        subst hs
        refine gE @fmR_len ?_
        refine cF ?_
        refine gO ?_
        exact AE.ret rfl ⟨rfl, trivial⟩ ⟨rfl, rfl⟩
      · obtain ⟨u, hu, hrow⟩ := fmR_get f.ps k hlt
        have hwr := wr (x := (k : Int) + 1) (by omega)
        have hsn := fmsW_snc tk ns2 hu
        have htl := fmsW_take tk ns2 f.ps (k + 1)
        have hi := ih k u ns2 s hu hnl.2 (wFs_get hwp hu) (by rw [hsn, List.length_append] at htl; rw [hs]; simp; omega)
        refine gE @fmR_len ?_
        refine cT ?_
        refine gE (an @hrow @fmR_len) ?_
        refine AQ.callH [(0, 1)] (by kernel_rfl) rfl rfl rfl rfl rfl rfl (by exact ⟨rfl, trivial⟩) rfl hi ?_
        rintro r H' ⟨rfl, rfl⟩
        refine ⟨rfl, ?_⟩
        refine sH ?_
        refine AQ.rename 3 1 rfl rfl rfl ?_; refine sI ?_
        refine gE @hwr ?_
        exact AE.round (k + 1, s ++ fmW tk ns2 u) ⟨by simp only; omega, by simp only; rw [hs, hsn, List.append_assoc]⟩ (by simp only; omega) (sU) rfl
    · obtain ⟨u, hu, hrow⟩ := tmR_get f.ts k hlt
      have hwr := wr (x := (k : Int) + 1) (by omega)
      have hsn := tmsW_snc ns hu
      have htl : (tmsW ns (f.ts.take (k + 1))).length ≤ (tmsW ns f.ts).length := by
        have := congrArg (tmsW ns) (List.take_append_drop (k + 1) f.ts)
        rw [tmsW_app] at this
        rw [← this, List.length_append]; omega
      have hi := ttext_spec ns u s (wTs_get hwt hu) (by rw [hsn, List.length_append] at htl; rw [hs]; simp; omega) (by omega)
      refine gE @tmR_len ?_
      refine cT ?_
      refine gE (an @hrow @tmR_len) ?_
      refine AQ.callH [(0, 1)] (by kernel_rfl) rfl rfl rfl rfl rfl rfl (by exact ⟨rfl, trivial⟩) rfl hi ?_
      rintro r H' ⟨rfl, rfl⟩
      refine ⟨rfl, ?_⟩
      refine sH ?_
      refine AQ.rename 3 1 rfl rfl rfl ?_; refine sI ?_
      refine gE @hwr ?_
      exact AE.round (k + 1, s ++ tmW ns u) ⟨by simp only; omega, by simp only; rw [hs, hsn, List.append_assoc]⟩ (by simp only; omega) (sU) rfl
end Go.Proofs.YteacpafhmgdbkaaGreatDoor
end

section
namespace Go.Proofs.YteacpafhmgdbkaaGreatDoor
open Go Go.AL Go.RowKit
set_option maxRecDepth 10000
set_option maxHeartbeats 4000000
theorem ftext_spec (tk ns o : List Nm) (f : Fm) (hw : wF f ns.length = 0) (htk : tk.length ≤ 1000000) (hl : o.length + (fmW tk ns f).length ≤ 1000000) (hn : ns.length + szF f ≤ 1000000) :
    ACall Tryz.prog 86 [fmV f, .im (.sl 1 (stR tk)), .im (.sl 1 (stR ns)), rwV 0 o] (rwH 0 o) (fun r H' => r = rwV 1 (o ++ fmW tk ns f) ∧ H' = rwH 1 (o ++ fmW tk ns f)) := by
  have hz := szF_eq f
  exact ftext_walk tk ns o f hw htk hl (by omega) fun k u ns' o' hu hn' hwu hl' => by
    have := szFs_get hu
    exact ftext_spec tk ns' o' u hwu htk hl' (by omega)
termination_by SizeOf.sizeOf f
decreasing_by exact fm_mem hu
theorem frV_congr {tk tk' : List Nm} (h : ∀ s, hasS s tk = hasS s tk') (ns : List Nm) (n : Nat) : frV tk ns n = frV tk' ns n := by rw [frV, frV, h]
theorem vnum_congr {tk tk' : List Nm} (h : ∀ s, hasS s tk = hasS s tk') (ns : List Nm) : vnum tk ns = vnum tk' ns := by
  obtain ⟨n, _, hn⟩ := frV_ex tk' ns
  have key : ∀ m : Nat, frV tk' ns m = true → ∃ m, frV tk' ns m = true ∧ ∀ j, j < m → frV tk' ns j = false := fun m => by
    induction m using Nat.strongRecOn with
    | _ m ih =>
      intro hm
      by_cases hall : ∀ j, j < m → frV tk' ns j = false
      · exact ⟨m, hm, hall⟩
      · obtain ⟨j, hj, hx⟩ : ∃ j, j < m ∧ frV tk' ns j = true := by
          apply Classical.byContradiction
          intro hc
          refine hall fun j hj => ?_
          cases hx : frV tk' ns j with
          | false => rfl
          | true => exact absurd ⟨j, hj, hx⟩ hc
        exact ih j hj hx
  obtain ⟨m, hm, hall⟩ := key n hn
  rw [vnum_eq hm hall]
  exact vnum_eq (by rw [frV_congr h]; exact hm) fun j hj => by rw [frV_congr h]; exact hall j hj
mutual
theorem fmW_congr {tk tk' : List Nm} (h : ∀ s, hasS s tk = hasS s tk') : ∀ (f : Fm) (ns : List Nm), fmW tk ns f = fmW tk' ns f
  | .mk k nm ts ps, ns => by
    rw [fmW, fmW, vnum_congr h ns, fmsW_congr h ps, fmsW_congr h ps]
theorem fmsW_congr {tk tk' : List Nm} (h : ∀ s, hasS s tk = hasS s tk') : ∀ (l : List Fm) (ns : List Nm), fmsW tk ns l = fmsW tk' ns l
  | [], ns => by rw [fmsW, fmsW]
  | f :: l, ns => by rw [fmsW, fmsW, fmW_congr h f ns, fmsW_congr h l ns]
end
end Go.Proofs.YteacpafhmgdbkaaGreatDoor
end

section
namespace Go.Proofs.YteacpafhmgdbkaaGreatDoor
open Go Go.AL Go.RowKit
set_option maxRecDepth 10000
set_option maxHeartbeats 4000000
theorem ftext0_walk (tk ns o : List Nm) (ho : o = []) (f : Fm) (hw : wF f ns.length = 0) (htk : tk.length ≤ 1000000) (hl : o.length + (fmW tk ns f).length ≤ 1000000) (hn : ns.length + 1 ≤ 1000000)
    (ih : ∀ (k : Nat) (u : Fm) (ns' o' : List Nm), f.ps[k]? = some u → ns'.length ≤ ns.length + 1 → wF u ns'.length = 0 → o'.length + (fmW tk ns' u).length ≤ 1000000 → ACall Tryz.prog 86 [fmV u, .im (.sl 1 (stR tk)), .im (.sl 1 (stR ns')), rwV 0 o'] (rwH 0 o') (fun r H' => r = rwV 1 (o' ++ fmW tk ns' u) ∧ H' = rwH 1 (o' ++ fmW tk ns' u))) :
    ACall Tryz.prog 86 [fmV f, .im (.sl 1 (stR tk)), .im (.sl 1 (stR ns)), nilV] [] (fun r H' => r = rwV 1 (o ++ fmW tk ns f) ∧ H' = rwH 1 (o ++ fmW tk ns f)) := by
  have he := fmW_eq tk ns f
  obtain ⟨hsh, hwt, hwp⟩ := wF_parts hw
  have hsk := shp_k hsh
  obtain ⟨W1, hW⟩ : ∃ W1, fmW tk ns f = W1 := ⟨_, rfl⟩
  rw [hW] at hl he ⊢
  by_cases h1 : f.k = 1
  · rw [if_pos h1] at he
    subst he
    have hli := ltext_walk f.nm ns o f.ts (by rw [List.length_cons] at hl; omega) (by omega) fun k u ws hu hl => ttext_spec ns u ws (wTs_get hwt hu) hl (by omega)
    have hb : (f.k == 1) = true := by simpa using h1
    refine ACall.walk [0, 1, 2, 3, 4, 8, 9, 10, 11, 14, 32, 50, 62, 86] [] Tryz.func86 rfl Tryz.ntmps86 (by kernel_rfl) (by rfl) rfl fun W own I0 φ0 lay => ?_
    refine AP.own 3 9 1 rfl ?_
    refine sI ?_
    refine AP.rename 0 1 rfl rfl rfl ?_; refine sI ?_
    rw [show AV.os 1 1 0 0 = rwV 1 o by rw [ho]; rfl, show Ob.vec 9 1 [] = Ob.vec 9 1 (stR o) by rw [ho]; rfl]
    refine gO ?_
    simp only [go_sem, Nat.reduceAdd, Nat.reduceLeDiff, Nat.reduceSub, Int.reduceToNat, reduceCtorEq, hb]
    refine gO ?_
    refine AQ.callH [(0, 1)] (by kernel_rfl) rfl rfl rfl rfl rfl rfl (by exact ⟨rfl, trivial⟩) rfl hli ?_
    rintro r H' ⟨rfl, rfl⟩
    refine ⟨rfl, ?_⟩
    refine sH ?_
    refine AQ.rename 3 1 rfl rfl rfl ?_; refine sI ?_
    refine gO ?_
    exact AE.ret rfl ⟨rfl, trivial⟩ ⟨rfl, rfl⟩
  · rw [if_neg h1] at he
    have hb : (f.k == 1) = false := by simpa using h1
    have hsg := sign_spec f.k hsk
    generalize sgn f.k = sg at *
    refine ACall.walk [0, 1, 2, 3, 4, 8, 9, 10, 11, 14, 32, 50, 62, 86] [] Tryz.func86 rfl Tryz.ntmps86 (by kernel_rfl) (by rfl) rfl fun W own I0 φ0 lay => ?_
    refine AP.own 3 9 1 rfl ?_
    refine sI ?_
    refine AP.rename 0 1 rfl rfl rfl ?_; refine sI ?_
    rw [show AV.os 1 1 0 0 = rwV 1 o by rw [ho]; rfl, show Ob.vec 9 1 [] = Ob.vec 9 1 (stR o) by rw [ho]; rfl]
    refine gO ?_
    simp only [go_sem, Nat.reduceAdd, Nat.reduceLeDiff, Nat.reduceSub, Int.reduceToNat, reduceCtorEq, hb]
    refine gO ?_
    refine AQ.fn (by kernel_rfl) rfl rfl rfl (hsg) rfl ?_
    refine gO ?_
    have hge := tmsW_ge ns f.ts
    have hgs := fun n2 => fmsW_ge tk n2 f.ps
    have hWl := congrArg List.length he
    simp only [List.length_cons, List.length_append] at hWl
    refine AQ.append (hnb := rfl) (rows := stR o) (es := 0) (by kernel_rfl) rfl rfl rfl (by rfl) Tryz.tk67 Tryz.sz9 (by show Option.map _ (zro Tryz.prog 9) = _; rw [Tryz.zr9]; rfl) Tryz.by9 (by first | rfl | (simp only [stR_len, List.length_cons, List.length_nil]; done) | (simp only [stR_len, List.length_cons, List.length_nil]; omega)) (by simp only [stR_len, List.length_cons, List.length_nil]; omega) (by simp only [stR_len, List.length_cons, List.length_nil]; omega) ?_
    refine sE @stR_len ?_
    refine gO ?_
    rw [stR_snc, show o.length + 1 = (o ++ [sg]).length by simp]
    refine AP.loop rfl (α := Nat × List Nm) (fun s => [(1, .im (.sl 1 (stR tk))), (2, .im (.sl 1 (stR ns))), (3, rwV 1 s.2), (4, .im (fmP f)), (9, Iv s.1)]) (fun s => rwH 1 s.2) (fun s => s.1 ≤ f.ts.length ∧ s.2 = o ++ [sg] ++ tmsW ns (f.ts.take s.1)) (fun s => f.ts.length - s.1) (0, o ++ [sg]) ⟨by omega, by simp [tmsW]⟩ (sU) rfl fun s ⟨hk, hs⟩ => ?_
    obtain ⟨k, s⟩ := s
    simp only at hk hs ⊢
    rcases Nat.eq_or_lt_of_le hk with hke | hlt
    · rw [hke, List.take_length] at hs
      have hsl : s.length = o.length + 1 + (tmsW ns f.ts).length := by rw [hs]; simp; omega
      refine gE @tmR_len ?_
      refine cF ?_
      refine gO ?_
      obtain ⟨ns2, hns2⟩ : ∃ n2, n2 = if f.k = 7 ∨ f.k = 8 then ns ++ [vN (vnum tk ns)] else ns := ⟨_, rfl⟩
      obtain ⟨o3, ho3⟩ : ∃ o3, o3 = if f.k = 7 ∨ f.k = 8 then s ++ [vN (vnum tk ns)] else s := ⟨_, rfl⟩
      have hfin : o3 ++ fmsW tk ns2 f.ps = o ++ W1 := by
        rw [he, ho3, hns2, hs, psW]
        split <;> simp
      have hnl : ns2.length = ns.length + bnd f ∧ ns2.length ≤ ns.length + 1 := by
        rw [hns2, bnd]
        split <;> simp
      rw [← hnl.1] at hwp
      have hfl := congrArg List.length hfin
      simp only [List.length_append] at hfl
      refine AP.cut (α := Unit) (fun _ => [(1, .im (.sl 1 (stR tk))), (2, .im (.sl 1 (stR ns2))), (3, rwV 1 o3), (4, .im (fmP f))]) (fun _ => rwH 1 o3) (fun _ => True) ?_ fun _ _ => ?_
      · refine AP.cond rfl rfl (fun h => ?_) (fun h => ?_)
        · have h : f.k = 7 ∨ f.k = 8 := by simpa using h
          rw [if_pos h] at hns2 ho3
          subst hns2 ho3
          refine gO ?_
          refine AP.loop rfl (α := Nat) (fun j => [(1, .im (.sl 1 (stR tk))), (2, .im (.sl 1 (stR ns))), (3, rwV 1 s), (4, .im (fmP f)), (10, Iv j)]) (fun _ => rwH 1 s) (fun j => ∀ i, i < j → frV tk ns i = false) (fun j => 2000001 - j) 0 (by intro i hi; omega) (sU) rfl fun j hj => ?_
          have hkb := vnum_lt hj
          have hit := itoa_spec j (by omega)
          have hwj := wr (x := (j : Int) + 1) (by omega)
          have hil := itoa_len j
          have e : (118 :: Lib.itoa (j : Int)) = vN j := rfl
          have hfr : frV tk ns j = (!hasS (vN j) tk && !hasS (vN j) ns) := by rw [frV]
          have ha := has_spec tk (vN j) (by omega)
          have hb2 := has_spec ns (vN j) (by omega)
          refine gO ?_
          refine AQ.fn (by kernel_rfl) rfl rfl rfl (hit) rfl ?_
          refine gO ?_
          simp only [e]
          refine AQ.fn (by kernel_rfl) rfl rfl rfl (ha) rfl ?_
          cases ht : hasS (vN j) tk with
          | true =>
            refine gE @hwj ?_
            exact AE.round (j + 1) (fun i hi => by
              rcases Nat.lt_or_ge i j with h | h
              · exact hj i h
              · have : i = j := by omega
                subst this; rw [hfr, ht]; rfl) (by omega) (sU) rfl
          | false =>
            repeat (first | refine xA ?_ | refine xB ?_ | refine xC ?_ | refine xE ?_ | refine xD ?_ | refine xK ?_ | refine xS ?_ | refine xM ?_ | refine xT ?_ | refine xF ?_ | ((first | refine xR ?_ | refine xW ?_ | refine vq_id ?_); simp only [go_sem, Nat.reduceAdd, Nat.reduceLeDiff, Nat.reduceSub, Int.reduceToNat, reduceCtorEq, Bool.not_false]) | (refine ⟨by first | omega | (intros; simp_all; done) | (intros; simp_all; omega), ?_⟩; try simp only [go_sem, Nat.reduceAdd, Nat.reduceLeDiff, Nat.reduceSub, Int.reduceToNat, reduceCtorEq, Bool.not_false]))
            refine AQ.guard_yes (by simp only [go_sem]) ?_
            refine AQ.fn (by kernel_rfl) rfl rfl rfl (hit) rfl ?_
            refine gO ?_
            simp only [e]
            refine AQ.guard_yes (by simp only [go_sem]) ?_
            refine AQ.fn (by kernel_rfl) rfl rfl rfl (hb2) rfl ?_
            cases h2 : hasS (vN j) ns with
            | true =>
              refine gE @hwj ?_
              exact AE.round (j + 1) (fun i hi => by
                rcases Nat.lt_or_ge i j with h | h
                · exact hj i h
                · have : i = j := by omega
                  subst this; rw [hfr, ht, h2]; rfl) (by omega) (sU) rfl
            | false =>
              have hvn : vnum tk ns = j := vnum_eq (by rw [hfr, ht, h2]; rfl) hj
              rw [hvn]
              rw [hvn] at hfin hnl hfl
              clear hj hfr ht h2 ha hb2 hwj
              have hrow := stR_get (ns ++ [vN j]) ns.length (by simp)
              have hlast : (ns ++ [vN j]).getD ns.length [] = vN j := by simp [List.getD_eq_getElem?_getD]
              rw [hlast] at hrow
              have w3 := wr (x := ((ns.length + 1 : Nat) : Int) - 1) (by omega)
              refine gO ?_
              refine AQ.append (hnb := rfl) (rows := []) (es := 0) (by kernel_rfl) rfl rfl rfl (by rfl) Tryz.tk67 Tryz.sz9 (by show Option.map _ (zro Tryz.prog 9) = _; rw [Tryz.zr9]; rfl) Tryz.by9 (by first | rfl | (simp only [stR_len, List.length_cons, List.length_nil]; done) | (simp only [stR_len, List.length_cons, List.length_nil]; omega)) (by simp only [stR_len, List.length_cons, List.length_nil]; omega) (by simp only [stR_len, List.length_cons, List.length_nil]; omega) ?_
              simp only [go_sem, Nat.reduceAdd, Nat.reduceLeDiff, Nat.reduceSub, Int.reduceToNat, reduceCtorEq, List.nil_append, stR_len, List.length_nil, Nat.zero_add]
              refine gO ?_
              refine AQ.fn (by kernel_rfl) rfl rfl rfl (hit) rfl ?_
              refine gO ?_
              simp only [e]
              have hw4 : IntKind.i64.wrap (((ns.length + 1 : Nat) : Int) - 1) = (ns.length : Int) := by rw [w3]; omega
              have hrow2 : (stR ns ++ [[IV.v (Value.string (BA (vN j)))]]).getD ns.length [] = [Si (vN j)] := by rw [stR_snc]; exact hrow
              have hlen2 : (stR ns ++ [[IV.v (Value.string (BA (vN j)))]]).length = ns.length + 1 := by rw [stR_snc, stR_len]; simp
              refine AQ.append (hnb := rfl) (rows := stR ns) (es := 0) (by kernel_rfl) rfl rfl rfl (by rfl) Tryz.tk67 Tryz.sz9 (by show Option.map _ (zro Tryz.prog 9) = _; rw [Tryz.zr9]; rfl) Tryz.by9 (by first | rfl | (simp only [stR_len, List.length_cons, List.length_nil]; done) | (simp only [stR_len, List.length_cons, List.length_nil]; omega)) (by simp only [stR_len, List.length_cons, List.length_nil]; omega) (by simp only [stR_len, List.length_cons, List.length_nil]; omega) ?_
              refine sE (an @stR_len (an @hw4 (an @Int.toNat_natCast (an @hrow2 @hlen2)))) ?_
              refine gE (an @stR_len (an @hw4 (an @Int.toNat_natCast (an @hrow2 @hlen2)))) ?_
              dsimp only [rwH, rwV]
              refine AQ.append (hnb := rfl) (rows := stR s) (es := 0) (by kernel_rfl) rfl rfl rfl (by rfl) Tryz.tk67 Tryz.sz9 (by show Option.map _ (zro Tryz.prog 9) = _; rw [Tryz.zr9]; rfl) Tryz.by9 (by first | rfl | (simp only [stR_len, List.length_cons, List.length_nil]; done) | (simp only [stR_len, List.length_cons, List.length_nil]; omega)) (by simp only [stR_len, List.length_cons, List.length_nil]; omega) (by simp only [stR_len, List.length_cons, List.length_nil]; omega) ?_
              refine sE @stR_len ?_
              refine gO ?_
              rw [stR_snc, stR_snc, show s.length + 1 = (s ++ [vN j]).length by simp]
              refine AE.freeze 2 (el := 9) (es := 1) (rows := stR (ns ++ [vN j])) rfl (by simp only [go_sem, Nat.reduceAdd, Nat.reduceLeDiff, Nat.reduceSub, Int.reduceToNat, reduceCtorEq, stR_len, List.length_append, List.length_cons, List.length_nil]; first | done | trivial | omega | (simp; done) | (simp; omega)) (by simp only [go_sem, Nat.reduceAdd, Nat.reduceLeDiff, Nat.reduceSub, Int.reduceToNat, reduceCtorEq, stR_len, List.length_append, List.length_cons, List.length_nil]; first | done | trivial | omega | (simp; done) | (simp; omega)) ?_; simp only [go_sem, Nat.reduceAdd, Nat.reduceLeDiff, Nat.reduceSub, Int.reduceToNat, reduceCtorEq, stR_len, List.length_append, List.length_cons, List.length_nil]
              rw [show List.take (ns.length + 1) (stR (ns ++ [vN j])) = stR (ns ++ [vN j]) from List.take_of_length_le (by rw [stR_len]; simp)]
              rw [show s.length + 1 = (s ++ [vN j]).length by simp]
              exact AE.meet () trivial (sU) rfl
        · have h : ¬ (f.k = 7 ∨ f.k = 8) := by simpa using h
          rw [if_neg h] at hns2 ho3
          subst hns2 ho3
          refine gO ?_
          exact AE.meet () trivial (sU) rfl
      clear hns2 ho3 hs he hsl
      have hpl := hgs ns2
      refine gO ?_
      refine AP.loop rfl (α := Nat × List Nm) (fun s => [(1, .im (.sl 1 (stR tk))), (2, .im (.sl 1 (stR ns2))), (3, rwV 1 s.2), (4, .im (fmP f)), (11, Iv s.1)]) (fun s => rwH 1 s.2) (fun s => s.1 ≤ f.ps.length ∧ s.2 = o3 ++ fmsW tk ns2 (f.ps.take s.1)) (fun s => f.ps.length - s.1) (0, o3) ⟨by omega, by simp [fmsW]⟩ (sU) rfl fun s ⟨hk, hs⟩ => ?_
      obtain ⟨k, s⟩ := s
      simp only at hk hs ⊢
      rcases Nat.eq_or_lt_of_le hk with hke | hlt
      · rw [hke, List.take_length, hfin] at hs
        subst hs
        refine gE @fmR_len ?_
        refine cF ?_
        refine gO ?_
        exact AE.ret rfl ⟨rfl, trivial⟩ ⟨rfl, rfl⟩
      · obtain ⟨u, hu, hrow⟩ := fmR_get f.ps k hlt
        have hwr := wr (x := (k : Int) + 1) (by omega)
        have hsn := fmsW_snc tk ns2 hu
        have htl := fmsW_take tk ns2 f.ps (k + 1)
        have hi := ih k u ns2 s hu hnl.2 (wFs_get hwp hu) (by rw [hsn, List.length_append] at htl; rw [hs]; simp; omega)
        refine gE @fmR_len ?_
        refine cT ?_
        refine gE (an @hrow @fmR_len) ?_
        refine AQ.callH [(0, 1)] (by kernel_rfl) rfl rfl rfl rfl rfl rfl (by exact ⟨rfl, trivial⟩) rfl hi ?_
        rintro r H' ⟨rfl, rfl⟩
        refine ⟨rfl, ?_⟩
        refine sH ?_
        refine AQ.rename 3 1 rfl rfl rfl ?_; refine sI ?_
        refine gE @hwr ?_
        exact AE.round (k + 1, s ++ fmW tk ns2 u) ⟨by simp only; omega, by simp only; rw [hs, hsn, List.append_assoc]⟩ (by simp only; omega) (sU) rfl
    · obtain ⟨u, hu, hrow⟩ := tmR_get f.ts k hlt
      have hwr := wr (x := (k : Int) + 1) (by omega)
      have hsn := tmsW_snc ns hu
      have htl : (tmsW ns (f.ts.take (k + 1))).length ≤ (tmsW ns f.ts).length := by
        have := congrArg (tmsW ns) (List.take_append_drop (k + 1) f.ts)
        rw [tmsW_app] at this
        rw [← this, List.length_append]; omega
      have hi := ttext_spec ns u s (wTs_get hwt hu) (by rw [hsn, List.length_append] at htl; rw [hs]; simp; omega) (by omega)
      refine gE @tmR_len ?_
      refine cT ?_
      refine gE (an @hrow @tmR_len) ?_
      refine AQ.callH [(0, 1)] (by kernel_rfl) rfl rfl rfl rfl rfl rfl (by exact ⟨rfl, trivial⟩) rfl hi ?_
      rintro r H' ⟨rfl, rfl⟩
      refine ⟨rfl, ?_⟩
      refine sH ?_
      refine AQ.rename 3 1 rfl rfl rfl ?_; refine sI ?_
      refine gE @hwr ?_
      exact AE.round (k + 1, s ++ tmW ns u) ⟨by simp only; omega, by simp only; rw [hs, hsn, List.append_assoc]⟩ (by simp only; omega) (sU) rfl
end Go.Proofs.YteacpafhmgdbkaaGreatDoor
end

section
namespace Go.Proofs.YteacpafhmgdbkaaGreatDoor
open Go Go.AL Go.RowKit
set_option maxRecDepth 10000
set_option maxHeartbeats 4000000
theorem ftext0_spec (tk : List Nm) (f : Fm) (hw : wF f 0 = 0) (htk : tk.length ≤ 1000000) (hl : (fmW tk [] f).length ≤ 1000000) (hn : szF f ≤ 1000000) :
    ACall Tryz.prog 86 [fmV f, .im (.sl 1 (stR tk)), nilV, nilV] [] (fun r H' => r = rwV 1 (fmW tk [] f) ∧ H' = rwH 1 (fmW tk [] f)) := by
  have hz := szF_eq f
  have h := ftext0_walk tk [] [] rfl f hw htk (by simpa using hl) (by simp) fun k u ns' o' hu hn' hwu hl' => by
    have := szFs_get hu
    simp only [List.length_nil] at hn'
    exact ftext_spec tk ns' o' u hwu htk hl' (by omega)
  rw [List.nil_append] at h
  exact h.argLe (xs := [fmV f, .im (.sl 1 (stR tk)), nilV, nilV]) (by repeat' (first | with_reducible exact AVle.refl _ | with_reducible exact IVle.refl _ | exact IVle.nil _ | with_reducible exact cellsLe.refl _ | with_reducible exact rowLe.refl _ | with_reducible exact rowsLe.refl _ | refine cellsLe.cons2 ?_ ?_ | refine AVle.agg ?_ | refine AVle.im ?_ | refine IVle.sl ?_ | refine rowsLe.cons ?_ ?_ | refine rowLe.cons ?_ ?_))
theorem has_addK (s : Nm) (tk : List Nm) (n : Nm) : hasS s (addK tk n) = (hasS s tk || n == s) := by
  have h2 : ∀ l : List Nm, hasS s (l ++ [n]) = (hasS s l || n == s) := fun l => by simp [hasS]
  unfold addK
  split
  · rename_i h
    by_cases hn : n = s
    · subst hn
      have : hasS n tk = true := by simpa using h
      rw [this]; rfl
    · have : (n == s) = false := by simpa using hn
      rw [this, Bool.or_false]
  · exact h2 tk
mutual
theorem has_tkT (s : Nm) : ∀ (t : Tm) (tk : List Nm), hasS s (tkT t tk) = (hasS s tk || ocT s t)
  | .mk n i xs, tk => by
    rw [tkT, has_tkTs s xs, ocT]
    cases hc : (!(n == []) && (xs.length : Int) == 0) with
    | true => rw [if_pos rfl, has_addK, Bool.true_and, Bool.or_assoc]
    | false => rw [if_neg (by simp), Bool.false_and, Bool.false_or]
theorem has_tkTs (s : Nm) : ∀ (l : List Tm) (tk : List Nm), hasS s (tkTs l tk) = (hasS s tk || ocTs s l)
  | [], tk => by rw [tkTs, ocTs, Bool.or_false]
  | t :: l, tk => by rw [tkTs, has_tkTs s l, has_tkT s t, ocTs, Bool.or_assoc]
end
mutual
theorem has_tkF (s : Nm) : ∀ (f : Fm) (tk : List Nm), hasS s (tkF f tk) = (hasS s tk || ocF s f)
  | .mk k n ts ps, tk => by rw [tkF, has_tkFs s ps, has_tkTs s ts, ocF, Bool.or_assoc]
theorem has_tkFs (s : Nm) : ∀ (l : List Fm) (tk : List Nm), hasS s (tkFs l tk) = (hasS s tk || ocFs s l)
  | [], tk => by rw [tkFs, ocFs, Bool.or_false]
  | t :: l, tk => by rw [tkFs, has_tkFs s l, has_tkF s t, ocFs, Bool.or_assoc]
end
theorem wd_free (f : Fm) : fmW (freeL f) [] f = wdF f := fmW_congr (fun s => by rw [has_free, has_tkF]; simp [hasS]) f []
end Go.Proofs.YteacpafhmgdbkaaGreatDoor
end

section
namespace Go.Proofs.YteacpafhmgdbkaaGreatDoor
open Go Go.AL Go.RowKit
set_option maxRecDepth 10000
set_option maxHeartbeats 4000000
def At (L : List Tok) (i : Nat) (ws : List Nm) : Prop := ∀ j, j < ws.length → tkS L (i + j) = ws.getD j []
theorem At.app {L : List Tok} {i : Nat} {a b : List Nm} (h : At L i (a ++ b)) : At L i a ∧ At L (i + a.length) b := by
  refine ⟨fun j hj => ?_, fun j hj => ?_⟩
  · rw [h j (by rw [List.length_append]; omega), List.getD_eq_getElem?_getD, List.getD_eq_getElem?_getD, List.getElem?_append_left hj]
  · rw [Nat.add_assoc, h (a.length + j) (by rw [List.length_append]; omega), List.getD_eq_getElem?_getD, List.getD_eq_getElem?_getD, List.getElem?_append_right (by omega), Nat.add_sub_cancel_left]
theorem At.cons {L : List Tok} {i : Nat} {a : Nm} {b : List Nm} (h : At L i (a :: b)) : tkS L i = a ∧ At L (i + 1) b := by
  refine ⟨h 0 (by simp), fun j hj => ?_⟩
  have := h (j + 1) (by simp; omega)
  rw [Nat.add_assoc, Nat.add_comm 1 j, this]; rfl
theorem sgn_cases {k : Int} (h : 2 ≤ k ∧ k ≤ 8) : k = 2 ∨ k = 3 ∨ k = 4 ∨ k = 5 ∨ k = 6 ∨ k = 7 ∨ k = 8 := by omega
theorem sgK_sgn {k : Int} (h : 2 ≤ k ∧ k ≤ 8) : sgK (sgn k) = k := by
  rcases sgn_cases h with h | h | h | h | h | h | h <;> subst h <;> rfl
end Go.Proofs.YteacpafhmgdbkaaGreatDoor
end

section
namespace Go.Proofs.YteacpafhmgdbkaaGreatDoor
open Go Go.AL Go.RowKit
set_option maxRecDepth 10000
set_option maxHeartbeats 4000000
def pN {α : Type} (p : Nat → PR α) : Nat → Nat → PR (List α)
  | 0, i => .ok [] i
  | n + 1, i => match p i with
    | .bad j => .bad j
    | .ok x j => match pN p n j with
      | .bad k => .bad k
      | .ok l k => .ok (x :: l) k
def contF (L : List Tok) (ns : List Nm) (f : Nat) (k : Int) (ts : List Tm) (acc : List Fm) (n i : Nat) : PR Fm := match pN (pF L f ns) n i with
  | .bad j => .bad j
  | .ok l j => .ok (.mk k [] ts (acc ++ l)) j
def contT (L : List Tok) (ns : List Nm) (f : Nat) (k : Int) (m : Nat) (acc : List Tm) (n i : Nat) : PR Fm := match pN (pT L ns f) n i with
  | .bad j => .bad j
  | .ok l j => contF L ns f k (acc ++ l) [] m j
theorem contT_zero {L : List Tok} {ns : List Nm} {f : Nat} {k : Int} {m : Nat} {acc : List Tm} {i : Nat} : contT L ns f k m acc 0 i = contF L ns f k acc [] m i := by
  rw [contT, pN]; simp
theorem contT_bad {L : List Tok} {ns : List Nm} {f : Nat} {k : Int} {m : Nat} {acc : List Tm} {n i j : Nat} (h : pT L ns f i = .bad j) : contT L ns f k m acc (n + 1) i = .bad j := by
  rw [contT, pN, h]
theorem contT_ok {L : List Tok} {ns : List Nm} {f : Nat} {k : Int} {m : Nat} {acc : List Tm} {n i j : Nat} {t : Tm} (h : pT L ns f i = .ok t j) : contT L ns f k m acc (n + 1) i = contT L ns f k m (acc ++ [t]) n j := by
  rw [contT, contT, pN, h]
  simp only
  cases pN (pT L ns f) n j with
  | bad k => rfl
  | ok l k => simp
theorem contF_zero {L : List Tok} {ns : List Nm} {f : Nat} {k : Int} {ts : List Tm} {acc : List Fm} {i : Nat} : contF L ns f k ts acc 0 i = .ok (.mk k [] ts acc) i := by
  rw [contF, pN]; simp
theorem contF_bad {L : List Tok} {ns : List Nm} {f : Nat} {k : Int} {ts : List Tm} {acc : List Fm} {n i j : Nat} (h : pF L f ns i = .bad j) : contF L ns f k ts acc (n + 1) i = .bad j := by
  rw [contF, pN, h]
theorem contF_ok {L : List Tok} {ns : List Nm} {f : Nat} {k : Int} {ts : List Tm} {acc : List Fm} {n i j : Nat} {t : Fm} (h : pF L f ns i = .ok t j) : contF L ns f k ts acc (n + 1) i = contF L ns f k ts (acc ++ [t]) n j := by
  rw [contF, contF, pN, h]
  simp only
  cases pN (pF L f ns) n j with
  | bad k => rfl
  | ok l k => simp
theorem pF_two {L : List Tok} {ns : List Nm} {f i : Nat} (h : sgK (tkS L i) = 2) : pF L (f + 1) ns i = contT L ns f 2 0 [] 2 (i + 1) := by
  rw [pF, h, if_neg (by decide), if_pos rfl]
  cases h1 : pT L ns f (i + 1) with
  | bad j => rw [contT_bad h1]
  | ok a j =>
    rw [contT_ok h1]
    simp only
    cases h2 : pT L ns f j with
    | bad k => rw [contT_bad h2]
    | ok b k => rw [contT_ok h2, contT_zero, contF_zero]; rfl
theorem pF_three {L : List Tok} {ns : List Nm} {f i : Nat} (h : sgK (tkS L i) = 3) : pF L (f + 1) ns i = contT L ns f 3 0 [] 0 (i + 1) := by
  rw [pF, h, if_neg (by decide), if_neg (by decide), if_pos rfl, contT_zero, contF_zero]
theorem pF_four {L : List Tok} {ns : List Nm} {f i : Nat} {k : Int} (h : sgK (tkS L i) = k) (hk : k = 4 ∨ k = 5 ∨ k = 6) : pF L (f + 1) ns i = contT L ns f k 2 [] 0 (i + 1) := by
  rw [pF, h, if_neg (by omega), if_neg (by omega), if_neg (by omega), if_neg (by omega), contT_zero]
  cases h1 : pF L f ns (i + 1) with
  | bad j => rw [contF_bad h1]
  | ok a j =>
    rw [contF_ok h1]
    simp only
    cases h2 : pF L f ns j with
    | bad k => rw [contF_bad h2]
    | ok b k => rw [contF_ok h2, contF_zero]; rfl
theorem pF_seven {L : List Tok} {ns : List Nm} {f i : Nat} {k : Int} (h : sgK (tkS L i) = k) (hk : k = 7 ∨ k = 8) (hn : isNm (tkS L (i + 1)) = true) : pF L (f + 1) ns i = contT L (ns ++ [tkS L (i + 1)]) f k 1 [] 0 (i + 2) := by
  rw [pF, h, if_neg (by omega), if_neg (by omega), if_neg (by omega), if_pos hk, if_neg (by rw [hn]; simp), contT_zero]
  cases h1 : pF L f (ns ++ [tkS L (i + 1)]) (i + 2) with
  | bad j => rw [contF_bad h1]
  | ok a j => rw [contF_ok h1, contF_zero]; rfl
theorem pF_sevenN {L : List Tok} {ns : List Nm} {f i : Nat} {k : Int} (h : sgK (tkS L i) = k) (hk : k = 7 ∨ k = 8) (hn : isNm (tkS L (i + 1)) = false) : pF L (f + 1) ns i = .bad (i + 1) := by
  rw [pF, h, if_neg (by omega), if_neg (by omega), if_neg (by omega), if_pos hk, if_pos hn]
theorem sgK_eq {s : Nm} {k : Int} (h : 2 ≤ k ∧ k ≤ 8) : (s == sgn k) = decide (sgK s = k) := by
  rw [Bool.eq_iff_iff]
  simp only [beq_iff_eq, decide_eq_true_eq]
  constructor
  · rintro rfl; exact sgK_sgn h
  · intro e
    unfold sgK at e
    repeat' split at e
    all_goals first | omega | (subst e; assumption) | (rename_i h; rw [h, ← e]; rfl)
end Go.Proofs.YteacpafhmgdbkaaGreatDoor
end

section
namespace Go.Proofs.YteacpafhmgdbkaaGreatDoor
open Go Go.AL Go.RowKit
set_option maxRecDepth 10000
set_option maxHeartbeats 4000000
def kUp (K : Int) (k : Nat) : Int := if 2 ≤ K ∧ K < k then K else 1
theorem kUp_succ {K : Int} {k : Nat} : kUp K (k + 1) = if K = k ∧ 2 ≤ k then (k : Int) else kUp K k := by
  unfold kUp
  by_cases h : K = k ∧ 2 ≤ k
  · rw [if_pos h, if_pos (by omega)]; exact h.1
  · rw [if_neg h]
    by_cases h2 : 2 ≤ K ∧ K < k
    · rw [if_pos h2, if_pos (by omega)]
    · rw [if_neg h2, if_neg (by omega)]
abbrev pfH (L : List Tok) (j : Nat) (b : Bool) : Heap := [(2, .var 40 [Iv 0, Sv [], nilV, nilV]), (1, .var 157 [nilV, Iv 0, Bv false]), (0, .var 157 [.im (.sl 2 (tokRows L)), Iv j, Bv b])]
theorem pform_walk (L : List Tok) (ns : List Nm) (hL : tkOk L) (hn : ns.length ≤ 900000) (f i : Nat) (hi : i ≤ L.length) (hf : 2 * (L.length - i) + 1 ≤ f + 1)
    (ih : ∀ (ns' : List Nm) i', ns'.length ≤ ns.length + 1 → i < i' → i' ≤ L.length → 2 * (L.length - i') + 1 ≤ f → ACall Tryz.prog 92 [pV L i' false, .im (.sl 1 (stR ns'))] [] (RfR fmV (pF L f ns' i') L)) :
    ACall Tryz.prog 92 [pV L i false, .im (.sl 1 (stR ns))] [] (RfR fmV (pF L (f + 1) ns i) L) := by
  have hl := hL.1
  have hnm := pname_spec L i (by omega) hL
  refine ACall.walk [0, 1, 2, 4, 5, 6, 7, 8, 9, 10, 11, 12, 13, 14, 15, 16, 17, 18, 28, 33, 39, 44, 53, 67, 68, 70, 74, 96, 119] [2, 4, 5, 8, 11, 14, 15, 17, 18] Tryz.func92 rfl Tryz.ntmps92 (by kernel_rfl) (by rfl) rfl fun W own I0 φ0 lay => ?_
  rcases Nat.lt_or_ge i L.length with hlt | hge
  · have hd : decide ((L.length : Int) ≤ i) = false := by simp; omega
    have hw := wr (x := (i : Int) + 1) (by omega)
    obtain ⟨K, hK⟩ : ∃ K, sgK (tkS L i) = K := ⟨_, rfl⟩
    have hKb : 1 ≤ K ∧ K ≤ 8 := by rw [← hK]; unfold sgK; repeat' split <;> omega
    refine gE @hd ?_
    refine AP.loop rfl (α := Nat) (fun k => [(1, .im (.sl 1 (stR ns))), (2, .ob 0 0), (4, .ob 1 0), (5, .ob 2 0), (6, Iv (kUp K k)), (7, Iv k)]) (fun _ => pfH L i false) (fun k => 2 ≤ k ∧ k ≤ 9) (fun k => 9 - k) 2 ⟨by omega, by omega⟩ (by rw [show kUp K 2 = 1 by unfold kUp; rw [if_neg (by omega)]]; exact (sU)) rfl fun k ⟨hk1, hk2⟩ => ?_
    have hwk := wr (x := (k : Int) + 1) (by omega)
    rcases Nat.eq_or_lt_of_le hk2 with hke | hk9
    · subst hke
      have hkk : kUp K 9 = K := by unfold kUp; split <;> omega
      rw [hkk]
      refine gO ?_
      refine AP.cond rfl rfl (fun h1 => ?_) (fun h1 => ?_)
      · have h1 : K = 1 := by simpa using h1
        subst h1
        unfold pnV at hnm
        by_cases hs : isNm (tkS L i) = true
        · rw [if_pos hs] at hnm
          have hnf : ¬ isNm (tkS L i) = false := by rw [hs]; simp
          have hpl := plist_walk L ns hL (by omega) f (i + 1) (by omega) (by omega) fun f' i' h1 h2 h3 h4 => pterm_spec L ns hL (by omega) f' i' h3 h4
          refine gO ?_
          refine AQ.fn (by kernel_rfl) rfl rfl rfl (hnm) rfl ?_
          refine gO ?_
          refine AQ.callv (by kernel_rfl) rfl rfl rfl hpl ?_
          rintro r H' ⟨rfl, l, j, hq⟩
          have hone : ∃ b, r = .tup [pV L j b, tlV l] ∧ ((b = false ∧ pL L ns f (i + 1) = .ok l j) ∨ (b = true ∧ pL L ns f (i + 1) = .bad j)) := by
            rcases hq with ⟨h1, h2⟩ | ⟨h1, h2⟩
            · exact ⟨false, h2, .inl ⟨rfl, h1⟩⟩
            · exact ⟨true, h2, .inr ⟨rfl, h1⟩⟩
          clear hq
          obtain ⟨b, rfl, hq⟩ := hone
          refine sI ?_
          refine gO ?_
          refine AP.drawE 4 (Tree.node [] [0, 1] [2] [Tree.node [1] [] [3] [Tree.node [] [] [] []]]) (by kernel_rfl) rfl (by kernel_rfl) (by kernel_rfl) ?_
          refine vd_node ?_
          refine sI ?_
          repeat' (first | with_reducible exact True.intro | with_reducible refine And.intro (by omega) ?_ | with_reducible refine And.intro ?_ ?_ | (refine AQ.nx rfl ?_; refine sI ?_) | (fail) | refine AQ.done ?_ | (refine AQ.go (by kernel_rfl) ?_; refine sI ?_; repeat (with_reducible refine And.intro (by omega) ?_); refine AQ.nx rfl ?_; refine sI ?_))
          all_goals
            refine gO ?_
            refine AE.cellsW 2 [Iv 1, Sv (tkS L i), .im (.sl 3 (tmR l)), .im (.sl 4 [])] rfl (cellsLe.cons (cellsLe.cons (cellsLe.cons (cellsLe.nil (cellsLe.refl _))))) ?_
            refine sI ?_
            refine AE.retD [3, 2, 1, 0] rfl ⟨⟨rfl, Nat.le_of_ble_eq_true (by kernel_rfl)⟩, ⟨rfl, Nat.le_of_ble_eq_true (by kernel_rfl)⟩, trivial⟩ rfl ⟨rfl, .mk 1 (tkS L i) l [], j, ?_⟩
            rcases hq with ⟨rfl, hq⟩ | ⟨rfl, hq⟩
            · exact .inl ⟨by rw [pF, if_pos hK, if_neg hnf, hq], rfl⟩
            · exact .inr ⟨by rw [pF, if_pos hK, if_neg hnf, hq], rfl⟩
        · rw [if_neg hs] at hnm
          have hpF : pF L (f + 1) ns i = .bad i := by rw [pF, if_pos hK, if_pos (by simpa using hs)]
          refine gO ?_
          refine AQ.fn (by kernel_rfl) rfl rfl rfl (hnm) rfl ?_
          refine gO ?_
          refine AP.drawE 4 (Tree.node [] [0, 1] [2] [Tree.node [1] [] [3] [Tree.node [] [] [] []]]) (by kernel_rfl) rfl (by kernel_rfl) (by kernel_rfl) ?_
          refine vd_node ?_
          refine sI ?_
          repeat' (first | with_reducible exact True.intro | with_reducible refine And.intro (by omega) ?_ | with_reducible refine And.intro ?_ ?_ | (refine AQ.nx rfl ?_; refine sI ?_) | (fail) | refine AQ.done ?_ | (refine AQ.go (by kernel_rfl) ?_; refine sI ?_; repeat (with_reducible refine And.intro (by omega) ?_); refine AQ.nx rfl ?_; refine sI ?_))
          all_goals
            refine gO ?_
            refine AE.cellsW 2 [Iv 1, Sv [], .im (.sl 3 []), .im (.sl 4 [])] rfl (cellsLe.cons (cellsLe.cons (cellsLe.nil (cellsLe.nil (cellsLe.refl _))))) ?_
            refine sI ?_
            exact AE.retD [3, 2, 1, 0] rfl ⟨⟨rfl, Nat.le_of_ble_eq_true (by kernel_rfl)⟩, ⟨rfl, Nat.le_of_ble_eq_true (by kernel_rfl)⟩, trivial⟩ rfl ⟨rfl, .mk 1 [] [] [], i, .inr ⟨hpF, rfl⟩⟩
      · have h1 : ¬ K = 1 := by simpa using h1
        obtain ⟨Q, hQ⟩ : ∃ Q, pF L (f + 1) ns i = Q := ⟨_, rfl⟩
        rw [hQ]
        refine gE @hw ?_
        refine AP.cut (α := List Nm × Nat × Nat × Nat × Bool) (fun s => [(1, .im (.sl 1 (stR s.1))), (2, .ob 0 0), (4, .ob 1 0), (5, .ob 2 0), (8, .ob 3 0), (9, Iv s.2.1), (10, Iv s.2.2.1)]) (fun s => [(3, .var 40 [Iv K, Sv [], nilV, nilV]), (2, .var 40 [Iv 0, Sv [], nilV, nilV]), (1, .var 157 [nilV, Iv 0, Bv false]), (0, .var 157 [.im (.sl 2 (tokRows L)), Iv s.2.2.2.1, Bv s.2.2.2.2])])
          (fun s => s.1.length ≤ ns.length + 1 ∧ s.2.1 ≤ 2 ∧ s.2.2.1 ≤ 2 ∧ i < s.2.2.2.1 ∧ s.2.2.2.1 ≤ L.length ∧ ((s.2.2.2.2 = true ∧ Q = .bad s.2.2.2.1) ∨ (s.2.2.2.2 = false ∧ Q = contT L s.1 f K s.2.2.1 [] s.2.1 s.2.2.2.1))) ?_ fun ⟨ns2, nt, np, p, b⟩ ⟨g1, g2, g3, g4, g5, g6⟩ => ?_
        · rcases sgn_cases (k := K) (by omega) with h | h | h | h | h | h | h <;> subst h
          · refine gO ?_
            exact AE.meet (ns, 2, 0, i + 1, false) ⟨by simp, by simp, by simp, by simp, by simp only; omega, .inr ⟨rfl, by rw [← hQ]; exact pF_two hK⟩⟩ (sU) rfl
          · refine gO ?_
            exact AE.meet (ns, 0, 0, i + 1, false) ⟨by simp, by simp, by simp, by simp, by simp only; omega, .inr ⟨rfl, by rw [← hQ]; exact pF_three hK⟩⟩ (sU) rfl
          · refine gO ?_
            exact AE.meet (ns, 0, 2, i + 1, false) ⟨by simp, by simp, by simp, by simp, by simp only; omega, .inr ⟨rfl, by rw [← hQ]; exact pF_four hK (by omega)⟩⟩ (sU) rfl
          · refine gO ?_
            exact AE.meet (ns, 0, 2, i + 1, false) ⟨by simp, by simp, by simp, by simp, by simp only; omega, .inr ⟨rfl, by rw [← hQ]; exact pF_four hK (by omega)⟩⟩ (sU) rfl
          · refine gO ?_
            exact AE.meet (ns, 0, 2, i + 1, false) ⟨by simp, by simp, by simp, by simp, by simp only; omega, .inr ⟨rfl, by rw [← hQ]; exact pF_four hK (by omega)⟩⟩ (sU) rfl
          all_goals
            have hnm2 := pname_spec L (i + 1) (by omega) hL
            unfold pnV at hnm2
            by_cases hs : isNm (tkS L (i + 1)) = true
            · rw [if_pos hs] at hnm2
              have hlt2 : i + 1 < L.length := isNm_in (by rw [hs]; simp)
              have hQ2 := pF_seven (L := L) (ns := ns) (f := f) hK (by omega) hs
              generalize tkS L (i + 1) = s at *
              refine gO ?_
              refine AQ.fn (by kernel_rfl) rfl rfl rfl (hnm2) rfl ?_
              refine gO ?_
              refine AQ.append (hnb := rfl) (rows := []) (es := 0) (by kernel_rfl) rfl rfl rfl (by rfl) Tryz.tk67 Tryz.sz9 (by show Option.map _ (zro Tryz.prog 9) = _; rw [Tryz.zr9]; rfl) Tryz.by9 (by first | rfl | (simp only [stR_len, List.length_cons, List.length_nil]; done) | (simp only [stR_len, List.length_cons, List.length_nil]; omega)) (by simp only [stR_len, List.length_cons, List.length_nil]; omega) (by simp only [stR_len, List.length_cons, List.length_nil]; omega) ?_
              refine sE (an @List.nil_append.{0} @stR_len) ?_
              refine gO ?_
              refine AQ.append (hnb := rfl) (rows := stR ns) (es := 0) (by kernel_rfl) rfl rfl rfl (by rfl) Tryz.tk67 Tryz.sz9 (by show Option.map _ (zro Tryz.prog 9) = _; rw [Tryz.zr9]; rfl) Tryz.by9 (by first | rfl | (simp only [stR_len, List.length_cons, List.length_nil]; done) | (simp only [stR_len, List.length_cons, List.length_nil]; omega)) (by simp only [stR_len, List.length_cons, List.length_nil]; omega) (by simp only [stR_len, List.length_cons, List.length_nil]; omega) ?_
              refine sE @stR_len ?_
              rw [stR_snc]
              refine gO ?_
              refine AE.freeze 5 (el := 9) (es := 1) (rows := stR (ns ++ [s])) rfl (by simp [go_sem, stR_len]) (by simp [go_sem, stR_len]) ?_
              refine sI ?_
              rw [show List.take (ns.length + 1) (stR (ns ++ [s])) = stR (ns ++ [s]) from List.take_of_length_le (by rw [stR_len]; simp)]
              refine AE.forgets [4] rfl ?_
              refine sI ?_
              exact AE.meet (ns ++ [s], 0, 1, i + 2, false) ⟨by simp, by simp, by simp, by simp only; omega, by simp only; omega, .inr ⟨rfl, by rw [← hQ]; exact hQ2⟩⟩ (sU) rfl
            · rw [if_neg hs] at hnm2
              have hQ2 := pF_sevenN (L := L) (ns := ns) (f := f) hK (by omega) (by simpa using hs)
              refine gO ?_
              refine AQ.fn (by kernel_rfl) rfl rfl rfl (hnm2) rfl ?_
              refine gO ?_
              refine AQ.append (hnb := rfl) (rows := []) (es := 0) (by kernel_rfl) rfl rfl rfl (by rfl) Tryz.tk67 Tryz.sz9 (by show Option.map _ (zro Tryz.prog 9) = _; rw [Tryz.zr9]; rfl) Tryz.by9 (by first | rfl | (simp only [stR_len, List.length_cons, List.length_nil]; done) | (simp only [stR_len, List.length_cons, List.length_nil]; omega)) (by simp only [stR_len, List.length_cons, List.length_nil]; omega) (by simp only [stR_len, List.length_cons, List.length_nil]; omega) ?_
              refine sE (an @List.nil_append.{0} @stR_len) ?_
              refine gO ?_
              refine AQ.append (hnb := rfl) (rows := stR ns) (es := 0) (by kernel_rfl) rfl rfl rfl (by rfl) Tryz.tk67 Tryz.sz9 (by show Option.map _ (zro Tryz.prog 9) = _; rw [Tryz.zr9]; rfl) Tryz.by9 (by first | rfl | (simp only [stR_len, List.length_cons, List.length_nil]; done) | (simp only [stR_len, List.length_cons, List.length_nil]; omega)) (by simp only [stR_len, List.length_cons, List.length_nil]; omega) (by simp only [stR_len, List.length_cons, List.length_nil]; omega) ?_
              refine sE @stR_len ?_
              rw [stR_snc]
              refine gO ?_
              refine AE.freeze 5 (el := 9) (es := 1) (rows := stR (ns ++ [[]])) rfl (by simp [go_sem, stR_len]) (by simp [go_sem, stR_len]) ?_
              refine sI ?_
              rw [show List.take (ns.length + 1) (stR (ns ++ [[]])) = stR (ns ++ [[]]) from List.take_of_length_le (by rw [stR_len]; simp)]
              refine AE.forgets [4] rfl ?_
              refine sI ?_
              exact AE.meet (ns ++ [[]], 0, 1, i + 1, true) ⟨by simp, by simp, by simp, by simp only; omega, by simp only; omega, .inl ⟨rfl, by rw [← hQ]; exact hQ2⟩⟩ (sU) rfl
        · clear hnm
          refine gO ?_
          refine AP.ownCell 3 2 45 3 rfl rfl ?_
          refine sI ?_
          refine AP.ownCell 3 3 40 4 rfl rfl ?_
          refine sI ?_
          refine AP.loop rfl (α := Nat × List Tm × Nat × Bool) (fun s => [(1, .im (.sl 1 (stR ns2))), (2, .ob 0 0), (4, .ob 1 0), (5, .ob 2 0), (8, .ob 3 0), (9, Iv nt), (10, Iv np), (13, Iv s.1)]) (fun s => [(5, .vec 40 4 []), (4, .vec 45 3 (tmR s.2.1)), (3, .var 40 [Iv K, Sv [], .os 4 3 0 s.2.1.length, .os 5 4 0 0]), (2, .var 40 [Iv 0, Sv [], nilV, nilV]), (1, .var 157 [nilV, Iv 0, Bv false]), (0, .var 157 [.im (.sl 2 (tokRows L)), Iv s.2.2.1, Bv s.2.2.2])])
            (fun s => s.1 ≤ nt ∧ s.2.1.length = s.1 ∧ i < s.2.2.1 ∧ s.2.2.1 ≤ L.length ∧ ((s.2.2.2 = true ∧ Q = .bad s.2.2.1) ∨ (s.2.2.2 = false ∧ Q = contT L ns2 f K np s.2.1 (nt - s.1) s.2.2.1))) (fun s => if s.2.2.2 = true then 0 else nt + 1 - s.1) (0, [], p, b) ⟨by simp, by simp, g4, g5, g6⟩ (sU) rfl fun ⟨c, a, p, b⟩ ⟨k1, k2, k3, k4, k5⟩ => ?_
          clear g4 g5 g6
          simp only at k1 k2 k3 k4 k5 g1 g2 g3 ⊢
          have hwc := wr (x := (c : Int) + 1) (by omega)
          refine gO ?_
          refine AP.cond rfl rfl (fun h2 => ?_) (fun h2 => ?_)
          · simp only [Bool.and_eq_true, decide_eq_true_eq, Bool.not_eq_true'] at h2
            obtain ⟨h2, rfl⟩ := h2
            rcases k5 with ⟨hc, _⟩ | ⟨_, k5⟩
            · cases hc
            have hpt := pterm_spec L ns2 hL (by omega) f p k4 (by omega)
            have hgt := pT_gt (L := L) (ns := ns2) (f := f) k4
            have hnc : nt - c = (nt - (c + 1)) + 1 := by omega
            rw [hnc] at k5
            refine gO ?_
            refine AQ.callv (by kernel_rfl) rfl rfl rfl hpt ?_
            rintro r H' ⟨rfl, u, j, ⟨hj, rfl⟩ | ⟨hj, rfl⟩⟩
            · rw [hj] at hgt
              rw [contT_ok hj] at k5
              refine sI ?_
              refine gO ?_
              refine AQ.kill 4 ?_
              refine sI ?_
              refine AQ.append (hnb := rfl) (rows := tmR a) (es := 2) (by kernel_rfl) rfl rfl rfl (by rfl) Tryz.tk37 Tryz.sz45 (by show Option.map _ (zro Tryz.prog 45) = _; rw [Tryz.zr45]; rfl) Tryz.by45 (by first | rfl | (simp only [tmR_len, List.length_cons, List.length_nil]; done) | (simp only [tmR_len, List.length_cons, List.length_nil]; omega)) (by simp only [tmR_len, List.length_cons, List.length_nil]; omega) (by simp only [tmR_len, List.length_cons, List.length_nil]; omega) ?_
              refine sE @tmR_len ?_
              have e1 : tmR a ++ [[IV.v (Value.string (BA u.nm)), IV.v (Value.int .i64 u.ix), IV.sl 3 (tmR u.xs)]] = tmR (a ++ [u]) := by rw [tmR_map a, tmR_map (a ++ [u]), List.map_append, List.map_cons, List.map_nil, tmC_eq]
              rw [e1]
              refine gE @hwc ?_
              refine AE.forgets [7, 6] rfl ?_
              refine sI ?_
              exact AE.round (c + 1, a ++ [u], j, false) ⟨by simp only; omega, by simp only [List.length_append, List.length_singleton]; omega, by have := hgt.1; simp only; omega, hgt.2, .inr ⟨rfl, k5⟩⟩ (by simp; omega) (sU) (by simp only [List.length_append, List.length_singleton])
            · rw [hj] at hgt
              rw [contT_bad hj] at k5
              refine sI ?_
              refine gO ?_
              refine AQ.kill 4 ?_
              refine sI ?_
              refine AQ.append (hnb := rfl) (rows := tmR a) (es := 2) (by kernel_rfl) rfl rfl rfl (by rfl) Tryz.tk37 Tryz.sz45 (by show Option.map _ (zro Tryz.prog 45) = _; rw [Tryz.zr45]; rfl) Tryz.by45 (by first | rfl | (simp only [tmR_len, List.length_cons, List.length_nil]; done) | (simp only [tmR_len, List.length_cons, List.length_nil]; omega)) (by simp only [tmR_len, List.length_cons, List.length_nil]; omega) (by simp only [tmR_len, List.length_cons, List.length_nil]; omega) ?_
              refine sE @tmR_len ?_
              have e1 : tmR a ++ [[IV.v (Value.string (BA u.nm)), IV.v (Value.int .i64 u.ix), IV.sl 3 (tmR u.xs)]] = tmR (a ++ [u]) := by rw [tmR_map a, tmR_map (a ++ [u]), List.map_append, List.map_cons, List.map_nil, tmC_eq]
              rw [e1]
              refine gE @hwc ?_
              refine AE.forgets [7, 6] rfl ?_
              refine sI ?_
              exact AE.round (c + 1, a ++ [u], j, true) ⟨by simp only; omega, by simp only [List.length_append, List.length_singleton]; omega, by have := hgt.1; simp only; omega, hgt.2, .inl ⟨rfl, k5⟩⟩ (by simp; omega) (sU) (by simp only [List.length_append, List.length_singleton])
          · have k5 : (b = true ∧ Q = .bad p) ∨ (b = false ∧ Q = contF L ns2 f K a [] np p) := by
              rcases k5 with h | ⟨h3, h4⟩
              · exact .inl h
              · subst h3
                simp only [Bool.and_eq_false_iff, decide_eq_false_iff_not, Bool.not_eq_false', Bool.false_eq_true, or_false] at h2
                rw [show nt - c = 0 by omega, contT_zero] at h4
                exact .inr ⟨rfl, h4⟩
            clear h2
            refine gO ?_
            refine AP.loop rfl (α := Nat × List Fm × Nat × Bool) (fun s => [(1, .im (.sl 1 (stR ns2))), (2, .ob 0 0), (4, .ob 1 0), (5, .ob 2 0), (8, .ob 3 0), (10, Iv np), (16, Iv s.1)]) (fun s => [(5, .vec 40 4 (fmR s.2.1)), (4, .vec 45 3 (tmR a)), (3, .var 40 [Iv K, Sv [], .os 4 3 0 a.length, .os 5 4 0 s.2.1.length]), (2, .var 40 [Iv 0, Sv [], nilV, nilV]), (1, .var 157 [nilV, Iv 0, Bv false]), (0, .var 157 [.im (.sl 2 (tokRows L)), Iv s.2.2.1, Bv s.2.2.2])])
              (fun s => s.1 ≤ np ∧ s.2.1.length = s.1 ∧ i < s.2.2.1 ∧ s.2.2.1 ≤ L.length ∧ ((s.2.2.2 = true ∧ Q = .bad s.2.2.1) ∨ (s.2.2.2 = false ∧ Q = contF L ns2 f K a s.2.1 (np - s.1) s.2.2.1))) (fun s => if s.2.2.2 = true then 0 else np + 1 - s.1) (0, [], p, b) ⟨by simp, by simp, k3, k4, k5⟩ (sU) rfl fun ⟨c, a2, p, b⟩ ⟨k1, k2, k3, k4, k5⟩ => ?_
            simp only at k1 k2 k3 k4 k5 ⊢
            have hwc := wr (x := (c : Int) + 1) (by omega)
            refine gO ?_
            refine AP.cond rfl rfl (fun h2 => ?_) (fun h2 => ?_)
            · simp only [Bool.and_eq_true, decide_eq_true_eq, Bool.not_eq_true'] at h2
              obtain ⟨h2, rfl⟩ := h2
              rcases k5 with ⟨hc, _⟩ | ⟨_, k5⟩
              · cases hc
              have hpt := ih ns2 p g1 k3 k4 (by omega)
              have hgt := pF_gt (L := L) (ns := ns2) (f := f) k4
              have hnc : np - c = (np - (c + 1)) + 1 := by omega
              rw [hnc] at k5
              refine gO ?_
              refine AQ.callv (by kernel_rfl) rfl rfl rfl hpt ?_
              rintro r H' ⟨rfl, u, j, ⟨hj, rfl⟩ | ⟨hj, rfl⟩⟩
              · rw [hj] at hgt
                rw [contF_ok hj] at k5
                refine sI ?_
                refine gO ?_
                refine AQ.kill 5 ?_
                refine sI ?_
                refine AQ.append (hnb := rfl) (rows := fmR a2) (es := 3) (by kernel_rfl) rfl rfl rfl (by rfl) Tryz.tk38 Tryz.sz40 (by show Option.map _ (zro Tryz.prog 40) = _; rw [Tryz.zr40]; rfl) Tryz.by40 (by first | rfl | (simp only [fmR_len, List.length_cons, List.length_nil]; done) | (simp only [fmR_len, List.length_cons, List.length_nil]; omega)) (by simp only [fmR_len, List.length_cons, List.length_nil]; omega) (by simp only [fmR_len, List.length_cons, List.length_nil]; omega) ?_
                refine sE @fmR_len ?_
                have e1 : fmR a2 ++ [[IV.v (Value.int .i64 u.k), IV.v (Value.string (BA u.nm)), IV.sl 3 (tmR u.ts), IV.sl 4 (fmR u.ps)]] = fmR (a2 ++ [u]) := by rw [fmR_map a2, fmR_map (a2 ++ [u]), List.map_append, List.map_cons, List.map_nil, fmC_eq]
                rw [e1]
                refine gE @hwc ?_
                refine AE.forgets [7, 6] rfl ?_
                refine sI ?_
                exact AE.round (c + 1, a2 ++ [u], j, false) ⟨by simp only; omega, by simp only [List.length_append, List.length_singleton]; omega, by have := hgt.1; simp only; omega, hgt.2, .inr ⟨rfl, k5⟩⟩ (by simp; omega) (sU) (by simp only [List.length_append, List.length_singleton])
              · rw [hj] at hgt
                rw [contF_bad hj] at k5
                refine sI ?_
                refine gO ?_
                refine AQ.kill 5 ?_
                refine sI ?_
                refine AQ.append (hnb := rfl) (rows := fmR a2) (es := 3) (by kernel_rfl) rfl rfl rfl (by rfl) Tryz.tk38 Tryz.sz40 (by show Option.map _ (zro Tryz.prog 40) = _; rw [Tryz.zr40]; rfl) Tryz.by40 (by first | rfl | (simp only [fmR_len, List.length_cons, List.length_nil]; done) | (simp only [fmR_len, List.length_cons, List.length_nil]; omega)) (by simp only [fmR_len, List.length_cons, List.length_nil]; omega) (by simp only [fmR_len, List.length_cons, List.length_nil]; omega) ?_
                refine sE @fmR_len ?_
                have e1 : fmR a2 ++ [[IV.v (Value.int .i64 u.k), IV.v (Value.string (BA u.nm)), IV.sl 3 (tmR u.ts), IV.sl 4 (fmR u.ps)]] = fmR (a2 ++ [u]) := by rw [fmR_map a2, fmR_map (a2 ++ [u]), List.map_append, List.map_cons, List.map_nil, fmC_eq]
                rw [e1]
                refine gE @hwc ?_
                refine AE.forgets [7, 6] rfl ?_
                refine sI ?_
                exact AE.round (c + 1, a2 ++ [u], j, true) ⟨by simp only; omega, by simp only [List.length_append, List.length_singleton]; omega, by have := hgt.1; simp only; omega, hgt.2, .inl ⟨rfl, k5⟩⟩ (by simp; omega) (sU) (by simp only [List.length_append, List.length_singleton])
            · have k6 : (b = true ∧ Q = .bad p) ∨ (b = false ∧ Q = .ok (.mk K [] a a2) p) := by
                rcases k5 with h | ⟨h3, h4⟩
                · exact .inl h
                · subst h3
                  simp only [Bool.and_eq_false_iff, decide_eq_false_iff_not, Bool.not_eq_false', Bool.false_eq_true, or_false] at h2
                  rw [show np - c = 0 by omega, contF_zero] at h4
                  exact .inr ⟨rfl, h4⟩
              refine gO ?_
              refine AP.freeze 4 (el := 45) (es := 3) (rows := tmR a) rfl (by simp only [go_sem, Nat.reduceAdd, Nat.reduceLeDiff, Nat.reduceSub, Int.reduceToNat, reduceCtorEq, tmR_len]; first | done | trivial | omega | (simp; done) | (simp; omega)) (by simp only [go_sem, Nat.reduceAdd, Nat.reduceLeDiff, Nat.reduceSub, Int.reduceToNat, reduceCtorEq, tmR_len]; first | done | trivial | omega | (simp; done) | (simp; omega)) ?_; simp only [go_sem, Nat.reduceAdd, Nat.reduceLeDiff, Nat.reduceSub, Int.reduceToNat, reduceCtorEq, tmR_len]
              rw [List.take_of_length_le (by rw [tmR_len]; exact Nat.le_refl _)]
              refine AP.freeze 5 (el := 40) (es := 4) (rows := fmR a2) rfl (by simp only [go_sem, Nat.reduceAdd, Nat.reduceLeDiff, Nat.reduceSub, Int.reduceToNat, reduceCtorEq, fmR_len]; first | done | trivial | omega | (simp; done) | (simp; omega)) (by simp only [go_sem, Nat.reduceAdd, Nat.reduceLeDiff, Nat.reduceSub, Int.reduceToNat, reduceCtorEq, fmR_len]; first | done | trivial | omega | (simp; done) | (simp; omega)) ?_; simp only [go_sem, Nat.reduceAdd, Nat.reduceLeDiff, Nat.reduceSub, Int.reduceToNat, reduceCtorEq, fmR_len]
              rw [List.take_of_length_le (by rw [fmR_len]; exact Nat.le_refl _)]
              refine AP.drawE 4 (Tree.node [] [0, 1] [2] [Tree.node [1] [] [3] [Tree.node [] [] [] []]]) (by kernel_rfl) rfl (by kernel_rfl) (by kernel_rfl) ?_
              refine vd_node ?_
              refine sI ?_
              repeat' (first | with_reducible exact True.intro | with_reducible refine And.intro (by omega) ?_ | with_reducible refine And.intro ?_ ?_ | (refine AQ.nx rfl ?_; refine sI ?_) | (fail) | refine AQ.done ?_ | (refine AQ.go (by kernel_rfl) ?_; refine sI ?_; repeat (with_reducible refine And.intro (by omega) ?_); refine AQ.nx rfl ?_; refine sI ?_))
              all_goals
                refine gO ?_
                refine AE.retD [3, 2, 1, 0] rfl ⟨⟨rfl, Nat.le_of_ble_eq_true (by kernel_rfl)⟩, ⟨rfl, Nat.le_of_ble_eq_true (by kernel_rfl)⟩, trivial⟩ rfl ⟨rfl, .mk K [] a a2, p, ?_⟩
                rcases k6 with ⟨rfl, k6⟩ | ⟨rfl, k6⟩
                · exact .inr ⟨k6, rfl⟩
                · exact .inl ⟨k6, rfl⟩
    · have hsg := sign_spec k (by omega)
      have his := pis_spec L i (sgn k) (by rcases sgn_cases (k := k) (by omega) with h | h | h | h | h | h | h <;> rw [h] <;> decide) hL
      have hkq : (tkS L i == sgn k) = decide (K = k) := by rw [sgK_eq (by omega), hK]
      rw [hkq] at his
      generalize sgn k = sg at *
      refine gO ?_
      refine cT ?_
      refine gO ?_
      refine AP.drawE 4 (Tree.node [] [0, 1] [2] [Tree.node [0] [] [3] [Tree.node [] [] [] []]]) (by kernel_rfl) rfl (by kernel_rfl) (by kernel_rfl) ?_
      refine vd_node ?_
      refine sI ?_
      repeat' (first | with_reducible exact True.intro | with_reducible refine And.intro (by omega) ?_ | with_reducible refine And.intro ?_ ?_ | (refine AQ.nx rfl ?_; refine sI ?_) | (refine AQ.fn (by kernel_rfl) rfl rfl rfl (hsg) rfl ?_; refine sI ?_) | (refine AQ.fn (by kernel_rfl) rfl rfl rfl (his) rfl ?_; refine sI ?_) | refine AQ.done ?_ | (refine AQ.go (by kernel_rfl) ?_; refine sI ?_; repeat (with_reducible refine And.intro (by omega) ?_); refine AQ.nx rfl ?_; refine sI ?_))
      refine gO ?_
      refine AP.cond rfl rfl (fun h => ?_) (fun h => ?_)
      · have h : K = k := by simpa using h
        refine gE @hwk ?_
        exact AE.round (k + 1) ⟨by omega, by omega⟩ (by omega) (by rw [kUp_succ, if_pos ⟨h, by omega⟩]; exact (sU)) rfl
      · have h : ¬ K = k := by simpa using h
        refine gE @hwk ?_
        exact AE.round (k + 1) ⟨by omega, by omega⟩ (by omega) (by rw [kUp_succ, if_neg (by omega)]; exact (sU)) rfl
  · have hd : decide ((L.length : Int) ≤ i) = true := by simp; omega
    have hb : pF L (f + 1) ns i = .bad i := by
      rw [pF, tkS_out hge, if_pos (by decide), if_pos (by decide)]
    refine gE @hd ?_
    refine AQ.fn (by kernel_rfl) rfl rfl rfl (pbad_spec L i false) rfl ?_
    refine gO ?_
    refine AE.cellsW 2 fF rfl (cellsLe.cons (cellsLe.cons (cellsLe.nil (cellsLe.nil (cellsLe.refl _))))) ?_
    refine sI ?_
    exact AE.retD [2, 1, 0] rfl ⟨⟨rfl, Nat.le_of_ble_eq_true (by kernel_rfl)⟩, ⟨rfl, Nat.le_of_ble_eq_true (by kernel_rfl)⟩, trivial⟩ rfl ⟨rfl, fm0, i, .inr ⟨hb, rfl⟩⟩
end Go.Proofs.YteacpafhmgdbkaaGreatDoor
end

section
namespace Go.Proofs.YteacpafhmgdbkaaGreatDoor
open Go Go.AL Go.RowKit
set_option maxRecDepth 10000
set_option maxHeartbeats 4000000
theorem sgK_idx (s : Nm) : idxS s (sgnL.drop 2) 0 + 2 = sgK s := by
  unfold sgK
  simp only [sgnL, List.drop_succ_cons, List.drop_zero, idxS]
  by_cases h2 : s = [36, 61]; · subst h2; rfl
  by_cases h3 : s = [36, 70]; · subst h3; rfl
  by_cases h4 : s = [36, 62]; · subst h4; rfl
  by_cases h5 : s = [36, 38]; · subst h5; rfl
  by_cases h6 : s = [36, 124]; · subst h6; rfl
  by_cases h7 : s = [36, 65]; · subst h7; rfl
  by_cases h8 : s = [36, 69]; · subst h8; rfl
  rw [if_neg h2, if_neg h3, if_neg h4, if_neg h5, if_neg h6, if_neg h7, if_neg h8]
  rw [if_neg (by simpa using h2), if_neg (by simpa using h3), if_neg (by simpa using h4), if_neg (by simpa using h5), if_neg (by simpa using h6), if_neg (by simpa using h7), if_neg (by simpa using h8)]
  rfl
theorem form_walk (L : List Tok) (e : Int) (ns : List Nm) (hL : tkOk L) (hn : ns.length ≤ 900000) (f i : Nat) (hi : i ≤ L.length) (hf : 2 * (L.length - i) + 1 ≤ f + 1)
    (ih : ∀ (ns' : List Nm) i', ns'.length ≤ ns.length + 1 → i < i' → i' ≤ L.length → 2 * (L.length - i') + 1 ≤ f → ACallX Tryz.prog 89 [.ob 0 0] (rdH 1 L e i' ns') (RdR fmV (pF L f ns' i') L e ns' 2) (RdX (pF L f ns' i') L e)) :
    ACallX Tryz.prog 89 [.ob 0 0] (rdH 1 L e i ns) (RdR fmV (pF L (f + 1) ns i) L e ns 2) (RdX (pF L (f + 1) ns i) L e) := by
  have hl := hL.1
  have hpk := peek_spec L e i ns (by omega) hL
  have hs := hL.get i
  have hix := indexS_spec (sgnL.drop 2) (tkS L i) (by decide)
  have hsk : IntKind.i64.wrap (idxS (tkS L i) (sgnL.drop 2) 0 + 2) = sgK (tkS L i) := by
    have := idxS_bnd (tkS L i) (sgnL.drop 2) 0 (by omega)
    have h7 : (sgnL.drop 2).length = 7 := rfl
    rw [wr (by omega)]; exact sgK_idx _
  refine ACallX.walk [0, 2, 3, 4, 5, 6, 14, 30, 31, 44, 59] [2, 3, 6, 35, 50] Tryz.func89 rfl Tryz.ntmps89 (by kernel_rfl) (by rfl) rfl fun W own I0 φ0 lay => ?_
  refine AP.rename 1 2 rfl rfl rfl ?_; refine sI ?_
  refine gO ?_
  refine AQ.fn (by kernel_rfl) rfl rfl rfl (signs_spec) rfl ?_
  refine gO ?_
  refine ⟨⟨rfl, rfl⟩, ?_⟩
  refine xD ?_
  refine xC ?_
  refine AP.cut (α := Unit) (fun _ => [(0, .ob 0 0), (2, .ob 3 0), (4, Iv (sgK (tkS L i)))]) (fun _ => [(3, .var 27 [Iv 0, Sv [], nilV, nilV])] ++ rdH 2 L e i ns) (fun _ => True) ?_ fun _ _ => ?_
  · skip
    refine AP.drawE 6 (Tree.node [] [0, 1] [2] [Tree.node [0] [] [3] [Tree.node [] [4, 5] [] []]]) (by kernel_rfl) rfl (by kernel_rfl) (by kernel_rfl) ?_
    refine vd_node ?_
    refine sI ?_
    refine ⟨by decide, ?_⟩
    refine AQ.callH [(0, 0), (1, 2)] (by kernel_rfl) rfl rfl rfl rfl rfl rfl (by exact ⟨rfl, rfl, trivial⟩) rfl hpk ?_
    rintro r H' ⟨rfl, rfl⟩
    refine ⟨rfl, ?_⟩
    refine sH ?_
    refine AQ.nx rfl ?_
    refine sI ?_
    refine ⟨by decide, ?_⟩
    refine AQ.fnL (r := Iv (idxS (tkS L i) (sgnL.drop 2) 0)) [.im (.sl 1 (stR (sgnL.drop 2))), Sv (tkS L i)] (by kernel_rfl) rfl rfl rfl (LentAs.cons (LentA.of (Lent.os (rows := stR sgnL) (i := 2) (n := 7) rfl (by decide))) (LentAs.cons (LentA.im _) LentAs.nil)) hix rfl (fun _ => rfl) ?_
    refine sI ?_
    refine AQ.nx rfl ?_
    refine sE @hsk ?_
    refine AQ.done ?_
    refine sI ?_
    refine AE.forgets [4] rfl ?_
    refine sI ?_
    exact AE.meet () trivial (sU) rfl
  rw [pF]
  obtain ⟨k, hk⟩ : ∃ k, sgK (tkS L i) = k := ⟨_, rfl⟩
  rw [hk]
  have hkb : 1 ≤ k ∧ k ≤ 8 := by rw [← hk]; unfold sgK; repeat' split <;> omega
  clear hix hsk
  refine gO ?_
  refine AP.cond rfl rfl (fun h1 => ?_) (fun h1 => ?_)
  · have h1 : k = 1 := by simp only [decide_eq_true_eq] at h1; omega
    rw [if_pos h1]
    have hnm := name_spec L e i ns (by omega) hL
    refine gO ?_
    refine AQ.callHX [(0, 0), (1, 2)] (by kernel_rfl) rfl rfl rfl rfl rfl rfl (by exact ⟨rfl, rfl, trivial⟩) rfl hnm ?_ ?_
    · rintro r H' ⟨h, rfl, rfl⟩
      refine ⟨rfl, ?_⟩; refine sH ?_
      exact AEX.out [3] rfl rfl ⟨i, by rw [if_pos h], rfl, rfl⟩
    rintro r H' ⟨h, rfl, rfl⟩
    have hnf : ¬ isNm (tkS L i) = false := by rw [h]; simp
    have hlt : i < L.length := isNm_in hnf
    have hls := list_walk L e ns hL (by omega) f (i + 1) (by omega) (by omega) fun f' i' h1 h2 h3 h4 => rterm_spec L e ns hL (by omega) f' i' h3 h4
    rw [if_neg hnf]
    refine ⟨rfl, ?_⟩; refine sH ?_
    refine AQ.go (by kernel_rfl) ?_
    refine sI ?_
    refine gO ?_
    refine AQ.callHX [(0, 0), (1, 2)] (by kernel_rfl) rfl rfl rfl rfl rfl rfl (by exact ⟨rfl, rfl, trivial⟩) rfl hls ?_ ?_
    · rintro r H' ⟨j, hj, rfl, rfl⟩
      refine ⟨rfl, ?_⟩; refine sH ?_
      exact AEX.out [3] rfl rfl ⟨j, by rw [hj], rfl, rfl⟩
    rintro r H' ⟨l, j, hj, rfl, rfl⟩
    rw [hj]
    simp only
    by_cases hl0 : l = []
    · subst hl0
      have elv : lsV [] = nilV := by rw [lsV, if_pos rfl]
      rw [elv]
      refine ⟨rfl, ?_⟩; refine sH ?_
      refine AQ.go (by kernel_rfl) ?_
      refine sI ?_
      refine gO ?_
      refine AE.cellsW 3 [Iv 1, Sv (tkS L i), .im (.sl 3 []), .im (.sl 4 [])] rfl (cellsLe.cons (cellsLe.cons (cellsLe.nil (cellsLe.nil (cellsLe.refl _))))) ?_
      refine sI ?_
      exact AE.retD [3] rfl ⟨⟨rfl, Nat.le_of_ble_eq_true (by kernel_rfl)⟩, trivial⟩ rfl ⟨_, j, rfl, rfl, rfl⟩
    · have elv : lsV l = .im (.sl 3 (tmR l)) := by rw [lsV, if_neg hl0]
      rw [elv]
      refine ⟨rfl, ?_⟩; refine sH ?_
      refine AQ.go (by kernel_rfl) ?_
      refine sI ?_
      refine gO ?_
      refine AE.cellsW 3 [Iv 1, Sv (tkS L i), .im (.sl 3 (tmR l)), .im (.sl 4 [])] rfl (cellsLe.cons (cellsLe.cons (cellsLe.cons (cellsLe.nil (cellsLe.refl _))))) ?_
      refine sI ?_
      exact AE.retD [3] rfl ⟨⟨rfl, Nat.le_of_ble_eq_true (by kernel_rfl)⟩, trivial⟩ rfl ⟨_, j, rfl, rfl, rfl⟩
  · have h1 : ¬ k = 1 := by simp only [decide_eq_false_iff_not] at h1; omega
    have hlt : i < L.length := sgK_in (by rw [hk]; exact h1)
    have hw := wr (x := (i : Int) + 1) (by omega)
    have hz : fmV (.mk 3 [] [] []) = .agg [Iv 3, Sv [], .im (.sl 3 []), .im (.sl 4 [])] := rfl
    rw [if_neg h1]
    rcases sgn_cases (k := k) (by omega) with h | h
    · subst h
      rw [if_pos rfl]
      have ht1 := rterm_spec L e ns hL (by omega) f (i + 1) (by omega) (by omega)
      refine gE @hw ?_
      refine AQ.callHX [(0, 0), (1, 2)] (by kernel_rfl) rfl rfl rfl rfl rfl rfl (by exact ⟨rfl, rfl, trivial⟩) rfl ht1 ?_ ?_
      · rintro r H' ⟨j, hj, rfl, rfl⟩
        refine ⟨rfl, ?_⟩; refine sH ?_
        exact AEX.out [4, 3] rfl rfl ⟨j, by rw [hj], rfl, rfl⟩
      rintro r H' ⟨u, j, hj, rfl, rfl⟩
      have hgt := pT_gt (L := L) (ns := ns) (f := f) (show i + 1 ≤ L.length by omega)
      rw [hj] at hgt
      have ht2 := rterm_spec L e ns hL (by omega) f j hgt.2 (by have := hgt.1; omega)
      rw [hj]
      simp only
      refine ⟨rfl, ?_⟩; refine sH ?_
      refine AQ.go (by kernel_rfl) ?_
      refine sI ?_
      refine gO ?_
      refine AP.drawE 8 (Tree.node [] [0, 1, 2] [3] [Tree.node [0, 1] [] [4] [Tree.node [0, 1] [] [5] [Tree.node [] [6] [7] [Tree.node [] [] [] []]]]]) (by kernel_rfl) rfl (by kernel_rfl) (by kernel_rfl) ?_
      refine vd_node ?_
      refine sI ?_
      refine AQ.callHX [(0, 0), (1, 2)] (by kernel_rfl) rfl rfl rfl rfl rfl rfl (by exact ⟨rfl, rfl, trivial⟩) rfl ht2 ?_ ?_
      · rintro r H' ⟨j', hj', rfl, rfl⟩
        refine ⟨rfl, ?_⟩; refine sH ?_
        exact AEX.outR [4, 5, 3] rfl rfl rfl ⟨j', by rw [hj'], rfl, rfl⟩
      rintro r H' ⟨v, j', hj', rfl, rfl⟩
      rw [hj']
      simp only
      refine ⟨rfl, ?_⟩; refine sH ?_
      refine AQ.go (by kernel_rfl) ?_
      refine sI ?_
      refine AQ.nx rfl ?_
      refine sI ?_
      refine AQ.go (by kernel_rfl) ?_
      refine sI ?_
      refine AQ.nx rfl ?_
      refine sI ?_
      refine AQ.kill 5 ?_
      refine sI ?_
      refine AQ.append (hnb := rfl) (rows := [[Si u.nm, Ii u.ix, .sl 3 (tmR u.xs)]]) (es := 2) (by kernel_rfl) rfl rfl rfl (by rfl) Tryz.tk23 Tryz.sz25 (by show Option.map _ (zro Tryz.prog 25) = _; rw [Tryz.zr25]; rfl) Tryz.by25 (by first | rfl | (simp only [List.length_cons, List.length_nil]; done) | (simp only [List.length_cons, List.length_nil]; omega)) (by simp only [List.length_cons, List.length_nil]; omega) (by simp only [List.length_cons, List.length_nil]; omega) ?_
      refine sE @tmR_len ?_
      refine AQ.nx rfl ?_
      refine sI ?_
      refine AQ.go (by kernel_rfl) ?_
      refine sI ?_
      refine AQ.nx rfl ?_
      refine sI ?_
      refine AQ.done ?_
      refine sI ?_
      have e2 : [[Si u.nm, Ii u.ix, IV.sl 3 (tmR u.xs)], [IV.v (Value.string (BA v.nm)), IV.v (Value.int .i64 v.ix), IV.sl 3 (tmR v.xs)]] = tmR [u, v] := by rw [tmR, tmR, tmR, tmC_eq u, tmC_eq v]
      rw [e2]
      refine AE.freeze 5 (el := 25) (es := 3) (rows := tmR [u, v]) rfl (by simp only [go_sem, Nat.reduceAdd, Nat.reduceLeDiff, Nat.reduceSub, Int.reduceToNat, reduceCtorEq, tmR_len]; first | done | trivial | omega | (simp; done) | (simp; omega)) (by simp only [go_sem, Nat.reduceAdd, Nat.reduceLeDiff, Nat.reduceSub, Int.reduceToNat, reduceCtorEq, tmR_len]; first | done | trivial | omega | (simp; done) | (simp; omega)) ?_; simp only [go_sem, Nat.reduceAdd, Nat.reduceLeDiff, Nat.reduceSub, Int.reduceToNat, reduceCtorEq, tmR_len]
      rw [show List.take 2 (tmR [u, v]) = tmR [u, v] from List.take_of_length_le (by rw [tmR_len]; exact Nat.le_refl _)]
      refine gO ?_
      refine AE.cellsW 3 [Iv 2, Sv [], .im (.sl 3 (tmR [u, v])), .im (.sl 4 (fmR []))] rfl (cellsLe.cons (cellsLe.cons (cellsLe.cons (cellsLe.nil (cellsLe.refl _))))) ?_
      refine sI ?_
      exact AE.retD [4, 3] rfl ⟨⟨rfl, Nat.le_of_ble_eq_true (by kernel_rfl)⟩, trivial⟩ rfl ⟨_, j', rfl, rfl, rfl⟩
    rw [if_neg (show ¬ k = 2 by omega)]
    rcases h with h | h
    · subst h
      rw [if_pos rfl]
      refine gE @hw ?_
      refine AE.cellsW 3 [Iv 3, Sv [], .im (.sl 3 (tmR [])), .im (.sl 4 (fmR []))] rfl (cellsLe.cons (cellsLe.cons (cellsLe.nil (cellsLe.nil (cellsLe.refl _))))) ?_
      refine sI ?_
      exact AE.retD [4, 3] rfl ⟨⟨rfl, Nat.le_of_ble_eq_true (by kernel_rfl)⟩, trivial⟩ rfl ⟨_, (i + 1), rfl, rfl, rfl⟩
    rw [if_neg (show ¬ k = 3 by omega)]
    rcases (show (k = 4 ∨ k = 5 ∨ k = 6) ∨ (k = 7 ∨ k = 8) by omega) with h | h
    · rw [if_neg (show ¬ (k = 7 ∨ k = 8) by omega)]
      have hf1 := ih ns (i + 1) (by omega) (by omega) (by omega) (by omega)
      have hgt := pF_gt (f := f) (ns := ns) (show i + 1 ≤ L.length by omega)
      have hf2 := fun j (h : PR.gt L.length (i + 1) (PR.ok (α := Fm) fm0 j)) => ih ns j (by omega) (by have := h.1; omega) h.2 (by have := h.1; omega)
      rcases h with h | h | h <;> subst h
      all_goals
        refine gE @hw ?_
        refine AQ.callHX [(0, 0), (1, 2)] (by kernel_rfl) rfl rfl rfl rfl rfl rfl (by exact ⟨rfl, rfl, trivial⟩) rfl hf1 ?_ ?_
        · rintro r H' ⟨j, hj, rfl, rfl⟩
          refine ⟨rfl, ?_⟩; refine sH ?_
          exact AEX.out [4, 3] rfl rfl ⟨j, by rw [hj], rfl, rfl⟩
        rintro r H' ⟨u, j, hj, rfl, rfl⟩
        rw [hj] at hgt
        have hf3 := hf2 j hgt
        rw [hj]
        simp only
        refine ⟨rfl, ?_⟩; refine sH ?_
        refine AQ.go (by kernel_rfl) ?_
        refine sI ?_
        refine AQ.rename 7 2 rfl rfl rfl ?_; refine sI ?_
        refine gO ?_
        refine AP.drawE 8 (Tree.node [] [0, 1, 2] [3] [Tree.node [0, 1] [] [4] [Tree.node [0, 1] [] [5] [Tree.node [] [6] [7] [Tree.node [] [] [] []]]]]) (by kernel_rfl) rfl (by kernel_rfl) (by kernel_rfl) ?_
        refine vd_node ?_
        refine sI ?_
        refine AQ.callHX [(0, 0), (1, 2)] (by kernel_rfl) rfl rfl rfl rfl rfl rfl (by exact ⟨rfl, rfl, trivial⟩) rfl hf3 ?_ ?_
        · rintro r H' ⟨j', hj', rfl, rfl⟩
          refine ⟨rfl, ?_⟩; refine sH ?_
          exact AEX.outR [4, 8, 3] rfl rfl rfl ⟨j', by rw [hj'], rfl, rfl⟩
        rintro r H' ⟨v, j', hj', rfl, rfl⟩
        rw [hj']
        simp only
        refine ⟨rfl, ?_⟩; refine sH ?_
        refine AQ.go (by kernel_rfl) ?_
        refine sI ?_
        refine AQ.nx rfl ?_
        refine sI ?_
        refine AQ.go (by kernel_rfl) ?_
        refine sI ?_
        refine AQ.nx rfl ?_
        refine sI ?_
        refine AQ.rename 11 2 rfl rfl rfl ?_; refine sI ?_
        refine AQ.kill 8 ?_
        refine sI ?_
        refine AQ.append (hnb := rfl) (rows := [[Ii u.k, Si u.nm, .sl 3 (tmR u.ts), .sl 4 (fmR u.ps)]]) (es := 3) (by kernel_rfl) rfl rfl rfl (by rfl) Tryz.tk22 Tryz.sz27 (by show Option.map _ (zro Tryz.prog 27) = _; rw [Tryz.zr27]; rfl) Tryz.by27 (by first | rfl | (simp only [List.length_cons, List.length_nil]; done) | (simp only [List.length_cons, List.length_nil]; omega)) (by simp only [List.length_cons, List.length_nil]; omega) (by simp only [List.length_cons, List.length_nil]; omega) ?_
        refine sI ?_
        refine AQ.nx rfl ?_
        refine sI ?_
        refine AQ.go (by kernel_rfl) ?_
        refine sI ?_
        refine AQ.nx rfl ?_
        refine sI ?_
        refine AQ.done ?_
        refine sI ?_
        have e2 : [[Ii u.k, Si u.nm, IV.sl 3 (tmR u.ts), IV.sl 4 (fmR u.ps)], [IV.v (Value.int .i64 v.k), IV.v (Value.string (BA v.nm)), IV.sl 3 (tmR v.ts), IV.sl 4 (fmR v.ps)]] = fmR [u, v] := by rw [fmR, fmR, fmR, fmC_eq u, fmC_eq v]
        rw [e2]
        refine AE.freeze 8 (el := 27) (es := 4) (rows := fmR [u, v]) rfl (by simp only [go_sem, Nat.reduceAdd, Nat.reduceLeDiff, Nat.reduceSub, Int.reduceToNat, reduceCtorEq, fmR_len]; first | done | trivial | omega | (simp; done) | (simp; omega)) (by simp only [go_sem, Nat.reduceAdd, Nat.reduceLeDiff, Nat.reduceSub, Int.reduceToNat, reduceCtorEq, fmR_len]; first | done | trivial | omega | (simp; done) | (simp; omega)) ?_; simp only [go_sem, Nat.reduceAdd, Nat.reduceLeDiff, Nat.reduceSub, Int.reduceToNat, reduceCtorEq, fmR_len]
        rw [show List.take 2 (fmR [u, v]) = fmR [u, v] from List.take_of_length_le (by rw [fmR_len]; exact Nat.le_refl _)]
        refine gO ?_
        refine AE.order [0, 2, 3, 4] rfl ?_
        simp only [go_sem, Nat.reduceAdd, Nat.reduceLeDiff, Nat.reduceSub, Int.reduceToNat, reduceCtorEq, reorder]
        refine AE.cellsW 3 [_, _, .im (.sl 3 []), .im (.sl 4 (fmR [u, v]))] rfl (cellsLe.cons (cellsLe.cons (cellsLe.nil (cellsLe.cons (cellsLe.refl _))))) ?_
        refine sI ?_
        exact AE.retD [4, 3] rfl ⟨⟨rfl, Nat.le_of_ble_eq_true (by kernel_rfl)⟩, trivial⟩ rfl ⟨_, j', rfl, rfl, rfl⟩
    · have hnm := name_spec L e (i + 1) ns (by omega) hL
      have hsl := hL.get (i + 1)
      have hf1 := fun hlt2 : i + 1 < L.length => ih (ns ++ [tkS L (i + 1)]) (i + 2) (by simp) (by omega) (by omega) (by omega)
      obtain ⟨s, hs1⟩ : ∃ s, tkS L (i + 1) = s := ⟨_, rfl⟩
      have hin : ¬ isNm s = false → i + 1 < L.length := fun h => isNm_in (by rw [hs1]; exact h)
      rw [hs1] at hnm hsl hf1 ⊢
      have hls : (ns ++ [s]).length = ns.length + 1 := by simp
      have w1 : IntKind.i64.wrap (((ns ++ [s]).length : Int) - 1) = (ns.length : Int) := by rw [hls, wr (by omega)]; omega
      rcases h with h | h <;> subst h
      all_goals
        rw [if_pos (by decide)]
        refine gE @hw ?_
        refine AP.drawE 12 (Tree.node [] [0, 1, 2, 3, 4, 5] [6] [Tree.node [0, 1, 2, 3, 4] [] [7] [Tree.node [0, 1, 2, 3, 4] [] [8] [Tree.node [0] [9, 10] [11] [Tree.node [] [] [] []]]]]) (by kernel_rfl) rfl (by kernel_rfl) (by kernel_rfl) ?_
        refine vd_node ?_
        refine sI ?_
        refine AQ.callHX [(0, 0), (1, 2)] (by kernel_rfl) rfl rfl rfl rfl rfl rfl (by exact ⟨rfl, rfl, trivial⟩) rfl hnm ?_ ?_
        · rintro r H' ⟨h, rfl, rfl⟩
          refine ⟨rfl, ?_⟩; refine sH ?_
          exact AEX.outR [4, 3] rfl rfl rfl ⟨i + 1, by rw [if_pos h], rfl, rfl⟩
        rintro r H' ⟨h, rfl, rfl⟩
        have hnf : ¬ isNm s = false := by rw [h]; simp
        have hf1 := hf1 (hin hnf)
        rw [if_neg hnf]
        refine ⟨rfl, ?_⟩; refine sH ?_
        refine AQ.go (by kernel_rfl) ?_
        refine sI ?_
        refine AQ.nx rfl ?_
        refine sI ?_
        refine AQ.go (by kernel_rfl) ?_
        refine sI ?_
        refine AQ.nx rfl ?_
        refine sI ?_
        refine AQ.kill 2 ?_
        refine sI ?_
        refine AQ.append (hnb := rfl) (rows := stR ns) (es := 0) (by kernel_rfl) rfl rfl rfl (by rfl) Tryz.tk67 Tryz.sz9 (by show Option.map _ (zro Tryz.prog 9) = _; rw [Tryz.zr9]; rfl) Tryz.by9 (by first | rfl | (simp only [stR_len, List.length_cons, List.length_nil]; done) | (simp only [stR_len, List.length_cons, List.length_nil]; omega)) (by simp only [stR_len, List.length_cons, List.length_nil]; omega) (by simp only [stR_len, List.length_cons, List.length_nil]; omega) ?_
        refine sE @stR_len ?_
        rw [stR_snc, ← hls]
        refine AQ.nx rfl ?_
        refine sI ?_
        refine AQ.go (by kernel_rfl) ?_
        refine sI ?_
        refine AQ.nx rfl ?_
        refine sI ?_
        refine AQ.done ?_
        refine sI ?_
        refine gO ?_
        refine AQ.callHX [(0, 0), (1, 2)] (by kernel_rfl) rfl rfl rfl rfl rfl rfl (by exact ⟨rfl, rfl, trivial⟩) rfl hf1 ?_ ?_
        · rintro r H' ⟨j, hj, rfl, rfl⟩
          refine ⟨rfl, ?_⟩; refine sH ?_
          exact AEX.out [4, 3] rfl rfl ⟨j, by rw [hj], rfl, rfl⟩
        rintro r H' ⟨u, j, hj, rfl, rfl⟩
        rw [hj]
        simp only
        refine ⟨rfl, ?_⟩; refine sH ?_
        refine AQ.go (by kernel_rfl) ?_
        refine sI ?_
        refine gO ?_
        refine AP.drawE 15 (Tree.node [] [0, 1, 2, 3, 4, 5, 6, 7, 8, 9, 10, 11, 12, 13] [14] [Tree.node [] [] [] []]) (by kernel_rfl) rfl (by kernel_rfl) (by kernel_rfl) ?_
        refine vd_node ?_
        refine sE @w1 ?_
        refine ⟨⟨by omega, by omega⟩, ?_⟩
        refine AQ.go (by kernel_rfl) ?_
        refine sI ?_
        refine AQ.nx rfl ?_
        refine sI ?_
        refine AQ.done ?_
        refine sI ?_
        refine AE.trunc 7 ns.length rfl ?_
        refine sI ?_
        rw [show (stR (ns ++ [s])).take ns.length = stR ns by rw [stR_take]; simp]
        refine AE.rename 7 2 rfl rfl rfl ?_; refine sI ?_
        have e2 : [[IV.v (Value.int .i64 u.k), IV.v (Value.string (BA u.nm)), IV.sl 3 (tmR u.ts), IV.sl 4 (fmR u.ps)]] = fmR [u] := by rw [fmR, fmR, fmC_eq u]
        rw [e2]
        refine gO ?_
        refine AE.order [0, 2, 3, 4] rfl ?_
        simp only [go_sem, Nat.reduceAdd, Nat.reduceLeDiff, Nat.reduceSub, Int.reduceToNat, reduceCtorEq, reorder]
        refine AE.cellsW 3 [_, _, .im (.sl 3 []), .im (.sl 4 (fmR [u]))] rfl (cellsLe.cons (cellsLe.cons (cellsLe.nil (cellsLe.cons (cellsLe.refl _))))) ?_
        refine sI ?_
        exact AE.retD [4, 3] rfl ⟨⟨rfl, Nat.le_of_ble_eq_true (by kernel_rfl)⟩, trivial⟩ rfl ⟨_, j, rfl, rfl, rfl⟩
end Go.Proofs.YteacpafhmgdbkaaGreatDoor
end

section
namespace Go.Proofs.YteacpafhmgdbkaaGreatDoor
open Go Go.AL Go.RowKit
set_option maxRecDepth 10000
set_option maxHeartbeats 4000000
theorem mkT_S {ns : List Nm} {s : Nm} {l : List Tm} (hs : s.length ≤ 100000) (hl : l.length ≤ 1000000) (h : tmsS l) : szT (mkT ns s l) ≤ 1 + szTs l ∧ tmS (mkT ns s l) := by
  have h1 : szT (.mk s 0 l) ≤ 1 + szTs l ∧ tmS (.mk s 0 l) := by
    rw [szT, tmS]; exact ⟨Nat.le_refl _, by omega, by omega, h⟩
  unfold mkT
  split
  · rename_i e
    subst e
    split
    · rw [szT, tmS, szTs]; exact ⟨Nat.le_refl _, by simp, by simp, by rw [tmsS]; trivial⟩
    · exact h1
  · exact h1
theorem pTs_S {L : List Tok} (hL : tkOk L) (ns : List Nm) : ∀ f, (∀ i t j, pT L ns f i = .ok t j → i ≤ L.length → szT t + i ≤ j ∧ tmS t) ∧ (∀ b i l j, pTs L ns f b i = .ok l j → i ≤ L.length → szTs l + i + 1 ≤ j ∧ tmsS l)
  | 0 => ⟨fun i t j h => (by rw [pT] at h; cases h), fun b i l j h => (by rw [pTs] at h; cases h)⟩
  | f + 1 => by
    obtain ⟨h1, h2⟩ := pTs_S hL ns f
    refine ⟨fun i t j h hi => ?_, fun b i l j h hi => ?_⟩
    · rw [pT] at h
      split at h
      · cases h
      · rename_i hn
        have hlt := isNm_in hn
        have hs := hL.get i
        split at h
        · rename_i ho
          have hlt2 : i + 1 < L.length := tkS_in (by rw [ho]; simp)
          have hgt := pTs_gt (L := L) (ns := ns) (f := f) (b := true) (show i + 2 ≤ L.length by omega)
          cases hq : pTs L ns f true (i + 2) with
          | bad k => rw [hq] at h; cases h
          | ok l k =>
            rw [hq] at h hgt
            cases h
            obtain ⟨a1, a2⟩ := h2 true (i + 2) l _ hq (by omega)
            have hlen := szTs_len l
            have hl := hL.1
            have := hgt.2
            obtain ⟨b1, b2⟩ := mkT_S (ns := ns) hs (by omega) a2
            exact ⟨by omega, b2⟩
        · cases h
          obtain ⟨b1, b2⟩ := mkT_S (ns := ns) (l := []) hs (by simp) (by rw [tmsS]; trivial)
          rw [szTs] at b1
          exact ⟨by omega, b2⟩
    · rw [pTs] at h
      split at h
      · cases h
        rw [szTs, tmsS]; exact ⟨by omega, trivial⟩
      · have hgt := pT_gt (L := L) (ns := ns) (f := f) hi
        cases hq : pT L ns f i with
        | bad k => rw [hq] at h; cases h
        | ok t k =>
          rw [hq] at h hgt
          simp only at h
          cases hq2 : pTs L ns f false k with
          | bad k2 => rw [hq2] at h; cases h
          | ok l2 k2 =>
            rw [hq2] at h
            cases h
            obtain ⟨a1, a2⟩ := h1 i t k hq hi
            obtain ⟨b1, b2⟩ := h2 false k l2 j hq2 hgt.2
            rw [szTs, tmsS]
            exact ⟨by omega, a2, b2⟩
theorem pL_S {L : List Tok} (hL : tkOk L) {ns : List Nm} {f i : Nat} {l : List Tm} {j : Nat} (h : pL L ns f i = .ok l j) (hi : i ≤ L.length) : szTs l + i ≤ j ∧ tmsS l := by
  rw [pL] at h
  split at h
  · rename_i ho
    have hlt : i < L.length := tkS_in (by rw [ho]; simp)
    obtain ⟨a, b⟩ := (pTs_S hL ns f).2 true (i + 1) l j h (by omega)
    exact ⟨by omega, b⟩
  · cases h
    rw [szTs, tmsS]; exact ⟨by omega, trivial⟩
theorem pF_S {L : List Tok} (hL : tkOk L) : ∀ (f : Nat) (ns : List Nm) (i : Nat) (F : Fm) (j : Nat), pF L f ns i = .ok F j → i ≤ L.length → szF F + i ≤ j ∧ fmS F
  | 0, ns, i, F, j, h, _ => by rw [pF] at h; cases h
  | f + 1, ns, i, F, j, h, hi => by
    have hl := hL.1
    rw [pF] at h
    split at h
    · split at h
      · cases h
      · rename_i hn
        have hlt := isNm_in hn
        have hs := hL.get i
        have hgt := pL_ge (L := L) (ns := ns) (f := f) (show i + 1 ≤ L.length by omega)
        cases hq : pL L ns f (i + 1) with
        | bad k => rw [hq] at h; cases h
        | ok l k =>
          rw [hq] at h hgt
          cases h
          obtain ⟨a, b⟩ := pL_S hL hq (by omega)
          have := szTs_len l
          have := hgt.2
          rw [szF, szFs, fmS, fmsS]
          exact ⟨by omega, by omega, by omega, b, by simp, trivial⟩
    · rename_i hk
      have hlt := sgK_in hk
      split at h
      · have hgt := pT_gt (L := L) (ns := ns) (f := f) (show i + 1 ≤ L.length by omega)
        cases hq : pT L ns f (i + 1) with
        | bad k => rw [hq] at h; cases h
        | ok a k =>
          rw [hq] at h hgt
          simp only at h
          cases hq2 : pT L ns f k with
          | bad k2 => rw [hq2] at h; cases h
          | ok b k2 =>
            rw [hq2] at h
            cases h
            obtain ⟨a1, a2⟩ := (pTs_S hL ns f).1 (i + 1) a k hq (by omega)
            obtain ⟨b1, b2⟩ := (pTs_S hL ns f).1 k b j hq2 hgt.2
            rw [szF, szFs, szTs, szTs, szTs, fmS, fmsS, tmsS, tmsS, tmsS]
            exact ⟨by omega, by simp, by simp, ⟨a2, b2, trivial⟩, by simp, trivial⟩
      · split at h
        · cases h
          rw [szF, szFs, szTs, fmS, fmsS, tmsS]
          exact ⟨by omega, by simp, by simp, trivial, by simp, trivial⟩
        · split at h
          · split at h
            · cases h
            · rename_i hn
              have hlt2 := isNm_in hn
              cases hq : pF L f (ns ++ [tkS L (i + 1)]) (i + 2) with
              | bad k => rw [hq] at h; cases h
              | ok p k =>
                rw [hq] at h
                cases h
                obtain ⟨a1, a2⟩ := pF_S hL f _ _ _ _ hq (by omega)
                rw [szF, szFs, szFs, szTs, fmS, fmsS, fmsS, tmsS]
                exact ⟨by omega, by simp, by simp, trivial, by simp, a2, trivial⟩
          · have hgt := pF_gt (L := L) (f := f) (ns := ns) (show i + 1 ≤ L.length by omega)
            cases hq : pF L f ns (i + 1) with
            | bad k => rw [hq] at h; cases h
            | ok a k =>
              rw [hq] at h hgt
              simp only at h
              cases hq2 : pF L f ns k with
              | bad k2 => rw [hq2] at h; cases h
              | ok b k2 =>
                rw [hq2] at h
                cases h
                obtain ⟨a1, a2⟩ := pF_S hL f _ _ _ _ hq (by omega)
                obtain ⟨b1, b2⟩ := pF_S hL f _ _ _ _ hq2 hgt.2
                rw [szF, szFs, szFs, szFs, szTs, fmS, fmsS, fmsS, fmsS, tmsS]
                exact ⟨by omega, by simp, by simp, trivial, by simp, a2, b2, trivial⟩
end Go.Proofs.YteacpafhmgdbkaaGreatDoor
end

section
namespace Go.Proofs.YteacpafhmgdbkaaGreatDoor
open Go Go.AL Go.RowKit
set_option maxRecDepth 10000
set_option maxHeartbeats 4000000
theorem rform_spec (L : List Tok) (e : Int) (hL : tkOk L) : ∀ (f i : Nat) (ns : List Nm), i ≤ L.length → ns.length + (L.length - i) ≤ 800000 → 2 * (L.length - i) + 1 ≤ f →
    ACallX Tryz.prog 89 [.ob 0 0] (rdH 1 L e i ns) (RdR fmV (pF L f ns i) L e ns 2) (RdX (pF L f ns i) L e)
  | 0, i, ns, _, _, hf => by omega
  | f + 1, i, ns, hi, hn, hf => form_walk L e ns hL (by omega) f i hi hf fun ns' i' h1 h2 h3 h4 => rform_spec L e hL f i' ns' h3 (by omega) h4
abbrev paH (a : List AV) (b e : Int) : Heap := [(2, .var 34 [Iv e]), (1, .var 3 [Iv b]), (0, .var 27 a)]
theorem parse1_none (a : List AV) (b e : Int) : ADef Tryz.prog 88 [.ob 0 0, .ob 1 0, .ob 2 0] (paH a b e) none (fun H' => H' = paH a b e) := by
  refine ADef.walk [0, 1, 2, 3, 4, 5, 8, 15] [4] Tryz.func88 rfl Tryz.ntmps88 ⟨rfl, rfl, rfl⟩ ⟨rfl, rfl, rfl⟩ rfl (by kernel_rfl) (by rfl) rfl fun W own I0 φ0 lay => ?_
  simp only [go_sem, Nat.reduceAdd, Nat.reduceLeDiff, Nat.reduceSub, Int.reduceToNat, reduceCtorEq, recAV]
  refine gO ?_
  exact AE.retQ [] (.inr rfl) rfl rfl trivial rfl rfl
theorem parse1_some (c1 c2 c3 c4 : AV) (x b e0 : Int) : ADef Tryz.prog 88 [.ob 0 0, .ob 1 0, .ob 2 0] (paH [c1, c2, c3, c4] b e0) (some (misV x)) (fun H' => H' = paH fF x 2) := by
  refine ADef.walk [0, 1, 2, 3, 4, 5, 8, 15] [4] Tryz.func88 rfl Tryz.ntmps88 ⟨rfl, rfl, rfl⟩ ⟨rfl, rfl, rfl⟩ rfl (by kernel_rfl) (by rfl) rfl fun W own I0 φ0 lay => ?_
  simp only [go_sem, Nat.reduceAdd, Nat.reduceLeDiff, Nat.reduceSub, Int.reduceToNat, reduceCtorEq, recAV]
  refine gO ?_
  refine AQ.assertYes (by kernel_rfl) rfl rfl ?_; refine sI ?_
  refine gO ?_
  refine AP.drawE 6 (Tree.node [] [0, 1, 2] [3] [Tree.node [1, 2] [] [4] [Tree.node [] [] [5] [Tree.node [] [] [] []]]]) (by kernel_rfl) rfl (by kernel_rfl) (by kernel_rfl) ?_
  refine vd_node ?_
  simp only [go_sem, Nat.reduceAdd, Nat.reduceLeDiff, Nat.reduceSub, Int.reduceToNat, reduceCtorEq, paH]
  repeat' (first | with_reducible exact True.intro | with_reducible refine And.intro (by omega) ?_ | with_reducible refine And.intro ?_ ?_ | (refine AQ.nx rfl ?_; refine sI ?_) | (fail) | refine AQ.done ?_ | (refine AQ.go (by kernel_rfl) ?_; refine sI ?_; repeat (with_reducible refine And.intro (by omega) ?_); refine AQ.nx rfl ?_; refine sI ?_))
  all_goals
    refine gO ?_
    refine AE.cellsW 0 fF rfl (cellsLe.cons (cellsLe.cons (cellsLe.nil (cellsLe.nil (cellsLe.refl _))))) ?_
    refine sI ?_
    exact AE.retQ [3] (.inr rfl) rfl rfl trivial rfl rfl
def paV (q : Fm × Int × Int) : AV := .tup [fmV q.1, Iv q.2.1, Iv q.2.2]
theorem scanT_ok (t : List UInt8) (ht : t.length ≤ 40000) (htl : (toks t 0).length ≤ 8000) : tkOk (scanT t) ∧ (scanT t).length ≤ 8000 := by
  have hlen : ∀ (l : List UInt8) (o : Nat), ∀ x ∈ toks l o, x.1.length ≤ l.length := by
    intro l
    induction l with
    | nil => intro o x hx; simp [toks] at hx
    | cons b l ih =>
      intro o x hx
      rw [toks] at hx
      split at hx
      · have := ih _ x hx; simp only [List.length_cons]; omega
      · have h2 : ∀ x ∈ toks l (o + 1), x.1.length ≤ l.length := fun x hx => ih (o + 1) x hx
        revert hx h2
        generalize toks l (o + 1) = r
        intro hx h2
        cases l with
        | nil => simp [push] at hx; rw [hx]; simp
        | cons c l =>
          cases r with
          | nil =>
            have e : push b o (c :: l) [] = if sp c then [([b], o)] else [] := rfl
            rw [e] at hx
            split at hx
            · have : x = ([b], o) := by simpa using hx
              rw [this]; simp
            · cases hx
          | cons y r =>
            have e : push b o (c :: l) (y :: r) = if sp c then ([b], o) :: y :: r else (b :: y.1, o) :: r := rfl
            rw [e] at hx
            have hy := h2 y (List.mem_cons_self ..)
            by_cases hs : sp c = true
            · rw [if_pos hs] at hx
              rcases List.mem_cons.1 hx with hx | hx
              · rw [hx]; simp
              · have := h2 x hx; simp only [List.length_cons] at this ⊢; omega
            · rw [if_neg hs] at hx
              rcases List.mem_cons.1 hx with hx | hx
              · rw [hx]; simp only [List.length_cons] at hy ⊢; omega
              · have := h2 x (List.mem_cons_of_mem _ hx); simp only [List.length_cons] at this ⊢; omega
  unfold scanT
  split
  · exact ⟨⟨by simp, fun x hx => by cases hx⟩, by simp⟩
  · split
    · exact ⟨⟨by omega, fun x hx => by have := hlen t 0 x hx; omega⟩, htl⟩
    · exact ⟨⟨by simp, fun x hx => by cases hx⟩, by simp⟩
theorem parse_walk (t : List UInt8) (ht : t.length ≤ 40000) (htl : (toks t 0).length ≤ 8000) : ACallX Tryz.prog 35 [Sv t] [] (fun r H' => r = paV (paF t) ∧ H' = []) (fun _ _ => False) := by
  obtain ⟨hok, hlen⟩ := scanT_ok t ht htl
  have hb4 : (Nat.beq 0 4 || (Nat.beq 1 4 || Nat.beq 2 4)) = false := rfl
  have hsc := scan1 t ht htl
  obtain ⟨q, hq⟩ : ∃ q, paF t = q := ⟨_, rfl⟩
  rw [hq]
  unfold paF at hq
  have hfm := rform_spec (scanT t) t.length hok (2 * (scanT t).length + 1) 0 [] (by omega) (by simp; omega) (by omega)
  generalize scanT t = L at *
  generalize scanA t = A at *
  generalize scanE t = E at *
  refine ACallX.walkD [0, 2, 3, 4, 5, 6, 7, 15, 19, 33, 39] [2, 3, 4, 24] Tryz.func35 rfl Tryz.ntmps35 (by kernel_rfl) (by rfl) rfl fun W own I0 φ0 lay => ?_
  refine gO ?_
  refine AQ.fn (by kernel_rfl) rfl rfl rfl (hsc) rfl ?_
  refine gO ?_
  refine AP.cond rfl rfl (fun h => ?_) (fun h => ?_)
  · have h : E ≠ 0 := by simpa using h
    rw [if_pos h] at hq
    subst hq
    refine gO ?_
    refine AP.drawE 6 (Tree.node [] [0, 1, 2] [3] [Tree.node [1, 2] [] [4] [Tree.node [2] [] [5] [Tree.node [] [] [] []]]]) (by kernel_rfl) rfl (by kernel_rfl) (by kernel_rfl) ?_
    refine vd_node ?_
    refine sI ?_
    repeat' (first | with_reducible exact True.intro | with_reducible refine And.intro (by omega) ?_ | with_reducible refine And.intro ?_ ?_ | (refine AQ.nx rfl ?_; refine sI ?_) | (fail) | refine AQ.done ?_ | (refine AQ.go (by kernel_rfl) ?_; refine sI ?_; repeat (with_reducible refine And.intro (by omega) ?_); refine AQ.nx rfl ?_; refine sI ?_))
    all_goals
      refine gO ?_
      refine AE.cellsW 0 fF rfl (cellsLe.cons (cellsLe.cons (cellsLe.nil (cellsLe.nil (cellsLe.refl _))))) ?_
      refine sI ?_
      exact AE.leaveN (.inl rfl) rfl <| LV.retD [2, 1, 0] rfl ⟨⟨rfl, Nat.le_of_ble_eq_true (by kernel_rfl)⟩, ⟨rfl, Nat.le_of_ble_eq_true (by kernel_rfl)⟩, ⟨rfl, Nat.le_of_ble_eq_true (by kernel_rfl)⟩, trivial⟩ rfl ⟨rfl, rfl⟩
  · have h : ¬ E ≠ 0 := by simpa using h
    rw [if_neg h] at hq
    refine sI ?_
    refine xA ?_
    refine AP.regionD rfl rfl ?_
    refine AQ.go1 (by kernel_rfl) rfl rfl ?_ ?_
    · simp only [go_sem]
      done
    refine sI ?_
    refine AQ.defer rfl rfl rfl fun u => ?_
    refine sI ?_
    refine gO ?_
    refine AQ.ownCell 3 3 9 1 rfl rfl ?_
    refine sI ?_
    refine AQ.callHX [(0, 3), (1, 4)] (by kernel_rfl) rfl rfl rfl rfl rfl rfl (by exact ⟨rfl, rfl, trivial⟩) rfl hfm ?_ ?_
    · rintro r H' ⟨j, hj, rfl, rfl⟩
      rw [hj] at hq
      refine ⟨rfl, ?_⟩
      refine sG @hb4 ?_
      refine AEX.leaveD [(2, 2), (1, 1), (0, 0)] (K' := [_]) (t := 19) (Hc := paH [Iv 0, Sv [], nilV, nilV] A E) rfl rfl rfl rfl rfl (by exact ⟨rfl, rfl, rfl, trivial⟩) rfl (parse1_some _ _ _ _ _ _ _) rfl ?_ rfl
      rintro H1 rfl
      refine ⟨rfl, ?_⟩
      refine sH ?_
      subst hq
      exact LV.retD [3, 2, 1, 0] rfl ⟨⟨rfl, Nat.le_of_ble_eq_true (by kernel_rfl)⟩, ⟨rfl, Nat.le_of_ble_eq_true (by kernel_rfl)⟩, ⟨rfl, Nat.le_of_ble_eq_true (by kernel_rfl)⟩, trivial⟩ rfl ⟨by simp only [paV, offA]; split <;> rfl, rfl⟩
    · rintro r H' ⟨g, j, hj, rfl, rfl⟩
      rw [hj] at hq
      simp only at hq
      refine ⟨rfl, ?_⟩
      refine sG @hb4 ?_
      refine AQ.go (by kernel_rfl) ?_
      refine sI ?_
      have hgt := pF_gt (L := L) (f := 2 * L.length + 1) (ns := []) (show 0 ≤ L.length by omega)
      rw [hj] at hgt
      have hrf := rfail_spec L t.length j [] (by have := hgt.2; omega) hok
      refine AQ.rename 7 4 rfl rfl rfl ?_; refine sI ?_
      refine gE @tokRows_len ?_
      refine AP.cond rfl rfl (fun h2 => ?_) (fun h2 => ?_)
      · have h2 : j < L.length := by simp only [decide_eq_true_eq] at h2; omega
        rw [if_pos h2] at hq
        refine gO ?_
        refine AQ.callHX [(0, 3), (1, 4)] (by kernel_rfl) rfl rfl rfl rfl rfl rfl (by exact ⟨rfl, rfl, trivial⟩) rfl hrf ?_ ?_
        · rintro r H' ⟨rfl, rfl⟩
          refine ⟨rfl, ?_⟩; refine sH ?_
          refine AEX.leaveD [(2, 2), (1, 1), (0, 0)] (K' := [_]) (t := 19) (Hc := paH [Iv g.k, Sv g.nm, .im (.sl 3 (tmR g.ts)), .im (.sl 4 (fmR g.ps))] A E) rfl rfl rfl rfl rfl (by exact ⟨rfl, rfl, rfl, trivial⟩) rfl (parse1_some _ _ _ _ _ _ _) rfl ?_ rfl
          rintro H1 rfl
          refine ⟨rfl, ?_⟩
          refine sH ?_
          subst hq
          exact LV.retD [3, 2, 1, 0] rfl ⟨⟨rfl, Nat.le_of_ble_eq_true (by kernel_rfl)⟩, ⟨rfl, Nat.le_of_ble_eq_true (by kernel_rfl)⟩, ⟨rfl, Nat.le_of_ble_eq_true (by kernel_rfl)⟩, trivial⟩ rfl ⟨by simp only [paV, offA]; rw [if_pos h2]; rfl, rfl⟩
        · rintro r H' hc
          exact hc.elim
      · have h2 : ¬ j < L.length := by simp only [decide_eq_false_iff_not] at h2; omega
        rw [if_neg h2] at hq
        obtain ⟨_, hgS⟩ := pF_S hok _ _ _ _ _ hj (by omega)
        refine gO ?_
        refine AQ.fn (by kernel_rfl) rfl rfl rfl (well_at g hgS) rfl ?_
        refine gO ?_
        refine AP.cond rfl rfl (fun h3 => ?_) (fun h3 => ?_)
        · have h3 : ¬ unF g 0 = 0 := by simpa using h3
          rw [if_neg h3] at hq
          subst hq
          refine gO ?_
          refine AE.cellsW 0 fF rfl (cellsLe.cons (cellsLe.cons (cellsLe.nil (cellsLe.nil (cellsLe.refl _))))) ?_
          refine sI ?_
          refine AE.leaveD [(2, 2), (1, 1), (0, 0)] (t := 19) (Hc := paH fF 0 (unF g 0)) (.inl rfl) rfl rfl rfl rfl rfl (by exact ⟨rfl, rfl, rfl, trivial⟩) rfl (parse1_none _ _ _) ?_
          rintro H1 rfl
          refine ⟨rfl, ?_⟩
          refine sH ?_
          exact LV.retD [3, 4, 2, 1, 0] rfl ⟨⟨rfl, Nat.le_of_ble_eq_true (by kernel_rfl)⟩, ⟨rfl, Nat.le_of_ble_eq_true (by kernel_rfl)⟩, ⟨rfl, Nat.le_of_ble_eq_true (by kernel_rfl)⟩, trivial⟩ rfl ⟨rfl, rfl⟩
        · have h3 : unF g 0 = 0 := by simpa using h3
          rw [if_pos h3] at hq
          subst hq
          refine gO ?_
          refine AE.leaveD [(2, 2), (1, 1), (0, 0)] (t := 19) (Hc := paH [Iv g.k, Sv g.nm, .im (.sl 3 (tmR g.ts)), .im (.sl 4 (fmR g.ps))] 0 0) (.inl rfl) rfl rfl rfl rfl rfl (by exact ⟨rfl, rfl, rfl, trivial⟩) rfl (parse1_none _ _ _) ?_
          rintro H1 rfl
          refine ⟨rfl, ?_⟩
          refine sH ?_
          exact LV.retD [3, 4, 2, 1, 0] rfl ⟨⟨rfl, Nat.le_of_ble_eq_true (by kernel_rfl)⟩, ⟨rfl, Nat.le_of_ble_eq_true (by kernel_rfl)⟩, ⟨rfl, Nat.le_of_ble_eq_true (by kernel_rfl)⟩, trivial⟩ rfl ⟨rfl, rfl⟩
end Go.Proofs.YteacpafhmgdbkaaGreatDoor
end

section
namespace Go.Proofs.YteacpafhmgdbkaaGreatDoor
open Go Go.AL Go.RowKit
set_option maxRecDepth 10000
set_option maxHeartbeats 4000000
theorem pform_spec (L : List Tok) (hL : tkOk L) : ∀ (f i : Nat) (ns : List Nm), i ≤ L.length → ns.length + (L.length - i) ≤ 800000 → 2 * (L.length - i) + 1 ≤ f →
    ACall Tryz.prog 92 [pV L i false, .im (.sl 1 (stR ns))] [] (RfR fmV (pF L f ns i) L)
  | 0, i, ns, _, _, hf => by omega
  | f + 1, i, ns, hi, hn, hf => pform_walk L ns hL (by omega) f i hi hf fun ns' i' h1 h2 h3 h4 => pform_spec L hL f i' ns' h3 (by omega) h4
theorem parseR_spec (t : List UInt8) (ht : t.length ≤ 40000) (htl : (toks t 0).length ≤ 8000) : PFn Tryz.prog 36 [Sv t] (paV (paF t)) := by
  obtain ⟨hok, hlen⟩ := scanT_ok t ht htl
  have hsc := scan2 t ht htl
  obtain ⟨q, hq⟩ : ∃ q, paF t = q := ⟨_, rfl⟩
  rw [hq]
  unfold paF at hq
  have hfm := (pform_spec (scanT t) hok (2 * (scanT t).length + 1) 0 [] (by omega) (by simp; omega) (by omega)).argLe (xs := [pV (scanT t) 0 false, nilV]) (by repeat' (first | with_reducible exact AVle.refl _ | with_reducible exact IVle.refl _ | exact IVle.nil _ | with_reducible exact cellsLe.refl _ | with_reducible exact rowLe.refl _ | with_reducible exact rowsLe.refl _ | refine cellsLe.cons2 ?_ ?_ | refine AVle.agg ?_ | refine AVle.im ?_ | refine IVle.sl ?_ | refine rowsLe.cons ?_ ?_ | refine rowLe.cons ?_ ?_))
  generalize scanT t = L at *
  generalize scanA t = A at *
  generalize scanE t = E at *
  refine ACall.walk [0, 2, 3, 4, 5, 6, 7, 8, 9, 10, 18, 36, 41, 55] [2, 8, 9] Tryz.func36 rfl Tryz.ntmps36 (by kernel_rfl) (by rfl) rfl fun W own I0 φ0 lay => ?_
  refine gO ?_
  refine AQ.fn (by kernel_rfl) rfl rfl rfl (hsc) rfl ?_
  refine gO ?_
  refine AP.cond rfl rfl (fun h => ?_) (fun h => ?_)
  · have h : E ≠ 0 := by simpa using h
    rw [if_pos h] at hq
    subst hq
    refine gO ?_
    refine AE.cellsW 0 fF rfl (cellsLe.cons (cellsLe.cons (cellsLe.nil (cellsLe.nil (cellsLe.refl _))))) ?_
    refine sI ?_
    exact AE.retD [0] rfl ⟨⟨rfl, Nat.le_of_ble_eq_true (by kernel_rfl)⟩, rfl, rfl, trivial⟩ rfl ⟨rfl, rfl⟩
  · have h : ¬ E ≠ 0 := by simpa using h
    rw [if_neg h] at hq
    refine gO ?_
    refine AQ.callv (by kernel_rfl) rfl rfl rfl hfm ?_
    rintro r H' ⟨rfl, g, j, ⟨hj, rfl⟩ | ⟨hj, rfl⟩⟩
    · rw [hj] at hq
      simp only at hq
      have hgt := pF_gt (L := L) (f := 2 * L.length + 1) (ns := []) (show 0 ≤ L.length by omega)
      rw [hj] at hgt
      have := hgt.2
      refine sI ?_
      refine gE @tokRows_len ?_
      refine AP.cond rfl rfl (fun h4 => ?_) (fun h4 => ?_)
      · have h4 : j < L.length := by simp only [decide_eq_true_eq] at h4; omega
        have hd : decide ((L.length : Int) ≤ j) = false := by simp; omega
        have hrow := tokRows_get L j h4
        rw [if_pos h4] at hq
        subst hq
        refine gE (an @tokRows_len @hd) ?_
        refine AP.drawE 10 (Tree.node [] [0, 1, 2, 3, 4, 5, 6] [7] [Tree.node [1, 2, 3, 4, 5, 6] [8, 9] [] []]) (by kernel_rfl) rfl (by kernel_rfl) (by kernel_rfl) ?_
        refine vd_node ?_
        refine sE @hrow ?_
        refine ⟨by omega, ?_⟩
        refine AQ.go (by kernel_rfl) ?_
        refine sI ?_
        refine AQ.nx rfl ?_
        refine sE @hrow ?_
        refine ⟨⟨by omega, by omega⟩, ?_⟩
        refine AQ.done ?_
        refine sI ?_
        refine gO ?_
        refine AE.cellsW 0 fF rfl (cellsLe.cons (cellsLe.cons (cellsLe.nil (cellsLe.nil (cellsLe.refl _))))) ?_
        refine sI ?_
        exact AE.retD [2, 1, 0] rfl ⟨⟨rfl, Nat.le_of_ble_eq_true (by kernel_rfl)⟩, rfl, rfl, trivial⟩ rfl ⟨rfl, rfl⟩
      · have h4 : ¬ j < L.length := by simp only [decide_eq_false_iff_not] at h4; omega
        rw [if_neg h4] at hq
        obtain ⟨hsz, hgS⟩ := pF_S hok _ _ _ _ _ hj (by omega)
        refine gO ?_
        refine AQ.fn (by kernel_rfl) rfl rfl rfl (wellR_spec g hgS (by omega)) rfl ?_
        refine gO ?_
        refine AP.cond rfl rfl (fun h3 => ?_) (fun h3 => ?_)
        · have h3 : ¬ unF g 0 = 0 := by simpa using h3
          rw [if_neg h3] at hq
          subst hq
          refine gO ?_
          refine AE.cellsW 0 fF rfl (cellsLe.cons (cellsLe.cons (cellsLe.nil (cellsLe.nil (cellsLe.refl _))))) ?_
          refine sI ?_
          exact AE.retD [2, 1, 0] rfl ⟨⟨rfl, Nat.le_of_ble_eq_true (by kernel_rfl)⟩, rfl, rfl, trivial⟩ rfl ⟨rfl, rfl⟩
        · have h3 : unF g 0 = 0 := by simpa using h3
          rw [if_pos h3] at hq
          subst hq
          refine gO ?_
          exact AE.retD [2, 1, 0] rfl ⟨⟨rfl, Nat.le_of_ble_eq_true (by kernel_rfl)⟩, rfl, rfl, trivial⟩ rfl ⟨rfl, rfl⟩
    · rw [hj] at hq
      simp only at hq
      have hgt := pF_gt (L := L) (f := 2 * L.length + 1) (ns := []) (show 0 ≤ L.length by omega)
      rw [hj] at hgt
      refine sI ?_
      refine gE @tokRows_len ?_
      refine AP.cond rfl rfl (fun h4 => ?_) (fun h4 => ?_)
      · have h4 : ¬ j < L.length := by simp only [decide_eq_true_eq] at h4; omega
        rw [if_neg h4] at hq
        subst hq
        refine gO ?_
        refine AE.cellsW 0 fF rfl (cellsLe.cons (cellsLe.cons (cellsLe.nil (cellsLe.nil (cellsLe.refl _))))) ?_
        refine sI ?_
        exact AE.retD [2, 1, 0] rfl ⟨⟨rfl, Nat.le_of_ble_eq_true (by kernel_rfl)⟩, rfl, rfl, trivial⟩ rfl ⟨rfl, rfl⟩
      · have h4 : j < L.length := by simp only [decide_eq_false_iff_not] at h4; omega
        have hrow := tokRows_get L j h4
        rw [if_pos h4] at hq
        subst hq
        refine gO ?_
        refine AP.drawE 10 (Tree.node [] [0, 1, 2, 3, 4, 5, 6] [7] [Tree.node [1, 2, 3, 4, 5, 6] [8, 9] [] []]) (by kernel_rfl) rfl (by kernel_rfl) (by kernel_rfl) ?_
        refine vd_node ?_
        refine sE @hrow ?_
        refine ⟨by omega, ?_⟩
        refine AQ.go (by kernel_rfl) ?_
        refine sI ?_
        refine AQ.nx rfl ?_
        refine sE @hrow ?_
        refine ⟨⟨by omega, by omega⟩, ?_⟩
        refine AQ.done ?_
        refine sI ?_
        refine gO ?_
        refine AE.cellsW 0 fF rfl (cellsLe.cons (cellsLe.cons (cellsLe.nil (cellsLe.nil (cellsLe.refl _))))) ?_
        refine sI ?_
        exact AE.retD [2, 1, 0] rfl ⟨⟨rfl, Nat.le_of_ble_eq_true (by kernel_rfl)⟩, rfl, rfl, trivial⟩ rfl ⟨rfl, rfl⟩
end Go.Proofs.YteacpafhmgdbkaaGreatDoor
end

section
namespace Go.Proofs.YteacpafhmgdbkaaGreatDoor
open Go Go.AL Go.RowKit
set_option maxRecDepth 10000
set_option maxHeartbeats 4000000
theorem joinB_snc {l : List Nm} {k : Nat} {w : Nm} (h : l[k]? = some w) : joinB (l.take (k + 1)) = if k = 0 then w else joinB (l.take k) ++ ([32] ++ w) := by
  cases l with
  | nil => simp at h
  | cons x r =>
    cases k with
    | zero => simp at h; subst h; simp [joinB, Lib.join_one]
    | succ k =>
      rw [if_neg (by omega), List.take_succ_cons, List.take_succ_cons, joinB, joinB, Lib.join_cons, Lib.join_cons]
      have h : r[k]? = some w := by simpa using h
      rw [take_snoc h, Lib.joinTail, Lib.joinTail, List.map_append, List.flatten_append, List.append_assoc]
      simp
theorem textR_spec (f : Fm) (hs : fmS f) (hz : szF f ≤ 1000000) : PFn Tryz.prog 34 [fmV f] (.tup [Sv (txF f).1, Iv (txF f).2]) := by
  obtain ⟨q, hq⟩ : ∃ q, txF f = q := ⟨_, rfl⟩
  rw [hq]
  unfold txF at hq
  have hwl := wellR_spec f hs (by omega)
  refine ACall.walk [0, 1, 2, 3, 4, 5, 6, 7, 11, 20, 24, 35] [] Tryz.func34 rfl Tryz.ntmps34 (by kernel_rfl) (by rfl) rfl fun W own I0 φ0 lay => ?_
  refine gO ?_
  refine AQ.fn (by kernel_rfl) rfl rfl rfl (hwl) rfl ?_
  refine gO ?_
  refine AP.cond rfl rfl (fun h => ?_) (fun h => ?_)
  · have h : ¬ unF f 0 = 0 := by simpa using h
    rw [if_neg h] at hq
    subst hq
    refine gO ?_
    exact AE.ret0 rfl ⟨rfl, rfl, trivial⟩ rfl ⟨rfl, rfl⟩
  · have h : unF f 0 = 0 := by simpa using h
    rw [if_pos h] at hq
    have hf := un_fit h
    have hwl := fmW_len (tkF f []) f []
    have htl := tkF_len f []
    have hok := fmW_ok (L := 4000 + 4000 + 2) (by omega) (tkF f []) f (ns := []) 0 okW.nil hf.2.2 (by simp at htl ⊢; omega)
    have hwd : wdF f = fmW (tkF f []) [] f := rfl
    rw [← hwd] at hok hwl
    have hfr := freeR_spec f hs hz
    have hfl : (freeL f).length ≤ 1000000 := by rw [freeL]; have := frF_len f []; simp only [List.length_nil] at this; omega
    have hft := ftext0_spec (freeL f) f hf.2.2 hfl (by rw [wd_free]; omega) hz
    rw [wd_free] at hft
    have hlen : (wdF f).length ≤ 12000 := by omega
    generalize freeL f = tk at *
    generalize wdF f = ws at *
    refine gO ?_
    refine AP.drawE 5 (Tree.node [] [0, 1] [2] [Tree.node [0] [] [3] [Tree.node [] [4] [] []]]) (by kernel_rfl) rfl (by kernel_rfl) (by kernel_rfl) ?_
    refine vd_node ?_
    refine sI ?_
    refine AQ.fn (by kernel_rfl) rfl rfl rfl (hfr) rfl ?_
    refine sI ?_
    refine AQ.nx rfl ?_
    refine sI ?_
    refine AQ.callH [] (by kernel_rfl) rfl rfl rfl rfl rfl rfl (by exact trivial) rfl hft ?_
    rintro r H' ⟨rfl, rfl⟩
    refine ⟨rfl, ?_⟩
    refine sH ?_
    refine AQ.nx rfl ?_
    refine sI ?_
    refine AQ.done ?_
    refine sI ?_
    refine AE.freeze 1 (el := 9) (es := 1) (rows := stR ws) rfl (by simp only [go_sem, Nat.reduceAdd, Nat.reduceLeDiff, Nat.reduceSub, Int.reduceToNat, reduceCtorEq, stR_len]; first | done | trivial | omega | (simp; done) | (simp; omega)) (by simp only [go_sem, Nat.reduceAdd, Nat.reduceLeDiff, Nat.reduceSub, Int.reduceToNat, reduceCtorEq, stR_len]; first | done | trivial | omega | (simp; done) | (simp; omega)) ?_; simp only [go_sem, Nat.reduceAdd, Nat.reduceLeDiff, Nat.reduceSub, Int.reduceToNat, reduceCtorEq, stR_len]
    rw [show List.take ws.length (stR ws) = stR ws from List.take_of_length_le (by rw [stR_len]; exact Nat.le_refl _)]
    refine gO ?_
    refine AP.loop rfl (α := Nat) (fun k => [(5, .im (.sl 1 (stR ws))), (6, Sv (joinB (ws.take k))), (7, Iv k)]) (fun _ => []) (fun k => k ≤ ws.length) (fun k => ws.length - k) 0 (by omega) (sU) rfl fun k hk => ?_
    rcases Nat.eq_or_lt_of_le hk with hke | hlt
    · have hjb := join_len _ _ hok
      have hjl : (joinB ws).length ≤ 1000000000 := by
        have : (4000 + 4000 + 2 + 1) * ws.length ≤ 8003 * 12000 := Nat.mul_le_mul_left _ hlen
        omega
      rw [hke, List.take_length]
      refine gE @stR_len ?_
      refine cF ?_
      refine gO ?_
      refine AP.cond rfl rfl (fun h4 => ?_) (fun h4 => ?_)
      · have h4 : 40000 < (joinB ws).length := by simp only [decide_eq_true_eq] at h4; omega
        rw [if_pos h4] at hq
        subst hq
        refine gO ?_
        exact AE.ret0 rfl ⟨rfl, rfl, trivial⟩ rfl ⟨rfl, rfl⟩
      · have h4 : ¬ 40000 < (joinB ws).length := by simp only [decide_eq_false_iff_not] at h4; omega
        rw [if_neg h4] at hq
        subst hq
        refine gO ?_
        exact AE.ret0 rfl ⟨rfl, rfl, trivial⟩ rfl ⟨rfl, rfl⟩
    · have hwr := wr (x := (k : Int) + 1) (by omega)
      have hrow := stR_get ws k hlt
      have hget : ws[k]? = some (ws.getD k []) := by rw [List.getD_eq_getElem?_getD, List.getElem?_eq_getElem hlt]; rfl
      have hsn := joinB_snc hget
      have hok2 : okW (4000 + 4000 + 2) (ws.take k) := fun x hx => hok x (List.mem_of_mem_take hx)
      have hjb := join_len _ _ hok2
      have hjl : (joinB (ws.take k)).length ≤ 1000000000 := by
        have : (4000 + 4000 + 2 + 1) * (ws.take k).length ≤ 8003 * 12000 := Nat.mul_le_mul_left _ (by rw [List.length_take]; omega)
        omega
      have hwl2 : (ws.getD k []).length ≤ 8002 := hok _ (List.mem_of_getElem? hget)
      generalize ws.getD k [] = w at *
      rcases Nat.eq_zero_or_pos k with hk0 | hk0
      · subst hk0
        refine gE @stR_len ?_
        refine cT ?_
        rw [if_pos rfl] at hsn
        refine gE (an @hrow (an @stR_len @hwr)) ?_
        rw [show joinB [] ++ w = joinB (List.take (0 + 1) ws) by rw [hsn]; rfl]
        exact AE.round (0 + 1) (by omega) (by omega) (sU) rfl
      · rw [if_neg (by omega)] at hsn
        refine gE @stR_len ?_
        refine cT ?_
        refine gO ?_
        refine cT ?_
        refine gE (an @hrow (an @stR_len @hwr)) ?_
        rw [show joinB (List.take k ws) ++ [32] ++ w = joinB (List.take (k + 1) ws) by rw [hsn, List.append_assoc]]
        exact AE.round (k + 1) (by omega) (by omega) (sU) rfl
end Go.Proofs.YteacpafhmgdbkaaGreatDoor
end

section
namespace Go.Proofs.YteacpafhmgdbkaaGreatDoor
open Go Go.AL Go.RowKit
set_option maxRecDepth 10000
set_option maxHeartbeats 4000000
end Go.Proofs.YteacpafhmgdbkaaGreatDoor
end

section
namespace Go.Proofs.YteacpafhmgdbkaaGreatDoor
open Go Go.AL Go.RowKit
set_option maxRecDepth 10000
set_option maxHeartbeats 4000000
end Go.Proofs.YteacpafhmgdbkaaGreatDoor
end

section
namespace Go.Proofs.YteacpafhmgdbkaaGreatDoor
open Go Go.AL Go.RowKit
set_option maxRecDepth 10000
set_option maxHeartbeats 4000000
def fin (p : List Int) (f : Fm) : Rs := chk (unF f 0 == 0) p 15 (.ok f)
end Go.Proofs.YteacpafhmgdbkaaGreatDoor
end

section
namespace Go.Proofs.YteacpafhmgdbkaaGreatDoor
open Go Go.AL Go.RowKit
set_option maxRecDepth 10000
set_option maxHeartbeats 4000000
end Go.Proofs.YteacpafhmgdbkaaGreatDoor
end

section
namespace Go.Proofs.YteacpafhmgdbkaaGreatDoor
open Go Go.AL Go.RowKit
set_option maxRecDepth 10000
set_option maxHeartbeats 4000000
end Go.Proofs.YteacpafhmgdbkaaGreatDoor
end

section
namespace Go.Proofs.YteacpafhmgdbkaaGreatDoor
open Go Go.AL Go.RowKit
set_option maxRecDepth 10000
set_option maxHeartbeats 4000000
end Go.Proofs.YteacpafhmgdbkaaGreatDoor
end

section
namespace Go.Proofs.YteacpafhmgdbkaaGreatDoor
open Go Go.AL Go.RowKit
set_option maxRecDepth 10000
set_option maxHeartbeats 4000000
end Go.Proofs.YteacpafhmgdbkaaGreatDoor
end

section
namespace Go.Proofs.YteacpafhmgdbkaaGreatDoor
open Go Go.AL Go.RowKit
set_option maxRecDepth 10000
set_option maxHeartbeats 4000000
end Go.Proofs.YteacpafhmgdbkaaGreatDoor
end

section
namespace Go.Proofs.YteacpafhmgdbkaaGreatDoor
open Go Go.AL Go.RowKit
set_option maxRecDepth 10000
set_option maxHeartbeats 4000000
end Go.Proofs.YteacpafhmgdbkaaGreatDoor
end

section
namespace Go.Proofs.YteacpafhmgdbkaaGreatDoor
open Go Go.AL Go.RowKit
set_option maxRecDepth 10000
set_option maxHeartbeats 4000000
def smallB (l : List Fm) : Bool := (bFs l 0 400).1
theorem small1_walk (u : Fm) (m : Int) (hu : fmS u) (hm : -1000000 ≤ m ∧ m ≤ 1000000) : ACall Tryz.prog 63 [fmV u, .ob 1 0] (BH m) (fun r H' => r = Bv (!(bF u 0 m).1) ∧ H' = BH (bF u 0 m).2) := by
  have ih := bform_spec u 0 m hu (by omega) hm
  refine ACall.walk [0, 1, 2, 3] [] Tryz.func63 rfl Tryz.ntmps63 (by kernel_rfl) (by rfl) rfl fun W own I0 φ0 lay => ?_
  refine gO ?_
  refine AQ.callH [(0, 0)] (by kernel_rfl) rfl rfl rfl rfl rfl rfl (by exact ⟨rfl, trivial⟩) rfl ih ?_
  rintro r H' ⟨rfl, rfl⟩
  refine ⟨rfl, ?_⟩
  refine sG @BH.eq_1 ?_
  refine gO ?_
  exact AE.ret rfl ⟨rfl, trivial⟩ ⟨rfl, rfl⟩
theorem small_spec (l : List Fm) (hl : l.length ≤ 9223372036854775807) (hs : fmsS l) : PFn Tryz.prog 22 [.im (.sl 4 (fmR l))] (Bv (smallB l)) := by
  have hc := containsF_walk 63 [] (fun t m => (!(bF t 0 m).1, (bF t 0 m).2)) l 400 hl (fun m => 0 ≤ m ∧ m ≤ 1000000) (by omega) (fun k t m ht hm h => bF_bnd t 0 m hm.1 hm.2 (by simpa using h)) (fun k t m ht hm => small1_walk t m (fmsS_get hs ht) (by omega))
  have hr := bFs_run 0 l 400
  have hb : smallB l = !(runS (fun t m => (!(bF t 0 m).1, (bF t 0 m).2)) l 400).1 := by rw [smallB, hr]
  rw [hb]
  generalize runS (fun t m => (!(bF t 0 m).1, (bF t 0 m).2)) l 400 = q at *
  refine ACall.walk [0, 2, 3] [3, 5] Tryz.func22 rfl Tryz.ntmps22 (by kernel_rfl) (by rfl) rfl fun W own I0 φ0 lay => ?_
  refine gO ?_
  refine AQ.callH [(1, 1), (0, 0)] (by kernel_rfl) rfl rfl rfl rfl rfl rfl (by exact ⟨rfl, rfl, trivial⟩) rfl hc ?_
  rintro r H' ⟨rfl, rfl⟩
  refine ⟨rfl, ?_⟩
  refine sG @BH.eq_1 ?_
  refine gO ?_
  exact AE.retD [1, 0] rfl ⟨rfl, trivial⟩ rfl ⟨rfl, rfl⟩
theorem small_sz {l : List Fm} (h : smallB l = true) : szFs l ≤ 400 := by
  have := bFs_sz l 0 400 (by omega) h
  omega
end Go.Proofs.YteacpafhmgdbkaaGreatDoor
end

section
namespace Go.Proofs.YteacpafhmgdbkaaGreatDoor
open Go Go.AL Go.RowKit
set_option maxRecDepth 10000
set_option maxHeartbeats 4000000
mutual
theorem eqT_refl : ∀ t : Tm, eqT t t = true
  | .mk n i xs => by
    rw [eqT]
    have h : eqTs xs (Tm.mk n i xs).xs = true := eqTs_refl xs
    rw [h]; simp [Tm.nm, Tm.ix]
theorem eqTs_refl : ∀ l : List Tm, eqTs l l = true
  | [] => by rw [eqTs]
  | t :: l => by rw [eqTs, eqT_refl t, eqTs_refl l]; rfl
end
theorem all2_refl : ∀ l : List Tm, all2 eqT l l = true
  | [] => rfl
  | t :: l => by rw [all2, eqT_refl t, all2_refl l]; rfl
mutual
theorem eqF_refl : ∀ t : Fm, eqF t t = true
  | .mk k n ts ps => by
    rw [eqF]
    have h : eqFs ps (Fm.mk k n ts ps).ps = true := eqFs_refl ps
    have h2 : all2 eqT ts (Fm.mk k n ts ps).ts = true := all2_refl ts
    rw [h, h2]; simp [Fm.nm, Fm.k]
theorem eqFs_refl : ∀ l : List Fm, eqFs l l = true
  | [] => by rw [eqFs]
  | t :: l => by rw [eqFs, eqF_refl t, eqFs_refl l]; rfl
end
theorem fm0_S : fmS fm0 := by simp only [fm0, fmS, tmsS, fmsS]; simp
end Go.Proofs.YteacpafhmgdbkaaGreatDoor
end

section
namespace Go.Proofs.YteacpafhmgdbkaaGreatDoor
open Go Go.AL Go.RowKit
set_option maxRecDepth 10000
set_option maxHeartbeats 4000000
theorem parse_spec (t : List UInt8) (ht : t.length ≤ 40000) (htl : (toks t 0).length ≤ 8000) : PFn Tryz.prog 35 [Sv t] (paV (paF t)) := by
  have h := (parse_walk t ht htl).toA fun _ _ h => h
  exact ⟨h.1, fun w φ I vs h1 h2 h3 => (h.2 w φ I vs h1 h2 h3).mono fun e w' ⟨r, H', φ', I', v, ⟨h4, h5⟩, h6⟩ => ⟨r, H', φ', I', v, ⟨h5, h4⟩, h6⟩⟩
theorem paF_ok (t : List UInt8) (ht : t.length ≤ 40000) (htl : (toks t 0).length ≤ 8000) : fmS (paF t).1 ∧ szF (paF t).1 ≤ 8000 := by
  have h0 : fmS fm0 ∧ szF fm0 ≤ 8000 := ⟨fm0_S, by rw [szF, szTs, szFs]; omega⟩
  obtain ⟨hok, hlen⟩ := scanT_ok t ht htl
  unfold paF
  split
  · exact h0
  · cases hj : pF (scanT t) (2 * (scanT t).length + 1) [] 0 with
    | bad j => exact h0
    | ok g j =>
      simp only
      obtain ⟨a, b⟩ := pF_S hok _ _ _ _ _ hj (by omega)
      have hgt := pF_gt (L := scanT t) (f := 2 * (scanT t).length + 1) (ns := []) (show 0 ≤ (scanT t).length by omega)
      rw [hj] at hgt
      have := hgt.2
      split
      · exact h0
      · split
        · exact ⟨b, by simp only; omega⟩
        · exact h0
theorem texts_walk (f : Fm) (s : Nm) (hf : fmS f) (hs : s.length ≤ 9223372036854775807) : PFn Tryz.prog 6 [fmV f, Sv s] (Bv true) := by
  have hsm0 := small_spec [f] (by simp) (by rw [fmsS, fmsS]; exact ⟨hf, trivial⟩)
  have hsm : PFn Tryz.prog 22 [.im (.sl 4 [[Ii f.k, Si f.nm, .sl 3 (tmR f.ts), .sl 4 (fmR f.ps)]])] (Bv (smallB [f])) := by
    rw [fmR, fmR, fmC_eq] at hsm0; exact hsm0
  obtain ⟨b, hb⟩ : ∃ b, smallB [f] = b := ⟨_, rfl⟩
  rw [hb] at hsm
  clear hsm0
  by_cases hc : b = true ∧ s.length ≤ 2000
  · obtain ⟨rfl, hsl⟩ := hc
    have z := small_sz hb
    rw [szFs, szFs] at z
    have hd : decide ((2000 : Int) < s.length) = false := by simp; omega
    have htl : (toks s 0).length ≤ 8000 := by have := toks_len s 0; omega
    have tx := text_spec f hf
    have txr := textR_spec f hf (by omega)
    have pa := parse_spec s (by omega) htl
    have par := parseR_spec s (by omega) htl
    obtain ⟨o1, o2⟩ := paF_ok s (by omega) htl
    have c1 := formula_conv f (fmL_sz f (by omega))
    have c2 := formula_conv (paF s).1 (fmL_sz _ (by omega))
    have c3 := sameR_spec (paF s).1 (paF s).1 o1
    rw [eqF_refl] at c3
    clear hb
    generalize txF f = q1 at *
    generalize paF s = q2 at *
    obtain ⟨x1, e1⟩ := q1
    obtain ⟨g, a2, e2⟩ := q2
    simp only [paV] at tx txr pa par c2 c3
    refine ACall.walk [0, 1, 2, 4, 5, 6, 7, 8, 9, 10, 11, 12, 13, 14, 23] [9, 12] Tryz.func6 rfl Tryz.ntmps6 (by kernel_rfl) (by rfl) rfl fun W own I0 φ0 lay => ?_
    refine gO ?_
    refine AQ.fn (by kernel_rfl) rfl rfl rfl (hsm) rfl ?_
    refine gE @hd ?_
    refine AQ.fn (by kernel_rfl) rfl rfl rfl (tx) rfl ?_
    refine gO ?_
    refine AQ.fn (by kernel_rfl) rfl rfl rfl (c1) rfl ?_
    refine gO ?_
    refine AQ.fn (by kernel_rfl) rfl rfl rfl (txr) rfl ?_
    refine gO ?_
    refine AQ.fn (by kernel_rfl) rfl rfl rfl (pa) rfl ?_
    refine gO ?_
    refine AQ.fn (by kernel_rfl) rfl rfl rfl (par) rfl ?_
    refine gO ?_
    refine AP.drawE 28 (Tree.node [] [0, 1, 2, 3, 4, 5, 6, 7, 8, 9, 11] [10] [Tree.node [11] [] [12] [Tree.node [] [13, 14, 15, 16, 17, 18, 19, 20, 21, 22, 23, 24] [25] [Tree.node [] [26, 27] [] []]]]) (by kernel_rfl) rfl (by kernel_rfl) (by kernel_rfl) ?_
    refine vd_node ?_
    refine sE (an @beq_self_eq_true.{0} (an @Bool.true_and @Bool.and_true)) ?_
    refine AQ.guard_yes (by simp only [go_sem]) ?_
    refine AQ.fn (by kernel_rfl) rfl rfl rfl (c2) rfl ?_
    refine sI ?_
    refine AQ.nx rfl ?_
    refine sI ?_
    refine AQ.guard_yes (by simp only [go_sem]) ?_
    refine AQ.fn (by kernel_rfl) rfl rfl rfl (c3) rfl ?_
    refine sI ?_
    refine AQ.nx rfl ?_
    refine sE (an @beq_self_eq_true.{0} (an @Bool.true_and @Bool.and_true)) ?_
    refine AQ.guard_yes (by simp only [go_sem]) ?_
    refine AQ.fn (by kernel_rfl) rfl rfl rfl (awake_spec) rfl ?_
    refine sI ?_
    refine AQ.nx rfl ?_
    refine sE (an @beq_self_eq_true.{0} (an @Bool.true_and @Bool.and_true)) ?_
    refine AQ.done ?_
    refine gO ?_
    exact AE.retD [1, 0] rfl ⟨rfl, trivial⟩ rfl ⟨rfl, rfl⟩
  · have hd : (!b || decide ((2000 : Int) < s.length)) = true := by
      cases b with
      | false => rfl
      | true => simp at hc ⊢; omega
    refine ACall.walk [0, 1, 2, 4, 5, 6, 7, 8, 9, 10, 11, 12, 13, 14, 23] [9, 12] Tryz.func6 rfl Tryz.ntmps6 (by kernel_rfl) (by rfl) rfl fun W own I0 φ0 lay => ?_
    refine gO ?_
    refine AQ.fn (by kernel_rfl) rfl rfl rfl (hsm) rfl ?_
    refine gO ?_
    refine AP.cond rfl rfl (fun h5 => ?_) (fun h5 => ?_)
    · refine gO ?_
      refine AQ.fn (by kernel_rfl) rfl rfl rfl (awake_spec) rfl ?_
      refine gO ?_
      exact AE.ret0 rfl ⟨rfl, trivial⟩ rfl ⟨rfl, rfl⟩
    · rw [hd] at h5
      cases h5
end Go.Proofs.YteacpafhmgdbkaaGreatDoor
end
