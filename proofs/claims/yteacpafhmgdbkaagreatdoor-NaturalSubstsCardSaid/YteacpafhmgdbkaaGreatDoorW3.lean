import Derived.Test.YteacpafhmgdbkaaGreatDoorW2
import Derived.Test.YteacpafhmgdbkaaGreatDoorCards
import Derived.Test.YteacpafhmgdbkaaGreatDoorTie
import Derived.Lib.LaidTab
import Derived.Stop.LaidErr
set_option linter.unusedSimpArgs false
set_option linter.unusedVariables false
set_option linter.unnecessarySimpa false
section
namespace Go.Proofs.YteacpafhmgdbkaaGreatDoor
open Go Go.AL Go.RowKit
set_option maxRecDepth 10000
set_option maxHeartbeats 4000000
@[go_sem] theorem frzs_valsT (b es : Nat) (rows : List (List IV)) : ∀ l : List Nm, frzs b es rows (valsT l) = valsT l
  | [] => rfl
  | _ :: l => by rw [valsT, List.map_cons, frzs, ← valsT, frzs_valsT b es rows l]; rfl
@[go_sem] theorem frzCs_valsT (b : Nat) (rows : List (List IV)) : ∀ l : List Nm, frzCs b rows (valsT l) = True
  | [] => rfl
  | _ :: l => by rw [valsT, List.map_cons, frzCs, ← valsT, frzCs_valsT b rows l]; simp [frzC]
def wdF (f : Fm) : List Nm := fmW (tkF f []) [] f
def txF (f : Fm) : Nm × Int := if unF f 0 = 0 then (if 40000 < (joinB (wdF f)).length then ([], 15) else (joinB (wdF f), 0)) else ([], unF f 0)
theorem text_spec (f : Fm) (hs : fmS f) : PFn Tryz.prog 33 [fmV f] (.tup [Sv (txF f).1, Iv (txF f).2]) := by
  obtain ⟨q, hq⟩ : ∃ q, txF f = q := ⟨_, rfl⟩
  rw [hq]
  unfold txF at hq
  have hwl := well_at f hs
  refine ACall.walk [0, 1, 2, 3, 4, 5, 6, 10, 28] [5, 14] Tryz.func33 rfl Tryz.ntmps33 (by kernel_rfl) (by rfl) rfl fun W own I0 φ0 lay => ?_
  refine gO ?_
  refine AQ.fn (by kernel_rfl) rfl rfl rfl (hwl) rfl ?_
  refine gO ?_
  refine AP.cond rfl rfl (fun h => ?_) (fun h => ?_)
  · have h : ¬ unF f 0 = 0 := by simpa using h
    rw [if_neg h] at hq
    subst hq
    refine gO ?_
    exact AE.ret0 rfl ⟨rfl, rfl, trivial⟩ rfl ⟨rfl, rfl⟩
  · have h : unF f 0 = 0 := by simpa using h
    rw [if_pos h] at hq
    have hf := un_fit h
    have hwl := fmW_len (tkF f []) f []
    have htl := tkF_len f []
    have hnd : (tkF f []).Nodup := tkF_nodup f List.nodup_nil
    have hok := fmW_ok (L := 4000 + 4000 + 2) (by omega) (tkF f []) f (ns := []) 0 okW.nil hf.2.2 (by simp at htl ⊢; omega)
    have hjl := join_len _ _ hok
    have hjb : (joinB (fmW (tkF f []) [] f)).length ≤ 1000000000 := by
      have : (4000 + 4000 + 2 + 1) * (fmW (tkF f []) [] f).length ≤ 8003 * 12000 := Nat.mul_le_mul_left _ (by omega)
      omega
    have hlv := leavesT_spec f [] List.nodup_nil hs
    have hwf := wform_spec (tkF f []) [] f [] hf.2.2 (by simp at htl; omega) hnd (by simp; omega) (by simp; omega)
    have hwd : wdF f = fmW (tkF f []) [] f := rfl
    rw [hwd] at hq
    rw [List.nil_append] at hwf
    generalize hws : fmW (tkF f []) [] f = ws at *
    have hjs := join_spec ws (by omega) hjb
    clear hok hjl hjb
    generalize tkF f [] = tk at *
    refine gO ?_
    refine AQ.mmake (by kernel_rfl) ?_
    refine sI ?_
    refine gO ?_
    refine AQ.callH [(0, 2), (1, 1), (2, 0)] (by kernel_rfl) rfl rfl rfl rfl rfl rfl (by exact ⟨rfl, rfl, rfl, trivial⟩) rfl hlv ?_
    rintro r H' ⟨rfl, rfl⟩
    refine ⟨rfl, ?_⟩
    refine sH ?_
    refine AQ.ownCell 1 0 9 1 rfl rfl ?_
    refine sI ?_
    refine AQ.ownCell 1 2 9 1 rfl rfl ?_
    refine sI ?_
    refine gO ?_
    refine AQ.callH [(0, 1), (1, 0), (2, 3), (3, 4)] (by kernel_rfl) rfl rfl rfl rfl rfl rfl (by refine ⟨rfl, ?_, rfl, rfl, trivial⟩; rw [rnO, rns_valsT]; rfl) rfl hwf ?_
    rintro r H' ⟨rfl, rfl⟩
    refine ⟨rfl, ?_⟩
    refine sH ?_
    refine gO ?_
    refine AQ.freeze 9 (el := 9) (es := 1) (rows := stR ws) rfl (by simp only [go_sem, Nat.reduceAdd, Nat.reduceLeDiff, Nat.reduceSub, Int.reduceToNat, reduceCtorEq, stR_len]; first | done | trivial | omega | (simp; done) | (simp; omega)) (by simp only [go_sem, Nat.reduceAdd, Nat.reduceLeDiff, Nat.reduceSub, Int.reduceToNat, reduceCtorEq, stR_len]; first | done | trivial | omega | (simp; done) | (simp; omega)) ?_; simp only [go_sem, Nat.reduceAdd, Nat.reduceLeDiff, Nat.reduceSub, Int.reduceToNat, reduceCtorEq, stR_len]
    rw [stT ws ws.length (Nat.le_refl _)]
    refine AQ.fn (by kernel_rfl) rfl rfl rfl (hjs) rfl ?_
    refine gO ?_
    refine AP.cond rfl rfl (fun h4 => ?_) (fun h4 => ?_)
    · have h4 : 40000 < (joinB ws).length := by simp only [decide_eq_true_eq] at h4; omega
      rw [if_pos h4] at hq
      subst hq
      refine gO ?_
      exact AE.retD [2, 1, 0, 10] rfl ⟨rfl, rfl, trivial⟩ (by simp only [go_sem, Nat.reduceAdd, Nat.reduceLeDiff, Nat.reduceSub, Int.reduceToNat, reduceCtorEq, dropOk, noMen, AV.mens, AV.men, mens_valsT, Bool.or_false]; first | done | rfl) ⟨rfl, rfl⟩
    · have h4 : ¬ 40000 < (joinB ws).length := by simp only [decide_eq_false_iff_not] at h4; omega
      rw [if_neg h4] at hq
      subst hq
      refine gO ?_
      exact AE.retD [2, 1, 0, 10] rfl ⟨rfl, rfl, trivial⟩ (by simp only [go_sem, Nat.reduceAdd, Nat.reduceLeDiff, Nat.reduceSub, Int.reduceToNat, reduceCtorEq, dropOk, noMen, AV.mens, AV.men, mens_valsT, Bool.or_false]; first | done | rfl) ⟨rfl, rfl⟩
end Go.Proofs.YteacpafhmgdbkaaGreatDoor
end

section
namespace Go.Proofs.YteacpafhmgdbkaaGreatDoor
open Go Go.AL Go.RowKit
set_option maxRecDepth 10000
set_option maxHeartbeats 4000000
def exP : Fm := .mk 1 [112] [] []
def exD : Dv := .mk 3 0 [] (.mk [] 0 []) exP [.mk 1 0 [] (.mk [] 0 []) (.mk 0 [] [] []) []]
theorem ex_check : ckC [] [] exD = .ok (conn 4 [exP, exP]) := by kernel_rfl
theorem ex_text : txF (conn 4 [exP, exP]) = ([36, 62, 32, 112, 32, 112], 0) := by kernel_rfl
theorem exD_S : dvS exD := by
  simp only [exD, exP, dvS, dvsS, tmS, tmsS, fmS, fmsS]
  simp
theorem check_ex : PFn Tryz.prog 13 [.im (.sl 4 (fmR [])), .im (.sl 4 (fmR [])), dvV exD] (rsV (.ok (conn 4 [exP, exP]))) := by
  have h := (check_walk [] [] exD exD_S fmsS_nil fmsS_nil (by simp) (by simp) (fun _ => by decide)).toA fun _ _ h => h
  rw [ex_check] at h
  exact h.mono fun r H' ⟨a, b⟩ => ⟨b, a⟩
theorem text_ex : PFn Tryz.prog 33 [fmV (conn 4 [exP, exP])] (.tup [Sv [36, 62, 32, 112, 32, 112], Iv 0]) := by
  have h := text_spec (conn 4 [exP, exP]) (by simp only [exP, fmS, fmsS, tmsS]; simp)
  rw [ex_text] at h
  exact h
abbrev exV : AV := .agg [Iv 4, Sv [], .im (.sl 3 []), .im (.sl 4 [[Ii 1, Si [112], .sl 3 [], .sl 4 []], [Ii 1, Si [112], .sl 3 [], .sl 4 []]])]
theorem awake_spec : PFn Tryz.prog 12 [] (Bv true) := by
  have hc0 : PFn Tryz.prog 13 [.im (.sl 4 []), .im (.sl 4 []), .agg [Iv 3, Iv 0, Sv [], Sv [], Iv 0, .im (.sl 3 []), Iv 1, Sv [112], .im (.sl 3 []), .im (.sl 4 []), .im (.sl 11 [[Ii 1, Ii 0, Si [], Si [], Ii 0, .sl 3 [], Ii 0, Si [], .sl 3 [], .sl 4 [], .sl 11 []]])]] (.tup [exV, .im (.sl 1 []), Iv 0]) := check_ex
  have hc := hc0.argLe (xs := [nilV, nilV, .agg [Iv 3, Iv 0, Sv [], Sv [], Iv 0, nilV, Iv 1, Sv [112], nilV, nilV, .im (.sl 11 [[Ii 1, Ii 0, Si [], Si [], Ii 0, .v (.slice none 0 0), Ii 0, Si [], .v (.slice none 0 0), .v (.slice none 0 0), .v (.slice none 0 0)]])]]) (by repeat' (first | with_reducible exact AVle.refl _ | with_reducible exact IVle.refl _ | exact IVle.nil _ | with_reducible exact cellsLe.refl _ | with_reducible exact rowLe.refl _ | with_reducible exact rowsLe.refl _ | refine cellsLe.cons2 ?_ ?_ | refine AVle.agg ?_ | refine AVle.im ?_ | refine IVle.sl ?_ | refine rowsLe.cons ?_ ?_ | refine rowLe.cons ?_ ?_))
  have ht : PFn Tryz.prog 33 [exV] (.tup [Sv [36, 62, 32, 112, 32, 112], Iv 0]) := text_ex
  refine ACall.walk [0, 1, 2, 4, 5, 6] [1, 2] Tryz.func12 rfl Tryz.ntmps12 (by kernel_rfl) (by rfl) rfl fun W own I0 φ0 lay => ?_
  refine gO ?_
  refine AQ.fn (by kernel_rfl) rfl rfl rfl (hc) rfl ?_
  refine gO ?_
  refine AQ.fn (by kernel_rfl) rfl rfl rfl (ht) rfl ?_
  refine gO ?_
  exact AE.retD [1, 0] rfl ⟨rfl, trivial⟩ rfl ⟨rfl, rfl⟩
end Go.Proofs.YteacpafhmgdbkaaGreatDoor
end

section
namespace Go.Proofs.YteacpafhmgdbkaaGreatDoor
open Go Go.AL Go.RowKit
set_option maxRecDepth 100000
theorem typed_slice2 {P : Program} {n : Nat} {t e : TypeId} {xs : List IV} (ht : P.underlying t = some (.slice e)) (h : Typed P n t xs) : ∃ rows m, n = m + 1 ∧ xs = [.sl (P.cellsOf e) rows] ∧ rows.length ≤ maxLen ∧ ∀ r ∈ rows, Typed P m e r := by
  cases n with
  | zero => exact h.elim
  | succ n =>
    simp only [Typed, ht] at h
    obtain ⟨rows, h1, h2, h3⟩ := h
    exact ⟨rows, n, rfl, h1, h2, h3⟩
theorem typed_struct2 {P : Program} {n : Nat} {t : TypeId} {fs : Array Field} {xs : List IV} (ht : P.underlying t = some (.struct fs)) (h : Typed P n t xs) :
    ∃ m, n = m + 1 ∧ xs.length = P.cellsOf t ∧ ∀ (i : Nat) (f : Field), fs.toList[i]? = some f → Typed P m f.type ((xs.drop f.offset).take (P.cellsOf f.type)) := by
  cases n with
  | zero => exact h.elim
  | succ n =>
    simp only [Typed, ht] at h
    exact ⟨n, rfl, h⟩
theorem str_of {n : Nat} {xs : List IV} (h : Typed Tryz.prog n 9 xs) : ∃ l : List UInt8, xs = [Si l] ∧ l.length ≤ 9223372036854775807 := by
  obtain ⟨s, rfl, hs⟩ := typed_str Tryz.underlying9 h
  refine ⟨s.data.toList, congrArg (fun x => [IV.v (Value.string x)]) (BA_of s), ?_⟩
  have e : s.size = s.data.size := rfl
  have e2 : s.data.toList.length = s.data.size := Array.length_toList
  unfold maxLen at hs
  omega
theorem tmsS_of : ∀ {l : List Tm}, (∀ t ∈ l, tmS t) → tmsS l
  | [], _ => by rw [tmsS]; trivial
  | t :: l, h => by rw [tmsS]; exact ⟨h t (List.mem_cons_self ..), tmsS_of fun u hu => h u (List.mem_cons_of_mem _ hu)⟩
theorem fmsS_of : ∀ {l : List Fm}, (∀ t ∈ l, fmS t) → fmsS l
  | [], _ => by rw [fmsS]; trivial
  | t :: l, h => by rw [fmsS]; exact ⟨h t (List.mem_cons_self ..), fmsS_of fun u hu => h u (List.mem_cons_of_mem _ hu)⟩
theorem tm_of : ∀ (n : Nat) {xs : List IV}, Typed Tryz.prog n 25 xs → ∃ t : Tm, xs = tmC t ∧ tmS t := by
  intro n
  induction n using Nat.strongRecOn with
  | _ n ih =>
  intro xs h
  have hc : Tryz.prog.cellsOf 25 = 3 := by kernel_rfl
  have hc9 : Tryz.prog.cellsOf 9 = 1 := by kernel_rfl
  have hc3 : Tryz.prog.cellsOf 3 = 1 := by kernel_rfl
  have hc23 : Tryz.prog.cellsOf 23 = 1 := by kernel_rfl
  obtain ⟨m, rfl, hlen, hf⟩ := typed_struct2 Tryz.underlying25 h
  rw [hc] at hlen
  match xs, hlen with
  | [a, b, c], _ =>
    have f0 := hf 0 _ rfl
    have f1 := hf 1 _ rfl
    have f2 := hf 2 _ rfl
    simp only [hc9, hc3, hc23, List.drop_zero, List.take_succ_cons, List.take_zero, List.drop_succ_cons] at f0 f1 f2
    obtain ⟨nm, e0, l0⟩ := str_of f0
    obtain ⟨ix, e1, _⟩ := typed_int Tryz.underlying3 f1
    obtain ⟨rows, m', rfl, e2, hl, hrow⟩ := typed_slice2 Tryz.underlying23 f2
    obtain ⟨l, rfl, hp⟩ := rows_of (p := tmS) (f := tmC) rows fun r hr => ih m' (by omega) (hrow r hr)
    cases e0; cases e1; cases e2
    rw [List.length_map] at hl
    unfold maxLen at hl
    exact ⟨.mk nm ix l, by rw [tmC, tmR_map, hc], by rw [tmS]; exact ⟨l0, by omega, tmsS_of hp⟩⟩
theorem tms_of (n : Nat) {xs : List IV} (h : Typed Tryz.prog n 23 xs) : ∃ l : List Tm, xs = [.sl 3 (tmR l)] ∧ l.length ≤ 9223372036854775807 ∧ tmsS l := by
  have hc : Tryz.prog.cellsOf 25 = 3 := by kernel_rfl
  obtain ⟨rows, m', rfl, rfl, hl, hrow⟩ := typed_slice2 Tryz.underlying23 h
  obtain ⟨l, rfl, hp⟩ := rows_of (p := tmS) (f := tmC) rows fun r hr => tm_of m' (hrow r hr)
  rw [List.length_map] at hl
  unfold maxLen at hl
  exact ⟨l, by rw [tmR_map, hc], by omega, tmsS_of hp⟩
theorem fm_of : ∀ (n : Nat) {xs : List IV}, Typed Tryz.prog n 27 xs → ∃ t : Fm, xs = fmC t ∧ fmS t := by
  intro n
  induction n using Nat.strongRecOn with
  | _ n ih =>
  intro xs h
  have hc : Tryz.prog.cellsOf 27 = 4 := by kernel_rfl
  have hc9 : Tryz.prog.cellsOf 9 = 1 := by kernel_rfl
  have hc3 : Tryz.prog.cellsOf 3 = 1 := by kernel_rfl
  have hc23 : Tryz.prog.cellsOf 23 = 1 := by kernel_rfl
  have hc22 : Tryz.prog.cellsOf 22 = 1 := by kernel_rfl
  obtain ⟨m, rfl, hlen, hf⟩ := typed_struct2 Tryz.underlying27 h
  rw [hc] at hlen
  match xs, hlen with
  | [a, b, c, d], _ =>
    have f0 := hf 0 _ rfl
    have f1 := hf 1 _ rfl
    have f2 := hf 2 _ rfl
    have f3 := hf 3 _ rfl
    simp only [hc9, hc3, hc23, hc22, List.drop_zero, List.take_succ_cons, List.take_zero, List.drop_succ_cons] at f0 f1 f2 f3
    obtain ⟨k, e0, _⟩ := typed_int Tryz.underlying3 f0
    obtain ⟨nm, e1, l1⟩ := str_of f1
    obtain ⟨ts, e2, l2, p2⟩ := tms_of m f2
    obtain ⟨rows, m', rfl, e3, hl, hrow⟩ := typed_slice2 Tryz.underlying22 f3
    obtain ⟨l, rfl, hp⟩ := rows_of (p := fmS) (f := fmC) rows fun r hr => ih m' (by omega) (hrow r hr)
    cases e0; cases e1; cases e2; cases e3
    rw [List.length_map] at hl
    unfold maxLen at hl
    exact ⟨.mk k nm ts l, by rw [fmC, fmR_map, hc], by rw [fmS]; exact ⟨l1, l2, p2, by omega, fmsS_of hp⟩⟩
end Go.Proofs.YteacpafhmgdbkaaGreatDoor
end

section
namespace Go.Proofs.YteacpafhmgdbkaaGreatDoor
open Go Go.AL Go.RowKit
set_option maxRecDepth 100000
theorem gPow : Tryz.prog.globalNamed "internal/strconv.uint64pow10" = some 3 := by kernel_rfl
theorem gSyn : Tryz.prog.globalNamed "strconv.ErrSyntax" = none := by kernel_rfl
theorem gRng : Tryz.prog.globalNamed "strconv.ErrRange" = none := by kernel_rfl
theorem gPowT : (Tryz.prog.globals[3]?).map (·.type) = some 310 := by kernel_rfl
theorem var_cells {P : Program} {W : World} {n : String} {g : Nat} {cs : Array Value} (hg : P.globalNamed n = some g) (h : W.var? P n = some cs) : g < W.heap.size ∧ ∃ T fz, W.heap[g]? = some (.cells cs T fz) := by
  unfold World.var? at h
  rw [hg, Option.bind_some] at h
  split at h
  · rename_i cs' T fz hh
    cases h
    refine ⟨?_, T, fz, hh⟩
    rcases Nat.lt_or_ge g W.heap.size with h' | h'
    · exact h'
    · rw [Array.getElem?_eq_none h'] at hh; cases hh
  · cases h
theorem vk_of {W : World} (h : laidMet Tryz.prog [("math/bits.deBruijn32tab", Rows.laid_math_bits_deBruijn32tab), ("math/bits.deBruijn64tab", Rows.laid_math_bits_deBruijn64tab), ("internal/strconv.uint64pow10", Rows.laid_internal_strconv_uint64pow10)] W) :
    VK Tryz.prog W (fun g => g < W.heap.size) := by
  have h3 := h.tail.tail
  intro x hx g hg
  simp only [laidVars, List.mem_cons, List.not_mem_nil, or_false] at hx
  rcases hx with rfl | rfl | rfl
  · rw [gSyn] at hg; cases hg
  · rw [gRng] at hg; cases hg
  · have ht : Lib.TabIs Tryz.prog W "internal/strconv.uint64pow10" .u64 Lib.pow10Tab := Lib.tabIs_of_head (rest := _) gPow gPowT Tryz.underlying310 Tryz.underlying278 (by kernel_rfl) (by kernel_rfl) h3
    obtain ⟨h1, T, fz, h2⟩ := var_cells hg ht
    exact ⟨h1, _, h2, T, fz, rfl⟩
def litCells (d : DataW Unit) : Array Value := match d with
  | .agg l => (l.map fun x => match x with
    | .lit (.int k z) => Value.int k z
    | _ => .nilIface).toArray
  | _ => #[]
def putCells (cs : Array Value) : Obj → Obj
  | .cells _ t frozen => .cells cs t frozen
  | o => o
noncomputable def laidWorld (os : Os) : World :=
  let w0 := World.holding Tryz.prog os ⟨#[], #[], []⟩
  { w0 with heap := ((w0.heap.modify 3 (putCells (litCells Rows.laid_internal_strconv_uint64pow10))).modify 4 (putCells (litCells Rows.laid_math_bits_deBruijn32tab))).modify 5 (putCells (litCells Rows.laid_math_bits_deBruijn64tab)) }
end Go.Proofs.YteacpafhmgdbkaaGreatDoor
end

section
namespace Go.Proofs.YteacpafhmgdbkaaGreatDoor
open Go Go.AL Go.RowKit
set_option maxRecDepth 10000
set_option maxHeartbeats 4000000
mutual
theorem mapT_dp {g : Tm → Tm} (hg : ∀ u, dpT (g u) ≤ 1) : ∀ t : Tm, dpT (mapT g t) ≤ dpT t
  | .mk n i xs => by
    have := mapTs_dp hg xs
    by_cases hx : xs.length = 0
    · rw [mapT_leaf _ (.mk n i xs) hx, dpT]
      have := hg (.mk n i xs)
      omega
    · rw [mapT_node _ (.mk n i xs) hx, dpT, dpT]
      simp only [Tm.xs] at *
      omega
theorem mapTs_dp {g : Tm → Tm} (hg : ∀ u, dpT (g u) ≤ 1) : ∀ l : List Tm, dpTs (l.map (mapT g)) ≤ dpTs l
  | [] => by rw [List.map_nil]; exact Nat.le_refl _
  | t :: l => by
    have := mapT_dp hg t
    have := mapTs_dp hg l
    rw [List.map_cons, dpTs, dpTs]; omega
end
mutual
theorem mapF_dp {g : Tm → Int → Tm} (hg : ∀ u d, dpT (g u d) ≤ 1) : ∀ (f : Fm) (d : Int), dpF (mapF g f d) ≤ dpF f
  | .mk k n ts ps, d => by
    have := mapTs_dp (fun u => hg u d) ts
    have := mapFs_dp hg ps (d + bnd (.mk k n ts ps))
    rw [mapF, dpF, dpF]; omega
theorem mapFs_dp {g : Tm → Int → Tm} (hg : ∀ u d, dpT (g u d) ≤ 1) : ∀ (l : List Fm) (d : Int), dpFs (mapFs g l d) ≤ dpFs l
  | [], d => by rw [mapFs]; exact Nat.le_refl _
  | f :: l, d => by
    have := mapF_dp hg f d
    have := mapFs_dp hg l d
    rw [mapFs, dpFs, dpFs]; omega
end
theorem abst_dp (nm : Nm) (f : Fm) : dpF (abst nm f) ≤ dpF f := mapF_dp (fun u d => by
  unfold leafA
  split
  · rw [dpT, dpTs]; omega
  · rw [leafC, dpT, dpTs]; omega) f 0
theorem mapT_two (nm : Nm) (hnm : nm ≠ []) (t : Tm) (d b : Int) (hb : b ≤ d) : ∀ x : Tm, wT x b = 0 → chT ⟨false, false, nm, t⟩ x d = mapT (fun u => leafO t u d) (mapT (fun u => leafA nm u d) x) := by
  intro x
  refine Tm.rec (motive_1 := fun x => wT x b = 0 → chT ⟨false, false, nm, t⟩ x d = mapT (fun u => leafO t u d) (mapT (fun u => leafA nm u d) x)) (motive_2 := fun l => wTs l b = 0 → chTs ⟨false, false, nm, t⟩ l d = (l.map (mapT fun u => leafA nm u d)).map (mapT fun u => leafO t u d)) (fun n i xs ih h => ?_) (fun _ => by rw [chTs]; rfl) (fun u l h1 h2 h => ?_) x
  · have h0 := wT_nm h
    simp only [Tm.nm, Tm.xs, Tm.ix] at h0
    rw [chT_eq]
    have e1 : cA ⟨false, false, nm, t⟩ (.mk n i xs) d = false := by simp [cA]
    have e2 : cB ⟨false, false, nm, t⟩ (.mk n i xs) = false := by simp [cB]
    simp only [e1, e2, Bool.false_eq_true, if_false, Tm.nm, Tm.ix, Tm.xs]
    by_cases hx : xs.length = 0
    · rw [mapT_leaf _ (.mk n i xs) hx]
      have hx := List.eq_nil_of_length_eq_zero hx
      subst hx
      by_cases hn : n = nm
      · have e3 : cC ⟨false, false, nm, t⟩ (.mk n i []) = true := by simp [cC, Tm.nm, Tm.xs, hn, hnm]
        rw [if_pos e3, leafA, if_pos (show (Tm.mk n i []).nm = nm from hn), mapT_leaf _ _ rfl, leafO, if_pos ⟨rfl, rfl⟩, mapT_id]
      · have e3 : cC ⟨false, false, nm, t⟩ (.mk n i []) = false := by simp [cC, Tm.nm, hn]
        simp only [e3, Bool.false_eq_true, if_false]
        rw [leafA, if_neg (show ¬ (Tm.mk n i []).nm = nm from hn), leafC]
        simp only [Tm.nm, Tm.ix]
        rw [mapT_leaf _ _ rfl, leafO, if_neg (fun hc => by
          simp only [Tm.nm, Tm.ix] at hc
          have := (h0.2.1 hc.1).2
          omega), leafC]
        simp [Tm.nm, Tm.ix, chTs]
    · have hn : n ≠ [] := fun hc => hx (by rw [(h0.2.1 hc).1]; rfl)
      have e3 : cC ⟨false, false, nm, t⟩ (.mk n i xs) = false := by
        simp [cC, Tm.nm, Tm.xs]
        intro _ hc
        exact absurd (by rw [hc]; rfl) hx
      simp only [e3, Bool.false_eq_true, if_false]
      rw [mapT_node _ (.mk n i xs) hx]
      simp only [Tm.nm, Tm.ix, Tm.xs]
      rw [mapT_node _ _ (by simp only [Tm.xs, List.length_map]; exact hx)]
      simp only [Tm.nm, Tm.ix, Tm.xs]
      rw [ih (h0.2.2 hn).2.2]
  · obtain ⟨a1, a2⟩ := wTs_cons h
    rw [chTs, h1 a1, h2 a2]; rfl
theorem mapTs_two (nm : Nm) (hnm : nm ≠ []) (t : Tm) (d b : Int) (hb : b ≤ d) : ∀ l : List Tm, wTs l b = 0 → chTs ⟨false, false, nm, t⟩ l d = (l.map (mapT fun u => leafA nm u d)).map (mapT fun u => leafO t u d)
  | [], _ => by rw [chTs]; rfl
  | x :: l, h => by
    obtain ⟨a1, a2⟩ := wTs_cons h
    rw [chTs, mapT_two nm hnm t d b hb x a1, mapTs_two nm hnm t d b hb l a2]; rfl
mutual
theorem mapF_two (nm : Nm) (hnm : nm ≠ []) (t : Tm) : ∀ (F : Fm) (d b : Int), b ≤ d → wF F b = 0 → chF ⟨false, false, nm, t⟩ F d = mapF (leafO t) (mapF (leafA nm) F d) d
  | .mk k n ts ps, d, b, hb, h => by
    obtain ⟨_, h1, h2⟩ := wF_parts h
    simp only [Fm.ts, Fm.ps] at h1 h2
    have hbd : bnd (.mk k n ts ps) = bnd (mapF (leafA nm) (.mk k n ts ps) d) := by rw [mapF]; rfl
    rw [chF, mapF]
    rw [mapF]
    rw [mapFs_two nm hnm t ps _ _ (by omega) h2, ← chTs_map, mapTs_two nm hnm t d b hb ts h1]
    rfl
theorem mapFs_two (nm : Nm) (hnm : nm ≠ []) (t : Tm) : ∀ (l : List Fm) (d b : Int), b ≤ d → wFs l b = 0 → chFs ⟨false, false, nm, t⟩ l d = mapFs (leafO t) (mapFs (leafA nm) l d) d
  | [], d, b, _, _ => by rw [chFs, mapFs, mapFs]
  | x :: l, d, b, hb, h => by
    obtain ⟨h1, h2⟩ := wFs_cons h
    rw [chFs, mapFs, mapFs, mapF_two nm hnm t x d b hb h1, mapFs_two nm hnm t l d b hb h2]
end
theorem chF_repl (nm : Nm) (hnm : nm ≠ []) (t : Tm) (F : Fm) (h : unF F 0 = 0) : chF ⟨false, false, nm, t⟩ F 0 = opn t (abst nm F) := mapF_two nm hnm t F 0 0 (Int.le_refl _) (un_fit h).2.2
theorem fitF_of_sz {f : Fm} (h1 : szF f ≤ 4000) (h2 : dpF f ≤ 100) : ∃ m, msF f 1 0 = some m := by
  refine ⟨_, (msF_sz f 1 0).trans (if_pos ?_)⟩
  omega
end Go.Proofs.YteacpafhmgdbkaaGreatDoor
end

section
namespace Go.Proofs.YteacpafhmgdbkaaGreatDoor
open Go Go.AL Go.RowKit
set_option maxRecDepth 10000
set_option maxHeartbeats 4000000
def szd (g : Fm) : Fm × Int := if unF g 0 = 0 then (g, 0) else (fm0, 15)
abbrev feV (q : Fm × Int) : AV := .tup [fmV q.1, Iv q.2]
theorem szd_spec (f : Fm) (hs : fmS f) : PFn Tryz.prog 68 [fmV f] (feV (szd f)) := by
  have h := sized_spec f hs
  unfold szd
  by_cases hu : unF f 0 = 0
  · rw [if_pos hu, if_pos hu] at h; rw [if_pos hu]; exact h
  · rw [if_neg hu, if_neg hu] at h; rw [if_neg hu]; exact h
theorem large_ref (f : Fm) (hs : fmS f) (hz : szF f ≤ 1000000000) : PFn Tryz.prog 71 [fmV f] (feV (szd f)) := by
  refine ACall.walk [0, 1, 2, 3, 6] [2] Tryz.func71 rfl Tryz.ntmps71 (by kernel_rfl) (by rfl) rfl fun W own I0 φ0 lay => ?_
  refine gO ?_
  refine AQ.fn (by kernel_rfl) rfl rfl rfl (wellR_spec f hs hz) rfl ?_
  refine gO ?_
  refine AP.cond rfl rfl (fun h => ?_) (fun h => ?_)
  · have h : ¬ unF f 0 = 0 := by simpa using h
    refine gO ?_
    refine AE.cellsW 0 fF rfl (cellsLe.cons (cellsLe.cons (cellsLe.nil (cellsLe.nil (cellsLe.refl _))))) ?_
    refine sI ?_
    exact AE.retD [0] rfl ⟨⟨rfl, Nat.le_of_ble_eq_true (by kernel_rfl)⟩, rfl, trivial⟩ rfl ⟨rfl, by rw [szd, if_neg h]; rfl⟩
  · have h : unF f 0 = 0 := by simpa using h
    refine gO ?_
    exact AE.retD [0] rfl ⟨⟨rfl, Nat.le_of_ble_eq_true (by kernel_rfl)⟩, rfl, trivial⟩ rfl ⟨rfl, by rw [szd, if_pos h]; rfl⟩
def insE (f : Fm) (t : Tm) : Int := fstE [unF f 0, clT t, if decide (0 < bnd f) then 0 else 1]
def insF (f : Fm) (t : Tm) : Fm × Int := if insE f t = 0 then szd (opn t (part f 0)) else (fm0, insE f t)
def absE (k : Int) (f : Fm) (nm : Nm) : Int := fstE [if (k == 7 || k == 8) then 0 else 1, unF f 0, if isNm nm then 0 else 2]
def absF (k : Int) (f : Fm) (nm : Nm) : Fm × Int := if absE k f nm = 0 then szd (conn k [abst nm f]) else (fm0, absE k f nm)
def rplE (f : Fm) (nm : Nm) (t : Tm) : Int := fstE [unF f 0, clT t, if isNm nm then 0 else 2]
def rplF (f : Fm) (nm : Nm) (t : Tm) : Fm × Int := if rplE f nm t = 0 then szd (opn t (abst nm f)) else (fm0, rplE f nm t)
theorem insE_ok {f : Fm} {t : Tm} (h : insE f t = 0) : unF f 0 = 0 ∧ clT t = 0 ∧ ∃ x, f.ps = [x] ∧ unF x 1 = 0 := by
  unfold insE at h
  rw [fstE] at h
  by_cases h1 : unF f 0 = 0
  · rw [if_pos h1, fstE] at h
    by_cases h2 : clT t = 0
    · rw [if_pos h2, fstE] at h
      by_cases h3 : 0 < bnd f
      · refine ⟨h1, h2, un_quant h1 ?_⟩
        unfold bnd at h3
        split at h3
        · assumption
        · omega
      · rw [decide_eq_false h3] at h; simp at h
    · rw [if_neg h2] at h; exact absurd h h2
  · rw [if_neg h1] at h; exact absurd h h1
theorem absE_ok {k : Int} {f : Fm} {nm : Nm} (h : absE k f nm = 0) : (k = 7 ∨ k = 8) ∧ unF f 0 = 0 ∧ isNm nm = true := by
  unfold absE at h
  rw [fstE] at h
  cases hk : (k == 7 || k == 8) with
  | false => rw [hk] at h; simp at h
  | true =>
    rw [hk, if_pos (by rfl), fstE] at h
    by_cases h1 : unF f 0 = 0
    · rw [if_pos h1, fstE] at h
      refine ⟨by simpa using hk, h1, ?_⟩
      cases hn : isNm nm with
      | true => rfl
      | false => rw [hn] at h; simp at h
    · rw [if_neg h1] at h; exact absurd h h1
theorem rplE_ok {f : Fm} {nm : Nm} {t : Tm} (h : rplE f nm t = 0) : unF f 0 = 0 ∧ clT t = 0 ∧ isNm nm = true := by
  unfold rplE at h
  rw [fstE] at h
  by_cases h1 : unF f 0 = 0
  · rw [if_pos h1, fstE] at h
    by_cases h2 : clT t = 0
    · rw [if_pos h2, fstE] at h
      refine ⟨h1, h2, ?_⟩
      cases hn : isNm nm with
      | true => rfl
      | false => rw [hn] at h; simp at h
    · rw [if_neg h2] at h; exact absurd h h2
  · rw [if_neg h1] at h; exact absurd h h1
theorem rows3 (a b c : Int) : [[Ii a], [Ii b], [Ii c]] = rowsI .i64 [a, b, c] := rfl
theorem instance_walk (f : Fm) (t : Tm) (hf : fmS f) (ht : tmS t) : PFn Tryz.prog 23 [fmV f, tmV t] (feV (insF f t)) := by
  have h1 := well_at f hf
  have h2 := closed_spec t ht
  have h3 := binds_spec f
  have h4 := wrong_spec (decide (0 < bnd f)) 1
  have h5 := first_spec [unF f 0, clT t, if decide (0 < bnd f) then 0 else 1] (by simp)
  rw [← rows3] at h5
  obtain ⟨q, hq⟩ : ∃ q, insF f t = q := ⟨_, rfl⟩
  rw [hq]
  have he : fstE [unF f 0, clT t, if decide (0 < bnd f) then 0 else 1] = insE f t := rfl
  rw [he] at h5
  refine ACall.walk [0, 1, 2, 3, 4, 5, 6, 18] [4] Tryz.func23 rfl Tryz.ntmps23 (by kernel_rfl) (by rfl) rfl fun W own I0 φ0 lay => ?_
  refine gO ?_
  refine AP.cut (α := Unit) (fun _ => [(2, .im (fmP f)), (3, .im (tmP t)), (4, .ob 0 0), (5, Iv 0), (6, Iv (insE f t))]) (fun _ => [(0, .var 27 zF)]) (fun _ => True) ?_ fun _ _ => ?_
  · skip
    refine AP.drawE 11 (Tree.node [] [0, 2, 4] [1] [Tree.node [2, 4] [] [3] [Tree.node [4] [] [5] [Tree.node [] [6] [7] [Tree.node [] [] [8] [Tree.node [] [] [9] [Tree.node [] [10] [] []]]]]]]) (by kernel_rfl) rfl (by kernel_rfl) (by kernel_rfl) ?_
    refine vd_node ?_
    refine sI ?_
    repeat' (first | with_reducible exact True.intro | with_reducible refine And.intro (by omega) ?_ | with_reducible refine And.intro ?_ ?_ | (refine AQ.nx rfl ?_; refine sI ?_) | ((with_reducible show AQ _ _ _ ({ dst := _, op := Op.call { callee := Callee.value (Operand.func 37), args := _, argTypes := _ }, type := _, pos := _, after := _, guard := _ } :: _) _ _ _); refine AQ.fn (by kernel_rfl) rfl rfl rfl (h1) rfl ?_; refine sI ?_) | ((with_reducible show AQ _ _ _ ({ dst := _, op := Op.call { callee := Callee.value (Operand.func 65), args := _, argTypes := _ }, type := _, pos := _, after := _, guard := _ } :: _) _ _ _); refine AQ.fn (by kernel_rfl) rfl rfl rfl (h2) rfl ?_; refine sI ?_) | ((with_reducible show AQ _ _ _ ({ dst := _, op := Op.call { callee := Callee.value (Operand.func 67), args := _, argTypes := _ }, type := _, pos := _, after := _, guard := _ } :: _) _ _ _); refine AQ.fn (by kernel_rfl) rfl rfl rfl (h3) rfl ?_; refine sI ?_) | ((with_reducible show AQ _ _ _ ({ dst := _, op := Op.call { callee := Callee.value (Operand.func 66), args := _, argTypes := _ }, type := _, pos := _, after := _, guard := _ } :: _) _ _ _); refine AQ.fn (by kernel_rfl) rfl rfl rfl (h4) rfl ?_; refine sI ?_) | ((with_reducible show AQ _ _ _ ({ dst := _, op := Op.call { callee := Callee.value (Operand.func 64), args := _, argTypes := _ }, type := _, pos := _, after := _, guard := _ } :: _) _ _ _); refine AQ.fn (by kernel_rfl) rfl rfl rfl (h5) rfl ?_; refine sI ?_) | refine AQ.done ?_ | (refine AQ.go (by kernel_rfl) ?_; refine sI ?_; repeat (with_reducible refine And.intro (by omega) ?_); refine AQ.nx rfl ?_; refine sI ?_))
    all_goals exact AE.meet () trivial (sU) rfl
  unfold insF at hq
  refine gO ?_
  refine AP.cond rfl rfl (fun h => ?_) (fun h => ?_)
  · have h : ¬ insE f t = 0 := by simpa using h
    rw [if_neg h] at hq
    subst hq
    refine gO ?_
    refine AE.cellsW 0 fF rfl (cellsLe.cons (cellsLe.cons (cellsLe.nil (cellsLe.nil (cellsLe.refl _))))) ?_
    refine sI ?_
    exact AE.retD [0] rfl ⟨⟨rfl, Nat.le_of_ble_eq_true (by kernel_rfl)⟩, rfl, trivial⟩ rfl ⟨rfl, rfl⟩
  · have h : insE f t = 0 := by simpa using h
    rw [if_pos h] at hq
    obtain ⟨hu, hc, x, hp, hx⟩ := insE_ok h
    have hxf := un_fit hx
    obtain ⟨m, hm⟩ := un_ms hx
    have ho := opened_spec x t 1 0 m hm (by omega) (by omega) (tmL_sz t (by have := cl_fit hc; omega))
    have hz := szd_spec (opn t x) (opn_S ht (un_S hx))
    rw [show part f 0 = x by rw [part, hp]; rfl] at hq
    rw [hq] at hz
    have hr1 : fmR f.ps = [fmRow x] := by rw [hp, fmR_one]
    have hg0 : (fmR f.ps).getD 0 [] = fmRow x := by rw [hr1]; rfl
    have hl0 : (fmR f.ps).length = 1 := by rw [hr1]; rfl
    have ho : PFn Tryz.prog 69 [fmV x, tmV t] (fmV (opn t x)) := ho
    generalize opn t x = o at *
    refine gO ?_
    refine AP.drawE 11 (Tree.node [] [0, 1, 2, 3, 4] [5] [Tree.node [] [] [6] [Tree.node [] [7, 8] [9] [Tree.node [] [10] [] []]]]) (by kernel_rfl) rfl (by kernel_rfl) (by kernel_rfl) ?_
    refine vd_node ?_
    refine sE (an @hg0 @hl0) ?_
    refine And.intro (by omega) ?_
    repeat' (first | with_reducible exact True.intro | with_reducible refine And.intro (by omega) ?_ | with_reducible refine And.intro ?_ ?_ | (refine AQ.nx rfl ?_; refine sE (an @hg0 @hl0) ?_) | ((with_reducible show AQ _ _ _ ({ dst := _, op := Op.call { callee := Callee.value (Operand.func 69), args := _, argTypes := _ }, type := _, pos := _, after := _, guard := _ } :: _) _ _ _); refine AQ.fn (by kernel_rfl) rfl rfl rfl (ho) rfl ?_; refine sI ?_) | ((with_reducible show AQ _ _ _ ({ dst := _, op := Op.call { callee := Callee.value (Operand.func 68), args := _, argTypes := _ }, type := _, pos := _, after := _, guard := _ } :: _) _ _ _); refine AQ.fn (by kernel_rfl) rfl rfl rfl (hz) rfl ?_; refine sI ?_) | refine AQ.done ?_ | (refine AQ.go (by kernel_rfl) ?_; refine sE (an @hg0 @hl0) ?_; repeat (with_reducible refine And.intro (by omega) ?_); refine AQ.nx rfl ?_; refine sE (an @hg0 @hl0) ?_))
    all_goals refine gO ?_
    all_goals exact AE.retD [0] rfl ⟨⟨rfl, Nat.le_of_ble_eq_true (by kernel_rfl)⟩, rfl, trivial⟩ rfl ⟨rfl, rfl⟩
theorem abstract_walk (k : Int) (f : Fm) (nm : Nm) (hf : fmS f) (hn : nm.length ≤ 9223372036854775807) : PFn Tryz.prog 26 [Iv k, fmV f, Sv nm] (feV (absF k f nm)) := by
  have h1 := well_at f hf
  have h2 := isName_spec nm hn
  have h3 := wrong_spec (k == 7 || k == 8) 1
  have h4 := wrong_spec (isNm nm) 2
  have h5 := first_spec [if (k == 7 || k == 8) then 0 else 1, unF f 0, if isNm nm then 0 else 2] (by simp)
  rw [← rows3] at h5
  obtain ⟨q, hq⟩ : ∃ q, absF k f nm = q := ⟨_, rfl⟩
  rw [hq]
  have he : fstE [if (k == 7 || k == 8) then 0 else 1, unF f 0, if isNm nm then 0 else 2] = absE k f nm := rfl
  rw [he] at h5
  refine ACall.walk [0, 1, 2, 4, 6, 7, 8, 24] [6] Tryz.func26 rfl Tryz.ntmps26 (by kernel_rfl) (by rfl) rfl fun W own I0 φ0 lay => ?_
  refine gO ?_
  refine AP.cut (α := Unit) (fun _ => [(0, Iv k), (2, Sv nm), (4, .im (fmP f)), (6, .ob 0 0), (7, Iv 0), (8, Iv (absE k f nm))]) (fun _ => [(0, .var 27 zF)]) (fun _ => True) ?_ fun _ _ => ?_
  · skip
    refine AP.drawE 15 (Tree.node [] [0, 1, 2, 3, 4, 5, 7, 9] [6] [Tree.node [7, 9] [] [8] [Tree.node [9] [] [10] [Tree.node [] [] [11] [Tree.node [] [] [12] [Tree.node [] [] [13] [Tree.node [] [14] [] []]]]]]]) (by kernel_rfl) rfl (by kernel_rfl) (by kernel_rfl) ?_
    refine vd_node ?_
    refine sI ?_
    repeat' (first | with_reducible exact True.intro | with_reducible refine And.intro (by omega) ?_ | with_reducible refine And.intro ?_ ?_ | (refine AQ.nx rfl ?_; refine sI ?_) | ((with_reducible show AQ _ _ _ ({ dst := _, op := Op.call { callee := Callee.value (Operand.func 37), args := _, argTypes := _ }, type := _, pos := _, after := _, guard := _ } :: _) _ _ _); refine AQ.fn (by kernel_rfl) rfl rfl rfl (h1) rfl ?_; refine sI ?_) | ((with_reducible show AQ _ _ _ ({ dst := _, op := Op.call { callee := Callee.value (Operand.func 73), args := _, argTypes := _ }, type := _, pos := _, after := _, guard := _ } :: _) _ _ _); refine AQ.fn (by kernel_rfl) rfl rfl rfl (h2) rfl ?_; refine sI ?_) | ((with_reducible show AQ _ _ _ ({ dst := _, op := Op.call { callee := Callee.value (Operand.func 66), args := _, argTypes := _ }, type := _, pos := _, after := _, guard := _ } :: _) _ _ _); refine AQ.fn (by kernel_rfl) rfl rfl rfl (h3) rfl ?_; refine sI ?_) | ((with_reducible show AQ _ _ _ ({ dst := _, op := Op.call { callee := Callee.value (Operand.func 66), args := _, argTypes := _ }, type := _, pos := _, after := _, guard := _ } :: _) _ _ _); refine AQ.fn (by kernel_rfl) rfl rfl rfl (h4) rfl ?_; refine sI ?_) | ((with_reducible show AQ _ _ _ ({ dst := _, op := Op.call { callee := Callee.value (Operand.func 64), args := _, argTypes := _ }, type := _, pos := _, after := _, guard := _ } :: _) _ _ _); refine AQ.fn (by kernel_rfl) rfl rfl rfl (h5) rfl ?_; refine sI ?_) | refine AQ.done ?_ | (refine AQ.go (by kernel_rfl) ?_; refine sI ?_; repeat (with_reducible refine And.intro (by omega) ?_); refine AQ.nx rfl ?_; refine sI ?_))
    all_goals exact AE.meet () trivial (sU) rfl
  unfold absF at hq
  refine gO ?_
  refine AP.cond rfl rfl (fun h => ?_) (fun h => ?_)
  · have h : ¬ absE k f nm = 0 := by simpa using h
    rw [if_neg h] at hq
    subst hq
    refine gO ?_
    refine AE.cellsW 0 fF rfl (cellsLe.cons (cellsLe.cons (cellsLe.nil (cellsLe.nil (cellsLe.refl _))))) ?_
    refine sI ?_
    exact AE.retD [0] rfl ⟨⟨rfl, Nat.le_of_ble_eq_true (by kernel_rfl)⟩, rfl, trivial⟩ rfl ⟨rfl, rfl⟩
  · have h : absE k f nm = 0 := by simpa using h
    rw [if_pos h] at hq
    obtain ⟨hk, hu, hnm⟩ := absE_ok h
    obtain ⟨m, hm⟩ := un_ms hu
    have ho := abstracted_spec f nm 1 0 m hm (by omega) (by omega)
    have hcn := connect_spec k [abst nm f]
    have hz := szd_spec (conn k [abst nm f]) (conn_S (fmsS_one (abst_S hf)) (by simp))
    rw [hq] at hz
    have ho : PFn Tryz.prog 75 [fmV f, Sv nm] (fmV (abst nm f)) := ho
    rw [fmR_one] at hcn
    generalize abst nm f = o at *
    refine gO ?_
    refine AQ.fn (by kernel_rfl) rfl rfl rfl (ho) rfl ?_
    refine gO ?_
    refine AQ.fn (by kernel_rfl) rfl rfl rfl (hcn) rfl ?_
    refine gO ?_
    refine AQ.fn (by kernel_rfl) rfl rfl rfl (hz) rfl ?_
    refine gO ?_
    exact AE.retD [0] rfl ⟨⟨rfl, Nat.le_of_ble_eq_true (by kernel_rfl)⟩, rfl, trivial⟩ rfl ⟨rfl, rfl⟩
theorem replaced_walk (f : Fm) (nm : Nm) (t : Tm) (hf : fmS f) (hn : nm.length ≤ 9223372036854775807) (ht : tmS t) : PFn Tryz.prog 28 [fmV f, Sv nm, tmV t] (feV (rplF f nm t)) := by
  have h1 := well_at f hf
  have h2 := closed_spec t ht
  have h3 := isName_spec nm hn
  have h4 := wrong_spec (isNm nm) 2
  have h5 := first_spec [unF f 0, clT t, if isNm nm then 0 else 2] (by simp)
  rw [← rows3] at h5
  obtain ⟨q, hq⟩ : ∃ q, rplF f nm t = q := ⟨_, rfl⟩
  rw [hq]
  have he : fstE [unF f 0, clT t, if isNm nm then 0 else 2] = rplE f nm t := rfl
  rw [he] at h5
  refine ACall.walk [0, 1, 2, 3, 5, 6, 7, 8, 19] [6] Tryz.func28 rfl Tryz.ntmps28 (by kernel_rfl) (by rfl) rfl fun W own I0 φ0 lay => ?_
  refine gO ?_
  refine AP.cut (α := Unit) (fun _ => [(1, Sv nm), (3, .im (fmP f)), (5, .im (tmP t)), (6, .ob 0 0), (7, Iv 0), (8, Iv (rplE f nm t))]) (fun _ => [(0, .var 27 zF)]) (fun _ => True) ?_ fun _ _ => ?_
  · skip
    refine AP.drawE 10 (Tree.node [] [0, 2, 4] [1] [Tree.node [2, 4] [] [3] [Tree.node [4] [] [5] [Tree.node [] [] [6] [Tree.node [] [] [7] [Tree.node [] [] [8] [Tree.node [] [9] [] []]]]]]]) (by kernel_rfl) rfl (by kernel_rfl) (by kernel_rfl) ?_
    refine vd_node ?_
    refine sI ?_
    repeat' (first | with_reducible exact True.intro | with_reducible refine And.intro (by omega) ?_ | with_reducible refine And.intro ?_ ?_ | (refine AQ.nx rfl ?_; refine sI ?_) | ((with_reducible show AQ _ _ _ ({ dst := _, op := Op.call { callee := Callee.value (Operand.func 37), args := _, argTypes := _ }, type := _, pos := _, after := _, guard := _ } :: _) _ _ _); refine AQ.fn (by kernel_rfl) rfl rfl rfl (h1) rfl ?_; refine sI ?_) | ((with_reducible show AQ _ _ _ ({ dst := _, op := Op.call { callee := Callee.value (Operand.func 65), args := _, argTypes := _ }, type := _, pos := _, after := _, guard := _ } :: _) _ _ _); refine AQ.fn (by kernel_rfl) rfl rfl rfl (h2) rfl ?_; refine sI ?_) | ((with_reducible show AQ _ _ _ ({ dst := _, op := Op.call { callee := Callee.value (Operand.func 73), args := _, argTypes := _ }, type := _, pos := _, after := _, guard := _ } :: _) _ _ _); refine AQ.fn (by kernel_rfl) rfl rfl rfl (h3) rfl ?_; refine sI ?_) | ((with_reducible show AQ _ _ _ ({ dst := _, op := Op.call { callee := Callee.value (Operand.func 66), args := _, argTypes := _ }, type := _, pos := _, after := _, guard := _ } :: _) _ _ _); refine AQ.fn (by kernel_rfl) rfl rfl rfl (h4) rfl ?_; refine sI ?_) | ((with_reducible show AQ _ _ _ ({ dst := _, op := Op.call { callee := Callee.value (Operand.func 64), args := _, argTypes := _ }, type := _, pos := _, after := _, guard := _ } :: _) _ _ _); refine AQ.fn (by kernel_rfl) rfl rfl rfl (h5) rfl ?_; refine sI ?_) | refine AQ.done ?_ | (refine AQ.go (by kernel_rfl) ?_; refine sI ?_; repeat (with_reducible refine And.intro (by omega) ?_); refine AQ.nx rfl ?_; refine sI ?_))
    all_goals exact AE.meet () trivial (sU) rfl
  unfold rplF at hq
  refine gO ?_
  refine AP.cond rfl rfl (fun h => ?_) (fun h => ?_)
  · have h : ¬ rplE f nm t = 0 := by simpa using h
    rw [if_neg h] at hq
    subst hq
    refine gO ?_
    refine AE.cellsW 0 fF rfl (cellsLe.cons (cellsLe.cons (cellsLe.nil (cellsLe.nil (cellsLe.refl _))))) ?_
    refine sI ?_
    exact AE.retD [0] rfl ⟨⟨rfl, Nat.le_of_ble_eq_true (by kernel_rfl)⟩, rfl, trivial⟩ rfl ⟨rfl, rfl⟩
  · have h : rplE f nm t = 0 := by simpa using h
    rw [if_pos h] at hq
    obtain ⟨hu, hc, hnm⟩ := rplE_ok h
    have huf := un_fit hu
    obtain ⟨m, hm⟩ := un_ms hu
    have ha := abstracted_spec f nm 1 0 m hm (by omega) (by omega)
    have ha : PFn Tryz.prog 75 [fmV f, Sv nm] (fmV (abst nm f)) := ha
    obtain ⟨m2, hm2⟩ := fitF_of_sz (f := abst nm f) (by have := abst_sz (nm := nm) (f := f); omega) (by have := abst_dp nm f; omega)
    have ho := opened_spec (abst nm f) t 1 0 m2 hm2 (by omega) (by omega) (tmL_sz t (by have := cl_fit hc; omega))
    have ho : PFn Tryz.prog 69 [fmV (abst nm f), tmV t] (fmV (opn t (abst nm f))) := ho
    have hz := szd_spec (opn t (abst nm f)) (opn_S ht (abst_S hf))
    rw [hq] at hz
    generalize opn t (abst nm f) = o at *
    generalize abst nm f = o2 at *
    refine gO ?_
    refine AP.drawE 10 (Tree.node [] [0, 1, 3] [2] [Tree.node [3] [] [4] [Tree.node [] [] [5] [Tree.node [] [6, 7] [8] [Tree.node [] [9] [] []]]]]) (by kernel_rfl) rfl (by kernel_rfl) (by kernel_rfl) ?_
    refine vd_node ?_
    refine sI ?_
    repeat' (first | with_reducible exact True.intro | with_reducible refine And.intro (by omega) ?_ | with_reducible refine And.intro ?_ ?_ | (refine AQ.nx rfl ?_; refine sI ?_) | ((with_reducible show AQ _ _ _ ({ dst := _, op := Op.call { callee := Callee.value (Operand.func 75), args := _, argTypes := _ }, type := _, pos := _, after := _, guard := _ } :: _) _ _ _); refine AQ.fn (by kernel_rfl) rfl rfl rfl (ha) rfl ?_; refine sI ?_) | ((with_reducible show AQ _ _ _ ({ dst := _, op := Op.call { callee := Callee.value (Operand.func 69), args := _, argTypes := _ }, type := _, pos := _, after := _, guard := _ } :: _) _ _ _); refine AQ.fn (by kernel_rfl) rfl rfl rfl (ho) rfl ?_; refine sI ?_) | ((with_reducible show AQ _ _ _ ({ dst := _, op := Op.call { callee := Callee.value (Operand.func 68), args := _, argTypes := _ }, type := _, pos := _, after := _, guard := _ } :: _) _ _ _); refine AQ.fn (by kernel_rfl) rfl rfl rfl (hz) rfl ?_; refine sI ?_) | refine AQ.done ?_ | (refine AQ.go (by kernel_rfl) ?_; refine sI ?_; repeat (with_reducible refine And.intro (by omega) ?_); refine AQ.nx rfl ?_; refine sI ?_))
    all_goals refine gO ?_
    all_goals exact AE.retD [0] rfl ⟨⟨rfl, Nat.le_of_ble_eq_true (by kernel_rfl)⟩, rfl, trivial⟩ rfl ⟨rfl, rfl⟩
end Go.Proofs.YteacpafhmgdbkaaGreatDoor
end

section
namespace Go.Proofs.YteacpafhmgdbkaaGreatDoor
open Go Go.AL Go.RowKit
set_option maxRecDepth 10000
set_option maxHeartbeats 4000000
def fin (p : List Int) (f : Fm) : Rs := chk (unF f 0 == 0) p 15 (.ok f)
end Go.Proofs.YteacpafhmgdbkaaGreatDoor
end

section
namespace Go.Proofs.YteacpafhmgdbkaaGreatDoor
open Go Go.AL Go.RowKit
set_option maxRecDepth 10000
set_option maxHeartbeats 4000000
end Go.Proofs.YteacpafhmgdbkaaGreatDoor
end

section
namespace Go.Proofs.YteacpafhmgdbkaaGreatDoor
open Go Go.AL Go.RowKit
set_option maxRecDepth 10000
set_option maxHeartbeats 4000000
end Go.Proofs.YteacpafhmgdbkaaGreatDoor
end

section
namespace Go.Proofs.YteacpafhmgdbkaaGreatDoor
open Go Go.AL Go.RowKit
set_option maxRecDepth 10000
set_option maxHeartbeats 4000000
end Go.Proofs.YteacpafhmgdbkaaGreatDoor
end

section
namespace Go.Proofs.YteacpafhmgdbkaaGreatDoor
open Go Go.AL Go.RowKit
set_option maxRecDepth 10000
set_option maxHeartbeats 4000000
end Go.Proofs.YteacpafhmgdbkaaGreatDoor
end

section
namespace Go.Proofs.YteacpafhmgdbkaaGreatDoor
open Go Go.AL Go.RowKit
set_option maxRecDepth 10000
set_option maxHeartbeats 4000000
theorem dens_last {w : World} {φ : Phi} {I : Nat → Prop} {x y : AV} (h : ∀ u, AV.den w φ I x u → AV.den w φ I y u) : ∀ (l m : List AV) (us : List Value), AV.dens w φ I (l ++ x :: m) us → AV.dens w φ I (l ++ y :: m) us
  | [], m, us, hd => by
    simp only [List.nil_append, AV.dens] at hd ⊢
    obtain ⟨u, us', e, h1, h2⟩ := hd
    exact ⟨u, us', e, h u h1, h2⟩
  | z :: l, m, us, hd => by
    simp only [List.cons_append, AV.dens] at hd ⊢
    obtain ⟨u, us', e, h1, h2⟩ := hd
    exact ⟨u, us', e, h1, dens_last h l m us' h2⟩
theorem den_agg_at {w : World} {φ : Phi} {I : Nat → Prop} {x y : AV} (l m : List AV) (h : ∀ u, AV.den w φ I x u → AV.den w φ I y u) (v : Value) (hd : AV.den w φ I (.agg (l ++ x :: m)) v) : AV.den w φ I (.agg (l ++ y :: m)) v := by
  simp only [AV.den] at hd ⊢
  obtain ⟨us, h1, h2⟩ := hd
  exact ⟨us, dens_last h l m us h1, h2⟩
theorem abstR_spec (F : Fm) (nm : Nm) (hnm : nm ≠ []) (hs : fmL F) (hz : szF F ≤ 1000000000) : PFn Tryz.prog 77 [fmV F, .agg [Bv false, Bv true, Sv nm, Sv [], Iv 0, nilV], Iv 0] (fmV (abst nm F)) := by
  have hc := change_spec ⟨false, true, nm, .mk [] 0 []⟩ F 0 hs (by omega)
  rw [chF_abst nm hnm] at hc
  exact PFn.argW hc fun w φ I vs hd => dens_last (fun u hu => den_agg_at [Bv false, Bv true, Sv nm, Sv [], Iv 0] [] (nil_told 3 w φ I) u hu) [fmV F] [Iv 0] vs hd
end Go.Proofs.YteacpafhmgdbkaaGreatDoor
end

section
namespace Go.Proofs.YteacpafhmgdbkaaGreatDoor
open Go Go.AL Go.RowKit
set_option maxRecDepth 10000
set_option maxHeartbeats 4000000
theorem instance_ref (f : Fm) (t : Tm) (hf : fmS f) (ht : tmS t) (zf : szF f ≤ 1000000000) (zt : szT t ≤ 1000000000) : PFn Tryz.prog 24 [fmV f, tmV t] (feV (insF f t)) := by
  have h1 := wellR_spec f hf zf
  have h2 := wellTermR_spec t ht zt
  obtain ⟨q, hq⟩ : ∃ q, insF f t = q := ⟨_, rfl⟩
  rw [hq]
  unfold insF insE at hq
  rw [fstE, fstE, fstE, fstE] at hq
  refine ACall.walk [0, 1, 2, 3, 4, 5, 6, 7, 11, 17, 27] [4] Tryz.func24 rfl Tryz.ntmps24 (by kernel_rfl) (by rfl) rfl fun W own I0 φ0 lay => ?_
  refine gO ?_
  refine AQ.fn (by kernel_rfl) rfl rfl rfl (h1) rfl ?_
  refine gO ?_
  refine AP.cond rfl rfl (fun c1 => ?_) (fun c1 => ?_)
  · have c1 : ¬ unF f 0 = 0 := by simpa using c1
    simp only [if_neg c1] at hq
    subst hq
    refine gO ?_
    refine AE.cellsW 0 fF rfl (cellsLe.cons (cellsLe.cons (cellsLe.nil (cellsLe.nil (cellsLe.refl _))))) ?_; refine sI ?_; exact AE.retD [0] rfl ⟨⟨rfl, Nat.le_of_ble_eq_true (by kernel_rfl)⟩, rfl, trivial⟩ rfl ⟨rfl, rfl⟩
  have c1 : unF f 0 = 0 := by simpa using c1
  simp only [if_pos c1] at hq
  refine gO ?_
  refine AQ.fn (by kernel_rfl) rfl rfl rfl (h2) rfl ?_
  refine gO ?_
  refine AP.cond rfl rfl (fun c2 => ?_) (fun c2 => ?_)
  · have c2 : ¬ clT t = 0 := by simpa using c2
    simp only [if_neg c2] at hq
    subst hq
    refine gO ?_
    refine AE.cellsW 0 fF rfl (cellsLe.cons (cellsLe.cons (cellsLe.nil (cellsLe.nil (cellsLe.refl _))))) ?_; refine sI ?_; exact AE.retD [0] rfl ⟨⟨rfl, Nat.le_of_ble_eq_true (by kernel_rfl)⟩, rfl, trivial⟩ rfl ⟨rfl, rfl⟩
  have c2 : clT t = 0 := by simpa using c2
  simp only [if_pos c2] at hq
  refine gO ?_
  refine AP.cond rfl rfl (fun c3 => ?_) (fun c3 => ?_)
  · have c3 : ¬ (f.k = 7 ∨ f.k = 8) := by simp only [Bool.and_eq_true, bne_iff_ne] at c3; omega
    have hb : bnd f = 0 := by unfold bnd; rw [if_neg c3]
    simp only [hb, Int.lt_irrefl, decide_false, Bool.false_eq_true, if_false] at hq
    have hq : (fm0, (1 : Int)) = q := hq
    subst hq
    refine gO ?_
    refine AE.cellsW 0 fF rfl (cellsLe.cons (cellsLe.cons (cellsLe.nil (cellsLe.nil (cellsLe.refl _))))) ?_; refine sI ?_; exact AE.retD [0] rfl ⟨⟨rfl, Nat.le_of_ble_eq_true (by kernel_rfl)⟩, rfl, trivial⟩ rfl ⟨rfl, rfl⟩
  have c3 : f.k = 7 ∨ f.k = 8 := by simp only [Bool.and_eq_false_iff, bne_eq_false_iff_eq] at c3; omega
  have hb : bnd f = 1 := by unfold bnd; rw [if_pos c3]
  simp only [hb] at hq
  obtain ⟨x, hp, hx⟩ := un_quant c1 c3
  have hxf := un_fit hx
  have htf := cl_fit c2
  have hi := instance_spec x t (fmL_sz x (by omega)) (by omega)
  rw [chF_opn t x 0 _ hxf.2.2] at hi
  have hi : PFn Tryz.prog 72 [fmV x, tmV t] (fmV (opn t x)) := hi
  have hz := large_ref (opn t x) (opn_S ht (un_S hx)) (by have := opn_sz (t := t) (f := x) (by omega) (by omega); omega)
  have hq : szd (opn t (part f 0)) = q := hq
  rw [show part f 0 = x by rw [part, hp]; rfl] at hq
  rw [hq] at hz
  have hr1 : fmR f.ps = [fmRow x] := by rw [hp, fmR_one]
  have hg0 : (fmR f.ps).getD 0 [] = fmRow x := by rw [hr1]; rfl
  have hl0 : (fmR f.ps).length = 1 := by rw [hr1]; rfl
  generalize opn t x = o at *
  refine gO ?_
  refine AP.drawE 11 (Tree.node [] [0, 1, 2, 3, 4] [5] [Tree.node [] [] [6] [Tree.node [] [7, 8] [9] [Tree.node [] [10] [] []]]]) (by kernel_rfl) rfl (by kernel_rfl) (by kernel_rfl) ?_
  refine vd_node ?_
  refine sE (an @hg0 @hl0) ?_
  refine And.intro (by omega) ?_
  repeat' (first | with_reducible exact True.intro | with_reducible refine And.intro (by omega) ?_ | with_reducible refine And.intro ?_ ?_ | (refine AQ.nx rfl ?_; refine sE (an @hg0 @hl0) ?_) | ((with_reducible show AQ _ _ _ ({ dst := _, op := Op.call { callee := Callee.value (Operand.func 72), args := _, argTypes := _ }, type := _, pos := _, after := _, guard := _ } :: _) _ _ _); refine AQ.fn (by kernel_rfl) rfl rfl rfl (hi) rfl ?_; refine sI ?_) | ((with_reducible show AQ _ _ _ ({ dst := _, op := Op.call { callee := Callee.value (Operand.func 71), args := _, argTypes := _ }, type := _, pos := _, after := _, guard := _ } :: _) _ _ _); refine AQ.fn (by kernel_rfl) rfl rfl rfl (hz) rfl ?_; refine sI ?_) | refine AQ.done ?_ | (refine AQ.go (by kernel_rfl) ?_; refine sE (an @hg0 @hl0) ?_; repeat (with_reducible refine And.intro (by omega) ?_); refine AQ.nx rfl ?_; refine sE (an @hg0 @hl0) ?_))
  all_goals refine gO ?_
  all_goals exact AE.retD [0] rfl ⟨⟨rfl, Nat.le_of_ble_eq_true (by kernel_rfl)⟩, rfl, trivial⟩ rfl ⟨rfl, rfl⟩
theorem abstract_ref (k : Int) (f : Fm) (nm : Nm) (hf : fmS f) (zf : szF f ≤ 1000000000) (hn : nm.length ≤ 9223372036854775807) : PFn Tryz.prog 27 [Iv k, fmV f, Sv nm] (feV (absF k f nm)) := by
  have h1 := wellR_spec f hf zf
  have h2 := isSym_ref nm hn
  obtain ⟨q, hq⟩ : ∃ q, absF k f nm = q := ⟨_, rfl⟩
  rw [hq]
  unfold absF absE at hq
  rw [fstE, fstE, fstE, fstE] at hq
  refine ACall.walk [0, 1, 2, 4, 6, 7, 8, 14, 19, 24] [6] Tryz.func27 rfl Tryz.ntmps27 (by kernel_rfl) (by rfl) rfl fun W own I0 φ0 lay => ?_
  refine gO ?_
  refine AP.cond rfl rfl (fun c0 => ?_) (fun c0 => ?_)
  · have c0 : (k == 7 || k == 8) = false := by simp only [Bool.and_eq_true, bne_iff_ne] at c0; simp; omega
    simp only [c0, Bool.false_eq_true, if_false] at hq
    have hq : (fm0, (1 : Int)) = q := hq
    subst hq
    refine gO ?_
    refine AE.cellsW 0 fF rfl (cellsLe.cons (cellsLe.cons (cellsLe.nil (cellsLe.nil (cellsLe.refl _))))) ?_; refine sI ?_; exact AE.retD [0] rfl ⟨⟨rfl, Nat.le_of_ble_eq_true (by kernel_rfl)⟩, rfl, trivial⟩ rfl ⟨rfl, rfl⟩
  have c0 : (k == 7 || k == 8) = true := by simp only [Bool.and_eq_false_iff, bne_eq_false_iff_eq] at c0; simp; omega
  simp only [c0, if_true] at hq
  refine gO ?_
  refine AQ.fn (by kernel_rfl) rfl rfl rfl (h1) rfl ?_
  refine gO ?_
  refine AP.cond rfl rfl (fun c1 => ?_) (fun c1 => ?_)
  · have c1 : ¬ unF f 0 = 0 := by simpa using c1
    simp only [if_neg c1] at hq
    subst hq
    refine gO ?_
    refine AE.cellsW 0 fF rfl (cellsLe.cons (cellsLe.cons (cellsLe.nil (cellsLe.nil (cellsLe.refl _))))) ?_; refine sI ?_; exact AE.retD [0] rfl ⟨⟨rfl, Nat.le_of_ble_eq_true (by kernel_rfl)⟩, rfl, trivial⟩ rfl ⟨rfl, rfl⟩
  have c1 : unF f 0 = 0 := by simpa using c1
  simp only [if_pos c1] at hq
  refine gO ?_
  refine AQ.fn (by kernel_rfl) rfl rfl rfl (h2) rfl ?_
  refine gO ?_
  cases c2 : isNm nm with
  | false =>
    simp only [c2, Bool.false_eq_true, if_false] at hq
    have hq : (fm0, (2 : Int)) = q := hq
    subst hq
    refine gO ?_
    refine AE.cellsW 0 fF rfl (cellsLe.cons (cellsLe.cons (cellsLe.nil (cellsLe.nil (cellsLe.refl _))))) ?_; refine sI ?_; exact AE.retD [0] rfl ⟨⟨rfl, Nat.le_of_ble_eq_true (by kernel_rfl)⟩, rfl, trivial⟩ rfl ⟨rfl, rfl⟩
  | true =>
    simp only [c2, if_true] at hq
    have hq : szd (conn k [abst nm f]) = q := hq
    have hnm : nm ≠ [] := (isNm_len c2).2
    have huf := un_fit c1
    have hc := abstR_spec f nm hnm (fmL_sz f (by omega)) (by omega)
    have hz0 := large_ref (conn k [abst nm f]) (conn_S (fmsS_one (abst_S hf)) (by simp)) (by rw [conn_sz, szFs, szFs]; have := abst_sz (nm := nm) (f := f); omega)
    rw [hq] at hz0
    generalize abst nm f = o at *
    have hz1 : PFn Tryz.prog 71 [.agg [Iv k, Sv [], .im (.sl 3 []), .im (.sl 4 (fmR [o]))]] (feV q) := hz0
    rw [fmR_one] at hz1
    have hz := hz1.argLe (xs := [.agg [Iv k, Sv [], nilV, .im (.sl 4 [fmRow o])]]) (by repeat' (first | with_reducible exact AVle.refl _ | with_reducible exact IVle.refl _ | exact IVle.nil _ | with_reducible exact cellsLe.refl _ | with_reducible exact rowLe.refl _ | with_reducible exact rowsLe.refl _ | refine cellsLe.cons2 ?_ ?_ | refine AVle.agg ?_ | refine AVle.im ?_ | refine IVle.sl ?_ | refine rowsLe.cons ?_ ?_ | refine rowLe.cons ?_ ?_))
    clear hz0 hz1
    refine gO ?_
    refine AQ.fn (by kernel_rfl) rfl rfl rfl (hc) rfl ?_
    refine gO ?_
    refine AQ.fn (by kernel_rfl) rfl rfl rfl (hz) rfl ?_
    refine gO ?_
    exact AE.retD [0] rfl ⟨⟨rfl, Nat.le_of_ble_eq_true (by kernel_rfl)⟩, rfl, trivial⟩ rfl ⟨rfl, rfl⟩
theorem replaced_ref (f : Fm) (nm : Nm) (t : Tm) (hf : fmS f) (zf : szF f ≤ 1000000000) (hn : nm.length ≤ 9223372036854775807) (ht : tmS t) (zt : szT t ≤ 1000000000) : PFn Tryz.prog 29 [fmV f, Sv nm, tmV t] (feV (rplF f nm t)) := by
  have h1 := wellR_spec f hf zf
  have h2 := wellTermR_spec t ht zt
  have h3 := isSym_ref nm hn
  obtain ⟨q, hq⟩ : ∃ q, rplF f nm t = q := ⟨_, rfl⟩
  rw [hq]
  unfold rplF rplE at hq
  rw [fstE, fstE, fstE, fstE] at hq
  refine ACall.walk [0, 1, 2, 3, 5, 6, 7, 8, 9, 13, 19, 24] [6] Tryz.func29 rfl Tryz.ntmps29 (by kernel_rfl) (by rfl) rfl fun W own I0 φ0 lay => ?_
  refine gO ?_
  refine AQ.fn (by kernel_rfl) rfl rfl rfl (h1) rfl ?_
  refine gO ?_
  refine AP.cond rfl rfl (fun c1 => ?_) (fun c1 => ?_)
  · have c1 : ¬ unF f 0 = 0 := by simpa using c1
    simp only [if_neg c1] at hq
    subst hq
    refine gO ?_
    refine AE.cellsW 0 fF rfl (cellsLe.cons (cellsLe.cons (cellsLe.nil (cellsLe.nil (cellsLe.refl _))))) ?_; refine sI ?_; exact AE.retD [0] rfl ⟨⟨rfl, Nat.le_of_ble_eq_true (by kernel_rfl)⟩, rfl, trivial⟩ rfl ⟨rfl, rfl⟩
  have c1 : unF f 0 = 0 := by simpa using c1
  simp only [if_pos c1] at hq
  refine gO ?_
  refine AQ.fn (by kernel_rfl) rfl rfl rfl (h2) rfl ?_
  refine gO ?_
  refine AP.cond rfl rfl (fun c2 => ?_) (fun c2 => ?_)
  · have c2 : ¬ clT t = 0 := by simpa using c2
    simp only [if_neg c2] at hq
    subst hq
    refine gO ?_
    refine AE.cellsW 0 fF rfl (cellsLe.cons (cellsLe.cons (cellsLe.nil (cellsLe.nil (cellsLe.refl _))))) ?_; refine sI ?_; exact AE.retD [0] rfl ⟨⟨rfl, Nat.le_of_ble_eq_true (by kernel_rfl)⟩, rfl, trivial⟩ rfl ⟨rfl, rfl⟩
  have c2 : clT t = 0 := by simpa using c2
  simp only [if_pos c2] at hq
  refine gO ?_
  refine AQ.fn (by kernel_rfl) rfl rfl rfl (h3) rfl ?_
  refine gO ?_
  cases c3 : isNm nm with
  | false =>
    simp only [c3, Bool.false_eq_true, if_false] at hq
    have hq : (fm0, (2 : Int)) = q := hq
    subst hq
    refine gO ?_
    refine AE.cellsW 0 fF rfl (cellsLe.cons (cellsLe.cons (cellsLe.nil (cellsLe.nil (cellsLe.refl _))))) ?_; refine sI ?_; exact AE.retD [0] rfl ⟨⟨rfl, Nat.le_of_ble_eq_true (by kernel_rfl)⟩, rfl, trivial⟩ rfl ⟨rfl, rfl⟩
  | true =>
    simp only [c3, if_true] at hq
    have hq : szd (opn t (abst nm f)) = q := hq
    have hnm : nm ≠ [] := (isNm_len c3).2
    have huf := un_fit c1
    have htf := cl_fit c2
    have hc := change_spec ⟨false, false, nm, t⟩ f 0 (fmL_sz f (by omega)) (by omega)
    rw [chF_repl nm hnm t f c1] at hc
    have has := abst_sz (nm := nm) (f := f)
    have hz := large_ref (opn t (abst nm f)) (opn_S ht (abst_S hf)) (by have := opn_sz (t := t) (f := abst nm f) (by omega) (by omega); omega)
    rw [hq] at hz
    generalize opn t (abst nm f) = o at *
    refine gO ?_
    refine AQ.fn (by kernel_rfl) rfl rfl rfl (hc) rfl ?_
    refine gO ?_
    refine AQ.fn (by kernel_rfl) rfl rfl rfl (hz) rfl ?_
    refine gO ?_
    exact AE.retD [0] rfl ⟨⟨rfl, Nat.le_of_ble_eq_true (by kernel_rfl)⟩, rfl, trivial⟩ rfl ⟨rfl, rfl⟩
end Go.Proofs.YteacpafhmgdbkaaGreatDoor
end

section
namespace Go.Proofs.YteacpafhmgdbkaaGreatDoor
open Go Go.AL Go.RowKit
set_option maxRecDepth 10000
set_option maxHeartbeats 4000000
def smallB (l : List Fm) : Bool := (bFs l 0 400).1
theorem small1_walk (u : Fm) (m : Int) (hu : fmS u) (hm : -1000000 ≤ m ∧ m ≤ 1000000) : ACall Tryz.prog 63 [fmV u, .ob 1 0] (BH m) (fun r H' => r = Bv (!(bF u 0 m).1) ∧ H' = BH (bF u 0 m).2) := by
  have ih := bform_spec u 0 m hu (by omega) hm
  refine ACall.walk [0, 1, 2, 3] [] Tryz.func63 rfl Tryz.ntmps63 (by kernel_rfl) (by rfl) rfl fun W own I0 φ0 lay => ?_
  refine gO ?_
  refine AQ.callH [(0, 0)] (by kernel_rfl) rfl rfl rfl rfl rfl rfl (by exact ⟨rfl, trivial⟩) rfl ih ?_
  rintro r H' ⟨rfl, rfl⟩
  refine ⟨rfl, ?_⟩
  refine sG @BH.eq_1 ?_
  refine gO ?_
  exact AE.ret rfl ⟨rfl, trivial⟩ ⟨rfl, rfl⟩
theorem small_spec (l : List Fm) (hl : l.length ≤ 9223372036854775807) (hs : fmsS l) : PFn Tryz.prog 22 [.im (.sl 4 (fmR l))] (Bv (smallB l)) := by
  have hc := containsF_walk 63 [] (fun t m => (!(bF t 0 m).1, (bF t 0 m).2)) l 400 hl (fun m => 0 ≤ m ∧ m ≤ 1000000) (by omega) (fun k t m ht hm h => bF_bnd t 0 m hm.1 hm.2 (by simpa using h)) (fun k t m ht hm => small1_walk t m (fmsS_get hs ht) (by omega))
  have hr := bFs_run 0 l 400
  have hb : smallB l = !(runS (fun t m => (!(bF t 0 m).1, (bF t 0 m).2)) l 400).1 := by rw [smallB, hr]
  rw [hb]
  generalize runS (fun t m => (!(bF t 0 m).1, (bF t 0 m).2)) l 400 = q at *
  refine ACall.walk [0, 2, 3] [3, 5] Tryz.func22 rfl Tryz.ntmps22 (by kernel_rfl) (by rfl) rfl fun W own I0 φ0 lay => ?_
  refine gO ?_
  refine AQ.callH [(1, 1), (0, 0)] (by kernel_rfl) rfl rfl rfl rfl rfl rfl (by exact ⟨rfl, rfl, trivial⟩) rfl hc ?_
  rintro r H' ⟨rfl, rfl⟩
  refine ⟨rfl, ?_⟩
  refine sG @BH.eq_1 ?_
  refine gO ?_
  exact AE.retD [1, 0] rfl ⟨rfl, trivial⟩ rfl ⟨rfl, rfl⟩
theorem small_sz {l : List Fm} (h : smallB l = true) : szFs l ≤ 400 := by
  have := bFs_sz l 0 400 (by omega) h
  omega
end Go.Proofs.YteacpafhmgdbkaaGreatDoor
end

section
namespace Go.Proofs.YteacpafhmgdbkaaGreatDoor
open Go Go.AL Go.RowKit
set_option maxRecDepth 10000
set_option maxHeartbeats 4000000
mutual
theorem eqT_refl : ∀ t : Tm, eqT t t = true
  | .mk n i xs => by
    rw [eqT]
    have h : eqTs xs (Tm.mk n i xs).xs = true := eqTs_refl xs
    rw [h]; simp [Tm.nm, Tm.ix]
theorem eqTs_refl : ∀ l : List Tm, eqTs l l = true
  | [] => by rw [eqTs]
  | t :: l => by rw [eqTs, eqT_refl t, eqTs_refl l]; rfl
end
theorem all2_refl : ∀ l : List Tm, all2 eqT l l = true
  | [] => rfl
  | t :: l => by rw [all2, eqT_refl t, all2_refl l]; rfl
mutual
theorem eqF_refl : ∀ t : Fm, eqF t t = true
  | .mk k n ts ps => by
    rw [eqF]
    have h : eqFs ps (Fm.mk k n ts ps).ps = true := eqFs_refl ps
    have h2 : all2 eqT ts (Fm.mk k n ts ps).ts = true := all2_refl ts
    rw [h, h2]; simp [Fm.nm, Fm.k]
theorem eqFs_refl : ∀ l : List Fm, eqFs l l = true
  | [] => by rw [eqFs]
  | t :: l => by rw [eqFs, eqF_refl t, eqFs_refl l]; rfl
end
theorem fm0_S : fmS fm0 := by simp only [fm0, fmS, tmsS, fmsS]; simp
theorem tmR_one (t : Tm) : tmR [t] = [tmRow t] := by rw [tmR, tmR, tmC_eq]
end Go.Proofs.YteacpafhmgdbkaaGreatDoor
end

section
namespace Go.Proofs.YteacpafhmgdbkaaGreatDoor
open Go Go.AL Go.RowKit
set_option maxRecDepth 10000
set_option maxHeartbeats 4000000
theorem szd_ok (g : Fm) : fmS (szd g).1 ∧ szF (szd g).1 ≤ 4000 := by
  unfold szd
  by_cases h : unF g 0 = 0
  · rw [if_pos h]; exact ⟨un_S h, (un_fit h).1⟩
  · rw [if_neg h]; exact ⟨fm0_S, by rw [szF, szTs, szFs]; omega⟩
theorem fm0_ok (e : Int) : fmS ((fm0, e) : Fm × Int).1 ∧ szF ((fm0, e) : Fm × Int).1 ≤ 4000 := ⟨fm0_S, by rw [szF, szTs, szFs]; omega⟩
theorem insF_ok (f : Fm) (t : Tm) : fmS (insF f t).1 ∧ szF (insF f t).1 ≤ 4000 := by
  unfold insF
  split
  · exact szd_ok _
  · exact fm0_ok _
theorem absF_ok (k : Int) (f : Fm) (nm : Nm) : fmS (absF k f nm).1 ∧ szF (absF k f nm).1 ≤ 4000 := by
  unfold absF
  split
  · exact szd_ok _
  · exact fm0_ok _
theorem rplF_ok (f : Fm) (nm : Nm) (t : Tm) : fmS (rplF f nm t).1 ∧ szF (rplF f nm t).1 ≤ 4000 := by
  unfold rplF
  split
  · exact szd_ok _
  · exact fm0_ok _
theorem conv_self (g : Fm) (h : fmS g ∧ szF g ≤ 4000) : PFn Tryz.prog 20 [fmV g] (fmV g) ∧ PFn Tryz.prog 19 [fmV g, fmV g] (Bv true) :=
  ⟨formula_conv g (fmL_sz g (by omega)), by have := sameR_spec g g h.1; rwa [eqF_refl] at this⟩
theorem substs_walk (f : Fm) (x : Tm) (k : Int) (nm : Nm) (hf : fmS f) (hx : tmS x) (hn : nm.length ≤ 9223372036854775807) : PFn Tryz.prog 4 [fmV f, tmV x, Iv k, Sv nm] (Bv true) := by
  have hsm0 := small_spec [f, .mk 0 [] [x] []] (by simp) (by rw [fmsS, fmsS, fmsS, fmS, tmsS, tmsS, fmsS]; exact ⟨hf, ⟨by simp, by simp, ⟨hx, trivial⟩, by simp, trivial⟩, trivial⟩)
  have hsm : PFn Tryz.prog 22 [.im (.sl 4 [fmRow f, [Ii 0, Si [], .sl 3 [tmRow x], .v (.slice none 0 0)]])] (Bv (smallB [f, .mk 0 [] [x] []])) := by
    refine hsm0.argLe ?_
    rw [fmR_two]
    show cellsLe _ [.im (.sl 4 [fmRow f, [Ii 0, Si [], .sl 3 (tmR [x]), .sl 4 []]])]
    rw [tmR_one]
    exact (by repeat' (first | with_reducible exact AVle.refl _ | with_reducible exact IVle.refl _ | exact IVle.nil _ | with_reducible exact cellsLe.refl _ | with_reducible exact rowLe.refl _ | with_reducible exact rowsLe.refl _ | refine cellsLe.cons2 ?_ ?_ | refine AVle.agg ?_ | refine AVle.im ?_ | refine IVle.sl ?_ | refine rowsLe.cons ?_ ?_ | refine rowLe.cons ?_ ?_))
  obtain ⟨b, hb⟩ : ∃ b, smallB [f, .mk 0 [] [x] []] = b := ⟨_, rfl⟩
  rw [hb] at hsm
  clear hsm0
  have hshort : PFn Tryz.prog 12 [] (Bv true) := awake_spec
  by_cases hc : b = true ∧ nm.length ≤ 200
  · obtain ⟨rfl, hnl⟩ := hc
    have z := small_sz hb
    rw [szFs, szFs, szF, szTs] at z
    have i1 := instance_walk f x hf hx
    have i2 := instance_ref f x hf hx (by omega) (by omega)
    have a1 := abstract_walk k f nm hf hn
    have a2 := abstract_ref k f nm hf (by omega) hn
    have r1 := replaced_walk f nm x hf hn hx
    have r2 := replaced_ref f nm x hf (by omega) hn hx (by omega)
    obtain ⟨j1, j2⟩ := conv_self _ (insF_ok f x)
    obtain ⟨b1, b2⟩ := conv_self _ (absF_ok k f nm)
    obtain ⟨s1, s2⟩ := conv_self _ (rplF_ok f nm x)
    generalize insF f x = q1 at *
    generalize absF k f nm = q2 at *
    generalize rplF f nm x = q3 at *
    obtain ⟨g1, e1⟩ := q1
    obtain ⟨g2, e2⟩ := q2
    obtain ⟨g3, e3⟩ := q3
    simp only [feV] at i1 i2 a1 a2 r1 r2 j1 j2 b1 b2 s1 s2
    have c1 := formula_conv f (fmL_sz f (by omega))
    have c2 := term_conv x (tmL_sz x (by omega))
    have hnl2 : ¬ (200 : Int) < (nm.length : Int) := by omega
    refine ACall.walk [0, 1, 2, 3, 4, 5, 8, 9, 10, 11, 12, 13, 14, 15, 16, 17, 18, 19, 20, 32] [9, 11, 13, 15, 17, 19] Tryz.func4 rfl Tryz.ntmps4 (by kernel_rfl) (by rfl) rfl fun W own I0 φ0 lay => ?_
    refine gO ?_
    refine AQ.fn (by kernel_rfl) rfl rfl rfl (hsm) rfl ?_
    refine gO ?_
    refine cF ?_
    refine gO ?_
    refine AQ.fn (by kernel_rfl) rfl rfl rfl (i1) rfl ?_
    refine gO ?_
    refine AP.cut (α := Unit) (fun _ => [(2, Iv k), (3, Sv nm), (4, .im (fmP f)), (5, .im (tmP x)), (8, Bv false), (9, .ob 0 0), (10, Iv e1), (11, .ob 1 0), (12, Iv e1)]) (fun _ => [(1, .var 40 [Iv g1.k, Sv g1.nm, .im (.sl 3 (tmR g1.ts)), .im (.sl 4 (fmR g1.ps))]), (0, .var 27 [Iv g1.k, Sv g1.nm, .im (.sl 3 (tmR g1.ts)), .im (.sl 4 (fmR g1.ps))])]) (fun _ => True) ?_ fun _ _ => ?_
    · skip
      refine AP.drawE 11 (Tree.node [] [0, 2] [1, 8] [Tree.node [2] [] [3, 8] [Tree.node [] [] [4, 8] [Tree.node [] [5, 6, 7] [8] [Tree.node [5, 6, 7] [] [9] [Tree.node [7] [10] [] []]], Tree.node [] [] [4] [Tree.node [] [5, 6, 7] [9] [Tree.node [7] [10] [] []]]], Tree.node [2] [] [3] [Tree.node [] [] [4] [Tree.node [] [5, 6, 7] [9] [Tree.node [7] [10] [] []]]]], Tree.node [0, 2] [] [1] [Tree.node [2] [] [3] [Tree.node [] [] [4] [Tree.node [] [5, 6, 7] [9] [Tree.node [7] [10] [] []]]]]]) (by kernel_rfl) rfl (by kernel_rfl) (by kernel_rfl) ?_
      refine vd_node ?_
      refine sI ?_
      repeat' (first | with_reducible exact True.intro | with_reducible refine And.intro (by omega) ?_ | with_reducible refine And.intro ?_ ?_ | (refine AQ.nx rfl ?_; refine sI ?_) | ((with_reducible show AQ _ _ _ ({ dst := _, op := Op.call { callee := Callee.value (Operand.func 20), args := _, argTypes := _ }, type := _, pos := _, after := _, guard := _ } :: _) _ _ _); refine AQ.fn (by kernel_rfl) rfl rfl rfl (c1) rfl ?_; refine sI ?_) | ((with_reducible show AQ _ _ _ ({ dst := _, op := Op.call { callee := Callee.value (Operand.func 25), args := _, argTypes := _ }, type := _, pos := _, after := _, guard := _ } :: _) _ _ _); refine AQ.fn (by kernel_rfl) rfl rfl rfl (c2) rfl ?_; refine sI ?_) | ((with_reducible show AQ _ _ _ ({ dst := _, op := Op.call { callee := Callee.value (Operand.func 24), args := _, argTypes := _ }, type := _, pos := _, after := _, guard := _ } :: _) _ _ _); refine AQ.fn (by kernel_rfl) rfl rfl rfl (i2) rfl ?_; refine sI ?_) | refine AQ.done ?_ | (refine AQ.go (by kernel_rfl) ?_; refine sI ?_; repeat (with_reducible refine And.intro (by omega) ?_); refine AQ.nx rfl ?_; refine sI ?_))
      all_goals exact AE.meet () trivial (sU) rfl
    refine gO ?_
    refine AQ.fn (by kernel_rfl) rfl rfl rfl (a1) rfl ?_
    refine gO ?_
    refine AQ.fn (by kernel_rfl) rfl rfl rfl (c1) rfl ?_
    refine gO ?_
    refine AQ.fn (by kernel_rfl) rfl rfl rfl (a2) rfl ?_
    refine gO ?_
    refine AQ.fn (by kernel_rfl) rfl rfl rfl (r1) rfl ?_
    refine gO ?_
    refine AP.cut (α := Unit) (fun _ => [(8, Bv false), (9, .ob 0 0), (10, Iv e1), (11, .ob 1 0), (12, Iv e1), (13, .ob 2 0), (14, Iv e2), (15, .ob 3 0), (16, Iv e2), (17, .ob 4 0), (18, Iv e3), (19, .ob 5 0), (20, Iv e3)]) (fun _ => [(5, .var 40 [Iv g3.k, Sv g3.nm, .im (.sl 3 (tmR g3.ts)), .im (.sl 4 (fmR g3.ps))]), (4, .var 27 [Iv g3.k, Sv g3.nm, .im (.sl 3 (tmR g3.ts)), .im (.sl 4 (fmR g3.ps))]), (3, .var 40 [Iv g2.k, Sv g2.nm, .im (.sl 3 (tmR g2.ts)), .im (.sl 4 (fmR g2.ps))]), (2, .var 27 [Iv g2.k, Sv g2.nm, .im (.sl 3 (tmR g2.ts)), .im (.sl 4 (fmR g2.ps))]), (1, .var 40 [Iv g1.k, Sv g1.nm, .im (.sl 3 (tmR g1.ts)), .im (.sl 4 (fmR g1.ps))]), (0, .var 27 [Iv g1.k, Sv g1.nm, .im (.sl 3 (tmR g1.ts)), .im (.sl 4 (fmR g1.ps))])]) (fun _ => True) ?_ fun _ _ => ?_
    · skip
      refine AP.drawE 12 (Tree.node [] [0, 2, 3] [1, 9] [Tree.node [2, 3] [] [4, 9] [Tree.node [2] [] [5, 9] [Tree.node [] [6, 7, 8] [9] [Tree.node [6, 7, 8] [] [10] [Tree.node [8] [11] [] []]], Tree.node [2] [] [5] [Tree.node [] [6, 7, 8] [10] [Tree.node [8] [11] [] []]]], Tree.node [2, 3] [] [4] [Tree.node [2] [] [5] [Tree.node [] [6, 7, 8] [10] [Tree.node [8] [11] [] []]]]], Tree.node [0, 2, 3] [] [1] [Tree.node [2, 3] [] [4] [Tree.node [2] [] [5] [Tree.node [] [6, 7, 8] [10] [Tree.node [8] [11] [] []]]]]]) (by kernel_rfl) rfl (by kernel_rfl) (by kernel_rfl) ?_
      refine vd_node ?_
      refine sI ?_
      repeat' (first | with_reducible exact True.intro | with_reducible refine And.intro (by omega) ?_ | with_reducible refine And.intro ?_ ?_ | (refine AQ.nx rfl ?_; refine sI ?_) | ((with_reducible show AQ _ _ _ ({ dst := _, op := Op.call { callee := Callee.value (Operand.func 20), args := _, argTypes := _ }, type := _, pos := _, after := _, guard := _ } :: _) _ _ _); refine AQ.fn (by kernel_rfl) rfl rfl rfl (c1) rfl ?_; refine sI ?_) | ((with_reducible show AQ _ _ _ ({ dst := _, op := Op.call { callee := Callee.value (Operand.func 25), args := _, argTypes := _ }, type := _, pos := _, after := _, guard := _ } :: _) _ _ _); refine AQ.fn (by kernel_rfl) rfl rfl rfl (c2) rfl ?_; refine sI ?_) | ((with_reducible show AQ _ _ _ ({ dst := _, op := Op.call { callee := Callee.value (Operand.func 29), args := _, argTypes := _ }, type := _, pos := _, after := _, guard := _ } :: _) _ _ _); refine AQ.fn (by kernel_rfl) rfl rfl rfl (r2) rfl ?_; refine sI ?_) | refine AQ.done ?_ | (refine AQ.go (by kernel_rfl) ?_; refine sI ?_; repeat (with_reducible refine And.intro (by omega) ?_); refine AQ.nx rfl ?_; refine sI ?_))
      all_goals exact AE.meet () trivial (sU) rfl
    refine gO ?_
    refine AP.drawE 35 (Tree.node [] [0, 2] [1] [Tree.node [2] [] [3] [Tree.node [] [4, 5, 6, 7, 8, 9, 10, 12] [11] [Tree.node [12] [] [13] [Tree.node [] [14, 15, 16, 17, 18, 19, 20, 21, 23] [22] [Tree.node [23] [] [24] [Tree.node [] [25, 26, 27, 28, 29, 30, 31] [32] [Tree.node [] [33, 34] [] []]]]]]]]) (by kernel_rfl) rfl (by kernel_rfl) (by kernel_rfl) ?_
    refine vd_node ?_
    refine sI ?_
    refine AQ.fn (by kernel_rfl) rfl rfl rfl (j1) rfl ?_
    refine sI ?_
    refine AQ.nx rfl ?_
    refine sI ?_
    refine AQ.fn (by kernel_rfl) rfl rfl rfl (j2) rfl ?_
    refine sI ?_
    refine AQ.nx rfl ?_
    simp only [go_sem, Nat.reduceAdd, Nat.reduceLeDiff, Nat.reduceSub, Int.reduceToNat, reduceCtorEq, beq_self_eq_true, Bool.and_true]
    refine AQ.guard_yes (by simp only [go_sem]) ?_
    refine AQ.fn (by kernel_rfl) rfl rfl rfl (b1) rfl ?_
    refine sI ?_
    refine AQ.nx rfl ?_
    refine sI ?_
    refine AQ.guard_yes (by simp only [go_sem]) ?_
    refine AQ.fn (by kernel_rfl) rfl rfl rfl (b2) rfl ?_
    refine sI ?_
    refine AQ.nx rfl ?_
    simp only [go_sem, Nat.reduceAdd, Nat.reduceLeDiff, Nat.reduceSub, Int.reduceToNat, reduceCtorEq, beq_self_eq_true, Bool.and_true]
    refine AQ.guard_yes (by simp only [go_sem]) ?_
    refine AQ.fn (by kernel_rfl) rfl rfl rfl (s1) rfl ?_
    refine sI ?_
    refine AQ.nx rfl ?_
    refine sI ?_
    refine AQ.guard_yes (by simp only [go_sem]) ?_
    refine AQ.fn (by kernel_rfl) rfl rfl rfl (s2) rfl ?_
    refine sI ?_
    refine AQ.nx rfl ?_
    simp only [go_sem, Nat.reduceAdd, Nat.reduceLeDiff, Nat.reduceSub, Int.reduceToNat, reduceCtorEq, beq_self_eq_true, Bool.and_true]
    refine AQ.guard_yes (by simp only [go_sem]) ?_
    refine AQ.fn (by kernel_rfl) rfl rfl rfl (awake_spec) rfl ?_
    refine sI ?_
    refine AQ.nx rfl ?_
    simp only [go_sem, Nat.reduceAdd, Nat.reduceLeDiff, Nat.reduceSub, Int.reduceToNat, reduceCtorEq, beq_self_eq_true, Bool.and_true, Bool.true_and]
    refine AQ.done ?_
    refine gO ?_
    exact AE.retD [5, 4, 3, 2, 1, 0] rfl ⟨rfl, trivial⟩ rfl ⟨rfl, rfl⟩
  · cases b with
    | false =>
      refine ACall.walk [0, 1, 2, 3, 4, 5, 8, 9, 10, 11, 12, 13, 14, 15, 16, 17, 18, 19, 20, 32] [9, 11, 13, 15, 17, 19] Tryz.func4 rfl Tryz.ntmps4 (by kernel_rfl) (by rfl) rfl fun W own I0 φ0 lay => ?_
      refine gO ?_
      refine AQ.fn (by kernel_rfl) rfl rfl rfl (hsm) rfl ?_
      refine gO ?_
      refine AQ.fn (by kernel_rfl) rfl rfl rfl (awake_spec) rfl ?_
      refine gO ?_
      exact AE.ret0 rfl ⟨rfl, trivial⟩ rfl ⟨rfl, rfl⟩
    | true =>
      have hnl2 : (200 : Int) < (nm.length : Int) := by
        have : ¬ nm.length ≤ 200 := fun h => hc ⟨rfl, h⟩
        omega
      refine ACall.walk [0, 1, 2, 3, 4, 5, 8, 9, 10, 11, 12, 13, 14, 15, 16, 17, 18, 19, 20, 32] [9, 11, 13, 15, 17, 19] Tryz.func4 rfl Tryz.ntmps4 (by kernel_rfl) (by rfl) rfl fun W own I0 φ0 lay => ?_
      refine gO ?_
      refine AQ.fn (by kernel_rfl) rfl rfl rfl (hsm) rfl ?_
      refine gO ?_
      refine cT ?_
      refine gO ?_
      refine AQ.fn (by kernel_rfl) rfl rfl rfl (awake_spec) rfl ?_
      refine gO ?_
      exact AE.ret0 rfl ⟨rfl, trivial⟩ rfl ⟨rfl, rfl⟩
end Go.Proofs.YteacpafhmgdbkaaGreatDoor
end
