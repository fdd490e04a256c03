import Derived.Test.YtlpcdpjkdodmcaaGreatDoorW2
set_option linter.unusedSimpArgs false
set_option linter.unusedVariables false
set_option linter.unnecessarySimpa false
section
namespace Go.Proofs.YtlpcdpjkdodmcaaGreatDoor
open Go Go.AL Go.RowKit
set_option maxRecDepth 10000
set_option maxHeartbeats 4000000
def idxQ (f : Rq → Bool) (l : List Rq) : Int := match l.findIdx? f with
  | some j => j
  | none => -1
theorem idxQ_at {f : Rq → Bool} {l : List Rq} {k : Nat} {r : Rq} (hr : l[k]? = some r) (hf : f r = true) (hb : ∀ j, j < k → ∀ r, l[j]? = some r → f r = false) : idxQ f l = k := by
  have hk := (List.getElem?_eq_some_iff.1 hr).1
  have : l.findIdx? f = some k := by
    rw [List.findIdx?_eq_some_iff_getElem]
    refine ⟨hk, by rw [(List.getElem?_eq_some_iff.1 hr).2]; exact hf, fun j hj => ?_⟩
    rw [hb j hj l[j] (List.getElem?_eq_getElem (by omega))]
    decide
  rw [idxQ, this]
theorem idxQ_no {f : Rq → Bool} {l : List Rq} (hb : ∀ j, j < l.length → ∀ r, l[j]? = some r → f r = false) : idxQ f l = -1 := by
  have : l.findIdx? f = none := by
    rw [List.findIdx?_eq_none_iff]
    intro r hr
    obtain ⟨j, hj, e⟩ := List.getElem_of_mem hr
    exact hb j hj r (by rw [List.getElem?_eq_getElem hj, e])
  rw [idxQ, this]
theorem indexQ_spec (g : FuncId) (x : IV) (f : Rq → Bool) (hg : ∀ r : Rq, PFn Tryz.prog g [.agg [Iv r.n, Iv r.k, Sv r.b, Bv r.c, Bv r.a, Iv r.ak, Iv r.an, Sv r.ab], .im x] (Bv (f r))) (l : List Rq) (hl : l.length ≤ 1000000000) :
    PFn Tryz.prog 39 [.im (.sl 8 (rqR l)), .fn g [] [.im x]] (Iv (idxQ f l)) := by
  refine ACall.walk [0, 1, 4, 5, 7, 8, 9, 16] [] Tryz.func39 rfl Tryz.ntmps39 (by kernel_rfl) (by rfl) rfl fun W own I0 φ0 lay => ?_
  repeat (first | refine xA ?_ | refine xB ?_ | refine xC ?_ | refine xE ?_ | refine xD ?_ | refine xK ?_ | refine xS ?_ | refine xM ?_ | refine xT ?_ | refine xF ?_ | ((first | refine xR ?_ | refine xW ?_ | refine vq_id ?_); simp only [go_sem, Nat.reduceAdd, Nat.reduceLeDiff, Nat.reduceSub, Int.reduceToNat, reduceCtorEq, rqR_len]) | (refine ⟨by first | omega | (intros; simp_all; done) | (intros; simp_all; omega), ?_⟩; try simp only [go_sem, Nat.reduceAdd, Nat.reduceLeDiff, Nat.reduceSub, Int.reduceToNat, reduceCtorEq, rqR_len]))
  refine AP.loop rfl (α := Nat) (fun k => [(0, .im (.sl 8 (rqR l))), (1, .fn g [] [.im x]), (7, Iv l.length), (8, Iv k)]) (fun k => []) (fun k => k ≤ l.length ∧ ∀ j, j < k → ∀ r, l[j]? = some r → f r = false) (fun k => l.length - k) 0 (by simp) (by repeat (first | exact Sub.nil _ | refine Sub.cons rfl ?_)) rfl fun k ⟨hk, hkl⟩ => ?_
  have hw := wr (x := (k : Int) + 1) (by omega)
  repeat (first | refine xA ?_ | refine xB ?_ | refine xC ?_ | refine xE ?_ | refine xD ?_ | refine xK ?_ | refine xS ?_ | refine xM ?_ | refine xT ?_ | refine xF ?_ | ((first | refine xR ?_ | refine xW ?_ | refine vq_id ?_); simp only [go_sem, Nat.reduceAdd, Nat.reduceLeDiff, Nat.reduceSub, Int.reduceToNat, reduceCtorEq]) | (refine ⟨by first | omega | (intros; simp_all; done) | (intros; simp_all; omega), ?_⟩; try simp only [go_sem, Nat.reduceAdd, Nat.reduceLeDiff, Nat.reduceSub, Int.reduceToNat, reduceCtorEq]))
  refine AP.cond rfl rfl (fun hc => ?_) (fun hc => ?_)
  · have hk' : k < l.length := by simp at hc; omega
    obtain ⟨r, hm, hg0⟩ := rqR_get l k hk'
    have hsp := hg r
    obtain ⟨v, hv⟩ : ∃ v, f r = v := ⟨_, rfl⟩
    rw [hv] at hsp
    repeat (first | refine xA ?_ | refine xB ?_ | refine xC ?_ | refine xE ?_ | refine xD ?_ | refine xK ?_ | refine xS ?_ | refine xM ?_ | refine xT ?_ | refine xF ?_ | ((first | refine xR ?_ | refine xW ?_ | refine vq_id ?_); simp only [go_sem, Nat.reduceAdd, Nat.reduceLeDiff, Nat.reduceSub, Int.reduceToNat, reduceCtorEq, rqR_len, hg0, hw, Int.toNat_natCast, List.map_cons, List.map_nil, List.length_cons, List.length_nil, List.take_succ_cons, List.take_zero, List.drop_zero]) | (refine ⟨by first | omega | (intros; simp_all; done) | (intros; simp_all; omega), ?_⟩; try simp only [go_sem, Nat.reduceAdd, Nat.reduceLeDiff, Nat.reduceSub, Int.reduceToNat, reduceCtorEq, rqR_len, hg0, hw, Int.toNat_natCast, List.map_cons, List.map_nil, List.length_cons, List.length_nil, List.take_succ_cons, List.take_zero, List.drop_zero]))
    refine AQ.fnL ([.agg [Iv r.n, Iv r.k, Sv r.b, Bv r.c, Bv r.a, Iv r.ak, Iv r.an, Sv r.ab], .im x]) (by kernel_rfl) rfl rfl rfl (by ((try simp only [List.nil_append, List.append_nil, List.cons_append, List.map_cons, List.map_nil, AV.st, constAV]); repeat (first | with_reducible exact LentC.nil | with_reducible exact LentAs.nil | with_reducible refine LentC.cons ?_ ?_ | with_reducible refine LentAs.cons ?_ ?_ | with_reducible exact Lent.im _ | with_reducible exact LentA.im _ | with_reducible refine LentA.of ?_ | with_reducible refine LentA.agg ?_ | ((with_reducible apply Lent.osw); rfl; simp only [blkR_len, wrR_len, byteR_len, List.length_append, List.length_cons, List.length_nil]) | ((with_reducible apply Lent.ob0); rfl)))) (hsp) rfl (fun _ => rfl) ?_
    repeat (first | refine xA ?_ | refine xB ?_ | refine xC ?_ | refine xE ?_ | refine xD ?_ | refine xK ?_ | refine xS ?_ | refine xM ?_ | refine xT ?_ | refine xF ?_ | ((first | refine xR ?_ | refine xW ?_ | refine vq_id ?_); simp only [go_sem, Nat.reduceAdd, Nat.reduceLeDiff, Nat.reduceSub, Int.reduceToNat, reduceCtorEq]) | (refine ⟨by first | omega | (intros; simp_all; done) | (intros; simp_all; omega), ?_⟩; try simp only [go_sem, Nat.reduceAdd, Nat.reduceLeDiff, Nat.reduceSub, Int.reduceToNat, reduceCtorEq]))
    refine AP.cond rfl rfl (fun hv2 => ?_) (fun hv2 => ?_)
    · subst hv2
      repeat (first | refine xA ?_ | refine xB ?_ | refine xC ?_ | refine xE ?_ | refine xD ?_ | refine xK ?_ | refine xS ?_ | refine xM ?_ | refine xT ?_ | refine xF ?_ | ((first | refine xR ?_ | refine xW ?_ | refine vq_id ?_); simp only [go_sem, Nat.reduceAdd, Nat.reduceLeDiff, Nat.reduceSub, Int.reduceToNat, reduceCtorEq]) | (refine ⟨by first | omega | (intros; simp_all; done) | (intros; simp_all; omega), ?_⟩; try simp only [go_sem, Nat.reduceAdd, Nat.reduceLeDiff, Nat.reduceSub, Int.reduceToNat, reduceCtorEq]))
      rw [idxQ_at hm hv hkl]
      exact AE.ret0 rfl ⟨rfl, trivial⟩ rfl ⟨rfl, rfl⟩
    · subst hv2
      repeat (first | refine xA ?_ | refine xB ?_ | refine xC ?_ | refine xE ?_ | refine xD ?_ | refine xK ?_ | refine xS ?_ | refine xM ?_ | refine xT ?_ | refine xF ?_ | ((first | refine xR ?_ | refine xW ?_ | refine vq_id ?_); simp only [go_sem, Nat.reduceAdd, Nat.reduceLeDiff, Nat.reduceSub, Int.reduceToNat, reduceCtorEq, hw]) | (refine ⟨by first | omega | (intros; simp_all; done) | (intros; simp_all; omega), ?_⟩; try simp only [go_sem, Nat.reduceAdd, Nat.reduceLeDiff, Nat.reduceSub, Int.reduceToNat, reduceCtorEq, hw]))
      refine AE.round (k + 1) ⟨by omega, fun j hj r' hr' => ?_⟩ (by omega) (by repeat (first | exact Sub.nil _ | refine Sub.cons rfl ?_)) rfl
      by_cases h : j = k
      · subst h
        rw [hm] at hr'
        cases hr'
        exact hv
      · exact hkl j (by omega) r' hr'
  · have hke : k = l.length := by simp at hc; omega
    rw [hke] at hkl
    rw [idxQ_no hkl]
    repeat (first | refine xA ?_ | refine xB ?_ | refine xC ?_ | refine xE ?_ | refine xD ?_ | refine xK ?_ | refine xS ?_ | refine xM ?_ | refine xT ?_ | refine xF ?_ | ((first | refine xR ?_ | refine xW ?_ | refine vq_id ?_); simp only [go_sem, Nat.reduceAdd, Nat.reduceLeDiff, Nat.reduceSub, Int.reduceToNat, reduceCtorEq]) | (refine ⟨by first | omega | (intros; simp_all; done) | (intros; simp_all; omega), ?_⟩; try simp only [go_sem, Nat.reduceAdd, Nat.reduceLeDiff, Nat.reduceSub, Int.reduceToNat, reduceCtorEq]))
    exact AE.ret0 rfl ⟨rfl, trivial⟩ rfl ⟨rfl, rfl⟩
def mineB (id : Int) (r : Rq) : Bool := r.n == id && workB r.k
theorem mine_spec (id : Int) (r : Rq) : PFn Tryz.prog 49 [.agg [Iv r.n, Iv r.k, Sv r.b, Bv r.c, Bv r.a, Iv r.ak, Iv r.an, Sv r.ab], .im (.pt [Ii id])] (Bv (mineB id r)) := by
  have hw := work_spec r
  obtain ⟨v, hv⟩ : ∃ v, (r.n == id) = v := ⟨_, rfl⟩
  unfold mineB
  rw [hv]
  cases v with
  | false =>
    refine ACall.walk [0, 1, 2, 3] [] Tryz.func49 rfl Tryz.ntmps49 (by kernel_rfl) (by rfl) rfl fun W own I0 φ0 lay => ?_
    repeat (first | refine xA ?_ | refine xB ?_ | refine xC ?_ | refine xE ?_ | refine xD ?_ | refine xK ?_ | refine xS ?_ | refine xM ?_ | refine xT ?_ | refine xF ?_ | ((first | refine xR ?_ | refine xW ?_ | refine vq_id ?_); simp only [go_sem, Nat.reduceAdd, Nat.reduceLeDiff, Nat.reduceSub, Int.reduceToNat, reduceCtorEq, hv]) | (refine ⟨by first | omega | (intros; simp_all; done) | (intros; simp_all; omega), ?_⟩; try simp only [go_sem, Nat.reduceAdd, Nat.reduceLeDiff, Nat.reduceSub, Int.reduceToNat, reduceCtorEq, hv]))
    exact AE.ret0 rfl ⟨rfl, trivial⟩ rfl ⟨rfl, rfl⟩
  | true =>
    refine ACall.walk [0, 1, 2, 3] [] Tryz.func49 rfl Tryz.ntmps49 (by kernel_rfl) (by rfl) rfl fun W own I0 φ0 lay => ?_
    repeat (first | refine xA ?_ | refine xB ?_ | refine xC ?_ | refine xE ?_ | refine xD ?_ | refine xK ?_ | refine xS ?_ | refine xM ?_ | refine xT ?_ | refine xF ?_ | ((first | refine xR ?_ | refine xW ?_ | refine vq_id ?_); simp only [go_sem, Nat.reduceAdd, Nat.reduceLeDiff, Nat.reduceSub, Int.reduceToNat, reduceCtorEq, hv]) | (refine ⟨by first | omega | (intros; simp_all; done) | (intros; simp_all; omega), ?_⟩; try simp only [go_sem, Nat.reduceAdd, Nat.reduceLeDiff, Nat.reduceSub, Int.reduceToNat, reduceCtorEq, hv]))
    refine AQ.guard_yes (by simp only [go_sem]) ?_
    refine AQ.fn_g (by kernel_rfl) rfl rfl (fun h => by first | (simp [gs, AV.g]; done) | (simp [gs, AV.g, constAV]; done) | (simp [gs, AV.g, constAV, bw] at h ⊢; done) | (simp [gs, AV.g, constAV, bw] at h ⊢; exact h) | (simp [gs, AV.g, constAV, bw] at h ⊢; simp [h]; done) | (simp [bw] at h; done) | (simp [gs, AV.g, bw] at h ⊢; simp [h]; done) | (simp [gs, AV.g, bw] at h ⊢; exact h.1) | (simp [gs, AV.g]; rfl) | (simp [gs, AV.g, bw] at h ⊢; rfl) | (simp [gs, AV.g, bw] at h ⊢; simp [h]; rfl) | (simp [gs, AV.g, bw] at h ⊢; simp_all)) rfl (fun _ => hw) rfl ?_
    repeat (first | refine xA ?_ | refine xB ?_ | refine xC ?_ | refine xE ?_ | refine xD ?_ | refine xK ?_ | refine xS ?_ | refine xM ?_ | refine xT ?_ | refine xF ?_ | ((first | refine xR ?_ | refine xW ?_ | refine vq_id ?_); simp only [go_sem, Nat.reduceAdd, Nat.reduceLeDiff, Nat.reduceSub, Int.reduceToNat, reduceCtorEq, hv]) | (refine ⟨by first | omega | (intros; simp_all; done) | (intros; simp_all; omega), ?_⟩; try simp only [go_sem, Nat.reduceAdd, Nat.reduceLeDiff, Nat.reduceSub, Int.reduceToNat, reduceCtorEq, hv]))
    exact AE.ret0 rfl ⟨rfl, trivial⟩ rfl ⟨rfl, rfl⟩
theorem afail_spec (e : Int) : PFn Tryz.prog 48 [Iv e] (.tup [.agg [Iv 0, Sv [], Iv 0, Iv 0, nilS], nilS, Iv e]) := by
  refine ACall.walk [0, 2, 3, 4] [2] Tryz.func48 rfl Tryz.ntmps48 (by kernel_rfl) (by rfl) rfl fun W own I0 φ0 lay => ?_
  repeat (first | refine xA ?_ | refine xB ?_ | refine xC ?_ | refine xE ?_ | refine xD ?_ | refine xK ?_ | refine xS ?_ | refine xM ?_ | refine xT ?_ | refine xF ?_ | ((first | refine xR ?_ | refine xW ?_ | refine vq_id ?_); simp only [go_sem, Nat.reduceAdd, Nat.reduceLeDiff, Nat.reduceSub, Int.reduceToNat, reduceCtorEq]) | (refine ⟨by first | omega | (intros; simp_all; done) | (intros; simp_all; omega), ?_⟩; try simp only [go_sem, Nat.reduceAdd, Nat.reduceLeDiff, Nat.reduceSub, Int.reduceToNat, reduceCtorEq]))
  exact AE.retD [0] rfl ⟨⟨rfl, Nat.le_of_ble_eq_true (by kernel_rfl)⟩, rfl, rfl, trivial⟩ rfl ⟨rfl, rfl⟩
theorem tfail_spec (e : Int) : PFn Tryz.prog 34 [Iv e] (.tup [.agg [Iv 0, Sv [], Iv 0, Iv 0, nilS], nilS, Iv e]) := by
  refine ACall.walk [0, 2, 3, 4] [2] Tryz.func34 rfl Tryz.ntmps34 (by kernel_rfl) (by rfl) rfl fun W own I0 φ0 lay => ?_
  repeat (first | refine xA ?_ | refine xB ?_ | refine xC ?_ | refine xE ?_ | refine xD ?_ | refine xK ?_ | refine xS ?_ | refine xM ?_ | refine xT ?_ | refine xF ?_ | ((first | refine xR ?_ | refine xW ?_ | refine vq_id ?_); simp only [go_sem, Nat.reduceAdd, Nat.reduceLeDiff, Nat.reduceSub, Int.reduceToNat, reduceCtorEq]) | (refine ⟨by first | omega | (intros; simp_all; done) | (intros; simp_all; omega), ?_⟩; try simp only [go_sem, Nat.reduceAdd, Nat.reduceLeDiff, Nat.reduceSub, Int.reduceToNat, reduceCtorEq]))
  exact AE.retD [0] rfl ⟨⟨rfl, Nat.le_of_ble_eq_true (by kernel_rfl)⟩, rfl, rfl, trivial⟩ rfl ⟨rfl, rfl⟩
end Go.Proofs.YtlpcdpjkdodmcaaGreatDoor
end

section
namespace Go.Proofs.YtlpcdpjkdodmcaaGreatDoor
open Go Go.AL Go.RowKit
set_option maxRecDepth 10000
set_option maxHeartbeats 4000000
theorem told_s {a b c d z : AV} (w : World) (φ : Phi) (I : Nat → Prop) (v : Value) (h : AV.den w φ I (.tup [.agg [a, b, c, d, nilS], nilS, z]) v) : AV.den w φ I (.tup [.agg [a, b, c, d, .im (.sl 8 (rqR []))], .im (.sl 3 (msgR [])), z]) v := by
  simp only [AV.den, AV.dens] at h ⊢
  obtain ⟨us, ⟨u, us1, rfl, ⟨vs, ⟨v1, vs1, rfl, h1, v2, vs2, rfl, h2, v3, vs3, rfl, h3, v4, vs4, rfl, h4, v5, vs5, rfl, h5, h6⟩, rfl, hone⟩, x, xs, rfl, hx, hr⟩, hv⟩ := h
  exact ⟨_, ⟨_, _, rfl, ⟨_, ⟨_, _, rfl, h1, _, _, rfl, h2, _, _, rfl, h3, _, _, rfl, h4, _, _, rfl, nil_sl h5, h6⟩, rfl, hone⟩, _, _, rfl, nil_sl hx, hr⟩, hv⟩
theorem afail_told (e : Int) : PFn Tryz.prog 48 [Iv e] (.tup [.agg [Iv 0, Sv [], Iv 0, Iv 0, .im (.sl 8 (rqR []))], .im (.sl 3 (msgR [])), Iv e]) := PFn.told (afail_spec e) told_s
theorem tfail_told (e : Int) : PFn Tryz.prog 34 [Iv e] (.tup [.agg [Iv 0, Sv [], Iv 0, Iv 0, .im (.sl 8 (rqR []))], .im (.sl 3 (msgR [])), Iv e]) := PFn.told (tfail_spec e) told_s
def okS (p : Int) (nm : List UInt8) (w n : Int) (l : List Rq) (outs : List Msg) (e : Int) : AV := .tup [.agg [Iv p, Sv nm, Iv w, Iv n, .im (.sl 8 (rqR l))], .im (.sl 3 (msgR outs)), Iv e]
def failS (e : Int) : AV := okS 0 [] 0 0 [] [] e
def rAt (l : List Rq) (i : Int) : Rq := l.getD i.toNat ⟨0, 0, [], false, false, 0, 0, []⟩
def answered (l : List Rq) (i : Int) (K N : Int) (t : List UInt8) : List Rq := l.set i.toNat ⟨(rAt l i).n, (rAt l i).k, (rAt l i).b, (rAt l i).c, true, K, N, t⟩
noncomputable def ansV (p : Int) (nm : List UInt8) (w n : Int) (l : List Rq) (id K N : Int) (t : List UInt8) : AV :=
  if srvC p nm w n l = false then failS 13 else if idxQ (mineB id) l < 0 then failS 412 else if (rAt l (idxQ (mineB id) l)).c = true then okS p nm w n l [] 0 else if (rAt l (idxQ (mineB id) l)).a = true then failS 6
  else if msgE K N t ≠ 0 then failS (msgE K N t) else if (K != 8 && K != 9) = true then failS 411 else if (N != id) = true then failS 412
  else okS (rdy p (answered l (idxQ (mineB id) l) K N t)).1 nm w n (rdy p (answered l (idxQ (mineB id) l) K N t)).2.1 (rdy p (answered l (idxQ (mineB id) l) K N t)).2.2 0
theorem idxQ_cases (f : Rq → Bool) (l : List Rq) : idxQ f l = -1 ∨ ∃ j : Nat, idxQ f l = j ∧ j < l.length := by
  unfold idxQ
  split
  · rename_i j hj
    exact .inr ⟨j, rfl, (List.findIdx?_eq_some_iff_getElem.1 hj).1⟩
  · exact .inl rfl
theorem rows_ans {l : List Rq} {j : Nat} {r : Rq} (hm : l[j]? = some r) (K N : Int) (t : List UInt8) :
    ((rqR l).set j (List.take 4 ((rqR l).getD j []) ++ [IV.v (Value.bool true)] ++ List.drop 5 ((rqR l).getD j []))).set j (List.take 5 (((rqR l).set j (List.take 4 ((rqR l).getD j []) ++ [IV.v (Value.bool true)] ++ List.drop 5 ((rqR l).getD j []))).getD j []) ++ [Ii K, Ii N, Si t] ++ List.drop 8 (((rqR l).set j (List.take 4 ((rqR l).getD j []) ++ [IV.v (Value.bool true)] ++ List.drop 5 ((rqR l).getD j []))).getD j []))
      = rqR (l.set j ⟨r.n, r.k, r.b, r.c, true, K, N, t⟩) := by
  have hj := (List.getElem?_eq_some_iff.1 hm).1
  obtain ⟨r', hm', hg⟩ := rqR_get l j hj
  rw [hm] at hm'
  cases hm'
  rw [hg]
  have e : ((rqR l).set j (List.take 4 [Ii r.n, Ii r.k, Si r.b, .v (.bool r.c), .v (.bool r.a), Ii r.ak, Ii r.an, Si r.ab] ++ [IV.v (Value.bool true)] ++ List.drop 5 [Ii r.n, Ii r.k, Si r.b, .v (.bool r.c), .v (.bool r.a), Ii r.ak, Ii r.an, Si r.ab])).getD j [] = [Ii r.n, Ii r.k, Si r.b, .v (.bool r.c), .v (.bool true), Ii r.ak, Ii r.an, Si r.ab] := by
    rw [List.getD_eq_getElem?_getD, List.getElem?_set_self (by rw [rqR_len]; exact hj)]
    rfl
  rw [e, List.set_set]
  simp only [rqR, List.map_set]
  rfl
theorem answer_spec (p : Int) (nm : List UInt8) (w n : Int) (l : List Rq) (hl : l.length ≤ 1000000) (hnm : nm.length ≤ 1000000000000) (id K N : Int) (t : List UInt8) :
    PFn Tryz.prog 17 [.agg [Iv p, Sv nm, Iv w, Iv n, .im (.sl 8 (rqR l))], Iv id, .agg [Iv K, Iv N, Sv t]] (ansV p nm w n l id K N t) := by
  have hix := indexQ_spec 49 (.pt [Ii id]) (mineB id) (mine_spec id) l (by omega)
  refine ACall.walk [0, 1, 2, 3, 4, 5, 6, 7, 8, 9, 10, 11, 14, 28, 36, 44, 59, 66, 80] [3, 6] Tryz.func17 rfl Tryz.ntmps17 (by kernel_rfl) (by rfl) rfl fun W own I0 φ0 lay => ?_
  repeat (first | refine xA ?_ | refine xB ?_ | refine xC ?_ | refine xE ?_ | refine xD ?_ | refine xK ?_ | refine xS ?_ | refine xM ?_ | refine xT ?_ | refine xF ?_ | ((first | refine xR ?_ | refine xW ?_ | refine vq_id ?_); simp only [go_sem, Nat.reduceAdd, Nat.reduceLeDiff, Nat.reduceSub, Int.reduceToNat, reduceCtorEq]) | (refine ⟨by first | omega | (intros; simp_all; done) | (intros; simp_all; omega), ?_⟩; try simp only [go_sem, Nat.reduceAdd, Nat.reduceLeDiff, Nat.reduceSub, Int.reduceToNat, reduceCtorEq]))
  refine AQ.fn (by kernel_rfl) rfl rfl rfl (chk_spec p nm w n l (by omega) hnm) rfl ?_
  repeat (first | refine xA ?_ | refine xB ?_ | refine xC ?_ | refine xE ?_ | refine xD ?_ | refine xK ?_ | refine xS ?_ | refine xM ?_ | refine xT ?_ | refine xF ?_ | ((first | refine xR ?_ | refine xW ?_ | refine vq_id ?_); simp only [go_sem, Nat.reduceAdd, Nat.reduceLeDiff, Nat.reduceSub, Int.reduceToNat, reduceCtorEq]) | (refine ⟨by first | omega | (intros; simp_all; done) | (intros; simp_all; omega), ?_⟩; try simp only [go_sem, Nat.reduceAdd, Nat.reduceLeDiff, Nat.reduceSub, Int.reduceToNat, reduceCtorEq]))
  unfold srvE ansV
  refine AP.cond rfl rfl (fun h1 => ?_) (fun h1 => ?_)
  · have h1' : srvC p nm w n l = false := by
      rcases Bool.eq_false_or_eq_true (srvC p nm w n l) with h | h
      · rw [h] at h1; exact absurd h1 (by decide)
      · exact h
    rw [if_pos h1']
    repeat (first | refine xA ?_ | refine xB ?_ | refine xC ?_ | refine xE ?_ | refine xD ?_ | refine xK ?_ | refine xS ?_ | refine xM ?_ | refine xT ?_ | refine xF ?_ | ((first | refine xR ?_ | refine xW ?_ | refine vq_id ?_); simp only [go_sem, Nat.reduceAdd, Nat.reduceLeDiff, Nat.reduceSub, Int.reduceToNat, reduceCtorEq]) | (refine ⟨by first | omega | (intros; simp_all; done) | (intros; simp_all; omega), ?_⟩; try simp only [go_sem, Nat.reduceAdd, Nat.reduceLeDiff, Nat.reduceSub, Int.reduceToNat, reduceCtorEq]))
    refine AQ.fnL ([Iv 13]) (by kernel_rfl) rfl rfl rfl (by ((try simp only [List.nil_append, List.append_nil, List.cons_append, List.map_cons, List.map_nil, AV.st, constAV]); repeat (first | with_reducible exact LentC.nil | with_reducible exact LentAs.nil | with_reducible refine LentC.cons ?_ ?_ | with_reducible refine LentAs.cons ?_ ?_ | with_reducible exact Lent.im _ | with_reducible exact LentA.im _ | with_reducible refine LentA.of ?_ | with_reducible refine LentA.agg ?_ | ((with_reducible apply Lent.osw); rfl; simp only [blkR_len, wrR_len, byteR_len, List.length_append, List.length_cons, List.length_nil]) | ((with_reducible apply Lent.ob0); rfl)))) (afail_told 13) rfl (fun _ => rfl) ?_
    repeat (first | refine xA ?_ | refine xB ?_ | refine xC ?_ | refine xE ?_ | refine xD ?_ | refine xK ?_ | refine xS ?_ | refine xM ?_ | refine xT ?_ | refine xF ?_ | ((first | refine xR ?_ | refine xW ?_ | refine vq_id ?_); simp only [go_sem, Nat.reduceAdd, Nat.reduceLeDiff, Nat.reduceSub, Int.reduceToNat, reduceCtorEq]) | (refine ⟨by first | omega | (intros; simp_all; done) | (intros; simp_all; omega), ?_⟩; try simp only [go_sem, Nat.reduceAdd, Nat.reduceLeDiff, Nat.reduceSub, Int.reduceToNat, reduceCtorEq]))
    exact AE.retD [1, 0] rfl ⟨⟨rfl, Nat.le_of_ble_eq_true (by kernel_rfl)⟩, rfl, rfl, trivial⟩ rfl ⟨rfl, rfl⟩
  have h1' : srvC p nm w n l = true := by
    rcases Bool.eq_false_or_eq_true (srvC p nm w n l) with h | h
    · exact h
    · rw [h] at h1; exact absurd h1 (by decide)
  rw [if_neg (by rw [h1']; decide)]
  repeat (first | refine xA ?_ | refine xB ?_ | refine xC ?_ | refine xE ?_ | refine xD ?_ | refine xK ?_ | refine xS ?_ | refine xM ?_ | refine xT ?_ | refine xF ?_ | ((first | refine xR ?_ | refine xW ?_ | refine vq_id ?_); simp only [go_sem, Nat.reduceAdd, Nat.reduceLeDiff, Nat.reduceSub, Int.reduceToNat, reduceCtorEq]) | (refine ⟨by first | omega | (intros; simp_all; done) | (intros; simp_all; omega), ?_⟩; try simp only [go_sem, Nat.reduceAdd, Nat.reduceLeDiff, Nat.reduceSub, Int.reduceToNat, reduceCtorEq]))
  refine AQ.callv (by kernel_rfl) rfl rfl rfl (cloneQ_spec l (by omega)) fun r' H' ⟨e1, e2⟩ => ?_
  subst e1
  subst e2
  simp only [go_sem, Nat.reduceAdd, Nat.reduceLeDiff, Nat.reduceSub, Int.reduceToNat, reduceCtorEq]
  repeat (first | refine xA ?_ | refine xB ?_ | refine xC ?_ | refine xE ?_ | refine xD ?_ | refine xK ?_ | refine xS ?_ | refine xM ?_ | refine xT ?_ | refine xF ?_ | ((first | refine xR ?_ | refine xW ?_ | refine vq_id ?_); simp only [go_sem, Nat.reduceAdd, Nat.reduceLeDiff, Nat.reduceSub, Int.reduceToNat, reduceCtorEq]) | (refine ⟨by first | omega | (intros; simp_all; done) | (intros; simp_all; omega), ?_⟩; try simp only [go_sem, Nat.reduceAdd, Nat.reduceLeDiff, Nat.reduceSub, Int.reduceToNat, reduceCtorEq]))
  refine AQ.callL [.im (.sl 8 (rqR l)), .fn 49 [] [.im (.pt [Ii id])]] (by kernel_rfl) rfl rfl rfl (LentAs.cons (LentA.of (Lent.osw rfl (by rw [rqR_len]))) (LentAs.cons (LentA.fn LentAs.nil (LentAs.cons (LentA.im _) LentAs.nil)) LentAs.nil)) hix fun r1 H1 ⟨e1, e2⟩ => ?_
  subst e1
  subst e2
  refine ⟨rfl, trivial, ?_⟩
  refine AQ.go (by kernel_rfl) ?_
  simp only [go_sem, Nat.reduceAdd, Nat.reduceLeDiff, Nat.reduceSub, Int.reduceToNat, reduceCtorEq]
  repeat (first | refine xA ?_ | refine xB ?_ | refine xC ?_ | refine xE ?_ | refine xD ?_ | refine xK ?_ | refine xS ?_ | refine xM ?_ | refine xT ?_ | refine xF ?_ | ((first | refine xR ?_ | refine xW ?_ | refine vq_id ?_); simp only [go_sem, Nat.reduceAdd, Nat.reduceLeDiff, Nat.reduceSub, Int.reduceToNat, reduceCtorEq]) | (refine ⟨by first | omega | (intros; simp_all; done) | (intros; simp_all; omega), ?_⟩; try simp only [go_sem, Nat.reduceAdd, Nat.reduceLeDiff, Nat.reduceSub, Int.reduceToNat, reduceCtorEq]))
  refine AP.cond rfl rfl (fun h2 => ?_) (fun h2 => ?_)
  · rw [if_pos (by simpa using h2)]
    repeat (first | refine xA ?_ | refine xB ?_ | refine xC ?_ | refine xE ?_ | refine xD ?_ | refine xK ?_ | refine xS ?_ | refine xM ?_ | refine xT ?_ | refine xF ?_ | ((first | refine xR ?_ | refine xW ?_ | refine vq_id ?_); simp only [go_sem, Nat.reduceAdd, Nat.reduceLeDiff, Nat.reduceSub, Int.reduceToNat, reduceCtorEq]) | (refine ⟨by first | omega | (intros; simp_all; done) | (intros; simp_all; omega), ?_⟩; try simp only [go_sem, Nat.reduceAdd, Nat.reduceLeDiff, Nat.reduceSub, Int.reduceToNat, reduceCtorEq]))
    refine AQ.fnL ([Iv 412]) (by kernel_rfl) rfl rfl rfl (by ((try simp only [List.nil_append, List.append_nil, List.cons_append, List.map_cons, List.map_nil, AV.st, constAV]); repeat (first | with_reducible exact LentC.nil | with_reducible exact LentAs.nil | with_reducible refine LentC.cons ?_ ?_ | with_reducible refine LentAs.cons ?_ ?_ | with_reducible exact Lent.im _ | with_reducible exact LentA.im _ | with_reducible refine LentA.of ?_ | with_reducible refine LentA.agg ?_ | ((with_reducible apply Lent.osw); rfl; simp only [blkR_len, wrR_len, byteR_len, List.length_append, List.length_cons, List.length_nil]) | ((with_reducible apply Lent.ob0); rfl)))) (afail_told 412) rfl (fun _ => rfl) ?_
    repeat (first | refine xA ?_ | refine xB ?_ | refine xC ?_ | refine xE ?_ | refine xD ?_ | refine xK ?_ | refine xS ?_ | refine xM ?_ | refine xT ?_ | refine xF ?_ | ((first | refine xR ?_ | refine xW ?_ | refine vq_id ?_); simp only [go_sem, Nat.reduceAdd, Nat.reduceLeDiff, Nat.reduceSub, Int.reduceToNat, reduceCtorEq]) | (refine ⟨by first | omega | (intros; simp_all; done) | (intros; simp_all; omega), ?_⟩; try simp only [go_sem, Nat.reduceAdd, Nat.reduceLeDiff, Nat.reduceSub, Int.reduceToNat, reduceCtorEq]))
    exact AE.retD [0, 1, 2] rfl ⟨⟨rfl, Nat.le_of_ble_eq_true (by kernel_rfl)⟩, rfl, rfl, trivial⟩ rfl ⟨rfl, rfl⟩
  rw [if_neg (by simpa using h2)]
  rcases idxQ_cases (mineB id) l with hj | ⟨j, hj, hjl⟩
  · rw [hj] at h2; exact absurd h2 (by decide)
  obtain ⟨r, hm, hg⟩ := rqR_get l j hjl
  have hr : rAt l (j : Int) = r := by rw [rAt, Int.toNat_natCast, List.getD_eq_getElem?_getD, hm]; rfl
  have hta : (rqR l).take l.length = rqR l := List.take_of_length_le (by rw [rqR_len]; exact Nat.le_refl _)
  unfold answered
  rw [hj, hr]
  repeat (first | refine xA ?_ | refine xB ?_ | refine xC ?_ | refine xE ?_ | refine xD ?_ | refine xK ?_ | refine xS ?_ | refine xM ?_ | refine xT ?_ | refine xF ?_ | ((first | refine xR ?_ | refine xW ?_ | refine vq_id ?_); simp only [go_sem, Nat.reduceAdd, Nat.reduceLeDiff, Nat.reduceSub, Int.reduceToNat, reduceCtorEq, rqR_len, List.length_cons, hg, List.map_cons, List.map_nil, List.length_nil, List.take_succ_cons, List.take_zero, List.drop_succ_cons, List.drop_zero, Int.toNat_natCast]) | (refine ⟨by first | omega | (intros; simp_all; done) | (intros; simp_all; omega), ?_⟩; try simp only [go_sem, Nat.reduceAdd, Nat.reduceLeDiff, Nat.reduceSub, Int.reduceToNat, reduceCtorEq, rqR_len, List.length_cons, hg, List.map_cons, List.map_nil, List.length_nil, List.take_succ_cons, List.take_zero, List.drop_succ_cons, List.drop_zero, Int.toNat_natCast]))
  refine AP.cond rfl rfl (fun h3 => ?_) (fun h3 => ?_)
  · rw [if_pos h3]
    repeat (first | refine xA ?_ | refine xB ?_ | refine xC ?_ | refine xE ?_ | refine xD ?_ | refine xK ?_ | refine xS ?_ | refine xM ?_ | refine xT ?_ | refine xF ?_ | ((first | refine xR ?_ | refine xW ?_ | refine vq_id ?_); simp only [go_sem, Nat.reduceAdd, Nat.reduceLeDiff, Nat.reduceSub, Int.reduceToNat, reduceCtorEq]) | (refine ⟨by first | omega | (intros; simp_all; done) | (intros; simp_all; omega), ?_⟩; try simp only [go_sem, Nat.reduceAdd, Nat.reduceLeDiff, Nat.reduceSub, Int.reduceToNat, reduceCtorEq]))
    refine AE.freeze 2 (rows := rqR l) rfl (by simp [go_sem, rqR_len]) (by simp [go_sem, rqR_len]) ?_
    simp only [go_sem, Nat.reduceAdd, Nat.reduceLeDiff, Nat.reduceSub, Int.reduceToNat, reduceCtorEq, List.drop_zero, hta]
    refine AE.nilsl 7 3 rfl ?_
    exact AE.retD [0, 1] rfl ⟨⟨rfl, Nat.le_of_ble_eq_true (by kernel_rfl)⟩, rfl, rfl, trivial⟩ rfl ⟨rfl, rfl⟩
  rw [if_neg (by rw [h3]; decide)]
  repeat (first | refine xA ?_ | refine xB ?_ | refine xC ?_ | refine xE ?_ | refine xD ?_ | refine xK ?_ | refine xS ?_ | refine xM ?_ | refine xT ?_ | refine xF ?_ | ((first | refine xR ?_ | refine xW ?_ | refine vq_id ?_); simp only [go_sem, Nat.reduceAdd, Nat.reduceLeDiff, Nat.reduceSub, Int.reduceToNat, reduceCtorEq, rqR_len, List.length_cons, hg, List.map_cons, List.map_nil, List.length_nil, List.take_succ_cons, List.take_zero, List.drop_succ_cons, List.drop_zero, Int.toNat_natCast]) | (refine ⟨by first | omega | (intros; simp_all; done) | (intros; simp_all; omega), ?_⟩; try simp only [go_sem, Nat.reduceAdd, Nat.reduceLeDiff, Nat.reduceSub, Int.reduceToNat, reduceCtorEq, rqR_len, List.length_cons, hg, List.map_cons, List.map_nil, List.length_nil, List.take_succ_cons, List.take_zero, List.drop_succ_cons, List.drop_zero, Int.toNat_natCast]))
  refine AP.cond rfl rfl (fun h4 => ?_) (fun h4 => ?_)
  · rw [if_pos h4]
    repeat (first | refine xA ?_ | refine xB ?_ | refine xC ?_ | refine xE ?_ | refine xD ?_ | refine xK ?_ | refine xS ?_ | refine xM ?_ | refine xT ?_ | refine xF ?_ | ((first | refine xR ?_ | refine xW ?_ | refine vq_id ?_); simp only [go_sem, Nat.reduceAdd, Nat.reduceLeDiff, Nat.reduceSub, Int.reduceToNat, reduceCtorEq]) | (refine ⟨by first | omega | (intros; simp_all; done) | (intros; simp_all; omega), ?_⟩; try simp only [go_sem, Nat.reduceAdd, Nat.reduceLeDiff, Nat.reduceSub, Int.reduceToNat, reduceCtorEq]))
    refine AQ.fnL ([Iv 6]) (by kernel_rfl) rfl rfl rfl (by ((try simp only [List.nil_append, List.append_nil, List.cons_append, List.map_cons, List.map_nil, AV.st, constAV]); repeat (first | with_reducible exact LentC.nil | with_reducible exact LentAs.nil | with_reducible refine LentC.cons ?_ ?_ | with_reducible refine LentAs.cons ?_ ?_ | with_reducible exact Lent.im _ | with_reducible exact LentA.im _ | with_reducible refine LentA.of ?_ | with_reducible refine LentA.agg ?_ | ((with_reducible apply Lent.osw); rfl; simp only [blkR_len, wrR_len, byteR_len, List.length_append, List.length_cons, List.length_nil]) | ((with_reducible apply Lent.ob0); rfl)))) (afail_told 6) rfl (fun _ => rfl) ?_
    repeat (first | refine xA ?_ | refine xB ?_ | refine xC ?_ | refine xE ?_ | refine xD ?_ | refine xK ?_ | refine xS ?_ | refine xM ?_ | refine xT ?_ | refine xF ?_ | ((first | refine xR ?_ | refine xW ?_ | refine vq_id ?_); simp only [go_sem, Nat.reduceAdd, Nat.reduceLeDiff, Nat.reduceSub, Int.reduceToNat, reduceCtorEq]) | (refine ⟨by first | omega | (intros; simp_all; done) | (intros; simp_all; omega), ?_⟩; try simp only [go_sem, Nat.reduceAdd, Nat.reduceLeDiff, Nat.reduceSub, Int.reduceToNat, reduceCtorEq]))
    exact AE.retD [0, 1, 2] rfl ⟨⟨rfl, Nat.le_of_ble_eq_true (by kernel_rfl)⟩, rfl, rfl, trivial⟩ rfl ⟨rfl, rfl⟩
  rw [if_neg (by rw [h4]; decide)]
  repeat (first | refine xA ?_ | refine xB ?_ | refine xC ?_ | refine xE ?_ | refine xD ?_ | refine xK ?_ | refine xS ?_ | refine xM ?_ | refine xT ?_ | refine xF ?_ | ((first | refine xR ?_ | refine xW ?_ | refine vq_id ?_); simp only [go_sem, Nat.reduceAdd, Nat.reduceLeDiff, Nat.reduceSub, Int.reduceToNat, reduceCtorEq]) | (refine ⟨by first | omega | (intros; simp_all; done) | (intros; simp_all; omega), ?_⟩; try simp only [go_sem, Nat.reduceAdd, Nat.reduceLeDiff, Nat.reduceSub, Int.reduceToNat, reduceCtorEq]))
  refine AQ.fn (by kernel_rfl) rfl rfl rfl (error_spec K N t) rfl ?_
  repeat (first | refine xA ?_ | refine xB ?_ | refine xC ?_ | refine xE ?_ | refine xD ?_ | refine xK ?_ | refine xS ?_ | refine xM ?_ | refine xT ?_ | refine xF ?_ | ((first | refine xR ?_ | refine xW ?_ | refine vq_id ?_); simp only [go_sem, Nat.reduceAdd, Nat.reduceLeDiff, Nat.reduceSub, Int.reduceToNat, reduceCtorEq]) | (refine ⟨by first | omega | (intros; simp_all; done) | (intros; simp_all; omega), ?_⟩; try simp only [go_sem, Nat.reduceAdd, Nat.reduceLeDiff, Nat.reduceSub, Int.reduceToNat, reduceCtorEq]))
  refine AP.cond rfl rfl (fun h5 => ?_) (fun h5 => ?_)
  · have h5' : msgE K N t ≠ 0 := by simpa using h5
    rw [if_pos h5']
    repeat (first | refine xA ?_ | refine xB ?_ | refine xC ?_ | refine xE ?_ | refine xD ?_ | refine xK ?_ | refine xS ?_ | refine xM ?_ | refine xT ?_ | refine xF ?_ | ((first | refine xR ?_ | refine xW ?_ | refine vq_id ?_); simp only [go_sem, Nat.reduceAdd, Nat.reduceLeDiff, Nat.reduceSub, Int.reduceToNat, reduceCtorEq]) | (refine ⟨by first | omega | (intros; simp_all; done) | (intros; simp_all; omega), ?_⟩; try simp only [go_sem, Nat.reduceAdd, Nat.reduceLeDiff, Nat.reduceSub, Int.reduceToNat, reduceCtorEq]))
    refine AQ.fnL ([Iv (msgE K N t)]) (by kernel_rfl) rfl rfl rfl (by ((try simp only [List.nil_append, List.append_nil, List.cons_append, List.map_cons, List.map_nil, AV.st, constAV]); repeat (first | with_reducible exact LentC.nil | with_reducible exact LentAs.nil | with_reducible refine LentC.cons ?_ ?_ | with_reducible refine LentAs.cons ?_ ?_ | with_reducible exact Lent.im _ | with_reducible exact LentA.im _ | with_reducible refine LentA.of ?_ | with_reducible refine LentA.agg ?_ | ((with_reducible apply Lent.osw); rfl; simp only [blkR_len, wrR_len, byteR_len, List.length_append, List.length_cons, List.length_nil]) | ((with_reducible apply Lent.ob0); rfl)))) (afail_told (msgE K N t)) rfl (fun _ => rfl) ?_
    repeat (first | refine xA ?_ | refine xB ?_ | refine xC ?_ | refine xE ?_ | refine xD ?_ | refine xK ?_ | refine xS ?_ | refine xM ?_ | refine xT ?_ | refine xF ?_ | ((first | refine xR ?_ | refine xW ?_ | refine vq_id ?_); simp only [go_sem, Nat.reduceAdd, Nat.reduceLeDiff, Nat.reduceSub, Int.reduceToNat, reduceCtorEq]) | (refine ⟨by first | omega | (intros; simp_all; done) | (intros; simp_all; omega), ?_⟩; try simp only [go_sem, Nat.reduceAdd, Nat.reduceLeDiff, Nat.reduceSub, Int.reduceToNat, reduceCtorEq]))
    exact AE.retD [0, 1, 2] rfl ⟨⟨rfl, Nat.le_of_ble_eq_true (by kernel_rfl)⟩, rfl, rfl, trivial⟩ rfl ⟨rfl, rfl⟩
  have h5' : msgE K N t = 0 := by simpa using h5
  rw [if_neg (by rw [h5']; decide)]
  repeat (first | refine xA ?_ | refine xB ?_ | refine xC ?_ | refine xE ?_ | refine xD ?_ | refine xK ?_ | refine xS ?_ | refine xM ?_ | refine xT ?_ | refine xF ?_ | ((first | refine xR ?_ | refine xW ?_ | refine vq_id ?_); simp only [go_sem, Nat.reduceAdd, Nat.reduceLeDiff, Nat.reduceSub, Int.reduceToNat, reduceCtorEq]) | (refine ⟨by first | omega | (intros; simp_all; done) | (intros; simp_all; omega), ?_⟩; try simp only [go_sem, Nat.reduceAdd, Nat.reduceLeDiff, Nat.reduceSub, Int.reduceToNat, reduceCtorEq]))
  refine AP.cond rfl rfl (fun h6 => ?_) (fun h6 => ?_)
  · rw [if_pos h6]
    repeat (first | refine xA ?_ | refine xB ?_ | refine xC ?_ | refine xE ?_ | refine xD ?_ | refine xK ?_ | refine xS ?_ | refine xM ?_ | refine xT ?_ | refine xF ?_ | ((first | refine xR ?_ | refine xW ?_ | refine vq_id ?_); simp only [go_sem, Nat.reduceAdd, Nat.reduceLeDiff, Nat.reduceSub, Int.reduceToNat, reduceCtorEq]) | (refine ⟨by first | omega | (intros; simp_all; done) | (intros; simp_all; omega), ?_⟩; try simp only [go_sem, Nat.reduceAdd, Nat.reduceLeDiff, Nat.reduceSub, Int.reduceToNat, reduceCtorEq]))
    refine AQ.fnL ([Iv 411]) (by kernel_rfl) rfl rfl rfl (by ((try simp only [List.nil_append, List.append_nil, List.cons_append, List.map_cons, List.map_nil, AV.st, constAV]); repeat (first | with_reducible exact LentC.nil | with_reducible exact LentAs.nil | with_reducible refine LentC.cons ?_ ?_ | with_reducible refine LentAs.cons ?_ ?_ | with_reducible exact Lent.im _ | with_reducible exact LentA.im _ | with_reducible refine LentA.of ?_ | with_reducible refine LentA.agg ?_ | ((with_reducible apply Lent.osw); rfl; simp only [blkR_len, wrR_len, byteR_len, List.length_append, List.length_cons, List.length_nil]) | ((with_reducible apply Lent.ob0); rfl)))) (afail_told 411) rfl (fun _ => rfl) ?_
    repeat (first | refine xA ?_ | refine xB ?_ | refine xC ?_ | refine xE ?_ | refine xD ?_ | refine xK ?_ | refine xS ?_ | refine xM ?_ | refine xT ?_ | refine xF ?_ | ((first | refine xR ?_ | refine xW ?_ | refine vq_id ?_); simp only [go_sem, Nat.reduceAdd, Nat.reduceLeDiff, Nat.reduceSub, Int.reduceToNat, reduceCtorEq]) | (refine ⟨by first | omega | (intros; simp_all; done) | (intros; simp_all; omega), ?_⟩; try simp only [go_sem, Nat.reduceAdd, Nat.reduceLeDiff, Nat.reduceSub, Int.reduceToNat, reduceCtorEq]))
    exact AE.retD [0, 1, 2] rfl ⟨⟨rfl, Nat.le_of_ble_eq_true (by kernel_rfl)⟩, rfl, rfl, trivial⟩ rfl ⟨rfl, rfl⟩
  rw [if_neg (by rw [h6]; decide)]
  repeat (first | refine xA ?_ | refine xB ?_ | refine xC ?_ | refine xE ?_ | refine xD ?_ | refine xK ?_ | refine xS ?_ | refine xM ?_ | refine xT ?_ | refine xF ?_ | ((first | refine xR ?_ | refine xW ?_ | refine vq_id ?_); simp only [go_sem, Nat.reduceAdd, Nat.reduceLeDiff, Nat.reduceSub, Int.reduceToNat, reduceCtorEq]) | (refine ⟨by first | omega | (intros; simp_all; done) | (intros; simp_all; omega), ?_⟩; try simp only [go_sem, Nat.reduceAdd, Nat.reduceLeDiff, Nat.reduceSub, Int.reduceToNat, reduceCtorEq]))
  refine AP.cond rfl rfl (fun h7 => ?_) (fun h7 => ?_)
  · rw [if_pos h7]
    repeat (first | refine xA ?_ | refine xB ?_ | refine xC ?_ | refine xE ?_ | refine xD ?_ | refine xK ?_ | refine xS ?_ | refine xM ?_ | refine xT ?_ | refine xF ?_ | ((first | refine xR ?_ | refine xW ?_ | refine vq_id ?_); simp only [go_sem, Nat.reduceAdd, Nat.reduceLeDiff, Nat.reduceSub, Int.reduceToNat, reduceCtorEq]) | (refine ⟨by first | omega | (intros; simp_all; done) | (intros; simp_all; omega), ?_⟩; try simp only [go_sem, Nat.reduceAdd, Nat.reduceLeDiff, Nat.reduceSub, Int.reduceToNat, reduceCtorEq]))
    refine AQ.fnL ([Iv 412]) (by kernel_rfl) rfl rfl rfl (by ((try simp only [List.nil_append, List.append_nil, List.cons_append, List.map_cons, List.map_nil, AV.st, constAV]); repeat (first | with_reducible exact LentC.nil | with_reducible exact LentAs.nil | with_reducible refine LentC.cons ?_ ?_ | with_reducible refine LentAs.cons ?_ ?_ | with_reducible exact Lent.im _ | with_reducible exact LentA.im _ | with_reducible refine LentA.of ?_ | with_reducible refine LentA.agg ?_ | ((with_reducible apply Lent.osw); rfl; simp only [blkR_len, wrR_len, byteR_len, List.length_append, List.length_cons, List.length_nil]) | ((with_reducible apply Lent.ob0); rfl)))) (afail_told 412) rfl (fun _ => rfl) ?_
    repeat (first | refine xA ?_ | refine xB ?_ | refine xC ?_ | refine xE ?_ | refine xD ?_ | refine xK ?_ | refine xS ?_ | refine xM ?_ | refine xT ?_ | refine xF ?_ | ((first | refine xR ?_ | refine xW ?_ | refine vq_id ?_); simp only [go_sem, Nat.reduceAdd, Nat.reduceLeDiff, Nat.reduceSub, Int.reduceToNat, reduceCtorEq]) | (refine ⟨by first | omega | (intros; simp_all; done) | (intros; simp_all; omega), ?_⟩; try simp only [go_sem, Nat.reduceAdd, Nat.reduceLeDiff, Nat.reduceSub, Int.reduceToNat, reduceCtorEq]))
    exact AE.retD [0, 1, 2] rfl ⟨⟨rfl, Nat.le_of_ble_eq_true (by kernel_rfl)⟩, rfl, rfl, trivial⟩ rfl ⟨rfl, rfl⟩
  rw [if_neg (by rw [h7]; decide)]
  repeat (first | refine xA ?_ | refine xB ?_ | refine xC ?_ | refine xE ?_ | refine xD ?_ | refine xK ?_ | refine xS ?_ | refine xM ?_ | refine xT ?_ | refine xF ?_ | ((first | refine xR ?_ | refine xW ?_ | refine vq_id ?_); simp only [go_sem, Nat.reduceAdd, Nat.reduceLeDiff, Nat.reduceSub, Int.reduceToNat, reduceCtorEq]) | (refine ⟨by first | omega | (intros; simp_all; done) | (intros; simp_all; omega), ?_⟩; try simp only [go_sem, Nat.reduceAdd, Nat.reduceLeDiff, Nat.reduceSub, Int.reduceToNat, reduceCtorEq]))
  refine AP.drawE 13 (Tree.node [] [0, 1, 2, 3, 4, 5, 6, 7, 8] [9] [Tree.node [3, 4, 5, 6] [10, 11] [12] [Tree.node [] [] [] []]]) (by kernel_rfl) rfl (by kernel_rfl) (by kernel_rfl) ?_
  refine vd_node ?_
  simp only [go_sem, Nat.reduceAdd, Nat.reduceLeDiff, Nat.reduceSub, Int.reduceToNat, reduceCtorEq]
  refine ⟨by omega, ?_⟩
  repeat' (first | with_reducible exact True.intro | with_reducible refine And.intro (by omega) ?_ | with_reducible refine And.intro ?_ ?_ | (refine AQ.nx rfl ?_; simp only [go_sem, Nat.reduceAdd, Nat.reduceLeDiff, Nat.reduceSub, Int.reduceToNat, reduceCtorEq, rqR_len]) | refine AQ.skip (by kernel_rfl) rfl ?_ | refine AQ.done ?_ | (refine AQ.go (by kernel_rfl) ?_; simp only [go_sem, Nat.reduceAdd, Nat.reduceLeDiff, Nat.reduceSub, Int.reduceToNat, reduceCtorEq, rqR_len]; repeat (with_reducible refine And.intro (by omega) ?_); refine AQ.nx rfl ?_; simp only [go_sem, Nat.reduceAdd, Nat.reduceLeDiff, Nat.reduceSub, Int.reduceToNat, reduceCtorEq, rqR_len]))
  · rw [List.length_set, rqR_len]; exact hjl
  have hrow := rows_ans hm K N t
  have hln : (rqR (l.set j ⟨r.n, r.k, r.b, r.c, true, K, N, t⟩)).length = l.length := by rw [rqR_len, List.length_set]
  have hta2 : (rqR (l.set j ⟨r.n, r.k, r.b, r.c, true, K, N, t⟩)).take l.length = rqR (l.set j ⟨r.n, r.k, r.b, r.c, true, K, N, t⟩) := List.take_of_length_le (by rw [hln]; exact Nat.le_refl _)
  rw [hrow]
  obtain ⟨L, hL⟩ : ∃ L, l.set j ⟨r.n, r.k, r.b, r.c, true, K, N, t⟩ = L := ⟨_, rfl⟩
  have hLl : L.length ≤ 1000000 := by rw [← hL, List.length_set]; exact hl
  rw [hL] at hln hta2 ⊢
  refine AE.freeze 2 (rows := rqR L) rfl (by simp [go_sem, hln]) (by simp [go_sem, hln]) ?_
  simp only [go_sem, Nat.reduceAdd, Nat.reduceLeDiff, Nat.reduceSub, Int.reduceToNat, reduceCtorEq, List.drop_zero, hta2]
  repeat (first | refine xA ?_ | refine xB ?_ | refine xC ?_ | refine xE ?_ | refine xD ?_ | refine xK ?_ | refine xS ?_ | refine xM ?_ | refine xT ?_ | refine xF ?_ | ((first | refine xR ?_ | refine xW ?_ | refine vq_id ?_); simp only [go_sem, Nat.reduceAdd, Nat.reduceLeDiff, Nat.reduceSub, Int.reduceToNat, reduceCtorEq]) | (refine ⟨by first | omega | (intros; simp_all; done) | (intros; simp_all; omega), ?_⟩; try simp only [go_sem, Nat.reduceAdd, Nat.reduceLeDiff, Nat.reduceSub, Int.reduceToNat, reduceCtorEq]))
  refine AQ.fn (by kernel_rfl) rfl rfl rfl (sent_spec p nm w n L hLl) rfl ?_
  repeat (first | refine xA ?_ | refine xB ?_ | refine xC ?_ | refine xE ?_ | refine xD ?_ | refine xK ?_ | refine xS ?_ | refine xM ?_ | refine xT ?_ | refine xF ?_ | ((first | refine xR ?_ | refine xW ?_ | refine vq_id ?_); simp only [go_sem, Nat.reduceAdd, Nat.reduceLeDiff, Nat.reduceSub, Int.reduceToNat, reduceCtorEq]) | (refine ⟨by first | omega | (intros; simp_all; done) | (intros; simp_all; omega), ?_⟩; try simp only [go_sem, Nat.reduceAdd, Nat.reduceLeDiff, Nat.reduceSub, Int.reduceToNat, reduceCtorEq]))
  exact AE.retD [0, 1] rfl ⟨⟨rfl, Nat.le_of_ble_eq_true (by kernel_rfl)⟩, rfl, rfl, trivial⟩ rfl ⟨rfl, rfl⟩
end Go.Proofs.YtlpcdpjkdodmcaaGreatDoor
end

section
namespace Go.Proofs.YtlpcdpjkdodmcaaGreatDoor
open Go Go.AL Go.RowKit
set_option maxRecDepth 10000
set_option maxHeartbeats 4000000
def newV (w : Int) : AV := if (decide (w < 1) || decide (16 < w)) = true then .tup [.agg [Iv 0, Sv [], Iv 0, Iv 0, .im (.sl 8 (rqR []))], Iv 3] else .tup [.agg [Iv 0, Sv [], Iv w, Iv 1, .im (.sl 8 (rqR []))], Iv 0]
theorem told_n {a b c d z : AV} (w : World) (φ : Phi) (I : Nat → Prop) (v : Value) (h : AV.den w φ I (.tup [.agg [a, b, c, d, nilS], z]) v) : AV.den w φ I (.tup [.agg [a, b, c, d, .im (.sl 8 (rqR []))], z]) v := by
  simp only [AV.den, AV.dens] at h ⊢
  obtain ⟨us, ⟨u, us1, rfl, ⟨vs, ⟨v1, vs1, rfl, h1, v2, vs2, rfl, h2, v3, vs3, rfl, h3, v4, vs4, rfl, h4, v5, vs5, rfl, h5, h6⟩, rfl, hone⟩, hr⟩, hv⟩ := h
  exact ⟨_, ⟨_, _, rfl, ⟨_, ⟨_, _, rfl, h1, _, _, rfl, h2, _, _, rfl, h3, _, _, rfl, h4, _, _, rfl, nil_sl h5, h6⟩, rfl, hone⟩, hr⟩, hv⟩
theorem new_spec (w : Int) : PFn Tryz.prog 7 [Iv w] (newV w) := by
  unfold newV
  cases hb : (decide (w < 1) || decide (16 < w)) with
  | true =>
    rw [if_pos rfl]
    refine PFn.told (r := .tup [.agg [Iv 0, Sv [], Iv 0, Iv 0, nilS], Iv 3]) ?_ told_n
    refine ACall.walk [0, 2, 3, 9] [2] Tryz.func7 rfl Tryz.ntmps7 (by kernel_rfl) (by rfl) rfl fun W own I0 φ0 lay => ?_
    repeat (first | refine xA ?_ | refine xB ?_ | refine xC ?_ | refine xE ?_ | refine xD ?_ | refine xK ?_ | refine xS ?_ | refine xM ?_ | refine xT ?_ | refine xF ?_ | ((first | refine xR ?_ | refine xW ?_ | refine vq_id ?_); simp only [go_sem, Nat.reduceAdd, Nat.reduceLeDiff, Nat.reduceSub, Int.reduceToNat, reduceCtorEq, hb]) | (refine ⟨by first | omega | (intros; simp_all; done) | (intros; simp_all; omega), ?_⟩; try simp only [go_sem, Nat.reduceAdd, Nat.reduceLeDiff, Nat.reduceSub, Int.reduceToNat, reduceCtorEq, hb]))
    exact AE.retD [0] rfl ⟨⟨rfl, Nat.le_of_ble_eq_true (by kernel_rfl)⟩, rfl, trivial⟩ rfl ⟨rfl, rfl⟩
  | false =>
    rw [if_neg (by decide)]
    refine PFn.told (r := .tup [.agg [Iv 0, Sv [], Iv w, Iv 1, nilS], Iv 0]) ?_ told_n
    refine ACall.walk [0, 2, 3, 9] [2] Tryz.func7 rfl Tryz.ntmps7 (by kernel_rfl) (by rfl) rfl fun W own I0 φ0 lay => ?_
    repeat (first | refine xA ?_ | refine xB ?_ | refine xC ?_ | refine xE ?_ | refine xD ?_ | refine xK ?_ | refine xS ?_ | refine xM ?_ | refine xT ?_ | refine xF ?_ | ((first | refine xR ?_ | refine xW ?_ | refine vq_id ?_); simp only [go_sem, Nat.reduceAdd, Nat.reduceLeDiff, Nat.reduceSub, Int.reduceToNat, reduceCtorEq, hb]) | (refine ⟨by first | omega | (intros; simp_all; done) | (intros; simp_all; omega), ?_⟩; try simp only [go_sem, Nat.reduceAdd, Nat.reduceLeDiff, Nat.reduceSub, Int.reduceToNat, reduceCtorEq, hb]))
    exact AE.retD [0] rfl ⟨⟨rfl, Nat.le_of_ble_eq_true (by kernel_rfl)⟩, rfl, trivial⟩ rfl ⟨rfl, rfl⟩
theorem ans_spec (r : Rq) : PFn Tryz.prog 52 [.agg [Iv r.n, Iv r.k, Sv r.b, Bv r.c, Bv r.a, Iv r.ak, Iv r.an, Sv r.ab]] (Bv r.a) := by
  refine ACall.walk [0, 1, 2] [] Tryz.func52 rfl Tryz.ntmps52 (by kernel_rfl) (by rfl) rfl fun W own I0 φ0 lay => ?_
  repeat (first | refine xA ?_ | refine xB ?_ | refine xC ?_ | refine xE ?_ | refine xD ?_ | refine xK ?_ | refine xS ?_ | refine xM ?_ | refine xT ?_ | refine xF ?_ | ((first | refine xR ?_ | refine xW ?_ | refine vq_id ?_); simp only [go_sem, Nat.reduceAdd, Nat.reduceLeDiff, Nat.reduceSub, Int.reduceToNat, reduceCtorEq]) | (refine ⟨by first | omega | (intros; simp_all; done) | (intros; simp_all; omega), ?_⟩; try simp only [go_sem, Nat.reduceAdd, Nat.reduceLeDiff, Nat.reduceSub, Int.reduceToNat, reduceCtorEq]))
  exact AE.ret0 rfl ⟨rfl, trivial⟩ rfl ⟨rfl, rfl⟩
theorem indexQ0_spec (g : FuncId) (f : Rq → Bool) (hg : ∀ r : Rq, PFn Tryz.prog g [.agg [Iv r.n, Iv r.k, Sv r.b, Bv r.c, Bv r.a, Iv r.ak, Iv r.an, Sv r.ab]] (Bv (f r))) (l : List Rq) (hl : l.length ≤ 1000000000) :
    PFn Tryz.prog 39 [.im (.sl 8 (rqR l)), .fn g [] []] (Iv (idxQ f l)) := by
  refine ACall.walk [0, 1, 4, 5, 7, 8, 9, 16] [] Tryz.func39 rfl Tryz.ntmps39 (by kernel_rfl) (by rfl) rfl fun W own I0 φ0 lay => ?_
  repeat (first | refine xA ?_ | refine xB ?_ | refine xC ?_ | refine xE ?_ | refine xD ?_ | refine xK ?_ | refine xS ?_ | refine xM ?_ | refine xT ?_ | refine xF ?_ | ((first | refine xR ?_ | refine xW ?_ | refine vq_id ?_); simp only [go_sem, Nat.reduceAdd, Nat.reduceLeDiff, Nat.reduceSub, Int.reduceToNat, reduceCtorEq, rqR_len]) | (refine ⟨by first | omega | (intros; simp_all; done) | (intros; simp_all; omega), ?_⟩; try simp only [go_sem, Nat.reduceAdd, Nat.reduceLeDiff, Nat.reduceSub, Int.reduceToNat, reduceCtorEq, rqR_len]))
  refine AP.loop rfl (α := Nat) (fun k => [(0, .im (.sl 8 (rqR l))), (1, .fn g [] []), (7, Iv l.length), (8, Iv k)]) (fun k => []) (fun k => k ≤ l.length ∧ ∀ j, j < k → ∀ r, l[j]? = some r → f r = false) (fun k => l.length - k) 0 (by simp) (by repeat (first | exact Sub.nil _ | refine Sub.cons rfl ?_)) rfl fun k ⟨hk, hkl⟩ => ?_
  have hw := wr (x := (k : Int) + 1) (by omega)
  repeat (first | refine xA ?_ | refine xB ?_ | refine xC ?_ | refine xE ?_ | refine xD ?_ | refine xK ?_ | refine xS ?_ | refine xM ?_ | refine xT ?_ | refine xF ?_ | ((first | refine xR ?_ | refine xW ?_ | refine vq_id ?_); simp only [go_sem, Nat.reduceAdd, Nat.reduceLeDiff, Nat.reduceSub, Int.reduceToNat, reduceCtorEq]) | (refine ⟨by first | omega | (intros; simp_all; done) | (intros; simp_all; omega), ?_⟩; try simp only [go_sem, Nat.reduceAdd, Nat.reduceLeDiff, Nat.reduceSub, Int.reduceToNat, reduceCtorEq]))
  refine AP.cond rfl rfl (fun hc => ?_) (fun hc => ?_)
  · have hk' : k < l.length := by simp at hc; omega
    obtain ⟨r, hm, hg0⟩ := rqR_get l k hk'
    have hsp := hg r
    obtain ⟨v, hv⟩ : ∃ v, f r = v := ⟨_, rfl⟩
    rw [hv] at hsp
    repeat (first | refine xA ?_ | refine xB ?_ | refine xC ?_ | refine xE ?_ | refine xD ?_ | refine xK ?_ | refine xS ?_ | refine xM ?_ | refine xT ?_ | refine xF ?_ | ((first | refine xR ?_ | refine xW ?_ | refine vq_id ?_); simp only [go_sem, Nat.reduceAdd, Nat.reduceLeDiff, Nat.reduceSub, Int.reduceToNat, reduceCtorEq, rqR_len, hg0, hw, Int.toNat_natCast, List.map_cons, List.map_nil, List.length_cons, List.length_nil, List.take_succ_cons, List.take_zero, List.drop_zero]) | (refine ⟨by first | omega | (intros; simp_all; done) | (intros; simp_all; omega), ?_⟩; try simp only [go_sem, Nat.reduceAdd, Nat.reduceLeDiff, Nat.reduceSub, Int.reduceToNat, reduceCtorEq, rqR_len, hg0, hw, Int.toNat_natCast, List.map_cons, List.map_nil, List.length_cons, List.length_nil, List.take_succ_cons, List.take_zero, List.drop_zero]))
    refine AQ.fnL ([.agg [Iv r.n, Iv r.k, Sv r.b, Bv r.c, Bv r.a, Iv r.ak, Iv r.an, Sv r.ab]]) (by kernel_rfl) rfl rfl rfl (by ((try simp only [List.nil_append, List.append_nil, List.cons_append, List.map_cons, List.map_nil, AV.st, constAV]); repeat (first | with_reducible exact LentC.nil | with_reducible exact LentAs.nil | with_reducible refine LentC.cons ?_ ?_ | with_reducible refine LentAs.cons ?_ ?_ | with_reducible exact Lent.im _ | with_reducible exact LentA.im _ | with_reducible refine LentA.of ?_ | with_reducible refine LentA.agg ?_ | ((with_reducible apply Lent.osw); rfl; simp only [blkR_len, wrR_len, byteR_len, List.length_append, List.length_cons, List.length_nil]) | ((with_reducible apply Lent.ob0); rfl)))) (hsp) rfl (fun _ => rfl) ?_
    repeat (first | refine xA ?_ | refine xB ?_ | refine xC ?_ | refine xE ?_ | refine xD ?_ | refine xK ?_ | refine xS ?_ | refine xM ?_ | refine xT ?_ | refine xF ?_ | ((first | refine xR ?_ | refine xW ?_ | refine vq_id ?_); simp only [go_sem, Nat.reduceAdd, Nat.reduceLeDiff, Nat.reduceSub, Int.reduceToNat, reduceCtorEq]) | (refine ⟨by first | omega | (intros; simp_all; done) | (intros; simp_all; omega), ?_⟩; try simp only [go_sem, Nat.reduceAdd, Nat.reduceLeDiff, Nat.reduceSub, Int.reduceToNat, reduceCtorEq]))
    refine AP.cond rfl rfl (fun hv2 => ?_) (fun hv2 => ?_)
    · subst hv2
      repeat (first | refine xA ?_ | refine xB ?_ | refine xC ?_ | refine xE ?_ | refine xD ?_ | refine xK ?_ | refine xS ?_ | refine xM ?_ | refine xT ?_ | refine xF ?_ | ((first | refine xR ?_ | refine xW ?_ | refine vq_id ?_); simp only [go_sem, Nat.reduceAdd, Nat.reduceLeDiff, Nat.reduceSub, Int.reduceToNat, reduceCtorEq]) | (refine ⟨by first | omega | (intros; simp_all; done) | (intros; simp_all; omega), ?_⟩; try simp only [go_sem, Nat.reduceAdd, Nat.reduceLeDiff, Nat.reduceSub, Int.reduceToNat, reduceCtorEq]))
      rw [idxQ_at hm hv hkl]
      exact AE.ret0 rfl ⟨rfl, trivial⟩ rfl ⟨rfl, rfl⟩
    · subst hv2
      repeat (first | refine xA ?_ | refine xB ?_ | refine xC ?_ | refine xE ?_ | refine xD ?_ | refine xK ?_ | refine xS ?_ | refine xM ?_ | refine xT ?_ | refine xF ?_ | ((first | refine xR ?_ | refine xW ?_ | refine vq_id ?_); simp only [go_sem, Nat.reduceAdd, Nat.reduceLeDiff, Nat.reduceSub, Int.reduceToNat, reduceCtorEq, hw]) | (refine ⟨by first | omega | (intros; simp_all; done) | (intros; simp_all; omega), ?_⟩; try simp only [go_sem, Nat.reduceAdd, Nat.reduceLeDiff, Nat.reduceSub, Int.reduceToNat, reduceCtorEq, hw]))
      refine AE.round (k + 1) ⟨by omega, fun j hj r' hr' => ?_⟩ (by omega) (by repeat (first | exact Sub.nil _ | refine Sub.cons rfl ?_)) rfl
      by_cases h : j = k
      · subst h
        rw [hm] at hr'
        cases hr'
        exact hv
      · exact hkl j (by omega) r' hr'
  · have hke : k = l.length := by simp at hc; omega
    rw [hke] at hkl
    rw [idxQ_no hkl]
    repeat (first | refine xA ?_ | refine xB ?_ | refine xC ?_ | refine xE ?_ | refine xD ?_ | refine xK ?_ | refine xS ?_ | refine xM ?_ | refine xT ?_ | refine xF ?_ | ((first | refine xR ?_ | refine xW ?_ | refine vq_id ?_); simp only [go_sem, Nat.reduceAdd, Nat.reduceLeDiff, Nat.reduceSub, Int.reduceToNat, reduceCtorEq]) | (refine ⟨by first | omega | (intros; simp_all; done) | (intros; simp_all; omega), ?_⟩; try simp only [go_sem, Nat.reduceAdd, Nat.reduceLeDiff, Nat.reduceSub, Int.reduceToNat, reduceCtorEq]))
    exact AE.ret0 rfl ⟨rfl, trivial⟩ rfl ⟨rfl, rfl⟩
def openQ (l : List Rq) : List Rq := l.filter fun r => !r.a
end Go.Proofs.YtlpcdpjkdodmcaaGreatDoor
end

section
namespace Go.Proofs.YtlpcdpjkdodmcaaGreatDoor
open Go Go.AL Go.RowKit
set_option maxRecDepth 10000
set_option maxHeartbeats 4000000
def delOk (l : List Rq) (q : Nat × Nat × List Rq) : Prop := q.1 ≤ l.length ∧ q.2.1 < q.1 ∧ q.2.2.length = l.length ∧ q.2.2.take q.2.1 = openQ (l.take q.1) ∧ ∀ j, q.1 ≤ j → q.2.2[j]? = l[j]?
theorem delOk.drop {l M : List Rq} {k i : Nat} {r : Rq} (h : delOk l (k, i, M)) (hr : l[k]? = some r) (ha : r.a = true) : delOk l (k + 1, i, M) := by
  obtain ⟨h1, h2, h3, h4, h5⟩ := h
  have hk := (List.getElem?_eq_some_iff.1 hr).1
  simp only at h1 h2 h3 h4 h5
  refine ⟨by show k + 1 ≤ _; omega, by show i < k + 1; omega, h3, ?_, fun j hj => h5 j (by show k ≤ j; have : k + 1 ≤ j := hj; omega)⟩
  show M.take i = openQ (l.take (k + 1))
  rw [h4, List.take_add_one, hr]
  simp [openQ, ha]
theorem delOk.keep {l M : List Rq} {k i : Nat} {r : Rq} (h : delOk l (k, i, M)) (hr : l[k]? = some r) (ha : r.a = false) : delOk l (k + 1, i + 1, M.set i r) := by
  obtain ⟨h1, h2, h3, h4, h5⟩ := h
  have hk := (List.getElem?_eq_some_iff.1 hr).1
  simp only at h1 h2 h3 h4 h5
  refine ⟨by show k + 1 ≤ _; omega, by show i + 1 < k + 1; omega, by show (M.set i r).length = _; rw [List.length_set]; exact h3, ?_, fun j hj => ?_⟩
  · show (M.set i r).take (i + 1) = openQ (l.take (k + 1))
    rw [List.take_add_one, List.take_set_of_le (Nat.le_refl _), h4, List.getElem?_set_self (by omega), List.take_add_one, hr]
    simp [openQ, ha]
  · have hj' : k + 1 ≤ j := hj
    show (M.set i r)[j]? = _
    rw [List.getElem?_set_ne (by omega)]
    exact h5 j (by show k ≤ j; omega)
theorem delete_spec (l : List Rq) (hl : l.length ≤ 1000000) : ACall Tryz.prog 51 [.os 0 8 0 l.length, .fn 52 [] []] [(0, .vec 82 8 (rqR l))] (fun r H => ∃ tl, r = .os 0 8 0 (openQ l).length ∧ H = [(0, .vec 82 8 (rqR (openQ l) ++ tl))]) := by
  have hix := indexQ0_spec 52 (fun r => r.a) ans_spec l (by omega)
  refine ACall.walk [0, 1, 4, 5, 6, 7, 12, 19, 29] [7] Tryz.func51 rfl Tryz.ntmps51 (by kernel_rfl) (by rfl) rfl fun W own I0 φ0 lay => ?_
  repeat (first | refine xA ?_ | refine xB ?_ | refine xC ?_ | refine xE ?_ | refine xD ?_ | refine xK ?_ | refine xS ?_ | refine xM ?_ | refine xT ?_ | refine xF ?_ | ((first | refine xR ?_ | refine xW ?_ | refine vq_id ?_); simp only [go_sem, Nat.reduceAdd, Nat.reduceLeDiff, Nat.reduceSub, Int.reduceToNat, reduceCtorEq]) | (refine ⟨by first | omega | (intros; simp_all; done) | (intros; simp_all; omega), ?_⟩; try simp only [go_sem, Nat.reduceAdd, Nat.reduceLeDiff, Nat.reduceSub, Int.reduceToNat, reduceCtorEq]))
  refine AQ.callL [.im (.sl 8 (rqR l)), .fn 52 [] []] (by kernel_rfl) rfl rfl rfl (LentAs.cons (LentA.of (Lent.osw rfl (by rw [rqR_len]))) (LentAs.cons (LentA.fn LentAs.nil LentAs.nil) LentAs.nil)) hix fun r1 H1 ⟨e1, e2⟩ => ?_
  subst e1
  subst e2
  refine ⟨rfl, trivial, ?_⟩
  refine AQ.go (by kernel_rfl) ?_
  simp only [go_sem, Nat.reduceAdd, Nat.reduceLeDiff, Nat.reduceSub, Int.reduceToNat, reduceCtorEq]
  repeat (first | refine xA ?_ | refine xB ?_ | refine xC ?_ | refine xE ?_ | refine xD ?_ | refine xK ?_ | refine xS ?_ | refine xM ?_ | refine xT ?_ | refine xF ?_ | ((first | refine xR ?_ | refine xW ?_ | refine vq_id ?_); simp only [go_sem, Nat.reduceAdd, Nat.reduceLeDiff, Nat.reduceSub, Int.reduceToNat, reduceCtorEq]) | (refine ⟨by first | omega | (intros; simp_all; done) | (intros; simp_all; omega), ?_⟩; try simp only [go_sem, Nat.reduceAdd, Nat.reduceLeDiff, Nat.reduceSub, Int.reduceToNat, reduceCtorEq]))
  refine AP.cond rfl rfl (fun h1 => ?_) (fun h1 => ?_)
  · have hn : openQ l = l := by
      rcases idxQ_cases (fun r => r.a) l with h | ⟨j, h, hj⟩
      · refine List.filter_eq_self.2 fun r hr => ?_
        unfold idxQ at h
        split at h
        · rename_i j hj; omega
        · rename_i hno
          have := List.findIdx?_eq_none_iff.1 hno r hr
          simpa using this
      · rw [h] at h1; simp at h1 <;> omega
    rw [hn]
    repeat (first | refine xA ?_ | refine xB ?_ | refine xC ?_ | refine xE ?_ | refine xD ?_ | refine xK ?_ | refine xS ?_ | refine xM ?_ | refine xT ?_ | refine xF ?_ | ((first | refine xR ?_ | refine xW ?_ | refine vq_id ?_); simp only [go_sem, Nat.reduceAdd, Nat.reduceLeDiff, Nat.reduceSub, Int.reduceToNat, reduceCtorEq]) | (refine ⟨by first | omega | (intros; simp_all; done) | (intros; simp_all; omega), ?_⟩; try simp only [go_sem, Nat.reduceAdd, Nat.reduceLeDiff, Nat.reduceSub, Int.reduceToNat, reduceCtorEq]))
    exact AE.ret rfl ⟨rfl, trivial⟩ ⟨[], rfl, by rw [List.append_nil]⟩
  obtain ⟨j0, hj0, hjl, hM0⟩ : ∃ j : Nat, idxQ (fun r => r.a) l = j ∧ j < l.length ∧ delOk l (j + 1, j, l) := by
    rcases idxQ_cases (fun r => r.a) l with h | ⟨j, h, hj⟩
    · rw [h] at h1; simp at h1
    · refine ⟨j, h, hj, by show j + 1 ≤ _; omega, by show j < j + 1; omega, rfl, ?_, fun _ _ => rfl⟩
      unfold idxQ at h
      split at h
      · rename_i j' hf
        have hjj : j' = j := by omega
        subst hjj
        obtain ⟨hlt, hp, hq⟩ := List.findIdx?_eq_some_iff_getElem.1 hf
        show l.take j' = openQ (l.take (j' + 1))
        rw [List.take_add_one, List.getElem?_eq_getElem hlt]
        have hz : openQ (l.take j') = l.take j' := List.filter_eq_self.2 fun r hr => by
          obtain ⟨i, hi, e⟩ := List.mem_take_iff_getElem.1 hr
          have := hq i (by omega)
          rw [e] at this
          simpa using this
        simp only [openQ, List.filter_append] at hz ⊢
        rw [hz]
        simp [hp]
      · omega
  have hw0 := wr (x := (j0 : Int) + 1) (by omega)
  rw [hj0]
  repeat (first | refine xA ?_ | refine xB ?_ | refine xC ?_ | refine xE ?_ | refine xD ?_ | refine xK ?_ | refine xS ?_ | refine xM ?_ | refine xT ?_ | refine xF ?_ | ((first | refine xR ?_ | refine xW ?_ | refine vq_id ?_); simp only [go_sem, Nat.reduceAdd, Nat.reduceLeDiff, Nat.reduceSub, Int.reduceToNat, reduceCtorEq, hw0]) | (refine ⟨by first | omega | (intros; simp_all; done) | (intros; simp_all; omega), ?_⟩; try simp only [go_sem, Nat.reduceAdd, Nat.reduceLeDiff, Nat.reduceSub, Int.reduceToNat, reduceCtorEq, hw0]))
  refine AP.loop rfl (α := Nat × Nat × List Rq) (fun q => [(0, .os 0 8 0 l.length), (1, .fn 52 [] []), (5, Iv q.2.1), (6, Iv q.1)]) (fun q => [(0, .vec 82 8 (rqR q.2.2))]) (delOk l) (fun q => l.length - q.1) (j0 + 1, j0, l) hM0 (by repeat (first | exact Sub.nil _ | refine Sub.cons rfl ?_)) rfl fun ⟨k, i, M⟩ hok => ?_
  have hok0 := hok
  obtain ⟨hk1, hk2, hk3, hk4, hk5⟩ := hok0
  simp only at hk1 hk2 hk3 hk4 hk5
  have hw := wr (x := (k : Int) + 1) (by omega)
  have hwi := wr (x := (i : Int) + 1) (by omega)
  repeat (first | refine xA ?_ | refine xB ?_ | refine xC ?_ | refine xE ?_ | refine xD ?_ | refine xK ?_ | refine xS ?_ | refine xM ?_ | refine xT ?_ | refine xF ?_ | ((first | refine xR ?_ | refine xW ?_ | refine vq_id ?_); simp only [go_sem, Nat.reduceAdd, Nat.reduceLeDiff, Nat.reduceSub, Int.reduceToNat, reduceCtorEq, rqR_len, hk3]) | (refine ⟨by first | omega | (intros; simp_all; done) | (intros; simp_all; omega), ?_⟩; try simp only [go_sem, Nat.reduceAdd, Nat.reduceLeDiff, Nat.reduceSub, Int.reduceToNat, reduceCtorEq, rqR_len, hk3]))
  refine AP.cond rfl rfl (fun hc => ?_) (fun hc => ?_)
  · have hk' : k < l.length := by simp at hc; omega
    obtain ⟨r, hm, hg0⟩ := rqR_get M k (by omega)
    have hml : l[k]? = some r := by rw [← hk5 k (Nat.le_refl _)]; exact hm
    have hsp := ans_spec r
    repeat (first | refine xA ?_ | refine xB ?_ | refine xC ?_ | refine xE ?_ | refine xD ?_ | refine xK ?_ | refine xS ?_ | refine xM ?_ | refine xT ?_ | refine xF ?_ | ((first | refine xR ?_ | refine xW ?_ | refine vq_id ?_); simp only [go_sem, Nat.reduceAdd, Nat.reduceLeDiff, Nat.reduceSub, Int.reduceToNat, reduceCtorEq, rqR_len, hk3, hg0, hw, Int.toNat_natCast, List.map_cons, List.map_nil, List.length_cons, List.length_nil, List.take_succ_cons, List.take_zero, List.drop_zero]) | (refine ⟨by first | omega | (intros; simp_all; done) | (intros; simp_all; omega), ?_⟩; try simp only [go_sem, Nat.reduceAdd, Nat.reduceLeDiff, Nat.reduceSub, Int.reduceToNat, reduceCtorEq, rqR_len, hk3, hg0, hw, Int.toNat_natCast, List.map_cons, List.map_nil, List.length_cons, List.length_nil, List.take_succ_cons, List.take_zero, List.drop_zero]))
    refine AQ.fnL ([.agg [Iv r.n, Iv r.k, Sv r.b, Bv r.c, Bv r.a, Iv r.ak, Iv r.an, Sv r.ab]]) (by kernel_rfl) rfl rfl rfl (by ((try simp only [List.nil_append, List.append_nil, List.cons_append, List.map_cons, List.map_nil, AV.st, constAV]); repeat (first | with_reducible exact LentC.nil | with_reducible exact LentAs.nil | with_reducible refine LentC.cons ?_ ?_ | with_reducible refine LentAs.cons ?_ ?_ | with_reducible exact Lent.im _ | with_reducible exact LentA.im _ | with_reducible refine LentA.of ?_ | with_reducible refine LentA.agg ?_ | ((with_reducible apply Lent.osw); rfl; simp only [blkR_len, wrR_len, byteR_len, List.length_append, List.length_cons, List.length_nil]) | ((with_reducible apply Lent.ob0); rfl)))) (hsp) rfl (fun _ => rfl) ?_
    repeat (first | refine xA ?_ | refine xB ?_ | refine xC ?_ | refine xE ?_ | refine xD ?_ | refine xK ?_ | refine xS ?_ | refine xM ?_ | refine xT ?_ | refine xF ?_ | ((first | refine xR ?_ | refine xW ?_ | refine vq_id ?_); simp only [go_sem, Nat.reduceAdd, Nat.reduceLeDiff, Nat.reduceSub, Int.reduceToNat, reduceCtorEq]) | (refine ⟨by first | omega | (intros; simp_all; done) | (intros; simp_all; omega), ?_⟩; try simp only [go_sem, Nat.reduceAdd, Nat.reduceLeDiff, Nat.reduceSub, Int.reduceToNat, reduceCtorEq]))
    refine AP.cond rfl rfl (fun hv => ?_) (fun hv => ?_)
    · have hv' : r.a = false := by simpa using hv
      repeat (first | refine xA ?_ | refine xB ?_ | refine xC ?_ | refine xE ?_ | refine xD ?_ | refine xK ?_ | refine xS ?_ | refine xM ?_ | refine xT ?_ | refine xF ?_ | ((first | refine xR ?_ | refine xW ?_ | refine vq_id ?_); simp only [go_sem, Nat.reduceAdd, Nat.reduceLeDiff, Nat.reduceSub, Int.reduceToNat, reduceCtorEq, rqR_len, hk3, hwi, hw, Int.toNat_natCast]) | (refine ⟨by first | omega | (intros; simp_all; done) | (intros; simp_all; omega), ?_⟩; try simp only [go_sem, Nat.reduceAdd, Nat.reduceLeDiff, Nat.reduceSub, Int.reduceToNat, reduceCtorEq, rqR_len, hk3, hwi, hw, Int.toNat_natCast]))
      refine AE.forgets [1] rfl ?_
      simp only [go_sem, Nat.reduceAdd, Nat.reduceLeDiff, Nat.reduceSub, Int.reduceToNat, reduceCtorEq]
      refine AE.round (k + 1, i + 1, M.set i r) (hok.keep hml hv') (by show l.length - (k + 1) < l.length - k; omega) (by repeat (first | exact Sub.nil _ | refine Sub.cons rfl ?_)) ?_
      obtain ⟨r2, _, hg2⟩ := rqR_get M i (by omega)
      rw [hg2]
      simp [rqR, rqC]
    · have hv' : r.a = true := by simpa using hv
      repeat (first | refine xA ?_ | refine xB ?_ | refine xC ?_ | refine xE ?_ | refine xD ?_ | refine xK ?_ | refine xS ?_ | refine xM ?_ | refine xT ?_ | refine xF ?_ | ((first | refine xR ?_ | refine xW ?_ | refine vq_id ?_); simp only [go_sem, Nat.reduceAdd, Nat.reduceLeDiff, Nat.reduceSub, Int.reduceToNat, reduceCtorEq, rqR_len, hk3, hwi, hw, Int.toNat_natCast]) | (refine ⟨by first | omega | (intros; simp_all; done) | (intros; simp_all; omega), ?_⟩; try simp only [go_sem, Nat.reduceAdd, Nat.reduceLeDiff, Nat.reduceSub, Int.reduceToNat, reduceCtorEq, rqR_len, hk3, hwi, hw, Int.toNat_natCast]))
      refine AE.forgets [1] rfl ?_
      simp only [go_sem, Nat.reduceAdd, Nat.reduceLeDiff, Nat.reduceSub, Int.reduceToNat, reduceCtorEq]
      exact AE.round (k + 1, i, M) (hok.drop hml hv') (by show l.length - (k + 1) < l.length - k; omega) (by repeat (first | exact Sub.nil _ | refine Sub.cons rfl ?_)) rfl
  · have hke : k = l.length := by simp at hc; omega
    repeat (first | refine xA ?_ | refine xB ?_ | refine xC ?_ | refine xE ?_ | refine xD ?_ | refine xK ?_ | refine xS ?_ | refine xM ?_ | refine xT ?_ | refine xF ?_ | ((first | refine xR ?_ | refine xW ?_ | refine vq_id ?_); simp only [go_sem, Nat.reduceAdd, Nat.reduceLeDiff, Nat.reduceSub, Int.reduceToNat, reduceCtorEq, rqR_len, hk3, Int.toNat_natCast]) | (refine ⟨by first | omega | (intros; simp_all; done) | (intros; simp_all; omega), ?_⟩; try simp only [go_sem, Nat.reduceAdd, Nat.reduceLeDiff, Nat.reduceSub, Int.reduceToNat, reduceCtorEq, rqR_len, hk3, Int.toNat_natCast]))
    refine AQ.clear (zs := [.int .i64 0, .int .i64 0, .string (BA []), .bool false, .bool false, .int .i64 0, .int .i64 0, .string (BA [])]) (by kernel_rfl) rfl rfl Tryz.tk22 Tryz.zr82 rfl rfl ⟨⟨by omega, by rw [rqR_len]; omega⟩, ?_⟩
    have hta : List.take i (rqR M) = rqR (openQ l) := by
      have e := hk4
      rw [hke, List.take_of_length_le (Nat.le_refl _)] at e
      rw [← e]; simp [rqR, List.map_take]
    have hil : i = (openQ l).length := by
      have e := congrArg List.length hk4
      rw [hke, List.take_of_length_le (Nat.le_refl _), List.length_take] at e
      omega
    simp only [go_sem, Nat.reduceAdd, Nat.reduceLeDiff, Nat.reduceSub, Int.reduceToNat, reduceCtorEq, hta]
    rw [List.append_assoc]
    repeat (first | refine xA ?_ | refine xB ?_ | refine xC ?_ | refine xE ?_ | refine xD ?_ | refine xK ?_ | refine xS ?_ | refine xM ?_ | refine xT ?_ | refine xF ?_ | ((first | refine xR ?_ | refine xW ?_ | refine vq_id ?_); simp only [go_sem, Nat.reduceAdd, Nat.reduceLeDiff, Nat.reduceSub, Int.reduceToNat, reduceCtorEq, List.length_append, rqR_len]) | (refine ⟨by first | omega | (intros; simp_all; done) | (intros; simp_all; omega), ?_⟩; try simp only [go_sem, Nat.reduceAdd, Nat.reduceLeDiff, Nat.reduceSub, Int.reduceToNat, reduceCtorEq, List.length_append, rqR_len]))
    rw [hil]
    exact AE.ret rfl ⟨rfl, trivial⟩ ⟨_, rfl, rfl⟩
end Go.Proofs.YtlpcdpjkdodmcaaGreatDoor
end

section
namespace Go.Proofs.YtlpcdpjkdodmcaaGreatDoor
open Go Go.AL Go.RowKit
set_option maxRecDepth 10000
set_option maxHeartbeats 4000000
noncomputable def pendV (p : Int) (nm : List UInt8) (w n : Int) (l : List Rq) : AV := if srvC p nm w n l = false then .tup [.im (.sl 8 (rqR [])), Iv 13] else .tup [.im (.sl 8 (rqR (openQ l))), Iv 0]
theorem pend_spec (p : Int) (nm : List UInt8) (w n : Int) (l : List Rq) (hl : l.length ≤ 1000000) (hnm : nm.length ≤ 1000000000000) : PFn Tryz.prog 19 [.agg [Iv p, Sv nm, Iv w, Iv n, .im (.sl 8 (rqR l))]] (pendV p nm w n l) := by
  refine ACall.walk [0, 1, 2, 3, 6] [] Tryz.func19 rfl Tryz.ntmps19 (by kernel_rfl) (by rfl) rfl fun W own I0 φ0 lay => ?_
  repeat (first | refine xA ?_ | refine xB ?_ | refine xC ?_ | refine xE ?_ | refine xD ?_ | refine xK ?_ | refine xS ?_ | refine xM ?_ | refine xT ?_ | refine xF ?_ | ((first | refine xR ?_ | refine xW ?_ | refine vq_id ?_); simp only [go_sem, Nat.reduceAdd, Nat.reduceLeDiff, Nat.reduceSub, Int.reduceToNat, reduceCtorEq]) | (refine ⟨by first | omega | (intros; simp_all; done) | (intros; simp_all; omega), ?_⟩; try simp only [go_sem, Nat.reduceAdd, Nat.reduceLeDiff, Nat.reduceSub, Int.reduceToNat, reduceCtorEq]))
  refine AQ.fn (by kernel_rfl) rfl rfl rfl (chk_spec p nm w n l (by omega) hnm) rfl ?_
  repeat (first | refine xA ?_ | refine xB ?_ | refine xC ?_ | refine xE ?_ | refine xD ?_ | refine xK ?_ | refine xS ?_ | refine xM ?_ | refine xT ?_ | refine xF ?_ | ((first | refine xR ?_ | refine xW ?_ | refine vq_id ?_); simp only [go_sem, Nat.reduceAdd, Nat.reduceLeDiff, Nat.reduceSub, Int.reduceToNat, reduceCtorEq]) | (refine ⟨by first | omega | (intros; simp_all; done) | (intros; simp_all; omega), ?_⟩; try simp only [go_sem, Nat.reduceAdd, Nat.reduceLeDiff, Nat.reduceSub, Int.reduceToNat, reduceCtorEq]))
  unfold srvE pendV
  refine AP.cond rfl rfl (fun h1 => ?_) (fun h1 => ?_)
  · have h1' : srvC p nm w n l = false := by
      rcases Bool.eq_false_or_eq_true (srvC p nm w n l) with h | h
      · rw [h] at h1; exact absurd h1 (by decide)
      · exact h
    rw [if_pos h1']
    repeat (first | refine xA ?_ | refine xB ?_ | refine xC ?_ | refine xE ?_ | refine xD ?_ | refine xK ?_ | refine xS ?_ | refine xM ?_ | refine xT ?_ | refine xF ?_ | ((first | refine xR ?_ | refine xW ?_ | refine vq_id ?_); simp only [go_sem, Nat.reduceAdd, Nat.reduceLeDiff, Nat.reduceSub, Int.reduceToNat, reduceCtorEq]) | (refine ⟨by first | omega | (intros; simp_all; done) | (intros; simp_all; omega), ?_⟩; try simp only [go_sem, Nat.reduceAdd, Nat.reduceLeDiff, Nat.reduceSub, Int.reduceToNat, reduceCtorEq]))
    refine AE.nilsl 2 8 rfl ?_
    exact AE.ret0 rfl ⟨rfl, rfl, trivial⟩ rfl ⟨rfl, rfl⟩
  have h1' : srvC p nm w n l = true := by
    rcases Bool.eq_false_or_eq_true (srvC p nm w n l) with h | h
    · exact h
    · rw [h] at h1; exact absurd h1 (by decide)
  rw [if_neg (by rw [h1']; decide)]
  repeat (first | refine xA ?_ | refine xB ?_ | refine xC ?_ | refine xE ?_ | refine xD ?_ | refine xK ?_ | refine xS ?_ | refine xM ?_ | refine xT ?_ | refine xF ?_ | ((first | refine xR ?_ | refine xW ?_ | refine vq_id ?_); simp only [go_sem, Nat.reduceAdd, Nat.reduceLeDiff, Nat.reduceSub, Int.reduceToNat, reduceCtorEq]) | (refine ⟨by first | omega | (intros; simp_all; done) | (intros; simp_all; omega), ?_⟩; try simp only [go_sem, Nat.reduceAdd, Nat.reduceLeDiff, Nat.reduceSub, Int.reduceToNat, reduceCtorEq]))
  refine AQ.callv (by kernel_rfl) rfl rfl rfl (cloneQ_spec l (by omega)) fun r' H' ⟨e1, e2⟩ => ?_
  subst e1
  subst e2
  simp only [go_sem, Nat.reduceAdd, Nat.reduceLeDiff, Nat.reduceSub, Int.reduceToNat, reduceCtorEq]
  refine AQ.callH [(0, 0)] (by kernel_rfl) rfl rfl rfl rfl rfl rfl (by exact ⟨rfl, trivial⟩) rfl (delete_spec l hl) fun z H1 ⟨tl, h1, h2⟩ => ?_
  subst h1
  subst h2
  refine ⟨rfl, ?_⟩
  simp only [go_sem, Nat.reduceAdd, Nat.reduceLeDiff, Nat.reduceSub, Int.reduceToNat, reduceCtorEq]
  repeat (first | refine xA ?_ | refine xB ?_ | refine xC ?_ | refine xE ?_ | refine xD ?_ | refine xK ?_ | refine xS ?_ | refine xM ?_ | refine xT ?_ | refine xF ?_ | ((first | refine xR ?_ | refine xW ?_ | refine vq_id ?_); simp only [go_sem, Nat.reduceAdd, Nat.reduceLeDiff, Nat.reduceSub, Int.reduceToNat, reduceCtorEq]) | (refine ⟨by first | omega | (intros; simp_all; done) | (intros; simp_all; omega), ?_⟩; try simp only [go_sem, Nat.reduceAdd, Nat.reduceLeDiff, Nat.reduceSub, Int.reduceToNat, reduceCtorEq]))
  have hta : (rqR (openQ l) ++ tl).take (openQ l).length = rqR (openQ l) := by rw [← rqR_len (openQ l)]; simp
  refine AE.freeze 0 (rows := rqR (openQ l) ++ tl) rfl (by simp [go_sem, rqR_len]) (by simp [go_sem, rqR_len]) ?_
  simp only [go_sem, Nat.reduceAdd, Nat.reduceLeDiff, Nat.reduceSub, Int.reduceToNat, reduceCtorEq, List.drop_zero, hta]
  exact AE.ret0 rfl ⟨rfl, rfl, trivial⟩ rfl ⟨rfl, rfl⟩
end Go.Proofs.YtlpcdpjkdodmcaaGreatDoor
end

section
namespace Go.Proofs.YtlpcdpjkdodmcaaGreatDoor
open Go Go.AL Go.RowKit
set_option maxRecDepth 10000
set_option maxHeartbeats 4000000
def chainT (p w n : Int) (l : List Rq) (K N : Int) (t : List UInt8) : Int :=
  if decide (2 ≤ p) = true then 14 else if (p == 0 && K != 1 || p == 1 && (decide (K < 2) || decide (6 < K))) = true then 411 else if msgE K N t ≠ 0 then msgE K N t
  else if (N != n) = true then 412 else if ((l.length : Int) == w) = true then 413 else if (n == 2147483647) = true then 8 else 0
noncomputable def takeE (p : Int) (nm : List UInt8) (w n : Int) (l : List Rq) (K N : Int) (t : List UInt8) : Int := if srvC p nm w n l = false then 13 else chainT p w n l K N t
def retT (e : Int) (v : AV) : AV := if e ≠ 0 then failS e else v
def cancelled (l : List Rq) (i : Int) : List Rq := l.set i.toNat ⟨(rAt l i).n, (rAt l i).k, (rAt l i).b, true, true, 9, (rAt l i).n, [48, 32, 48]⟩
def freeB (c : Int) (r : Rq) : Bool := r.n == c && workB r.k && !r.a
def okT (p : Int) (nm : List UInt8) (w n : Int) (l : List Rq) : AV := okS (rdy p l).1 nm w n (rdy p l).2.1 (rdy p l).2.2 0
def taken (p : Int) (nm : List UInt8) (w n : Int) (l : List Rq) (K N : Int) (t : List UInt8) : AV :=
  if K = 1 then okS 1 t w (n + 1) l [(7, N, Lib.itoa w)] 0
  else if K = 5 then
    if idxQ (freeB (atoiV t).1) (l ++ [⟨N, K, t, false, false, 0, 0, []⟩]) < 0 then okT p nm w (n + 1) (l ++ [⟨N, K, t, false, true, 8, N, [48]⟩])
    else okT p nm w (n + 1) (cancelled (l ++ [⟨N, K, t, false, true, 8, N, [49]⟩]) (idxQ (freeB (atoiV t).1) (l ++ [⟨N, K, t, false, false, 0, 0, []⟩])))
  else if K = 6 then okT 2 nm w (n + 1) (l ++ [⟨N, K, t, false, true, 8, N, []⟩])
  else okT p nm w (n + 1) (l ++ [⟨N, K, t, false, false, 0, 0, []⟩])
theorem free_spec (c : Int) (r : Rq) : PFn Tryz.prog 40 [.agg [Iv r.n, Iv r.k, Sv r.b, Bv r.c, Bv r.a, Iv r.ak, Iv r.an, Sv r.ab], .im (.pt [Ii c])] (Bv (freeB c r)) := by
  have hw := work_spec r
  obtain ⟨v, hv⟩ : ∃ v, (r.n == c) = v := ⟨_, rfl⟩
  unfold freeB
  rw [hv]
  cases v with
  | false =>
    refine ACall.walk [0, 1, 2, 3] [] Tryz.func40 rfl Tryz.ntmps40 (by kernel_rfl) (by rfl) rfl fun W own I0 φ0 lay => ?_
    repeat (first | refine xA ?_ | refine xB ?_ | refine xC ?_ | refine xE ?_ | refine xD ?_ | refine xK ?_ | refine xS ?_ | refine xM ?_ | refine xT ?_ | refine xF ?_ | ((first | refine xR ?_ | refine xW ?_ | refine vq_id ?_); simp only [go_sem, Nat.reduceAdd, Nat.reduceLeDiff, Nat.reduceSub, Int.reduceToNat, reduceCtorEq, hv]) | (refine ⟨by first | omega | (intros; simp_all; done) | (intros; simp_all; omega), ?_⟩; try simp only [go_sem, Nat.reduceAdd, Nat.reduceLeDiff, Nat.reduceSub, Int.reduceToNat, reduceCtorEq, hv]))
    exact AE.ret0 rfl ⟨rfl, trivial⟩ rfl ⟨rfl, rfl⟩
  | true =>
    refine ACall.walk [0, 1, 2, 3] [] Tryz.func40 rfl Tryz.ntmps40 (by kernel_rfl) (by rfl) rfl fun W own I0 φ0 lay => ?_
    repeat (first | refine xA ?_ | refine xB ?_ | refine xC ?_ | refine xE ?_ | refine xD ?_ | refine xK ?_ | refine xS ?_ | refine xM ?_ | refine xT ?_ | refine xF ?_ | ((first | refine xR ?_ | refine xW ?_ | refine vq_id ?_); simp only [go_sem, Nat.reduceAdd, Nat.reduceLeDiff, Nat.reduceSub, Int.reduceToNat, reduceCtorEq, hv]) | (refine ⟨by first | omega | (intros; simp_all; done) | (intros; simp_all; omega), ?_⟩; try simp only [go_sem, Nat.reduceAdd, Nat.reduceLeDiff, Nat.reduceSub, Int.reduceToNat, reduceCtorEq, hv]))
    refine AQ.guard_yes (by simp only [go_sem]) ?_
    refine AQ.fn_g (by kernel_rfl) rfl rfl (fun h => by first | (simp [gs, AV.g]; done) | (simp [gs, AV.g, constAV]; done) | (simp [gs, AV.g, constAV, bw] at h ⊢; done) | (simp [gs, AV.g, constAV, bw] at h ⊢; exact h) | (simp [gs, AV.g, constAV, bw] at h ⊢; simp [h]; done) | (simp [bw] at h; done) | (simp [gs, AV.g, bw] at h ⊢; simp [h]; done) | (simp [gs, AV.g, bw] at h ⊢; exact h.1) | (simp [gs, AV.g]; rfl) | (simp [gs, AV.g, bw] at h ⊢; rfl) | (simp [gs, AV.g, bw] at h ⊢; simp [h]; rfl) | (simp [gs, AV.g, bw] at h ⊢; simp_all)) rfl (fun _ => hw) rfl ?_
    repeat (first | refine xA ?_ | refine xB ?_ | refine xC ?_ | refine xE ?_ | refine xD ?_ | refine xK ?_ | refine xS ?_ | refine xM ?_ | refine xT ?_ | refine xF ?_ | ((first | refine xR ?_ | refine xW ?_ | refine vq_id ?_); simp only [go_sem, Nat.reduceAdd, Nat.reduceLeDiff, Nat.reduceSub, Int.reduceToNat, reduceCtorEq, hv]) | (refine ⟨by first | omega | (intros; simp_all; done) | (intros; simp_all; omega), ?_⟩; try simp only [go_sem, Nat.reduceAdd, Nat.reduceLeDiff, Nat.reduceSub, Int.reduceToNat, reduceCtorEq, hv]))
    exact AE.ret0 rfl ⟨rfl, trivial⟩ rfl ⟨rfl, rfl⟩
theorem idxQ_some {f : Rq → Bool} {l : List Rq} {j : Nat} (h : idxQ f l = j) : ∃ r, l[j]? = some r ∧ f r = true := by
  unfold idxQ at h
  split at h
  · rename_i i hi
    have e : i = j := by omega
    subst e
    obtain ⟨h1, h2, _⟩ := List.findIdx?_eq_some_iff_getElem.1 hi
    exact ⟨l[i], List.getElem?_eq_getElem h1, h2⟩
  · omega
theorem rows_can {l : List Rq} {j : Nat} {r : Rq} (hm : l[j]? = some r) (N : Int) :
    (((rqR l).set j (List.take 3 ((rqR l).getD j []) ++ [IV.v (Value.bool true)] ++ List.drop 4 ((rqR l).getD j []))).set j (List.take 4 (((rqR l).set j (List.take 3 ((rqR l).getD j []) ++ [IV.v (Value.bool true)] ++ List.drop 4 ((rqR l).getD j []))).getD j []) ++ [IV.v (Value.bool true)] ++ List.drop 5 (((rqR l).set j (List.take 3 ((rqR l).getD j []) ++ [IV.v (Value.bool true)] ++ List.drop 4 ((rqR l).getD j []))).getD j []))).set j (List.take 5 ((((rqR l).set j (List.take 3 ((rqR l).getD j []) ++ [IV.v (Value.bool true)] ++ List.drop 4 ((rqR l).getD j []))).set j (List.take 4 (((rqR l).set j (List.take 3 ((rqR l).getD j []) ++ [IV.v (Value.bool true)] ++ List.drop 4 ((rqR l).getD j []))).getD j []) ++ [IV.v (Value.bool true)] ++ List.drop 5 (((rqR l).set j (List.take 3 ((rqR l).getD j []) ++ [IV.v (Value.bool true)] ++ List.drop 4 ((rqR l).getD j []))).getD j []))).getD j []) ++ [IV.v (Value.int IntKind.i64 9), IV.v (Value.int IntKind.i64 N), IV.v (Value.string (BA [48, 32, 48]))] ++ List.drop 8 ((((rqR l).set j (List.take 3 ((rqR l).getD j []) ++ [IV.v (Value.bool true)] ++ List.drop 4 ((rqR l).getD j []))).set j (List.take 4 (((rqR l).set j (List.take 3 ((rqR l).getD j []) ++ [IV.v (Value.bool true)] ++ List.drop 4 ((rqR l).getD j []))).getD j []) ++ [IV.v (Value.bool true)] ++ List.drop 5 (((rqR l).set j (List.take 3 ((rqR l).getD j []) ++ [IV.v (Value.bool true)] ++ List.drop 4 ((rqR l).getD j []))).getD j []))).getD j []))
      = rqR (l.set j ⟨r.n, r.k, r.b, true, true, 9, N, [48, 32, 48]⟩) := by
  have hj := (List.getElem?_eq_some_iff.1 hm).1
  obtain ⟨r', hm', hg⟩ := rqR_get l j hj
  rw [hm] at hm'
  cases hm'
  have e : (rqR l).set j (List.take 3 ((rqR l).getD j []) ++ [IV.v (Value.bool true)] ++ List.drop 4 ((rqR l).getD j [])) = rqR (l.set j ⟨r.n, r.k, r.b, true, r.a, r.ak, r.an, r.ab⟩) := by
    rw [hg]; simp only [rqR, List.map_set]; rfl
  have hm2 : (l.set j ⟨r.n, r.k, r.b, true, r.a, r.ak, r.an, r.ab⟩)[j]? = some ⟨r.n, r.k, r.b, true, r.a, r.ak, r.an, r.ab⟩ := List.getElem?_set_self hj
  rw [e, show ([IV.v (Value.int IntKind.i64 9), IV.v (Value.int IntKind.i64 N), IV.v (Value.string (BA [48, 32, 48]))] : List IV) = [Ii 9, Ii N, Si [48, 32, 48]] from rfl, rows_ans hm2 9 N [48, 32, 48], List.set_set]
theorem rows_last (l : List Rq) (N K : Int) (t : List UInt8) (K' N' : Int) (t' : List UInt8) :
    ((rqR (l ++ [⟨N, K, t, false, false, 0, 0, []⟩])).set l.length (List.take 4 ((rqR (l ++ [⟨N, K, t, false, false, 0, 0, []⟩])).getD l.length []) ++ [IV.v (Value.bool true)] ++ List.drop 5 ((rqR (l ++ [⟨N, K, t, false, false, 0, 0, []⟩])).getD l.length []))).set l.length (List.take 5 (((rqR (l ++ [⟨N, K, t, false, false, 0, 0, []⟩])).set l.length (List.take 4 ((rqR (l ++ [⟨N, K, t, false, false, 0, 0, []⟩])).getD l.length []) ++ [IV.v (Value.bool true)] ++ List.drop 5 ((rqR (l ++ [⟨N, K, t, false, false, 0, 0, []⟩])).getD l.length []))).getD l.length []) ++ [Ii K', Ii N', Si t'] ++ List.drop 8 (((rqR (l ++ [⟨N, K, t, false, false, 0, 0, []⟩])).set l.length (List.take 4 ((rqR (l ++ [⟨N, K, t, false, false, 0, 0, []⟩])).getD l.length []) ++ [IV.v (Value.bool true)] ++ List.drop 5 ((rqR (l ++ [⟨N, K, t, false, false, 0, 0, []⟩])).getD l.length []))).getD l.length []))
      = rqR (l ++ [⟨N, K, t, false, true, K', N', t'⟩]) := by
  rw [rows_ans (r := ⟨N, K, t, false, false, 0, 0, []⟩) (by simp) K' N' t']
  simp
theorem take_spec (p : Int) (nm : List UInt8) (w n : Int) (l : List Rq) (hl : l.length ≤ 100000) (hnm : nm.length ≤ 1000000000000) (K N : Int) (t : List UInt8) :
    PFn Tryz.prog 13 [.agg [Iv p, Sv nm, Iv w, Iv n, .im (.sl 8 (rqR l))], .agg [Iv K, Iv N, Sv t]] (retT (takeE p nm w n l K N t) (taken p nm w n l K N t)) := by
  refine ACall.walk [0, 1, 2, 3, 4, 5, 6, 7, 8, 9, 10, 11, 13, 14, 23, 32, 64, 71, 82, 94, 109, 143, 144, 158, 186] [2, 4, 11] Tryz.func13 rfl Tryz.ntmps13 (by kernel_rfl) (by rfl) rfl fun W own I0 φ0 lay => ?_
  repeat (first | refine xA ?_ | refine xB ?_ | refine xC ?_ | refine xE ?_ | refine xD ?_ | refine xK ?_ | refine xS ?_ | refine xM ?_ | refine xT ?_ | refine xF ?_ | ((first | refine xR ?_ | refine xW ?_ | refine vq_id ?_); simp only [go_sem, Nat.reduceAdd, Nat.reduceLeDiff, Nat.reduceSub, Int.reduceToNat, reduceCtorEq]) | (refine ⟨by first | omega | (intros; simp_all; done) | (intros; simp_all; omega), ?_⟩; try simp only [go_sem, Nat.reduceAdd, Nat.reduceLeDiff, Nat.reduceSub, Int.reduceToNat, reduceCtorEq]))
  refine AQ.fn (by kernel_rfl) rfl rfl rfl (chk_spec p nm w n l (by omega) hnm) rfl ?_
  repeat (first | refine xA ?_ | refine xB ?_ | refine xC ?_ | refine xE ?_ | refine xD ?_ | refine xK ?_ | refine xS ?_ | refine xM ?_ | refine xT ?_ | refine xF ?_ | ((first | refine xR ?_ | refine xW ?_ | refine vq_id ?_); simp only [go_sem, Nat.reduceAdd, Nat.reduceLeDiff, Nat.reduceSub, Int.reduceToNat, reduceCtorEq]) | (refine ⟨by first | omega | (intros; simp_all; done) | (intros; simp_all; omega), ?_⟩; try simp only [go_sem, Nat.reduceAdd, Nat.reduceLeDiff, Nat.reduceSub, Int.reduceToNat, reduceCtorEq]))
  unfold srvE takeE
  refine AP.cond rfl rfl (fun h1 => ?_) (fun h1 => ?_)
  · have h1' : srvC p nm w n l = false := by
      rcases Bool.eq_false_or_eq_true (srvC p nm w n l) with h | h
      · rw [h] at h1; exact absurd h1 (by decide)
      · exact h
    rw [if_pos h1', retT, if_pos (by decide)]
    repeat (first | refine xA ?_ | refine xB ?_ | refine xC ?_ | refine xE ?_ | refine xD ?_ | refine xK ?_ | refine xS ?_ | refine xM ?_ | refine xT ?_ | refine xF ?_ | ((first | refine xR ?_ | refine xW ?_ | refine vq_id ?_); simp only [go_sem, Nat.reduceAdd, Nat.reduceLeDiff, Nat.reduceSub, Int.reduceToNat, reduceCtorEq]) | (refine ⟨by first | omega | (intros; simp_all; done) | (intros; simp_all; omega), ?_⟩; try simp only [go_sem, Nat.reduceAdd, Nat.reduceLeDiff, Nat.reduceSub, Int.reduceToNat, reduceCtorEq]))
    refine AQ.fnL ([Iv 13]) (by kernel_rfl) rfl rfl rfl (by ((try simp only [List.nil_append, List.append_nil, List.cons_append, List.map_cons, List.map_nil, AV.st, constAV]); repeat (first | with_reducible exact LentC.nil | with_reducible exact LentAs.nil | with_reducible refine LentC.cons ?_ ?_ | with_reducible refine LentAs.cons ?_ ?_ | with_reducible exact Lent.im _ | with_reducible exact LentA.im _ | with_reducible refine LentA.of ?_ | with_reducible refine LentA.agg ?_ | ((with_reducible apply Lent.osw); rfl; simp only [blkR_len, wrR_len, byteR_len, List.length_append, List.length_cons, List.length_nil]) | ((with_reducible apply Lent.ob0); rfl)))) (tfail_told 13) rfl (fun _ => rfl) ?_
    repeat (first | refine xA ?_ | refine xB ?_ | refine xC ?_ | refine xE ?_ | refine xD ?_ | refine xK ?_ | refine xS ?_ | refine xM ?_ | refine xT ?_ | refine xF ?_ | ((first | refine xR ?_ | refine xW ?_ | refine vq_id ?_); simp only [go_sem, Nat.reduceAdd, Nat.reduceLeDiff, Nat.reduceSub, Int.reduceToNat, reduceCtorEq]) | (refine ⟨by first | omega | (intros; simp_all; done) | (intros; simp_all; omega), ?_⟩; try simp only [go_sem, Nat.reduceAdd, Nat.reduceLeDiff, Nat.reduceSub, Int.reduceToNat, reduceCtorEq]))
    exact AE.retD [0, 1] rfl ⟨⟨rfl, Nat.le_of_ble_eq_true (by kernel_rfl)⟩, rfl, rfl, trivial⟩ rfl ⟨rfl, rfl⟩
  have h1' : srvC p nm w n l = true := by
    rcases Bool.eq_false_or_eq_true (srvC p nm w n l) with h | h
    · exact h
    · rw [h] at h1; exact absurd h1 (by decide)
  rw [if_neg (by rw [h1']; decide), chainT]
  repeat (first | refine xA ?_ | refine xB ?_ | refine xC ?_ | refine xE ?_ | refine xD ?_ | refine xK ?_ | refine xS ?_ | refine xM ?_ | refine xT ?_ | refine xF ?_ | ((first | refine xR ?_ | refine xW ?_ | refine vq_id ?_); simp only [go_sem, Nat.reduceAdd, Nat.reduceLeDiff, Nat.reduceSub, Int.reduceToNat, reduceCtorEq]) | (refine ⟨by first | omega | (intros; simp_all; done) | (intros; simp_all; omega), ?_⟩; try simp only [go_sem, Nat.reduceAdd, Nat.reduceLeDiff, Nat.reduceSub, Int.reduceToNat, reduceCtorEq]))
  refine AP.cond rfl rfl (fun h2 => ?_) (fun h2 => ?_)
  · rw [if_pos h2, retT, if_pos (by decide)]
    repeat (first | refine xA ?_ | refine xB ?_ | refine xC ?_ | refine xE ?_ | refine xD ?_ | refine xK ?_ | refine xS ?_ | refine xM ?_ | refine xT ?_ | refine xF ?_ | ((first | refine xR ?_ | refine xW ?_ | refine vq_id ?_); simp only [go_sem, Nat.reduceAdd, Nat.reduceLeDiff, Nat.reduceSub, Int.reduceToNat, reduceCtorEq]) | (refine ⟨by first | omega | (intros; simp_all; done) | (intros; simp_all; omega), ?_⟩; try simp only [go_sem, Nat.reduceAdd, Nat.reduceLeDiff, Nat.reduceSub, Int.reduceToNat, reduceCtorEq]))
    refine AQ.fnL ([Iv 14]) (by kernel_rfl) rfl rfl rfl (by ((try simp only [List.nil_append, List.append_nil, List.cons_append, List.map_cons, List.map_nil, AV.st, constAV]); repeat (first | with_reducible exact LentC.nil | with_reducible exact LentAs.nil | with_reducible refine LentC.cons ?_ ?_ | with_reducible refine LentAs.cons ?_ ?_ | with_reducible exact Lent.im _ | with_reducible exact LentA.im _ | with_reducible refine LentA.of ?_ | with_reducible refine LentA.agg ?_ | ((with_reducible apply Lent.osw); rfl; simp only [blkR_len, wrR_len, byteR_len, List.length_append, List.length_cons, List.length_nil]) | ((with_reducible apply Lent.ob0); rfl)))) (tfail_told 14) rfl (fun _ => rfl) ?_
    repeat (first | refine xA ?_ | refine xB ?_ | refine xC ?_ | refine xE ?_ | refine xD ?_ | refine xK ?_ | refine xS ?_ | refine xM ?_ | refine xT ?_ | refine xF ?_ | ((first | refine xR ?_ | refine xW ?_ | refine vq_id ?_); simp only [go_sem, Nat.reduceAdd, Nat.reduceLeDiff, Nat.reduceSub, Int.reduceToNat, reduceCtorEq]) | (refine ⟨by first | omega | (intros; simp_all; done) | (intros; simp_all; omega), ?_⟩; try simp only [go_sem, Nat.reduceAdd, Nat.reduceLeDiff, Nat.reduceSub, Int.reduceToNat, reduceCtorEq]))
    exact AE.retD [0, 1] rfl ⟨⟨rfl, Nat.le_of_ble_eq_true (by kernel_rfl)⟩, rfl, rfl, trivial⟩ rfl ⟨rfl, rfl⟩
  rw [if_neg (by rw [h2]; decide)]
  repeat (first | refine xA ?_ | refine xB ?_ | refine xC ?_ | refine xE ?_ | refine xD ?_ | refine xK ?_ | refine xS ?_ | refine xM ?_ | refine xT ?_ | refine xF ?_ | ((first | refine xR ?_ | refine xW ?_ | refine vq_id ?_); simp only [go_sem, Nat.reduceAdd, Nat.reduceLeDiff, Nat.reduceSub, Int.reduceToNat, reduceCtorEq, rqR_len]) | (refine ⟨by first | omega | (intros; simp_all; done) | (intros; simp_all; omega), ?_⟩; try simp only [go_sem, Nat.reduceAdd, Nat.reduceLeDiff, Nat.reduceSub, Int.reduceToNat, reduceCtorEq, rqR_len]))
  refine AP.cond rfl rfl (fun h3 => ?_) (fun h3 => ?_)
  · rw [if_pos h3, retT, if_pos (by decide)]
    repeat (first | refine xA ?_ | refine xB ?_ | refine xC ?_ | refine xE ?_ | refine xD ?_ | refine xK ?_ | refine xS ?_ | refine xM ?_ | refine xT ?_ | refine xF ?_ | ((first | refine xR ?_ | refine xW ?_ | refine vq_id ?_); simp only [go_sem, Nat.reduceAdd, Nat.reduceLeDiff, Nat.reduceSub, Int.reduceToNat, reduceCtorEq]) | (refine ⟨by first | omega | (intros; simp_all; done) | (intros; simp_all; omega), ?_⟩; try simp only [go_sem, Nat.reduceAdd, Nat.reduceLeDiff, Nat.reduceSub, Int.reduceToNat, reduceCtorEq]))
    refine AQ.fnL ([Iv 411]) (by kernel_rfl) rfl rfl rfl (by ((try simp only [List.nil_append, List.append_nil, List.cons_append, List.map_cons, List.map_nil, AV.st, constAV]); repeat (first | with_reducible exact LentC.nil | with_reducible exact LentAs.nil | with_reducible refine LentC.cons ?_ ?_ | with_reducible refine LentAs.cons ?_ ?_ | with_reducible exact Lent.im _ | with_reducible exact LentA.im _ | with_reducible refine LentA.of ?_ | with_reducible refine LentA.agg ?_ | ((with_reducible apply Lent.osw); rfl; simp only [blkR_len, wrR_len, byteR_len, List.length_append, List.length_cons, List.length_nil]) | ((with_reducible apply Lent.ob0); rfl)))) (tfail_told 411) rfl (fun _ => rfl) ?_
    repeat (first | refine xA ?_ | refine xB ?_ | refine xC ?_ | refine xE ?_ | refine xD ?_ | refine xK ?_ | refine xS ?_ | refine xM ?_ | refine xT ?_ | refine xF ?_ | ((first | refine xR ?_ | refine xW ?_ | refine vq_id ?_); simp only [go_sem, Nat.reduceAdd, Nat.reduceLeDiff, Nat.reduceSub, Int.reduceToNat, reduceCtorEq]) | (refine ⟨by first | omega | (intros; simp_all; done) | (intros; simp_all; omega), ?_⟩; try simp only [go_sem, Nat.reduceAdd, Nat.reduceLeDiff, Nat.reduceSub, Int.reduceToNat, reduceCtorEq]))
    exact AE.retD [0, 1] rfl ⟨⟨rfl, Nat.le_of_ble_eq_true (by kernel_rfl)⟩, rfl, rfl, trivial⟩ rfl ⟨rfl, rfl⟩
  rw [if_neg (by rw [h3]; decide)]
  repeat (first | refine xA ?_ | refine xB ?_ | refine xC ?_ | refine xE ?_ | refine xD ?_ | refine xK ?_ | refine xS ?_ | refine xM ?_ | refine xT ?_ | refine xF ?_ | ((first | refine xR ?_ | refine xW ?_ | refine vq_id ?_); simp only [go_sem, Nat.reduceAdd, Nat.reduceLeDiff, Nat.reduceSub, Int.reduceToNat, reduceCtorEq, rqR_len]) | (refine ⟨by first | omega | (intros; simp_all; done) | (intros; simp_all; omega), ?_⟩; try simp only [go_sem, Nat.reduceAdd, Nat.reduceLeDiff, Nat.reduceSub, Int.reduceToNat, reduceCtorEq, rqR_len]))
  refine AQ.fn (by kernel_rfl) rfl rfl rfl (error_spec K N t) rfl ?_
  repeat (first | refine xA ?_ | refine xB ?_ | refine xC ?_ | refine xE ?_ | refine xD ?_ | refine xK ?_ | refine xS ?_ | refine xM ?_ | refine xT ?_ | refine xF ?_ | ((first | refine xR ?_ | refine xW ?_ | refine vq_id ?_); simp only [go_sem, Nat.reduceAdd, Nat.reduceLeDiff, Nat.reduceSub, Int.reduceToNat, reduceCtorEq]) | (refine ⟨by first | omega | (intros; simp_all; done) | (intros; simp_all; omega), ?_⟩; try simp only [go_sem, Nat.reduceAdd, Nat.reduceLeDiff, Nat.reduceSub, Int.reduceToNat, reduceCtorEq]))
  refine AP.cond rfl rfl (fun h4 => ?_) (fun h4 => ?_)
  · have h4' : msgE K N t ≠ 0 := by simpa using h4
    rw [if_pos h4', retT, if_pos h4']
    repeat (first | refine xA ?_ | refine xB ?_ | refine xC ?_ | refine xE ?_ | refine xD ?_ | refine xK ?_ | refine xS ?_ | refine xM ?_ | refine xT ?_ | refine xF ?_ | ((first | refine xR ?_ | refine xW ?_ | refine vq_id ?_); simp only [go_sem, Nat.reduceAdd, Nat.reduceLeDiff, Nat.reduceSub, Int.reduceToNat, reduceCtorEq]) | (refine ⟨by first | omega | (intros; simp_all; done) | (intros; simp_all; omega), ?_⟩; try simp only [go_sem, Nat.reduceAdd, Nat.reduceLeDiff, Nat.reduceSub, Int.reduceToNat, reduceCtorEq]))
    refine AQ.fnL ([Iv (msgE K N t)]) (by kernel_rfl) rfl rfl rfl (by ((try simp only [List.nil_append, List.append_nil, List.cons_append, List.map_cons, List.map_nil, AV.st, constAV]); repeat (first | with_reducible exact LentC.nil | with_reducible exact LentAs.nil | with_reducible refine LentC.cons ?_ ?_ | with_reducible refine LentAs.cons ?_ ?_ | with_reducible exact Lent.im _ | with_reducible exact LentA.im _ | with_reducible refine LentA.of ?_ | with_reducible refine LentA.agg ?_ | ((with_reducible apply Lent.osw); rfl; simp only [blkR_len, wrR_len, byteR_len, List.length_append, List.length_cons, List.length_nil]) | ((with_reducible apply Lent.ob0); rfl)))) (tfail_told (msgE K N t)) rfl (fun _ => rfl) ?_
    repeat (first | refine xA ?_ | refine xB ?_ | refine xC ?_ | refine xE ?_ | refine xD ?_ | refine xK ?_ | refine xS ?_ | refine xM ?_ | refine xT ?_ | refine xF ?_ | ((first | refine xR ?_ | refine xW ?_ | refine vq_id ?_); simp only [go_sem, Nat.reduceAdd, Nat.reduceLeDiff, Nat.reduceSub, Int.reduceToNat, reduceCtorEq]) | (refine ⟨by first | omega | (intros; simp_all; done) | (intros; simp_all; omega), ?_⟩; try simp only [go_sem, Nat.reduceAdd, Nat.reduceLeDiff, Nat.reduceSub, Int.reduceToNat, reduceCtorEq]))
    exact AE.retD [0, 1] rfl ⟨⟨rfl, Nat.le_of_ble_eq_true (by kernel_rfl)⟩, rfl, rfl, trivial⟩ rfl ⟨rfl, rfl⟩
  have h4' : msgE K N t = 0 := by simpa using h4
  rw [if_neg (by rw [h4']; decide)]
  repeat (first | refine xA ?_ | refine xB ?_ | refine xC ?_ | refine xE ?_ | refine xD ?_ | refine xK ?_ | refine xS ?_ | refine xM ?_ | refine xT ?_ | refine xF ?_ | ((first | refine xR ?_ | refine xW ?_ | refine vq_id ?_); simp only [go_sem, Nat.reduceAdd, Nat.reduceLeDiff, Nat.reduceSub, Int.reduceToNat, reduceCtorEq]) | (refine ⟨by first | omega | (intros; simp_all; done) | (intros; simp_all; omega), ?_⟩; try simp only [go_sem, Nat.reduceAdd, Nat.reduceLeDiff, Nat.reduceSub, Int.reduceToNat, reduceCtorEq]))
  refine AP.cond rfl rfl (fun h5 => ?_) (fun h5 => ?_)
  · rw [if_pos h5, retT, if_pos (by decide)]
    repeat (first | refine xA ?_ | refine xB ?_ | refine xC ?_ | refine xE ?_ | refine xD ?_ | refine xK ?_ | refine xS ?_ | refine xM ?_ | refine xT ?_ | refine xF ?_ | ((first | refine xR ?_ | refine xW ?_ | refine vq_id ?_); simp only [go_sem, Nat.reduceAdd, Nat.reduceLeDiff, Nat.reduceSub, Int.reduceToNat, reduceCtorEq]) | (refine ⟨by first | omega | (intros; simp_all; done) | (intros; simp_all; omega), ?_⟩; try simp only [go_sem, Nat.reduceAdd, Nat.reduceLeDiff, Nat.reduceSub, Int.reduceToNat, reduceCtorEq]))
    refine AQ.fnL ([Iv 412]) (by kernel_rfl) rfl rfl rfl (by ((try simp only [List.nil_append, List.append_nil, List.cons_append, List.map_cons, List.map_nil, AV.st, constAV]); repeat (first | with_reducible exact LentC.nil | with_reducible exact LentAs.nil | with_reducible refine LentC.cons ?_ ?_ | with_reducible refine LentAs.cons ?_ ?_ | with_reducible exact Lent.im _ | with_reducible exact LentA.im _ | with_reducible refine LentA.of ?_ | with_reducible refine LentA.agg ?_ | ((with_reducible apply Lent.osw); rfl; simp only [blkR_len, wrR_len, byteR_len, List.length_append, List.length_cons, List.length_nil]) | ((with_reducible apply Lent.ob0); rfl)))) (tfail_told 412) rfl (fun _ => rfl) ?_
    repeat (first | refine xA ?_ | refine xB ?_ | refine xC ?_ | refine xE ?_ | refine xD ?_ | refine xK ?_ | refine xS ?_ | refine xM ?_ | refine xT ?_ | refine xF ?_ | ((first | refine xR ?_ | refine xW ?_ | refine vq_id ?_); simp only [go_sem, Nat.reduceAdd, Nat.reduceLeDiff, Nat.reduceSub, Int.reduceToNat, reduceCtorEq]) | (refine ⟨by first | omega | (intros; simp_all; done) | (intros; simp_all; omega), ?_⟩; try simp only [go_sem, Nat.reduceAdd, Nat.reduceLeDiff, Nat.reduceSub, Int.reduceToNat, reduceCtorEq]))
    exact AE.retD [0, 1] rfl ⟨⟨rfl, Nat.le_of_ble_eq_true (by kernel_rfl)⟩, rfl, rfl, trivial⟩ rfl ⟨rfl, rfl⟩
  rw [if_neg (by rw [h5]; decide)]
  repeat (first | refine xA ?_ | refine xB ?_ | refine xC ?_ | refine xE ?_ | refine xD ?_ | refine xK ?_ | refine xS ?_ | refine xM ?_ | refine xT ?_ | refine xF ?_ | ((first | refine xR ?_ | refine xW ?_ | refine vq_id ?_); simp only [go_sem, Nat.reduceAdd, Nat.reduceLeDiff, Nat.reduceSub, Int.reduceToNat, reduceCtorEq, rqR_len]) | (refine ⟨by first | omega | (intros; simp_all; done) | (intros; simp_all; omega), ?_⟩; try simp only [go_sem, Nat.reduceAdd, Nat.reduceLeDiff, Nat.reduceSub, Int.reduceToNat, reduceCtorEq, rqR_len]))
  refine AP.cond rfl rfl (fun h6 => ?_) (fun h6 => ?_)
  · rw [if_pos h6, retT, if_pos (by decide)]
    repeat (first | refine xA ?_ | refine xB ?_ | refine xC ?_ | refine xE ?_ | refine xD ?_ | refine xK ?_ | refine xS ?_ | refine xM ?_ | refine xT ?_ | refine xF ?_ | ((first | refine xR ?_ | refine xW ?_ | refine vq_id ?_); simp only [go_sem, Nat.reduceAdd, Nat.reduceLeDiff, Nat.reduceSub, Int.reduceToNat, reduceCtorEq]) | (refine ⟨by first | omega | (intros; simp_all; done) | (intros; simp_all; omega), ?_⟩; try simp only [go_sem, Nat.reduceAdd, Nat.reduceLeDiff, Nat.reduceSub, Int.reduceToNat, reduceCtorEq]))
    refine AQ.fnL ([Iv 413]) (by kernel_rfl) rfl rfl rfl (by ((try simp only [List.nil_append, List.append_nil, List.cons_append, List.map_cons, List.map_nil, AV.st, constAV]); repeat (first | with_reducible exact LentC.nil | with_reducible exact LentAs.nil | with_reducible refine LentC.cons ?_ ?_ | with_reducible refine LentAs.cons ?_ ?_ | with_reducible exact Lent.im _ | with_reducible exact LentA.im _ | with_reducible refine LentA.of ?_ | with_reducible refine LentA.agg ?_ | ((with_reducible apply Lent.osw); rfl; simp only [blkR_len, wrR_len, byteR_len, List.length_append, List.length_cons, List.length_nil]) | ((with_reducible apply Lent.ob0); rfl)))) (tfail_told 413) rfl (fun _ => rfl) ?_
    repeat (first | refine xA ?_ | refine xB ?_ | refine xC ?_ | refine xE ?_ | refine xD ?_ | refine xK ?_ | refine xS ?_ | refine xM ?_ | refine xT ?_ | refine xF ?_ | ((first | refine xR ?_ | refine xW ?_ | refine vq_id ?_); simp only [go_sem, Nat.reduceAdd, Nat.reduceLeDiff, Nat.reduceSub, Int.reduceToNat, reduceCtorEq]) | (refine ⟨by first | omega | (intros; simp_all; done) | (intros; simp_all; omega), ?_⟩; try simp only [go_sem, Nat.reduceAdd, Nat.reduceLeDiff, Nat.reduceSub, Int.reduceToNat, reduceCtorEq]))
    exact AE.retD [0, 1] rfl ⟨⟨rfl, Nat.le_of_ble_eq_true (by kernel_rfl)⟩, rfl, rfl, trivial⟩ rfl ⟨rfl, rfl⟩
  rw [if_neg (by rw [h6]; decide)]
  repeat (first | refine xA ?_ | refine xB ?_ | refine xC ?_ | refine xE ?_ | refine xD ?_ | refine xK ?_ | refine xS ?_ | refine xM ?_ | refine xT ?_ | refine xF ?_ | ((first | refine xR ?_ | refine xW ?_ | refine vq_id ?_); simp only [go_sem, Nat.reduceAdd, Nat.reduceLeDiff, Nat.reduceSub, Int.reduceToNat, reduceCtorEq, rqR_len]) | (refine ⟨by first | omega | (intros; simp_all; done) | (intros; simp_all; omega), ?_⟩; try simp only [go_sem, Nat.reduceAdd, Nat.reduceLeDiff, Nat.reduceSub, Int.reduceToNat, reduceCtorEq, rqR_len]))
  refine AP.cond rfl rfl (fun h7 => ?_) (fun h7 => ?_)
  · rw [if_pos h7, retT, if_pos (by decide)]
    repeat (first | refine xA ?_ | refine xB ?_ | refine xC ?_ | refine xE ?_ | refine xD ?_ | refine xK ?_ | refine xS ?_ | refine xM ?_ | refine xT ?_ | refine xF ?_ | ((first | refine xR ?_ | refine xW ?_ | refine vq_id ?_); simp only [go_sem, Nat.reduceAdd, Nat.reduceLeDiff, Nat.reduceSub, Int.reduceToNat, reduceCtorEq]) | (refine ⟨by first | omega | (intros; simp_all; done) | (intros; simp_all; omega), ?_⟩; try simp only [go_sem, Nat.reduceAdd, Nat.reduceLeDiff, Nat.reduceSub, Int.reduceToNat, reduceCtorEq]))
    refine AQ.fnL ([Iv 8]) (by kernel_rfl) rfl rfl rfl (by ((try simp only [List.nil_append, List.append_nil, List.cons_append, List.map_cons, List.map_nil, AV.st, constAV]); repeat (first | with_reducible exact LentC.nil | with_reducible exact LentAs.nil | with_reducible refine LentC.cons ?_ ?_ | with_reducible refine LentAs.cons ?_ ?_ | with_reducible exact Lent.im _ | with_reducible exact LentA.im _ | with_reducible refine LentA.of ?_ | with_reducible refine LentA.agg ?_ | ((with_reducible apply Lent.osw); rfl; simp only [blkR_len, wrR_len, byteR_len, List.length_append, List.length_cons, List.length_nil]) | ((with_reducible apply Lent.ob0); rfl)))) (tfail_told 8) rfl (fun _ => rfl) ?_
    repeat (first | refine xA ?_ | refine xB ?_ | refine xC ?_ | refine xE ?_ | refine xD ?_ | refine xK ?_ | refine xS ?_ | refine xM ?_ | refine xT ?_ | refine xF ?_ | ((first | refine xR ?_ | refine xW ?_ | refine vq_id ?_); simp only [go_sem, Nat.reduceAdd, Nat.reduceLeDiff, Nat.reduceSub, Int.reduceToNat, reduceCtorEq]) | (refine ⟨by first | omega | (intros; simp_all; done) | (intros; simp_all; omega), ?_⟩; try simp only [go_sem, Nat.reduceAdd, Nat.reduceLeDiff, Nat.reduceSub, Int.reduceToNat, reduceCtorEq]))
    exact AE.retD [0, 1] rfl ⟨⟨rfl, Nat.le_of_ble_eq_true (by kernel_rfl)⟩, rfl, rfl, trivial⟩ rfl ⟨rfl, rfl⟩
  rw [if_neg (by rw [h7]; decide)]
  rw [retT, if_neg (by decide)]
  have hsrv := ((srvC_iff p nm w n l).1 h1').1
  unfold srvHead at hsrv
  have hw := wr (x := n + 1) (by omega)
  repeat (first | refine xA ?_ | refine xB ?_ | refine xC ?_ | refine xE ?_ | refine xD ?_ | refine xK ?_ | refine xS ?_ | refine xM ?_ | refine xT ?_ | refine xF ?_ | ((first | refine xR ?_ | refine xW ?_ | refine vq_id ?_); simp only [go_sem, Nat.reduceAdd, Nat.reduceLeDiff, Nat.reduceSub, Int.reduceToNat, reduceCtorEq, hw]) | (refine ⟨by first | omega | (intros; simp_all; done) | (intros; simp_all; omega), ?_⟩; try simp only [go_sem, Nat.reduceAdd, Nat.reduceLeDiff, Nat.reduceSub, Int.reduceToNat, reduceCtorEq, hw]))
  refine AP.cond rfl rfl (fun h8 => ?_) (fun h8 => ?_)
  · have hK : K = 1 := by simpa using h8
    rw [taken, if_pos hK]
    have hit := itoa_spec w (by omega)
    repeat (first | refine xA ?_ | refine xB ?_ | refine xC ?_ | refine xE ?_ | refine xD ?_ | refine xK ?_ | refine xS ?_ | refine xM ?_ | refine xT ?_ | refine xF ?_ | ((first | refine xR ?_ | refine xW ?_ | refine vq_id ?_); simp only [go_sem, Nat.reduceAdd, Nat.reduceLeDiff, Nat.reduceSub, Int.reduceToNat, reduceCtorEq]) | (refine ⟨by first | omega | (intros; simp_all; done) | (intros; simp_all; omega), ?_⟩; try simp only [go_sem, Nat.reduceAdd, Nat.reduceLeDiff, Nat.reduceSub, Int.reduceToNat, reduceCtorEq]))
    refine AP.drawE 6 (Tree.node [] [0, 1, 2] [3] [Tree.node [0, 1] [4] [5] [Tree.node [] [] [] []]]) (by kernel_rfl) rfl (by kernel_rfl) (by kernel_rfl) ?_
    refine vd_node ?_
    simp only [go_sem, Nat.reduceAdd, Nat.reduceLeDiff, Nat.reduceSub, Int.reduceToNat, reduceCtorEq]
    repeat' (first | with_reducible exact True.intro | with_reducible refine And.intro (by omega) ?_ | with_reducible refine And.intro ?_ ?_ | (refine AQ.nx rfl ?_; simp only [go_sem, Nat.reduceAdd, Nat.reduceLeDiff, Nat.reduceSub, Int.reduceToNat, reduceCtorEq]) | refine AQ.skip (by kernel_rfl) rfl ?_ | refine AQ.done ?_ | (refine AQ.go (by kernel_rfl) ?_; simp only [go_sem, Nat.reduceAdd, Nat.reduceLeDiff, Nat.reduceSub, Int.reduceToNat, reduceCtorEq]; repeat (with_reducible refine And.intro (by omega) ?_); refine AQ.nx rfl ?_; simp only [go_sem, Nat.reduceAdd, Nat.reduceLeDiff, Nat.reduceSub, Int.reduceToNat, reduceCtorEq]))
    all_goals
      repeat (first | refine xA ?_ | refine xB ?_ | refine xC ?_ | refine xE ?_ | refine xD ?_ | refine xK ?_ | refine xS ?_ | refine xM ?_ | refine xT ?_ | refine xF ?_ | ((first | refine xR ?_ | refine xW ?_ | refine vq_id ?_); simp only [go_sem, Nat.reduceAdd, Nat.reduceLeDiff, Nat.reduceSub, Int.reduceToNat, reduceCtorEq]) | (refine ⟨by first | omega | (intros; simp_all; done) | (intros; simp_all; omega), ?_⟩; try simp only [go_sem, Nat.reduceAdd, Nat.reduceLeDiff, Nat.reduceSub, Int.reduceToNat, reduceCtorEq]))
    refine AP.drawE 11 (Tree.node [] [0, 1, 2, 3, 4] [5] [Tree.node [0, 1, 2] [6] [7, 8] [Tree.node [0] [] [8] [Tree.node [] [9] [10] [Tree.node [] [] [] []]], Tree.node [1, 2, 6] [] [7] [Tree.node [] [9] [10] [Tree.node [] [] [] []]]]]) (by kernel_rfl) rfl (by kernel_rfl) (by kernel_rfl) ?_
    refine vd_node ?_
    simp only [go_sem, Nat.reduceAdd, Nat.reduceLeDiff, Nat.reduceSub, Int.reduceToNat, reduceCtorEq]
    repeat' (first | with_reducible exact True.intro | with_reducible refine And.intro (by omega) ?_ | with_reducible refine And.intro ?_ ?_ | (refine AQ.nx rfl ?_; simp only [go_sem, Nat.reduceAdd, Nat.reduceLeDiff, Nat.reduceSub, Int.reduceToNat, reduceCtorEq]) | (refine AQ.fn (by kernel_rfl) rfl rfl rfl (hit) rfl ?_; simp only [go_sem, Nat.reduceAdd, Nat.reduceLeDiff, Nat.reduceSub, Int.reduceToNat, reduceCtorEq]) | refine AQ.done ?_ | (refine AQ.go (by kernel_rfl) ?_; simp only [go_sem, Nat.reduceAdd, Nat.reduceLeDiff, Nat.reduceSub, Int.reduceToNat, reduceCtorEq]; repeat (with_reducible refine And.intro (by omega) ?_); refine AQ.nx rfl ?_; simp only [go_sem, Nat.reduceAdd, Nat.reduceLeDiff, Nat.reduceSub, Int.reduceToNat, reduceCtorEq]))
    all_goals
      repeat (first | refine xA ?_ | refine xB ?_ | refine xC ?_ | refine xE ?_ | refine xD ?_ | refine xK ?_ | refine xS ?_ | refine xM ?_ | refine xT ?_ | refine xF ?_ | ((first | refine xR ?_ | refine xW ?_ | refine vq_id ?_); simp only [go_sem, Nat.reduceAdd, Nat.reduceLeDiff, Nat.reduceSub, Int.reduceToNat, reduceCtorEq]) | (refine ⟨by first | omega | (intros; simp_all; done) | (intros; simp_all; omega), ?_⟩; try simp only [go_sem, Nat.reduceAdd, Nat.reduceLeDiff, Nat.reduceSub, Int.reduceToNat, reduceCtorEq]))
      exact AE.retD [1, 0] rfl ⟨⟨rfl, Nat.le_of_ble_eq_true (by kernel_rfl)⟩, rfl, rfl, trivial⟩ rfl ⟨rfl, rfl⟩
  have hK : K ≠ 1 := by simpa using h8
  rw [taken, if_neg hK]
  repeat (first | refine xA ?_ | refine xB ?_ | refine xC ?_ | refine xE ?_ | refine xD ?_ | refine xK ?_ | refine xS ?_ | refine xM ?_ | refine xT ?_ | refine xF ?_ | ((first | refine xR ?_ | refine xW ?_ | refine vq_id ?_); simp only [go_sem, Nat.reduceAdd, Nat.reduceLeDiff, Nat.reduceSub, Int.reduceToNat, reduceCtorEq]) | (refine ⟨by first | omega | (intros; simp_all; done) | (intros; simp_all; omega), ?_⟩; try simp only [go_sem, Nat.reduceAdd, Nat.reduceLeDiff, Nat.reduceSub, Int.reduceToNat, reduceCtorEq]))
  obtain ⟨L, hL⟩ : ∃ L, L = l ++ [⟨N, K, t, false, false, 0, 0, []⟩] := ⟨_, rfl⟩
  have hLl : L.length = l.length + 1 := by rw [hL, List.length_append]; rfl
  have hrow : rqR l ++ [[Ii N, Ii K, Si t, .v (.bool false), .v (.bool false), Ii 0, Ii 0, Si []]] = rqR L := by rw [hL, rqR_snoc]; rfl
  refine AP.cut (α := Unit) (fun _ => [(2, .ob 0 0), (3, .im (.pt [Ii K, Ii N, Si t])), (4, .ob 1 0), (5, nilS), (6, Iv 0)]) (fun _ => [(2, .vec 82 8 (rqR L)), (1, .var 24 [Iv 0, Sv [], Iv 0, Iv 0, nilS]), (0, .var 24 [Iv p, Sv nm, Iv w, Iv (n + 1), .os 2 8 0 (l.length + 1)])]) (fun _ => True) ?_ fun _ _ => ?_
  · skip
    refine AP.drawE 14 (Tree.node [] [0, 1, 3, 4, 5, 6, 7, 8, 9] [2, 10] [Tree.node [3, 4, 5, 6, 7, 8, 9] [] [10] [Tree.node [] [] [11] [Tree.node [] [12] [13] [Tree.node [] [] [] []]]], Tree.node [0, 1] [] [2] [Tree.node [] [] [11] [Tree.node [] [12] [13] [Tree.node [] [] [] []]]]]) (by kernel_rfl) rfl (by kernel_rfl) (by kernel_rfl) ?_
    refine vd_node ?_
    simp only [go_sem, Nat.reduceAdd, Nat.reduceLeDiff, Nat.reduceSub, Int.reduceToNat, reduceCtorEq]
    repeat' (first | with_reducible exact True.intro | with_reducible refine And.intro (by omega) ?_ | with_reducible refine And.intro ?_ ?_ | (refine AQ.nx rfl ?_; simp only [go_sem, Nat.reduceAdd, Nat.reduceLeDiff, Nat.reduceSub, Int.reduceToNat, reduceCtorEq]) | (refine AQ.callv (by kernel_rfl) rfl rfl rfl (cloneQ_spec l (by omega)) fun r' H' ⟨e1, e2⟩ => ?_; subst e1; subst e2; simp only [go_sem, Nat.reduceAdd, Nat.reduceLeDiff, Nat.reduceSub, Int.reduceToNat, reduceCtorEq]) | (refine AQ.append (hnb := rfl) (rows := rqR l) (es := 7) (by kernel_rfl) rfl rfl rfl (by rfl) Tryz.tk22 Tryz.sz82 (by show Option.map _ (zro Tryz.prog 82) = _; rw [Tryz.zr82]; rfl) Tryz.by82 (by rw [rqR_len]) (by rw [rqR_len]; simp only [List.length_cons, List.length_nil]; omega) (by rw [rqR_len]; simp only [List.length_cons, List.length_nil]; omega) ?_; simp only [go_sem, Nat.reduceAdd, Nat.reduceLeDiff, Nat.reduceSub, Int.reduceToNat, reduceCtorEq, rqR_len, List.length_cons, List.length_nil]) | refine AQ.done ?_ | (refine AQ.go (by kernel_rfl) ?_; simp only [go_sem, Nat.reduceAdd, Nat.reduceLeDiff, Nat.reduceSub, Int.reduceToNat, reduceCtorEq]; repeat (with_reducible refine And.intro (by omega) ?_); refine AQ.nx rfl ?_; simp only [go_sem, Nat.reduceAdd, Nat.reduceLeDiff, Nat.reduceSub, Int.reduceToNat, reduceCtorEq]))
    all_goals exact AE.meet () trivial (by repeat (first | exact Sub.nil _ | refine Sub.cons rfl ?_)) (by rw [← hrow])
  have hw2 := wr (x := ((l.length + 1 : Nat) : Int) - 1) (by omega)
  have hw3 : ((l.length + 1 : Nat) : Int) - 1 = (l.length : Nat) := by omega
  have hw4 := wr (x := ((l.length : Nat) : Int)) (by omega)
  repeat (first | refine xA ?_ | refine xB ?_ | refine xC ?_ | refine xE ?_ | refine xD ?_ | refine xK ?_ | refine xS ?_ | refine xM ?_ | refine xT ?_ | refine xF ?_ | ((first | refine xR ?_ | refine xW ?_ | refine vq_id ?_); simp only [go_sem, Nat.reduceAdd, Nat.reduceLeDiff, Nat.reduceSub, Int.reduceToNat, reduceCtorEq, rqR_len, hLl, hw2, hw3, hw4, Int.toNat_natCast]) | (refine ⟨by first | omega | (intros; simp_all; done) | (intros; simp_all; omega), ?_⟩; try simp only [go_sem, Nat.reduceAdd, Nat.reduceLeDiff, Nat.reduceSub, Int.reduceToNat, reduceCtorEq, rqR_len, hLl, hw2, hw3, hw4, Int.toNat_natCast]))
  refine AP.cond rfl rfl (fun h9 => ?_) (fun h9 => ?_)
  · have hK5 : K = 5 := by simpa using h9
    rw [if_pos hK5]
    have htl : t.length ≤ 1000000000 := by
      unfold msgE at h4'
      split at h4'
      · cases h4'
      · split at h4'
        · cases h4'
        · split at h4'
          · cases h4'
          · omega
    repeat (first | refine xA ?_ | refine xB ?_ | refine xC ?_ | refine xE ?_ | refine xD ?_ | refine xK ?_ | refine xS ?_ | refine xM ?_ | refine xT ?_ | refine xF ?_ | ((first | refine xR ?_ | refine xW ?_ | refine vq_id ?_); simp only [go_sem, Nat.reduceAdd, Nat.reduceLeDiff, Nat.reduceSub, Int.reduceToNat, reduceCtorEq]) | (refine ⟨by first | omega | (intros; simp_all; done) | (intros; simp_all; omega), ?_⟩; try simp only [go_sem, Nat.reduceAdd, Nat.reduceLeDiff, Nat.reduceSub, Int.reduceToNat, reduceCtorEq]))
    refine AQ.fn (by kernel_rfl) rfl rfl rfl (number_spec 1 2147483647 t htl) rfl ?_
    repeat (first | refine xA ?_ | refine xB ?_ | refine xC ?_ | refine xE ?_ | refine xD ?_ | refine xK ?_ | refine xS ?_ | refine xM ?_ | refine xT ?_ | refine xF ?_ | ((first | refine xR ?_ | refine xW ?_ | refine vq_id ?_); simp only [go_sem, Nat.reduceAdd, Nat.reduceLeDiff, Nat.reduceSub, Int.reduceToNat, reduceCtorEq]) | (refine ⟨by first | omega | (intros; simp_all; done) | (intros; simp_all; omega), ?_⟩; try simp only [go_sem, Nat.reduceAdd, Nat.reduceLeDiff, Nat.reduceSub, Int.reduceToNat, reduceCtorEq]))
    have hix := indexQ_spec 40 (.pt [Ii (atoiV t).1]) (freeB (atoiV t).1) (free_spec _) L (by omega)
    refine AQ.callL [.im (.sl 8 (rqR L)), .fn 40 [] [.im (.pt [Ii (atoiV t).1])]] (by kernel_rfl) rfl rfl rfl (LentAs.cons (LentA.of (Lent.osw rfl (by rw [rqR_len, hLl]))) (LentAs.cons (LentA.fn LentAs.nil (LentAs.cons (LentA.of (Lent.ob0 rfl (LentC.cons (Lent.im _) LentC.nil))) LentAs.nil)) LentAs.nil)) hix fun r1 H1 ⟨e1, e2⟩ => ?_
    subst e1
    subst e2
    refine ⟨rfl, trivial, ?_⟩
    refine AQ.go (by kernel_rfl) ?_
    simp only [go_sem, Nat.reduceAdd, Nat.reduceLeDiff, Nat.reduceSub, Int.reduceToNat, reduceCtorEq]
    repeat (first | refine xA ?_ | refine xB ?_ | refine xC ?_ | refine xE ?_ | refine xD ?_ | refine xK ?_ | refine xS ?_ | refine xM ?_ | refine xT ?_ | refine xF ?_ | ((first | refine xR ?_ | refine xW ?_ | refine vq_id ?_); simp only [go_sem, Nat.reduceAdd, Nat.reduceLeDiff, Nat.reduceSub, Int.reduceToNat, reduceCtorEq]) | (refine ⟨by first | omega | (intros; simp_all; done) | (intros; simp_all; omega), ?_⟩; try simp only [go_sem, Nat.reduceAdd, Nat.reduceLeDiff, Nat.reduceSub, Int.reduceToNat, reduceCtorEq]))
    rw [← hL]
    refine AP.cond rfl rfl (fun h11 => ?_) (fun h11 => ?_)
    · rw [if_neg (by have := of_decide_eq_true h11; omega)]
      rcases idxQ_cases (freeB (atoiV t).1) L with hj | ⟨j, hj, hjl⟩
      · rw [hj] at h11; exact absurd h11 (by decide)
      rw [hj]
      repeat (first | refine xA ?_ | refine xB ?_ | refine xC ?_ | refine xE ?_ | refine xD ?_ | refine xK ?_ | refine xS ?_ | refine xM ?_ | refine xT ?_ | refine xF ?_ | ((first | refine xR ?_ | refine xW ?_ | refine vq_id ?_); simp only [go_sem, Nat.reduceAdd, Nat.reduceLeDiff, Nat.reduceSub, Int.reduceToNat, reduceCtorEq]) | (refine ⟨by first | omega | (intros; simp_all; done) | (intros; simp_all; omega), ?_⟩; try simp only [go_sem, Nat.reduceAdd, Nat.reduceLeDiff, Nat.reduceSub, Int.reduceToNat, reduceCtorEq]))
      refine AP.drawE 20 (Tree.node [] [0, 1, 2, 3, 4, 5, 6, 7, 8, 9, 10, 11, 12] [13] [Tree.node [3, 4, 5, 6, 7, 8, 9, 10] [14, 15] [16] [Tree.node [6, 7, 8, 9, 10] [17, 18] [19] [Tree.node [] [] [] []]]]) (by kernel_rfl) rfl (by kernel_rfl) (by kernel_rfl) ?_
      refine vd_node ?_
      simp only [go_sem, Nat.reduceAdd, Nat.reduceLeDiff, Nat.reduceSub, Int.reduceToNat, reduceCtorEq, rqR_len, hLl]
      refine ⟨⟨by omega, by omega⟩, ?_⟩
      repeat' (first | with_reducible exact True.intro | with_reducible refine And.intro (by omega) ?_ | with_reducible refine And.intro ?_ ?_ | (refine AQ.nx rfl ?_; simp only [go_sem, Nat.reduceAdd, Nat.reduceLeDiff, Nat.reduceSub, Int.reduceToNat, reduceCtorEq, rqR_len, hLl]) | refine AQ.skip (by kernel_rfl) rfl ?_ | refine AQ.done ?_ | (refine AQ.go (by kernel_rfl) ?_; simp only [go_sem, Nat.reduceAdd, Nat.reduceLeDiff, Nat.reduceSub, Int.reduceToNat, reduceCtorEq, rqR_len, hLl]; repeat (with_reducible refine And.intro (by omega) ?_); refine AQ.nx rfl ?_; simp only [go_sem, Nat.reduceAdd, Nat.reduceLeDiff, Nat.reduceSub, Int.reduceToNat, reduceCtorEq, rqR_len, hLl]))
      all_goals (try (simp only [List.length_set, rqR_len, hLl]; omega))
      obtain ⟨r, hm, hfr⟩ := idxQ_some hj
      have hjl2 : j < l.length := by
        rcases Nat.lt_or_ge j l.length with h | h
        · exact h
        · have hje : j = l.length := by omega
          rw [hje, hL, List.getElem?_append_right (Nat.le_refl _), Nat.sub_self] at hm
          cases hm
          rw [freeB, hK5] at hfr
          simp [workB] at hfr
      have hrn : (atoiV t).1 = r.n := by
        simp only [freeB, Bool.and_eq_true, beq_iff_eq] at hfr
        exact hfr.1.1.symm
      have hlm : l[j]? = some r := by rw [← hm, hL, List.getElem?_append_left hjl2]
      rw [rows_can hm, hrn]
      obtain ⟨L1, hL1⟩ : ∃ L1, L.set j ⟨r.n, r.k, r.b, true, true, 9, r.n, [48, 32, 48]⟩ = L1 := ⟨_, rfl⟩
      have hL1l : L1.length = l.length + 1 := by rw [← hL1, List.length_set, hLl]
      have hL1e : L1 = l.set j ⟨r.n, r.k, r.b, true, true, 9, r.n, [48, 32, 48]⟩ ++ [⟨N, K, t, false, false, 0, 0, []⟩] := by rw [← hL1, hL, List.set_append_left _ _ hjl2]
      have hm1 : L1[l.length]? = some ⟨N, K, t, false, false, 0, 0, []⟩ := by rw [hL1e, List.getElem?_append_right (by rw [List.length_set]; exact Nat.le_refl _), List.length_set, Nat.sub_self]; rfl
      have hcn : cancelled (l ++ [⟨N, K, t, false, true, 8, N, [49]⟩]) (j : Int) = L1.set l.length ⟨N, K, t, false, true, 8, N, [49]⟩ := by
        have e : rAt (l ++ [⟨N, K, t, false, true, 8, N, [49]⟩]) (j : Int) = r := by
          rw [rAt, Int.toNat_natCast, List.getD_eq_getElem?_getD, List.getElem?_append_left hjl2, hlm]; rfl
        rw [cancelled, e, Int.toNat_natCast, List.set_append_left _ _ hjl2, hL1e, List.set_append_right _ _ (by rw [List.length_set]; exact Nat.le_refl _), List.length_set, Nat.sub_self]
        rfl
      rw [hL1, hcn]
      repeat (first | refine xA ?_ | refine xB ?_ | refine xC ?_ | refine xE ?_ | refine xD ?_ | refine xK ?_ | refine xS ?_ | refine xM ?_ | refine xT ?_ | refine xF ?_ | ((first | refine xR ?_ | refine xW ?_ | refine vq_id ?_); simp only [go_sem, Nat.reduceAdd, Nat.reduceLeDiff, Nat.reduceSub, Int.reduceToNat, reduceCtorEq]) | (refine ⟨by first | omega | (intros; simp_all; done) | (intros; simp_all; omega), ?_⟩; try simp only [go_sem, Nat.reduceAdd, Nat.reduceLeDiff, Nat.reduceSub, Int.reduceToNat, reduceCtorEq]))
      refine AP.drawE 12 (Tree.node [] [0, 1, 2, 3, 4, 5, 6, 7] [8] [Tree.node [1, 2, 3, 4, 5] [9, 10] [11] [Tree.node [] [] [] []]]) (by kernel_rfl) rfl (by kernel_rfl) (by kernel_rfl) ?_
      refine vd_node ?_
      simp only [go_sem, Nat.reduceAdd, Nat.reduceLeDiff, Nat.reduceSub, Int.reduceToNat, reduceCtorEq]
      repeat' (first | with_reducible exact True.intro | with_reducible refine And.intro (by omega) ?_ | with_reducible refine And.intro ?_ ?_ | (refine AQ.nx rfl ?_; simp only [go_sem, Nat.reduceAdd, Nat.reduceLeDiff, Nat.reduceSub, Int.reduceToNat, reduceCtorEq, rqR_len]) | refine AQ.skip (by kernel_rfl) rfl ?_ | refine AQ.done ?_ | (refine AQ.go (by kernel_rfl) ?_; simp only [go_sem, Nat.reduceAdd, Nat.reduceLeDiff, Nat.reduceSub, Int.reduceToNat, reduceCtorEq, rqR_len]; repeat (with_reducible refine And.intro (by omega) ?_); refine AQ.nx rfl ?_; simp only [go_sem, Nat.reduceAdd, Nat.reduceLeDiff, Nat.reduceSub, Int.reduceToNat, reduceCtorEq, rqR_len]))
      · rw [List.length_set, rqR_len, hL1l]; omega
      rw [rows_ans hm1 8 N [49]]
      obtain ⟨L2, hL2⟩ : ∃ L2, L1.set l.length ⟨N, K, t, false, true, 8, N, [49]⟩ = L2 := ⟨_, rfl⟩
      have hLl2 : L2.length = l.length + 1 := by rw [← hL2, List.length_set, hL1l]
      have hta2 : (rqR L2).take (l.length + 1) = rqR L2 := List.take_of_length_le (by rw [rqR_len, hLl2]; exact Nat.le_refl _)
      rw [hL2]
      refine AE.freeze 2 (rows := rqR L2) rfl (by simp [go_sem, rqR_len, hLl2]) (by simp [go_sem, rqR_len, hLl2]) ?_
      simp only [go_sem, Nat.reduceAdd, Nat.reduceLeDiff, Nat.reduceSub, Int.reduceToNat, reduceCtorEq, List.drop_zero, hta2]
      repeat (first | refine xA ?_ | refine xB ?_ | refine xC ?_ | refine xE ?_ | refine xD ?_ | refine xK ?_ | refine xS ?_ | refine xM ?_ | refine xT ?_ | refine xF ?_ | ((first | refine xR ?_ | refine xW ?_ | refine vq_id ?_); simp only [go_sem, Nat.reduceAdd, Nat.reduceLeDiff, Nat.reduceSub, Int.reduceToNat, reduceCtorEq]) | (refine ⟨by first | omega | (intros; simp_all; done) | (intros; simp_all; omega), ?_⟩; try simp only [go_sem, Nat.reduceAdd, Nat.reduceLeDiff, Nat.reduceSub, Int.reduceToNat, reduceCtorEq]))
      refine AQ.fn (by kernel_rfl) rfl rfl rfl (sent_spec p nm w (n + 1) L2 (by omega)) rfl ?_
      repeat (first | refine xA ?_ | refine xB ?_ | refine xC ?_ | refine xE ?_ | refine xD ?_ | refine xK ?_ | refine xS ?_ | refine xM ?_ | refine xT ?_ | refine xF ?_ | ((first | refine xR ?_ | refine xW ?_ | refine vq_id ?_); simp only [go_sem, Nat.reduceAdd, Nat.reduceLeDiff, Nat.reduceSub, Int.reduceToNat, reduceCtorEq]) | (refine ⟨by first | omega | (intros; simp_all; done) | (intros; simp_all; omega), ?_⟩; try simp only [go_sem, Nat.reduceAdd, Nat.reduceLeDiff, Nat.reduceSub, Int.reduceToNat, reduceCtorEq]))
      exact AE.retD [3, 1, 0] rfl ⟨⟨rfl, Nat.le_of_ble_eq_true (by kernel_rfl)⟩, rfl, rfl, trivial⟩ rfl ⟨rfl, rfl⟩
    · rw [if_pos (by have := of_decide_eq_false h11; omega)]
      repeat (first | refine xA ?_ | refine xB ?_ | refine xC ?_ | refine xE ?_ | refine xD ?_ | refine xK ?_ | refine xS ?_ | refine xM ?_ | refine xT ?_ | refine xF ?_ | ((first | refine xR ?_ | refine xW ?_ | refine vq_id ?_); simp only [go_sem, Nat.reduceAdd, Nat.reduceLeDiff, Nat.reduceSub, Int.reduceToNat, reduceCtorEq]) | (refine ⟨by first | omega | (intros; simp_all; done) | (intros; simp_all; omega), ?_⟩; try simp only [go_sem, Nat.reduceAdd, Nat.reduceLeDiff, Nat.reduceSub, Int.reduceToNat, reduceCtorEq]))
      refine AP.drawE 12 (Tree.node [] [0, 1, 2, 3, 4, 5, 6, 7] [8] [Tree.node [1, 2, 3, 4, 5] [9, 10] [11] [Tree.node [] [] [] []]]) (by kernel_rfl) rfl (by kernel_rfl) (by kernel_rfl) ?_
      refine vd_node ?_
      simp only [go_sem, Nat.reduceAdd, Nat.reduceLeDiff, Nat.reduceSub, Int.reduceToNat, reduceCtorEq]
      repeat' (first | with_reducible exact True.intro | with_reducible refine And.intro (by omega) ?_ | with_reducible refine And.intro ?_ ?_ | (refine AQ.nx rfl ?_; simp only [go_sem, Nat.reduceAdd, Nat.reduceLeDiff, Nat.reduceSub, Int.reduceToNat, reduceCtorEq, rqR_len]) | refine AQ.skip (by kernel_rfl) rfl ?_ | refine AQ.done ?_ | (refine AQ.go (by kernel_rfl) ?_; simp only [go_sem, Nat.reduceAdd, Nat.reduceLeDiff, Nat.reduceSub, Int.reduceToNat, reduceCtorEq, rqR_len]; repeat (with_reducible refine And.intro (by omega) ?_); refine AQ.nx rfl ?_; simp only [go_sem, Nat.reduceAdd, Nat.reduceLeDiff, Nat.reduceSub, Int.reduceToNat, reduceCtorEq, rqR_len]))
      · rw [List.length_set, rqR_len, hLl]; omega
      have hrow2 := rows_last l N K t 8 N [48]
      rw [← hL] at hrow2
      rw [hrow2]
      obtain ⟨L2, hL2⟩ : ∃ L2, l ++ [(⟨N, K, t, false, true, 8, N, [48]⟩ : Rq)] = L2 := ⟨_, rfl⟩
      have hLl2 : L2.length = l.length + 1 := by rw [← hL2, List.length_append]; rfl
      have hta2 : (rqR L2).take (l.length + 1) = rqR L2 := List.take_of_length_le (by rw [rqR_len, hLl2]; exact Nat.le_refl _)
      rw [hL2]
      refine AE.freeze 2 (rows := rqR L2) rfl (by simp [go_sem, rqR_len, hLl2]) (by simp [go_sem, rqR_len, hLl2]) ?_
      simp only [go_sem, Nat.reduceAdd, Nat.reduceLeDiff, Nat.reduceSub, Int.reduceToNat, reduceCtorEq, List.drop_zero, hta2]
      repeat (first | refine xA ?_ | refine xB ?_ | refine xC ?_ | refine xE ?_ | refine xD ?_ | refine xK ?_ | refine xS ?_ | refine xM ?_ | refine xT ?_ | refine xF ?_ | ((first | refine xR ?_ | refine xW ?_ | refine vq_id ?_); simp only [go_sem, Nat.reduceAdd, Nat.reduceLeDiff, Nat.reduceSub, Int.reduceToNat, reduceCtorEq]) | (refine ⟨by first | omega | (intros; simp_all; done) | (intros; simp_all; omega), ?_⟩; try simp only [go_sem, Nat.reduceAdd, Nat.reduceLeDiff, Nat.reduceSub, Int.reduceToNat, reduceCtorEq]))
      refine AQ.fn (by kernel_rfl) rfl rfl rfl (sent_spec p nm w (n + 1) L2 (by omega)) rfl ?_
      repeat (first | refine xA ?_ | refine xB ?_ | refine xC ?_ | refine xE ?_ | refine xD ?_ | refine xK ?_ | refine xS ?_ | refine xM ?_ | refine xT ?_ | refine xF ?_ | ((first | refine xR ?_ | refine xW ?_ | refine vq_id ?_); simp only [go_sem, Nat.reduceAdd, Nat.reduceLeDiff, Nat.reduceSub, Int.reduceToNat, reduceCtorEq]) | (refine ⟨by first | omega | (intros; simp_all; done) | (intros; simp_all; omega), ?_⟩; try simp only [go_sem, Nat.reduceAdd, Nat.reduceLeDiff, Nat.reduceSub, Int.reduceToNat, reduceCtorEq]))
      exact AE.retD [3, 1, 0] rfl ⟨⟨rfl, Nat.le_of_ble_eq_true (by kernel_rfl)⟩, rfl, rfl, trivial⟩ rfl ⟨rfl, rfl⟩
  have hK5 : K ≠ 5 := by simpa using h9
  rw [if_neg hK5]
  repeat (first | refine xA ?_ | refine xB ?_ | refine xC ?_ | refine xE ?_ | refine xD ?_ | refine xK ?_ | refine xS ?_ | refine xM ?_ | refine xT ?_ | refine xF ?_ | ((first | refine xR ?_ | refine xW ?_ | refine vq_id ?_); simp only [go_sem, Nat.reduceAdd, Nat.reduceLeDiff, Nat.reduceSub, Int.reduceToNat, reduceCtorEq]) | (refine ⟨by first | omega | (intros; simp_all; done) | (intros; simp_all; omega), ?_⟩; try simp only [go_sem, Nat.reduceAdd, Nat.reduceLeDiff, Nat.reduceSub, Int.reduceToNat, reduceCtorEq]))
  refine AP.cond rfl rfl (fun h10 => ?_) (fun h10 => ?_)
  · have hK6 : K = 6 := by simpa using h10
    rw [if_pos hK6]
    repeat (first | refine xA ?_ | refine xB ?_ | refine xC ?_ | refine xE ?_ | refine xD ?_ | refine xK ?_ | refine xS ?_ | refine xM ?_ | refine xT ?_ | refine xF ?_ | ((first | refine xR ?_ | refine xW ?_ | refine vq_id ?_); simp only [go_sem, Nat.reduceAdd, Nat.reduceLeDiff, Nat.reduceSub, Int.reduceToNat, reduceCtorEq]) | (refine ⟨by first | omega | (intros; simp_all; done) | (intros; simp_all; omega), ?_⟩; try simp only [go_sem, Nat.reduceAdd, Nat.reduceLeDiff, Nat.reduceSub, Int.reduceToNat, reduceCtorEq]))
    refine AP.drawE 11 (Tree.node [] [0, 1, 2, 3, 4, 5, 6] [7] [Tree.node [1, 2, 3, 4] [8, 9] [10] [Tree.node [] [] [] []]]) (by kernel_rfl) rfl (by kernel_rfl) (by kernel_rfl) ?_
    refine vd_node ?_
    simp only [go_sem, Nat.reduceAdd, Nat.reduceLeDiff, Nat.reduceSub, Int.reduceToNat, reduceCtorEq]
    repeat' (first | with_reducible exact True.intro | with_reducible refine And.intro (by omega) ?_ | with_reducible refine And.intro ?_ ?_ | (refine AQ.nx rfl ?_; simp only [go_sem, Nat.reduceAdd, Nat.reduceLeDiff, Nat.reduceSub, Int.reduceToNat, reduceCtorEq, rqR_len]) | refine AQ.skip (by kernel_rfl) rfl ?_ | refine AQ.done ?_ | (refine AQ.go (by kernel_rfl) ?_; simp only [go_sem, Nat.reduceAdd, Nat.reduceLeDiff, Nat.reduceSub, Int.reduceToNat, reduceCtorEq, rqR_len]; repeat (with_reducible refine And.intro (by omega) ?_); refine AQ.nx rfl ?_; simp only [go_sem, Nat.reduceAdd, Nat.reduceLeDiff, Nat.reduceSub, Int.reduceToNat, reduceCtorEq, rqR_len]))
    · rw [List.length_set, rqR_len, hLl]; omega
    have hrow2 := rows_last l N K t 8 N []
    rw [← hL] at hrow2
    rw [hrow2]
    obtain ⟨L2, hL2⟩ : ∃ L2, l ++ [(⟨N, K, t, false, true, 8, N, []⟩ : Rq)] = L2 := ⟨_, rfl⟩
    have hLl2 : L2.length = l.length + 1 := by rw [← hL2, List.length_append]; rfl
    have hta2 : (rqR L2).take (l.length + 1) = rqR L2 := List.take_of_length_le (by rw [rqR_len, hLl2]; exact Nat.le_refl _)
    rw [hL2]
    refine AE.freeze 2 (rows := rqR L2) rfl (by simp [go_sem, rqR_len, hLl2]) (by simp [go_sem, rqR_len, hLl2]) ?_
    simp only [go_sem, Nat.reduceAdd, Nat.reduceLeDiff, Nat.reduceSub, Int.reduceToNat, reduceCtorEq, List.drop_zero, hta2]
    repeat (first | refine xA ?_ | refine xB ?_ | refine xC ?_ | refine xE ?_ | refine xD ?_ | refine xK ?_ | refine xS ?_ | refine xM ?_ | refine xT ?_ | refine xF ?_ | ((first | refine xR ?_ | refine xW ?_ | refine vq_id ?_); simp only [go_sem, Nat.reduceAdd, Nat.reduceLeDiff, Nat.reduceSub, Int.reduceToNat, reduceCtorEq]) | (refine ⟨by first | omega | (intros; simp_all; done) | (intros; simp_all; omega), ?_⟩; try simp only [go_sem, Nat.reduceAdd, Nat.reduceLeDiff, Nat.reduceSub, Int.reduceToNat, reduceCtorEq]))
    refine AQ.fn (by kernel_rfl) rfl rfl rfl (sent_spec 2 nm w (n + 1) L2 (by omega)) rfl ?_
    repeat (first | refine xA ?_ | refine xB ?_ | refine xC ?_ | refine xE ?_ | refine xD ?_ | refine xK ?_ | refine xS ?_ | refine xM ?_ | refine xT ?_ | refine xF ?_ | ((first | refine xR ?_ | refine xW ?_ | refine vq_id ?_); simp only [go_sem, Nat.reduceAdd, Nat.reduceLeDiff, Nat.reduceSub, Int.reduceToNat, reduceCtorEq]) | (refine ⟨by first | omega | (intros; simp_all; done) | (intros; simp_all; omega), ?_⟩; try simp only [go_sem, Nat.reduceAdd, Nat.reduceLeDiff, Nat.reduceSub, Int.reduceToNat, reduceCtorEq]))
    exact AE.retD [1, 0] rfl ⟨⟨rfl, Nat.le_of_ble_eq_true (by kernel_rfl)⟩, rfl, rfl, trivial⟩ rfl ⟨rfl, rfl⟩
  have hK6 : K ≠ 6 := by simpa using h10
  rw [if_neg hK6, ← hL]
  have hta : (rqR L).take (l.length + 1) = rqR L := List.take_of_length_le (by rw [rqR_len, hLl]; exact Nat.le_refl _)
  refine AP.freeze 2 (rows := rqR L) rfl (by simp [go_sem, rqR_len, hLl]) (by simp [go_sem, rqR_len, hLl]) ?_
  simp only [go_sem, Nat.reduceAdd, Nat.reduceLeDiff, Nat.reduceSub, Int.reduceToNat, reduceCtorEq, List.drop_zero, hta]
  repeat (first | refine xA ?_ | refine xB ?_ | refine xC ?_ | refine xE ?_ | refine xD ?_ | refine xK ?_ | refine xS ?_ | refine xM ?_ | refine xT ?_ | refine xF ?_ | ((first | refine xR ?_ | refine xW ?_ | refine vq_id ?_); simp only [go_sem, Nat.reduceAdd, Nat.reduceLeDiff, Nat.reduceSub, Int.reduceToNat, reduceCtorEq]) | (refine ⟨by first | omega | (intros; simp_all; done) | (intros; simp_all; omega), ?_⟩; try simp only [go_sem, Nat.reduceAdd, Nat.reduceLeDiff, Nat.reduceSub, Int.reduceToNat, reduceCtorEq]))
  refine AQ.fn (by kernel_rfl) rfl rfl rfl (sent_spec p nm w (n + 1) L (by omega)) rfl ?_
  repeat (first | refine xA ?_ | refine xB ?_ | refine xC ?_ | refine xE ?_ | refine xD ?_ | refine xK ?_ | refine xS ?_ | refine xM ?_ | refine xT ?_ | refine xF ?_ | ((first | refine xR ?_ | refine xW ?_ | refine vq_id ?_); simp only [go_sem, Nat.reduceAdd, Nat.reduceLeDiff, Nat.reduceSub, Int.reduceToNat, reduceCtorEq]) | (refine ⟨by first | omega | (intros; simp_all; done) | (intros; simp_all; omega), ?_⟩; try simp only [go_sem, Nat.reduceAdd, Nat.reduceLeDiff, Nat.reduceSub, Int.reduceToNat, reduceCtorEq]))
  exact AE.retD [1, 0] rfl ⟨⟨rfl, Nat.le_of_ble_eq_true (by kernel_rfl)⟩, rfl, rfl, trivial⟩ rfl ⟨rfl, rfl⟩
end Go.Proofs.YtlpcdpjkdodmcaaGreatDoor
end

section
namespace Go.Proofs.YtlpcdpjkdodmcaaGreatDoor
open Go Go.AL Go.RowKit
set_option maxRecDepth 10000
set_option maxHeartbeats 4000000
structure CSt where
  p : Int
  w : Int
  s : Int
  l : List Rq
structure SSt where
  p : Int
  nm : List UInt8
  w : Int
  n : Int
  l : List Rq
structure TSt where
  c : CSt
  s : SSt
  sent : List Msg
  ans : List Msg
abbrev tkCells (i j : Nat) (t : TSt) : List AV := [Iv t.c.p, Iv t.c.w, Iv t.c.s, .im (.sl 8 (rqR t.c.l)), Iv t.s.p, Sv t.s.nm, Iv t.s.w, Iv t.s.n, .im (.sl 8 (rqR t.s.l)), .os i 3 0 t.sent.length, .os j 3 0 t.ans.length]
abbrev tkH (i j : Nat) (t : TSt) : Heap := [(j, .vec 26 3 (msgR t.ans)), (i, .vec 26 3 (msgR t.sent)), (0, .var 66 (tkCells i j t))]
noncomputable def recOk (c : CSt) (m : Msg) (c' : CSt) (r : Rq) : Prop :=
  recV c.p c.w c.s c.l m.1 m.2.1 m.2.2 = .tup [.agg [Iv c'.p, Iv c'.w, Iv c'.s, .im (.sl 8 (rqR c'.l))], .agg [Iv r.n, Iv r.k, Sv r.b, Bv r.c, Bv r.a, Iv r.ak, Iv r.an, Sv r.ab], Iv 0] ∧ r.n = m.2.1 ∧ c.l.length ≤ 100000
noncomputable def delChain : CSt → List Msg → CSt → Prop
  | c, [], c' => c = c'
  | c, m :: ms, c' => ∃ c1 r, recOk c m c1 r ∧ delChain c1 ms c'
theorem deliver_spec (t : TSt) (outs : List Msg) (c' : CSt) (h : delChain t.c outs c') (hb : t.sent.length ≤ 100000) (hb2 : t.ans.length + outs.length ≤ t.sent.length)
    (hn : ∀ j m, outs[j]? = some m → ∃ q, t.sent[t.ans.length + j]? = some q ∧ q.2.1 = m.2.1) :
    ACall Tryz.prog 54 [.ob 0 0, .im (.sl 3 (msgR outs))] (tkH 1 2 t) (fun r H' => r = Bv true ∧ H' = tkH 1 3 { t with c := c', ans := t.ans ++ outs }) := by
  refine ACall.walk [0, 1, 4, 6, 7, 8, 9, 10, 11, 12, 13, 64] [6, 7, 8] Tryz.func54 rfl Tryz.ntmps54 (by kernel_rfl) (by rfl) rfl fun W own I0 φ0 lay => ?_
  refine AP.rename 2 3 rfl rfl rfl ?_; simp only [go_sem, Nat.reduceAdd, Nat.reduceLeDiff, Nat.reduceSub, Int.reduceToNat, reduceCtorEq]
  repeat (first | refine xA ?_ | refine xB ?_ | refine xC ?_ | refine xE ?_ | refine xD ?_ | refine xK ?_ | refine xS ?_ | refine xM ?_ | refine xT ?_ | refine xF ?_ | ((first | refine xR ?_ | refine xW ?_ | refine vq_id ?_); simp only [go_sem, Nat.reduceAdd, Nat.reduceLeDiff, Nat.reduceSub, Int.reduceToNat, reduceCtorEq, msgR_len]) | (refine ⟨by first | omega | (intros; simp_all; done) | (intros; simp_all; omega), ?_⟩; try simp only [go_sem, Nat.reduceAdd, Nat.reduceLeDiff, Nat.reduceSub, Int.reduceToNat, reduceCtorEq, msgR_len]))
  refine AP.loop rfl (α := Nat × CSt) (fun q => [(0, .ob 0 0), (10, .im (.sl 3 (msgR outs))), (11, Iv outs.length), (12, Iv q.1)]) (fun q => tkH 1 3 { t with c := q.2, ans := t.ans ++ outs.take q.1 }) (fun q => q.1 ≤ outs.length ∧ delChain q.2 (outs.drop q.1) c') (fun q => outs.length - q.1) (0, t.c) ⟨by simp, h⟩ (by repeat (first | exact Sub.nil _ | refine Sub.cons rfl ?_)) (by simp [Sh.lit]) fun ⟨k, c⟩ ⟨hk, hch⟩ => ?_
  simp only at hk hch
  have hw := wr (x := (k : Int) + 1) (by omega)
  have hlk : (t.ans ++ outs.take k).length = t.ans.length + k := by rw [List.length_append, List.length_take]; omega
  repeat (first | refine xA ?_ | refine xB ?_ | refine xC ?_ | refine xE ?_ | refine xD ?_ | refine xK ?_ | refine xS ?_ | refine xM ?_ | refine xT ?_ | refine xF ?_ | ((first | refine xR ?_ | refine xW ?_ | refine vq_id ?_); simp only [go_sem, Nat.reduceAdd, Nat.reduceLeDiff, Nat.reduceSub, Int.reduceToNat, reduceCtorEq]) | (refine ⟨by first | omega | (intros; simp_all; done) | (intros; simp_all; omega), ?_⟩; try simp only [go_sem, Nat.reduceAdd, Nat.reduceLeDiff, Nat.reduceSub, Int.reduceToNat, reduceCtorEq]))
  refine AP.cond rfl rfl (fun hc => ?_) (fun hc => ?_)
  · have hk' : k < outs.length := by simp at hc; omega
    obtain ⟨⟨a, b, x⟩, hm, hg⟩ := msgR_get outs k hk'
    have hd : outs.drop k = (a, b, x) :: outs.drop (k + 1) := by rw [List.drop_eq_getElem_cons hk']; rw [List.getElem?_eq_getElem hk'] at hm; rw [Option.some.inj hm]
    rw [hd] at hch
    obtain ⟨c1, r, ⟨hrv, hrn, hcl⟩, hch⟩ := hch
    simp only at hrn
    have hsp := receive_spec c.p c.w c.s c.l (by omega) a b x
    simp only at hrv
    rw [hrv] at hsp
    obtain ⟨q, hq1, hq2⟩ := hn k _ hm
    have hql := (List.getElem?_eq_some_iff.1 hq1).1
    obtain ⟨q', hq1', hgq⟩ := msgR_get t.sent (t.ans.length + k) hql
    rw [hq1] at hq1'
    cases hq1'
    simp only at hq2
    repeat (first | refine xA ?_ | refine xB ?_ | refine xC ?_ | refine xE ?_ | refine xD ?_ | refine xK ?_ | refine xS ?_ | refine xM ?_ | refine xT ?_ | refine xF ?_ | ((first | refine xR ?_ | refine xW ?_ | refine vq_id ?_); simp only [go_sem, Nat.reduceAdd, Nat.reduceLeDiff, Nat.reduceSub, Int.reduceToNat, reduceCtorEq, msgR_len, hlk, hg, hw, Int.toNat_natCast, List.map_cons, List.map_nil, List.length_cons, List.length_nil, List.take_succ_cons, List.take_zero, List.drop_zero]) | (refine ⟨by first | omega | (intros; simp_all; done) | (intros; simp_all; omega), ?_⟩; try simp only [go_sem, Nat.reduceAdd, Nat.reduceLeDiff, Nat.reduceSub, Int.reduceToNat, reduceCtorEq, msgR_len, hlk, hg, hw, Int.toNat_natCast, List.map_cons, List.map_nil, List.length_cons, List.length_nil, List.take_succ_cons, List.take_zero, List.drop_zero]))
    refine AP.cut (α := Unit) (fun _ => [(0, .ob 0 0), (10, .im (.sl 3 (msgR outs))), (11, Iv outs.length), (12, Iv k), (6, .ob 4 0), (7, .ob 5 0), (8, .ob 6 0), (9, Iv 0)])
      (fun _ => (6, .var 82 [Iv r.n, Iv r.k, Sv r.b, Bv r.c, Bv r.a, Iv r.ak, Iv r.an, Sv r.ab]) :: (5, .var 64 [Iv c1.p, Iv c1.w, Iv c1.s, .im (.sl 8 (rqR c1.l))]) :: (4, .var 26 [Iv a, Iv b, Sv x]) :: tkH 1 3 { t with c := c, ans := t.ans ++ outs.take k }) (fun _ => True) ?_ fun _ _ => ?_
    · skip
      refine AP.drawE 15 (Tree.node [] [0, 1, 2, 3, 4] [5, 10, 11] [Tree.node [] [6, 7, 8, 9] [10, 11] [Tree.node [6, 7, 8, 9] [] [11] [Tree.node [6, 7, 8, 9] [] [12] [Tree.node [8, 9] [] [13] [Tree.node [9] [14] [] []]]], Tree.node [6, 7, 8, 9] [] [10] [Tree.node [6, 7, 8, 9] [] [12] [Tree.node [8, 9] [] [13] [Tree.node [9] [14] [] []]]]], Tree.node [0, 1, 2, 3, 4] [] [5, 11] [Tree.node [] [6, 7, 8, 9] [11] [Tree.node [6, 7, 8, 9] [] [12] [Tree.node [8, 9] [] [13] [Tree.node [9] [14] [] []]]], Tree.node [0, 1, 2, 3, 4] [] [5] [Tree.node [] [6, 7, 8, 9] [12] [Tree.node [8, 9] [] [13] [Tree.node [9] [14] [] []]]]], Tree.node [0, 1, 2, 3, 4] [] [5, 10] [Tree.node [] [6, 7, 8, 9] [10] [Tree.node [6, 7, 8, 9] [] [12] [Tree.node [8, 9] [] [13] [Tree.node [9] [14] [] []]]], Tree.node [0, 1, 2, 3, 4] [] [5] [Tree.node [] [6, 7, 8, 9] [12] [Tree.node [8, 9] [] [13] [Tree.node [9] [14] [] []]]]]]) (by kernel_rfl) rfl (by kernel_rfl) (by kernel_rfl) ?_
      refine vd_node ?_
      simp only [go_sem, Nat.reduceAdd, Nat.reduceLeDiff, Nat.reduceSub, Int.reduceToNat, reduceCtorEq]
      repeat' (first | with_reducible exact True.intro | with_reducible refine And.intro (by omega) ?_ | with_reducible refine And.intro ?_ ?_ | (refine AQ.nx rfl ?_; simp only [go_sem, Nat.reduceAdd, Nat.reduceLeDiff, Nat.reduceSub, Int.reduceToNat, reduceCtorEq]) | (refine AQ.fn (by kernel_rfl) rfl rfl rfl (hsp) rfl ?_; simp only [go_sem, Nat.reduceAdd, Nat.reduceLeDiff, Nat.reduceSub, Int.reduceToNat, reduceCtorEq]) | refine AQ.done ?_ | (refine AQ.go (by kernel_rfl) ?_; simp only [go_sem, Nat.reduceAdd, Nat.reduceLeDiff, Nat.reduceSub, Int.reduceToNat, reduceCtorEq]; repeat (with_reducible refine And.intro (by omega) ?_); refine AQ.nx rfl ?_; simp only [go_sem, Nat.reduceAdd, Nat.reduceLeDiff, Nat.reduceSub, Int.reduceToNat, reduceCtorEq]))
      all_goals
        simp only [go_sem, Nat.reduceAdd, Nat.reduceLeDiff, Nat.reduceSub, Int.reduceToNat, reduceCtorEq]
        first | exact AE.meet () trivial (by repeat (first | exact Sub.nil _ | refine Sub.cons rfl ?_)) rfl | (simp only [tkH, tkCells]; refine AE.rename 5 7 rfl rfl rfl ?_; simp only [go_sem, Nat.reduceAdd, Nat.reduceLeDiff, Nat.reduceSub, Int.reduceToNat, reduceCtorEq]; refine AE.rename 6 5 rfl rfl rfl ?_; simp only [go_sem, Nat.reduceAdd, Nat.reduceLeDiff, Nat.reduceSub, Int.reduceToNat, reduceCtorEq]; refine AE.rename 7 6 rfl rfl rfl ?_; simp only [go_sem, Nat.reduceAdd, Nat.reduceLeDiff, Nat.reduceSub, Int.reduceToNat, reduceCtorEq]; refine AE.order [6, 5, 4, 3, 1, 0] rfl ?_; simp only [go_sem, Nat.reduceAdd, Nat.reduceLeDiff, Nat.reduceSub, Int.reduceToNat, reduceCtorEq]; exact AE.meet () trivial (by repeat (first | exact Sub.nil _ | refine Sub.cons rfl ?_)) rfl)
    have hle : decide (((t.sent.length : Nat) : Int) ≤ ((t.ans.length + k : Nat) : Int)) = false := by rw [decide_eq_false_iff_not]; omega
    repeat (first | refine xA ?_ | refine xB ?_ | refine xC ?_ | refine xE ?_ | refine xD ?_ | refine xK ?_ | refine xS ?_ | refine xM ?_ | refine xT ?_ | refine xF ?_ | ((first | refine xR ?_ | refine xW ?_ | refine vq_id ?_); simp only [go_sem, Nat.reduceAdd, Nat.reduceLeDiff, Nat.reduceSub, Int.reduceToNat, reduceCtorEq, msgR_len, hlk, hrn, hq2, hle, hgq, bne_self_eq_false, Bool.or_self, Bool.not_false, Int.toNat_natCast, List.map_cons, List.map_nil, List.length_cons, List.length_nil, List.take_succ_cons, List.take_zero, List.drop_zero, List.drop_succ_cons]) | (refine ⟨by first | omega | (intros; simp_all; done) | (intros; simp_all; omega), ?_⟩; try simp only [go_sem, Nat.reduceAdd, Nat.reduceLeDiff, Nat.reduceSub, Int.reduceToNat, reduceCtorEq, msgR_len, hlk, hrn, hq2, hle, hgq, bne_self_eq_false, Bool.or_self, Bool.not_false, Int.toNat_natCast, List.map_cons, List.map_nil, List.length_cons, List.length_nil, List.take_succ_cons, List.take_zero, List.drop_zero, List.drop_succ_cons]))
    refine AP.drawE 11 (Tree.node [] [0, 1, 2, 3, 4, 5] [6] [Tree.node [0, 1, 2, 3, 4] [] [7] [Tree.node [0] [8, 9] [10] [Tree.node [] [] [] []]]]) (by kernel_rfl) rfl (by kernel_rfl) (by kernel_rfl) ?_
    refine vd_node ?_
    simp only [go_sem, Nat.reduceAdd, Nat.reduceLeDiff, Nat.reduceSub, Int.reduceToNat, reduceCtorEq]
    repeat' (first | with_reducible exact True.intro | with_reducible refine And.intro (by omega) ?_ | with_reducible refine And.intro ?_ ?_ | (refine AQ.nx rfl ?_; simp only [go_sem, Nat.reduceAdd, Nat.reduceLeDiff, Nat.reduceSub, Int.reduceToNat, reduceCtorEq, msgR_len, hlk]) | (refine AQ.kill 3 ?_; simp only [go_sem, Nat.reduceAdd, Nat.reduceLeDiff, Nat.reduceSub, Int.reduceToNat, reduceCtorEq]; refine AQ.append (hnb := rfl) (rows := msgR (t.ans ++ outs.take k)) (es := 2) (by kernel_rfl) rfl rfl rfl (by rfl) Tryz.tk41 Tryz.sz26 (by show Option.map _ (zro Tryz.prog 26) = _; rw [Tryz.zr26]; rfl) Tryz.by26 (by rw [msgR_len, hlk]) (by rw [msgR_len, hlk]; simp only [List.length_cons, List.length_nil]; omega) (by rw [msgR_len, hlk]; simp only [List.length_cons, List.length_nil]; omega) ?_; simp only [go_sem, Nat.reduceAdd, Nat.reduceLeDiff, Nat.reduceSub, Int.reduceToNat, reduceCtorEq, msgR_len, hlk, List.length_cons, List.length_nil]) | refine AQ.done ?_ | (refine AQ.go (by kernel_rfl) ?_; simp only [go_sem, Nat.reduceAdd, Nat.reduceLeDiff, Nat.reduceSub, Int.reduceToNat, reduceCtorEq, msgR_len, hlk]; repeat (with_reducible refine And.intro (by omega) ?_); refine AQ.nx rfl ?_; simp only [go_sem, Nat.reduceAdd, Nat.reduceLeDiff, Nat.reduceSub, Int.reduceToNat, reduceCtorEq, msgR_len, hlk]))
    all_goals
      repeat (first | refine xA ?_ | refine xB ?_ | refine xC ?_ | refine xE ?_ | refine xD ?_ | refine xK ?_ | refine xS ?_ | refine xM ?_ | refine xT ?_ | refine xF ?_ | ((first | refine xR ?_ | refine xW ?_ | refine vq_id ?_); simp only [go_sem, Nat.reduceAdd, Nat.reduceLeDiff, Nat.reduceSub, Int.reduceToNat, reduceCtorEq, hw]) | (refine ⟨by first | omega | (intros; simp_all; done) | (intros; simp_all; omega), ?_⟩; try simp only [go_sem, Nat.reduceAdd, Nat.reduceLeDiff, Nat.reduceSub, Int.reduceToNat, reduceCtorEq, hw]))
      have e1 : msgR (t.ans ++ List.take k outs) ++ [[IV.v (Value.int .i64 a), IV.v (Value.int .i64 b), IV.v (Value.string (BA x))]] = msgR (t.ans ++ outs.take (k + 1)) := by
        rw [List.take_add_one, hm, Option.toList_some, ← List.append_assoc, ← msgR_snoc]
      have e2 : t.ans.length + k + 1 = (t.ans ++ outs.take (k + 1)).length := by rw [List.length_append, List.length_take]; omega
      rw [e1, e2]
      refine AE.forgets [6, 5, 4] rfl ?_
      simp only [go_sem, Nat.reduceAdd, Nat.reduceLeDiff, Nat.reduceSub, Int.reduceToNat, reduceCtorEq]
      exact AE.round (k + 1, c1) ⟨by show k + 1 ≤ _; omega, hch⟩ (by show outs.length - (k + 1) < outs.length - k; omega) (by repeat (first | exact Sub.nil _ | refine Sub.cons rfl ?_)) rfl
  · repeat (first | refine xA ?_ | refine xB ?_ | refine xC ?_ | refine xE ?_ | refine xD ?_ | refine xK ?_ | refine xS ?_ | refine xM ?_ | refine xT ?_ | refine xF ?_ | ((first | refine xR ?_ | refine xW ?_ | refine vq_id ?_); simp only [go_sem, Nat.reduceAdd, Nat.reduceLeDiff, Nat.reduceSub, Int.reduceToNat, reduceCtorEq]) | (refine ⟨by first | omega | (intros; simp_all; done) | (intros; simp_all; omega), ?_⟩; try simp only [go_sem, Nat.reduceAdd, Nat.reduceLeDiff, Nat.reduceSub, Int.reduceToNat, reduceCtorEq]))
    have hke : k = outs.length := by simp at hc; omega
    subst hke
    have hcc : c = c' := by rw [List.drop_of_length_le (Nat.le_refl _)] at hch; exact hch
    subst hcc
    rw [List.take_of_length_le (Nat.le_refl _)]
    exact AE.ret rfl ⟨rfl, trivial⟩ ⟨rfl, rfl⟩
end Go.Proofs.YtlpcdpjkdodmcaaGreatDoor
end

section
namespace Go.Proofs.YtlpcdpjkdodmcaaGreatDoor
open Go Go.AL Go.RowKit
set_option maxRecDepth 10000
set_option maxHeartbeats 4000000
theorem request_no (t : TSt) (k : Int) (b : List UInt8) (he : sendE t.c.p t.c.w t.c.s t.c.l k b ≠ 0) (hb : t.c.l.length ≤ 100000) :
    ACall Tryz.prog 23 [.ob 0 0, Iv k, Sv b] (tkH 1 2 t) (fun r H' => r = Bv true ∧ H' = tkH 3 4 t) := by
  have hsp := send_spec t.c.p t.c.w t.c.s t.c.l (by omega) k b
  rw [sendV, retS, if_neg he] at hsp
  have hne : (sendE t.c.p t.c.w t.c.s t.c.l k b != 0) = true := by simpa using he
  obtain ⟨e, hee⟩ : ∃ e, sendE t.c.p t.c.w t.c.s t.c.l k b = e := ⟨_, rfl⟩
  rw [hee] at hsp hne
  refine ACall.walk [0, 1, 2, 6, 7, 8, 9, 10, 11, 24, 36] [7, 8, 10] Tryz.func23 rfl Tryz.ntmps23 (by kernel_rfl) (by rfl) rfl fun W own I0 φ0 lay => ?_
  refine AP.rename 1 3 rfl rfl rfl ?_; simp only [go_sem, Nat.reduceAdd, Nat.reduceLeDiff, Nat.reduceSub, Int.reduceToNat, reduceCtorEq]; refine AP.rename 2 4 rfl rfl rfl ?_; simp only [go_sem, Nat.reduceAdd, Nat.reduceLeDiff, Nat.reduceSub, Int.reduceToNat, reduceCtorEq]
  repeat (first | refine xA ?_ | refine xB ?_ | refine xC ?_ | refine xE ?_ | refine xD ?_ | refine xK ?_ | refine xS ?_ | refine xM ?_ | refine xT ?_ | refine xF ?_ | ((first | refine xR ?_ | refine xW ?_ | refine vq_id ?_); simp only [go_sem, Nat.reduceAdd, Nat.reduceLeDiff, Nat.reduceSub, Int.reduceToNat, reduceCtorEq]) | (refine ⟨by first | omega | (intros; simp_all; done) | (intros; simp_all; omega), ?_⟩; try simp only [go_sem, Nat.reduceAdd, Nat.reduceLeDiff, Nat.reduceSub, Int.reduceToNat, reduceCtorEq]))
  refine AQ.fn (by kernel_rfl) rfl rfl rfl (hsp) rfl ?_
  repeat (first | refine xA ?_ | refine xB ?_ | refine xC ?_ | refine xE ?_ | refine xD ?_ | refine xK ?_ | refine xS ?_ | refine xM ?_ | refine xT ?_ | refine xF ?_ | ((first | refine xR ?_ | refine xW ?_ | refine vq_id ?_); simp only [go_sem, Nat.reduceAdd, Nat.reduceLeDiff, Nat.reduceSub, Int.reduceToNat, reduceCtorEq, hne]) | (refine ⟨by first | omega | (intros; simp_all; done) | (intros; simp_all; omega), ?_⟩; try simp only [go_sem, Nat.reduceAdd, Nat.reduceLeDiff, Nat.reduceSub, Int.reduceToNat, reduceCtorEq, hne]))
  exact AE.retD [6, 5] rfl ⟨rfl, trivial⟩ rfl ⟨rfl, rfl⟩
noncomputable def sendOk (c : CSt) (k : Int) (b : List UInt8) (c1 : CSt) (m : Msg) : Prop :=
  sendV c.p c.w c.s c.l k b = .tup [.agg [Iv c1.p, Iv c1.w, Iv c1.s, .im (.sl 8 (rqR c1.l))], .agg [Iv m.1, Iv m.2.1, Sv m.2.2], Iv 0] ∧ c.l.length ≤ 100000
noncomputable def takeOk (s : SSt) (m : Msg) (s1 : SSt) (outs : List Msg) : Prop :=
  retT (takeE s.p s.nm s.w s.n s.l m.1 m.2.1 m.2.2) (taken s.p s.nm s.w s.n s.l m.1 m.2.1 m.2.2) = okS s1.p s1.nm s1.w s1.n s1.l outs 0 ∧ s.l.length ≤ 100000 ∧ s.nm.length ≤ 1000000000000
theorem request_ok (t : TSt) (k : Int) (b : List UInt8) (c1 c2 : CSt) (s1 : SSt) (m : Msg) (outs : List Msg) (h1 : sendOk t.c k b c1 m) (h2 : takeOk t.s m s1 outs) (h3 : delChain c1 outs c2)
    (hb : t.sent.length + 1 ≤ 100000) (hb2 : t.ans.length + outs.length ≤ t.sent.length + 1) (hn : ∀ j m', outs[j]? = some m' → ∃ q, (t.sent ++ [m])[t.ans.length + j]? = some q ∧ q.2.1 = m'.2.1) :
    ACall Tryz.prog 23 [.ob 0 0, Iv k, Sv b] (tkH 1 2 t) (fun r H' => r = Bv true ∧ H' = tkH 3 4 ⟨c2, s1, t.sent ++ [m], t.ans ++ outs⟩) := by
  have hsp := send_spec t.c.p t.c.w t.c.s t.c.l (by have := h1.2; omega) k b
  rw [h1.1] at hsp
  have hst := take_spec t.s.p t.s.nm t.s.w t.s.n t.s.l h2.2.1 h2.2.2 m.1 m.2.1 m.2.2
  rw [h2.1, okS] at hst
  have hdl := deliver_spec ⟨c1, s1, t.sent ++ [m], t.ans⟩ outs c2 h3 (by simp; omega) (by simp; omega) hn
  refine ACall.walk [0, 1, 2, 6, 7, 8, 9, 10, 11, 24, 36] [7, 8, 10] Tryz.func23 rfl Tryz.ntmps23 (by kernel_rfl) (by rfl) rfl fun W own I0 φ0 lay => ?_
  refine AP.rename 1 3 rfl rfl rfl ?_; simp only [go_sem, Nat.reduceAdd, Nat.reduceLeDiff, Nat.reduceSub, Int.reduceToNat, reduceCtorEq]; refine AP.rename 2 4 rfl rfl rfl ?_; simp only [go_sem, Nat.reduceAdd, Nat.reduceLeDiff, Nat.reduceSub, Int.reduceToNat, reduceCtorEq]
  repeat (first | refine xA ?_ | refine xB ?_ | refine xC ?_ | refine xE ?_ | refine xD ?_ | refine xK ?_ | refine xS ?_ | refine xM ?_ | refine xT ?_ | refine xF ?_ | ((first | refine xR ?_ | refine xW ?_ | refine vq_id ?_); simp only [go_sem, Nat.reduceAdd, Nat.reduceLeDiff, Nat.reduceSub, Int.reduceToNat, reduceCtorEq]) | (refine ⟨by first | omega | (intros; simp_all; done) | (intros; simp_all; omega), ?_⟩; try simp only [go_sem, Nat.reduceAdd, Nat.reduceLeDiff, Nat.reduceSub, Int.reduceToNat, reduceCtorEq]))
  refine AQ.fn (by kernel_rfl) rfl rfl rfl (hsp) rfl ?_
  repeat (first | refine xA ?_ | refine xB ?_ | refine xC ?_ | refine xE ?_ | refine xD ?_ | refine xK ?_ | refine xS ?_ | refine xM ?_ | refine xT ?_ | refine xF ?_ | ((first | refine xR ?_ | refine xW ?_ | refine vq_id ?_); simp only [go_sem, Nat.reduceAdd, Nat.reduceLeDiff, Nat.reduceSub, Int.reduceToNat, reduceCtorEq]) | (refine ⟨by first | omega | (intros; simp_all; done) | (intros; simp_all; omega), ?_⟩; try simp only [go_sem, Nat.reduceAdd, Nat.reduceLeDiff, Nat.reduceSub, Int.reduceToNat, reduceCtorEq]))
  refine AP.cut (α := Unit) (fun _ => [(0, .ob 0 0), (7, .ob 5 0), (8, .ob 6 0), (9, Iv 0), (10, .ob 7 0), (11, .im (.sl 3 (msgR outs)))])
    (fun _ => (7, .var 24 [Iv s1.p, Sv s1.nm, Iv s1.w, Iv s1.n, .im (.sl 8 (rqR s1.l))]) :: (6, .var 26 [Iv m.1, Iv m.2.1, Sv m.2.2]) :: (5, .var 64 [Iv c1.p, Iv c1.w, Iv c1.s, .im (.sl 8 (rqR c1.l))]) :: tkH 3 4 t) (fun _ => True) ?_ fun _ _ => ?_
  · skip
    refine AP.drawE 14 (Tree.node [] [0, 1, 2, 3, 4] [5, 10] [Tree.node [] [6, 7, 8, 9] [10] [Tree.node [6, 7, 8, 9] [] [11] [Tree.node [8, 9] [12, 13] [] []]], Tree.node [0, 1, 2, 3, 4] [] [5] [Tree.node [] [6, 7, 8, 9] [11] [Tree.node [8, 9] [12, 13] [] []]]]) (by kernel_rfl) rfl (by kernel_rfl) (by kernel_rfl) ?_
    refine vd_node ?_
    simp only [go_sem, Nat.reduceAdd, Nat.reduceLeDiff, Nat.reduceSub, Int.reduceToNat, reduceCtorEq]
    repeat' (first | with_reducible exact True.intro | with_reducible refine And.intro (by omega) ?_ | with_reducible refine And.intro ?_ ?_ | (refine AQ.nx rfl ?_; simp only [go_sem, Nat.reduceAdd, Nat.reduceLeDiff, Nat.reduceSub, Int.reduceToNat, reduceCtorEq]) | (refine AQ.fn (by kernel_rfl) rfl rfl rfl (hst) rfl ?_; simp only [go_sem, Nat.reduceAdd, Nat.reduceLeDiff, Nat.reduceSub, Int.reduceToNat, reduceCtorEq]) | refine AQ.done ?_ | (refine AQ.go (by kernel_rfl) ?_; simp only [go_sem, Nat.reduceAdd, Nat.reduceLeDiff, Nat.reduceSub, Int.reduceToNat, reduceCtorEq]; repeat (with_reducible refine And.intro (by omega) ?_); refine AQ.nx rfl ?_; simp only [go_sem, Nat.reduceAdd, Nat.reduceLeDiff, Nat.reduceSub, Int.reduceToNat, reduceCtorEq]))
    all_goals
      simp only [go_sem, Nat.reduceAdd, Nat.reduceLeDiff, Nat.reduceSub, Int.reduceToNat, reduceCtorEq]
      exact AE.meet () trivial (by repeat (first | exact Sub.nil _ | refine Sub.cons rfl ?_)) rfl
  repeat (first | refine xA ?_ | refine xB ?_ | refine xC ?_ | refine xE ?_ | refine xD ?_ | refine xK ?_ | refine xS ?_ | refine xM ?_ | refine xT ?_ | refine xF ?_ | ((first | refine xR ?_ | refine xW ?_ | refine vq_id ?_); simp only [go_sem, Nat.reduceAdd, Nat.reduceLeDiff, Nat.reduceSub, Int.reduceToNat, reduceCtorEq]) | (refine ⟨by first | omega | (intros; simp_all; done) | (intros; simp_all; omega), ?_⟩; try simp only [go_sem, Nat.reduceAdd, Nat.reduceLeDiff, Nat.reduceSub, Int.reduceToNat, reduceCtorEq]))
  refine AP.cut (α := Unit) (fun _ => [(0, .ob 0 0), (8, .ob 6 0), (11, .im (.sl 3 (msgR outs)))])
    (fun _ => (7, .var 24 [Iv s1.p, Sv s1.nm, Iv s1.w, Iv s1.n, .im (.sl 8 (rqR s1.l))]) :: (6, .var 26 [Iv m.1, Iv m.2.1, Sv m.2.2]) :: (5, .var 64 [Iv c1.p, Iv c1.w, Iv c1.s, .im (.sl 8 (rqR c1.l))]) :: tkH 3 4 ⟨c1, s1, t.sent, t.ans⟩) (fun _ => True) ?_ fun _ _ => ?_
  · skip
    refine AP.drawE 10 (Tree.node [] [0, 1, 2, 3, 4, 5] [6] [Tree.node [1, 3] [7, 8] [9] [Tree.node [] [] [] []]]) (by kernel_rfl) rfl (by kernel_rfl) (by kernel_rfl) ?_
    refine vd_node ?_
    simp only [go_sem, Nat.reduceAdd, Nat.reduceLeDiff, Nat.reduceSub, Int.reduceToNat, reduceCtorEq]
    repeat' (first | with_reducible exact True.intro | with_reducible refine And.intro (by omega) ?_ | with_reducible refine And.intro ?_ ?_ | (refine AQ.nx rfl ?_; simp only [go_sem, Nat.reduceAdd, Nat.reduceLeDiff, Nat.reduceSub, Int.reduceToNat, reduceCtorEq]) | refine AQ.skip (by kernel_rfl) rfl ?_ | refine AQ.done ?_ | (refine AQ.go (by kernel_rfl) ?_; simp only [go_sem, Nat.reduceAdd, Nat.reduceLeDiff, Nat.reduceSub, Int.reduceToNat, reduceCtorEq]; repeat (with_reducible refine And.intro (by omega) ?_); refine AQ.nx rfl ?_; simp only [go_sem, Nat.reduceAdd, Nat.reduceLeDiff, Nat.reduceSub, Int.reduceToNat, reduceCtorEq]))
    all_goals
      simp only [go_sem, Nat.reduceAdd, Nat.reduceLeDiff, Nat.reduceSub, Int.reduceToNat, reduceCtorEq]
      exact AE.meet () trivial (by repeat (first | exact Sub.nil _ | refine Sub.cons rfl ?_)) rfl
  repeat (first | refine xA ?_ | refine xB ?_ | refine xC ?_ | refine xE ?_ | refine xD ?_ | refine xK ?_ | refine xS ?_ | refine xM ?_ | refine xT ?_ | refine xF ?_ | ((first | refine xR ?_ | refine xW ?_ | refine vq_id ?_); simp only [go_sem, Nat.reduceAdd, Nat.reduceLeDiff, Nat.reduceSub, Int.reduceToNat, reduceCtorEq]) | (refine ⟨by first | omega | (intros; simp_all; done) | (intros; simp_all; omega), ?_⟩; try simp only [go_sem, Nat.reduceAdd, Nat.reduceLeDiff, Nat.reduceSub, Int.reduceToNat, reduceCtorEq]))
  refine AP.drawE 11 (Tree.node [] [0, 1, 2, 3, 4, 5] [6] [Tree.node [0, 1, 2, 3, 4] [] [7] [Tree.node [0] [8, 9] [10] [Tree.node [] [] [] []]]]) (by kernel_rfl) rfl (by kernel_rfl) (by kernel_rfl) ?_
  refine vd_node ?_
  simp only [go_sem, Nat.reduceAdd, Nat.reduceLeDiff, Nat.reduceSub, Int.reduceToNat, reduceCtorEq]
  repeat' (first | with_reducible exact True.intro | with_reducible refine And.intro (by omega) ?_ | with_reducible refine And.intro ?_ ?_ | (refine AQ.nx rfl ?_; simp only [go_sem, Nat.reduceAdd, Nat.reduceLeDiff, Nat.reduceSub, Int.reduceToNat, reduceCtorEq, msgR_len]) | (refine AQ.kill 3 ?_; simp only [go_sem, Nat.reduceAdd, Nat.reduceLeDiff, Nat.reduceSub, Int.reduceToNat, reduceCtorEq]; refine AQ.append (hnb := rfl) (rows := msgR t.sent) (es := 2) (by kernel_rfl) rfl rfl rfl (by rfl) Tryz.tk41 Tryz.sz26 (by show Option.map _ (zro Tryz.prog 26) = _; rw [Tryz.zr26]; rfl) Tryz.by26 (by rw [msgR_len]) (by rw [msgR_len]; simp only [List.length_cons, List.length_nil]; omega) (by rw [msgR_len]; simp only [List.length_cons, List.length_nil]; omega) ?_; simp only [go_sem, Nat.reduceAdd, Nat.reduceLeDiff, Nat.reduceSub, Int.reduceToNat, reduceCtorEq, msgR_len, List.length_cons, List.length_nil]) | refine AQ.done ?_ | (refine AQ.go (by kernel_rfl) ?_; simp only [go_sem, Nat.reduceAdd, Nat.reduceLeDiff, Nat.reduceSub, Int.reduceToNat, reduceCtorEq, msgR_len]; repeat (with_reducible refine And.intro (by omega) ?_); refine AQ.nx rfl ?_; simp only [go_sem, Nat.reduceAdd, Nat.reduceLeDiff, Nat.reduceSub, Int.reduceToNat, reduceCtorEq, msgR_len]))
  all_goals
    repeat (first | refine xA ?_ | refine xB ?_ | refine xC ?_ | refine xE ?_ | refine xD ?_ | refine xK ?_ | refine xS ?_ | refine xM ?_ | refine xT ?_ | refine xF ?_ | ((first | refine xR ?_ | refine xW ?_ | refine vq_id ?_); simp only [go_sem, Nat.reduceAdd, Nat.reduceLeDiff, Nat.reduceSub, Int.reduceToNat, reduceCtorEq]) | (refine ⟨by first | omega | (intros; simp_all; done) | (intros; simp_all; omega), ?_⟩; try simp only [go_sem, Nat.reduceAdd, Nat.reduceLeDiff, Nat.reduceSub, Int.reduceToNat, reduceCtorEq]))
    have e1 : msgR t.sent ++ [[IV.v (Value.int .i64 m.1), IV.v (Value.int .i64 m.2.1), IV.v (Value.string (BA m.2.2))]] = msgR (t.sent ++ [m]) := msgR_snoc _ _
    have e2 : t.sent.length + 1 = (t.sent ++ [m]).length := by simp
    rw [e1, e2]
    refine AQ.callH [(2, 4), (1, 3), (0, 0)] (by kernel_rfl) rfl rfl rfl rfl rfl rfl (by exact ⟨rfl, rfl, rfl, trivial⟩) rfl hdl fun z H1 ⟨h1, h2⟩ => ?_
    subst h1
    subst h2
    refine ⟨rfl, ?_⟩
    simp only [go_sem, Nat.reduceAdd, Nat.reduceLeDiff, Nat.reduceSub, Int.reduceToNat, reduceCtorEq]
    refine AQ.rename 11 4 rfl rfl rfl ?_; simp only [go_sem, Nat.reduceAdd, Nat.reduceLeDiff, Nat.reduceSub, Int.reduceToNat, reduceCtorEq]
    repeat (first | refine xA ?_ | refine xB ?_ | refine xC ?_ | refine xE ?_ | refine xD ?_ | refine xK ?_ | refine xS ?_ | refine xM ?_ | refine xT ?_ | refine xF ?_ | ((first | refine xR ?_ | refine xW ?_ | refine vq_id ?_); simp only [go_sem, Nat.reduceAdd, Nat.reduceLeDiff, Nat.reduceSub, Int.reduceToNat, reduceCtorEq]) | (refine ⟨by first | omega | (intros; simp_all; done) | (intros; simp_all; omega), ?_⟩; try simp only [go_sem, Nat.reduceAdd, Nat.reduceLeDiff, Nat.reduceSub, Int.reduceToNat, reduceCtorEq]))
    exact AE.retD [7, 6, 5] rfl ⟨rfl, trivial⟩ rfl ⟨rfl, rfl⟩
noncomputable def ansOk (s : SSt) (id : Int) (m : Msg) (s1 : SSt) (outs : List Msg) : Prop :=
  ansV s.p s.nm s.w s.n s.l id m.1 m.2.1 m.2.2 = okS s1.p s1.nm s1.w s1.n s1.l outs 0 ∧ s.l.length ≤ 100000 ∧ s.nm.length ≤ 1000000000000
abbrev U8v (x : Int) : AV := .im (.v (.int .u8 x))
theorem reply_none (t : TSt) (a0 : Bool) (k0 : Int) (x : Nat) (b : List UInt8) (hs : srvC t.s.p t.s.nm t.s.w t.s.n t.s.l = true) (ho : openQ t.s.l = []) (h1 : t.s.l.length ≤ 100000) (h2 : t.s.nm.length ≤ 1000000000000) :
    ACall Tryz.prog 24 [.ob 0 0, .agg [Bv a0, U8v k0, U8v x, Sv b]] (tkH 1 2 t) (fun r H' => r = Bv true ∧ H' = tkH 1 3 t) := by
  have hp := pend_spec t.s.p t.s.nm t.s.w t.s.n t.s.l (by omega) h2
  rw [pendV, if_neg (by rw [hs]; decide), ho] at hp
  refine ACall.walk [0, 1, 3, 4, 5, 6, 7, 8, 9, 10, 20, 23, 51] [3, 7, 8, 9] Tryz.func24 rfl Tryz.ntmps24 (by kernel_rfl) (by rfl) rfl fun W own I0 φ0 lay => ?_
  refine AP.rename 2 3 rfl rfl rfl ?_; simp only [go_sem, Nat.reduceAdd, Nat.reduceLeDiff, Nat.reduceSub, Int.reduceToNat, reduceCtorEq]
  repeat (first | refine xA ?_ | refine xB ?_ | refine xC ?_ | refine xE ?_ | refine xD ?_ | refine xK ?_ | refine xS ?_ | refine xM ?_ | refine xT ?_ | refine xF ?_ | ((first | refine xR ?_ | refine xW ?_ | refine vq_id ?_); simp only [go_sem, Nat.reduceAdd, Nat.reduceLeDiff, Nat.reduceSub, Int.reduceToNat, reduceCtorEq]) | (refine ⟨by first | omega | (intros; simp_all; done) | (intros; simp_all; omega), ?_⟩; try simp only [go_sem, Nat.reduceAdd, Nat.reduceLeDiff, Nat.reduceSub, Int.reduceToNat, reduceCtorEq]))
  refine AQ.fn (by kernel_rfl) rfl rfl rfl (hp) rfl ?_
  repeat (first | refine xA ?_ | refine xB ?_ | refine xC ?_ | refine xE ?_ | refine xD ?_ | refine xK ?_ | refine xS ?_ | refine xM ?_ | refine xT ?_ | refine xF ?_ | ((first | refine xR ?_ | refine xW ?_ | refine vq_id ?_); simp only [go_sem, Nat.reduceAdd, Nat.reduceLeDiff, Nat.reduceSub, Int.reduceToNat, reduceCtorEq]) | (refine ⟨by first | omega | (intros; simp_all; done) | (intros; simp_all; omega), ?_⟩; try simp only [go_sem, Nat.reduceAdd, Nat.reduceLeDiff, Nat.reduceSub, Int.reduceToNat, reduceCtorEq]))
  exact AE.retD [4] rfl ⟨rfl, trivial⟩ rfl ⟨rfl, rfl⟩
theorem reply_ok (t : TSt) (a0 : Bool) (k0 : Int) (x : Nat) (hx : x < 256) (b : List UInt8) (r : Rq) (s1 : SSt) (c2 : CSt) (outs : List Msg) (hs : srvC t.s.p t.s.nm t.s.w t.s.n t.s.l = true) (h1 : t.s.l.length ≤ 100000) (h2 : t.s.nm.length ≤ 1000000000000)
    (hr : (openQ t.s.l)[x % (openQ t.s.l).length]? = some r) (h3 : ansOk t.s r.n (8, r.n, b) s1 outs) (h4 : delChain t.c outs c2)
    (hb : t.sent.length ≤ 100000) (hb2 : t.ans.length + outs.length ≤ t.sent.length) (hn : ∀ j m', outs[j]? = some m' → ∃ q, t.sent[t.ans.length + j]? = some q ∧ q.2.1 = m'.2.1) :
    ACall Tryz.prog 24 [.ob 0 0, .agg [Bv a0, U8v k0, U8v x, Sv b]] (tkH 1 2 t) (fun r H' => r = Bv true ∧ H' = tkH 1 3 ⟨c2, s1, t.sent, t.ans ++ outs⟩) := by
  have hp := pend_spec t.s.p t.s.nm t.s.w t.s.n t.s.l (by omega) h2
  rw [pendV, if_neg (by rw [hs]; decide)] at hp
  have hax := answer_spec t.s.p t.s.nm t.s.w t.s.n t.s.l (by omega) h2 r.n 8 r.n b
  rw [h3.1, okS] at hax
  have hdl := deliver_spec ⟨t.c, s1, t.sent, t.ans⟩ outs c2 h4 hb hb2 hn
  have hlen := (List.getElem?_eq_some_iff.1 hr).1
  have hpos : 0 < (openQ t.s.l).length := by
    rcases Nat.eq_zero_or_pos (openQ t.s.l).length with h | h
    · rw [h] at hlen; omega
    · exact h
  have hle := List.length_filter_le (fun r : Rq => !r.a) t.s.l
  obtain ⟨L, hL⟩ : ∃ L, openQ t.s.l = L := ⟨_, rfl⟩
  rw [show t.s.l.filter (fun r : Rq => !r.a) = openQ t.s.l from rfl] at hle
  rw [hL] at hp hr hlen hpos hle
  obtain ⟨r', hr', hg⟩ := rqR_get L _ hlen
  rw [hr] at hr'
  cases hr'
  have hm : (x : Int).tmod (L.length : Int) = ((x % L.length : Nat) : Int) := by rw [← Int.ofNat_tmod]
  have hwx := wr (x := (x : Int)) (by omega)
  have hz : (((L.length : Nat) : Int) == 0) = false := by rw [beq_eq_false_iff_ne]; omega
  have hmw := wr (x := ((x % L.length : Nat) : Int)) (by have := Nat.mod_lt x hpos; constructor <;> omega)
  refine ACall.walk [0, 1, 3, 4, 5, 6, 7, 8, 9, 10, 20, 23, 51] [3, 7, 8, 9] Tryz.func24 rfl Tryz.ntmps24 (by kernel_rfl) (by rfl) rfl fun W own I0 φ0 lay => ?_
  refine AP.rename 2 3 rfl rfl rfl ?_; simp only [go_sem, Nat.reduceAdd, Nat.reduceLeDiff, Nat.reduceSub, Int.reduceToNat, reduceCtorEq]
  repeat (first | refine xA ?_ | refine xB ?_ | refine xC ?_ | refine xE ?_ | refine xD ?_ | refine xK ?_ | refine xS ?_ | refine xM ?_ | refine xT ?_ | refine xF ?_ | ((first | refine xR ?_ | refine xW ?_ | refine vq_id ?_); simp only [go_sem, Nat.reduceAdd, Nat.reduceLeDiff, Nat.reduceSub, Int.reduceToNat, reduceCtorEq]) | (refine ⟨by first | omega | (intros; simp_all; done) | (intros; simp_all; omega), ?_⟩; try simp only [go_sem, Nat.reduceAdd, Nat.reduceLeDiff, Nat.reduceSub, Int.reduceToNat, reduceCtorEq]))
  refine AQ.fn (by kernel_rfl) rfl rfl rfl (hp) rfl ?_
  repeat (first | refine xA ?_ | refine xB ?_ | refine xC ?_ | refine xE ?_ | refine xD ?_ | refine xK ?_ | refine xS ?_ | refine xM ?_ | refine xT ?_ | refine xF ?_ | ((first | refine xR ?_ | refine xW ?_ | refine vq_id ?_); simp only [go_sem, Nat.reduceAdd, Nat.reduceLeDiff, Nat.reduceSub, Int.reduceToNat, reduceCtorEq, rqR_len, hz, hwx, hm, hmw, hg, Int.toNat_natCast, List.map_cons, List.map_nil, List.length_cons, List.length_nil, List.take_succ_cons, List.take_zero, List.drop_zero]) | (refine ⟨by first | omega | (intros; simp_all; done) | (intros; simp_all; omega), ?_⟩; try simp only [go_sem, Nat.reduceAdd, Nat.reduceLeDiff, Nat.reduceSub, Int.reduceToNat, reduceCtorEq, rqR_len, hz, hwx, hm, hmw, hg, Int.toNat_natCast, List.map_cons, List.map_nil, List.length_cons, List.length_nil, List.take_succ_cons, List.take_zero, List.drop_zero]))
  refine AP.cut (α := Unit) (fun _ => [(0, .ob 0 0), (6, Iv 0), (3, .ob 4 0), (9, .ob 7 0), (10, .im (.sl 3 (msgR outs)))])
    (fun _ => (7, .var 24 [Iv s1.p, Sv s1.nm, Iv s1.w, Iv s1.n, .im (.sl 8 (rqR s1.l))]) :: (6, .var 26 [Iv 8, Iv r.n, Sv b]) :: (5, .var 82 [Iv r.n, Iv r.k, Sv r.b, Bv r.c, Bv r.a, Iv r.ak, Iv r.an, Sv r.ab]) :: (4, .var 69 [Bv a0, U8v k0, U8v x, Sv b]) :: tkH 1 3 t) (fun _ => True) ?_ fun _ _ => ?_
  · skip
    refine AP.drawE 16 (Tree.node [] [0, 1, 2, 3, 4, 5, 6] [7, 12] [Tree.node [] [8, 9, 10, 11] [12] [Tree.node [8, 9, 10, 11] [] [13] [Tree.node [10, 11] [14, 15] [] []]], Tree.node [0, 1, 2, 3, 4, 5, 6] [] [7] [Tree.node [] [8, 9, 10, 11] [13] [Tree.node [10, 11] [14, 15] [] []]]]) (by kernel_rfl) rfl (by kernel_rfl) (by kernel_rfl) ?_
    refine vd_node ?_
    simp only [go_sem, Nat.reduceAdd, Nat.reduceLeDiff, Nat.reduceSub, Int.reduceToNat, reduceCtorEq]
    repeat' (first | with_reducible exact True.intro | with_reducible refine And.intro (by omega) ?_ | with_reducible refine And.intro ?_ ?_ | (refine AQ.nx rfl ?_; simp only [go_sem, Nat.reduceAdd, Nat.reduceLeDiff, Nat.reduceSub, Int.reduceToNat, reduceCtorEq]) | (refine AQ.fn (by kernel_rfl) rfl rfl rfl (hax) rfl ?_; simp only [go_sem, Nat.reduceAdd, Nat.reduceLeDiff, Nat.reduceSub, Int.reduceToNat, reduceCtorEq]) | refine AQ.done ?_ | (refine AQ.go (by kernel_rfl) ?_; simp only [go_sem, Nat.reduceAdd, Nat.reduceLeDiff, Nat.reduceSub, Int.reduceToNat, reduceCtorEq]; repeat (with_reducible refine And.intro (by omega) ?_); refine AQ.nx rfl ?_; simp only [go_sem, Nat.reduceAdd, Nat.reduceLeDiff, Nat.reduceSub, Int.reduceToNat, reduceCtorEq]))
    all_goals
      simp only [go_sem, Nat.reduceAdd, Nat.reduceLeDiff, Nat.reduceSub, Int.reduceToNat, reduceCtorEq]
      exact AE.meet () trivial (by repeat (first | exact Sub.nil _ | refine Sub.cons rfl ?_)) rfl
  repeat (first | refine xA ?_ | refine xB ?_ | refine xC ?_ | refine xE ?_ | refine xD ?_ | refine xK ?_ | refine xS ?_ | refine xM ?_ | refine xT ?_ | refine xF ?_ | ((first | refine xR ?_ | refine xW ?_ | refine vq_id ?_); simp only [go_sem, Nat.reduceAdd, Nat.reduceLeDiff, Nat.reduceSub, Int.reduceToNat, reduceCtorEq]) | (refine ⟨by first | omega | (intros; simp_all; done) | (intros; simp_all; omega), ?_⟩; try simp only [go_sem, Nat.reduceAdd, Nat.reduceLeDiff, Nat.reduceSub, Int.reduceToNat, reduceCtorEq]))
  refine AQ.callH [(2, 3), (1, 1), (0, 0)] (by kernel_rfl) rfl rfl rfl rfl rfl rfl (by exact ⟨rfl, rfl, rfl, trivial⟩) rfl hdl fun z H1 ⟨h1, h2⟩ => ?_
  subst h1
  subst h2
  refine ⟨rfl, ?_⟩
  simp only [go_sem, Nat.reduceAdd, Nat.reduceLeDiff, Nat.reduceSub, Int.reduceToNat, reduceCtorEq]
  refine AQ.rename 11 3 rfl rfl rfl ?_; simp only [go_sem, Nat.reduceAdd, Nat.reduceLeDiff, Nat.reduceSub, Int.reduceToNat, reduceCtorEq]
  repeat (first | refine xA ?_ | refine xB ?_ | refine xC ?_ | refine xE ?_ | refine xD ?_ | refine xK ?_ | refine xS ?_ | refine xM ?_ | refine xT ?_ | refine xF ?_ | ((first | refine xR ?_ | refine xW ?_ | refine vq_id ?_); simp only [go_sem, Nat.reduceAdd, Nat.reduceLeDiff, Nat.reduceSub, Int.reduceToNat, reduceCtorEq]) | (refine ⟨by first | omega | (intros; simp_all; done) | (intros; simp_all; omega), ?_⟩; try simp only [go_sem, Nat.reduceAdd, Nat.reduceLeDiff, Nat.reduceSub, Int.reduceToNat, reduceCtorEq]))
  exact AE.retD [7, 6, 5, 4] rfl ⟨rfl, trivial⟩ rfl ⟨rfl, rfl⟩
theorem reply_err (t : TSt) (a0 : Bool) (k0 : Int) (x : Nat) (hx : x < 256) (b : List UInt8) (r : Rq) (e : Int) (hs : srvC t.s.p t.s.nm t.s.w t.s.n t.s.l = true) (h1 : t.s.l.length ≤ 100000) (h2 : t.s.nm.length ≤ 1000000000000)
    (hr : (openQ t.s.l)[x % (openQ t.s.l).length]? = some r) (h3 : ansV t.s.p t.s.nm t.s.w t.s.n t.s.l r.n 8 r.n b = failS e) (he : e ≠ 0) :
    ACall Tryz.prog 24 [.ob 0 0, .agg [Bv a0, U8v k0, U8v x, Sv b]] (tkH 1 2 t) (fun r H' => r = Bv (decide (20000 < (b.length : Int))) ∧ H' = tkH 1 3 t) := by
  have hp := pend_spec t.s.p t.s.nm t.s.w t.s.n t.s.l (by omega) h2
  rw [pendV, if_neg (by rw [hs]; decide)] at hp
  have hax := answer_spec t.s.p t.s.nm t.s.w t.s.n t.s.l (by omega) h2 r.n 8 r.n b
  rw [h3, failS, okS] at hax
  have hne : (e != 0) = true := by simpa using he
  have hlen := (List.getElem?_eq_some_iff.1 hr).1
  have hpos : 0 < (openQ t.s.l).length := by
    rcases Nat.eq_zero_or_pos (openQ t.s.l).length with h | h
    · rw [h] at hlen; omega
    · exact h
  have hle := List.length_filter_le (fun r : Rq => !r.a) t.s.l
  obtain ⟨L, hL⟩ : ∃ L, openQ t.s.l = L := ⟨_, rfl⟩
  rw [show t.s.l.filter (fun r : Rq => !r.a) = openQ t.s.l from rfl] at hle
  rw [hL] at hp hr hlen hpos hle
  obtain ⟨r', hr', hg⟩ := rqR_get L _ hlen
  rw [hr] at hr'
  cases hr'
  have hm : (x : Int).tmod (L.length : Int) = ((x % L.length : Nat) : Int) := by rw [← Int.ofNat_tmod]
  have hwx := wr (x := (x : Int)) (by omega)
  have hz : (((L.length : Nat) : Int) == 0) = false := by rw [beq_eq_false_iff_ne]; omega
  have hmw := wr (x := ((x % L.length : Nat) : Int)) (by have := Nat.mod_lt x hpos; constructor <;> omega)
  refine ACall.walk [0, 1, 3, 4, 5, 6, 7, 8, 9, 10, 20, 23, 51] [3, 7, 8, 9] Tryz.func24 rfl Tryz.ntmps24 (by kernel_rfl) (by rfl) rfl fun W own I0 φ0 lay => ?_
  refine AP.rename 2 3 rfl rfl rfl ?_; simp only [go_sem, Nat.reduceAdd, Nat.reduceLeDiff, Nat.reduceSub, Int.reduceToNat, reduceCtorEq]
  repeat (first | refine xA ?_ | refine xB ?_ | refine xC ?_ | refine xE ?_ | refine xD ?_ | refine xK ?_ | refine xS ?_ | refine xM ?_ | refine xT ?_ | refine xF ?_ | ((first | refine xR ?_ | refine xW ?_ | refine vq_id ?_); simp only [go_sem, Nat.reduceAdd, Nat.reduceLeDiff, Nat.reduceSub, Int.reduceToNat, reduceCtorEq]) | (refine ⟨by first | omega | (intros; simp_all; done) | (intros; simp_all; omega), ?_⟩; try simp only [go_sem, Nat.reduceAdd, Nat.reduceLeDiff, Nat.reduceSub, Int.reduceToNat, reduceCtorEq]))
  refine AQ.fn (by kernel_rfl) rfl rfl rfl (hp) rfl ?_
  repeat (first | refine xA ?_ | refine xB ?_ | refine xC ?_ | refine xE ?_ | refine xD ?_ | refine xK ?_ | refine xS ?_ | refine xM ?_ | refine xT ?_ | refine xF ?_ | ((first | refine xR ?_ | refine xW ?_ | refine vq_id ?_); simp only [go_sem, Nat.reduceAdd, Nat.reduceLeDiff, Nat.reduceSub, Int.reduceToNat, reduceCtorEq, rqR_len, hz, hwx, hm, hmw, hg, Int.toNat_natCast, List.map_cons, List.map_nil, List.length_cons, List.length_nil, List.take_succ_cons, List.take_zero, List.drop_zero]) | (refine ⟨by first | omega | (intros; simp_all; done) | (intros; simp_all; omega), ?_⟩; try simp only [go_sem, Nat.reduceAdd, Nat.reduceLeDiff, Nat.reduceSub, Int.reduceToNat, reduceCtorEq, rqR_len, hz, hwx, hm, hmw, hg, Int.toNat_natCast, List.map_cons, List.map_nil, List.length_cons, List.length_nil, List.take_succ_cons, List.take_zero, List.drop_zero]))
  refine AP.cut (α := Unit) (fun _ => [(0, .ob 0 0), (6, Iv e), (3, .ob 4 0)])
    (fun _ => (7, .var 24 [Iv 0, Sv [], Iv 0, Iv 0, .im (.sl 8 (rqR []))]) :: (6, .var 26 [Iv 8, Iv r.n, Sv b]) :: (5, .var 82 [Iv r.n, Iv r.k, Sv r.b, Bv r.c, Bv r.a, Iv r.ak, Iv r.an, Sv r.ab]) :: (4, .var 69 [Bv a0, U8v k0, U8v x, Sv b]) :: tkH 1 3 t) (fun _ => True) ?_ fun _ _ => ?_
  · skip
    refine AP.drawE 16 (Tree.node [] [0, 1, 2, 3, 4, 5, 6] [7, 12] [Tree.node [] [8, 9, 10, 11] [12] [Tree.node [8, 9, 10, 11] [] [13] [Tree.node [10, 11] [14, 15] [] []]], Tree.node [0, 1, 2, 3, 4, 5, 6] [] [7] [Tree.node [] [8, 9, 10, 11] [13] [Tree.node [10, 11] [14, 15] [] []]]]) (by kernel_rfl) rfl (by kernel_rfl) (by kernel_rfl) ?_
    refine vd_node ?_
    simp only [go_sem, Nat.reduceAdd, Nat.reduceLeDiff, Nat.reduceSub, Int.reduceToNat, reduceCtorEq]
    repeat' (first | with_reducible exact True.intro | with_reducible refine And.intro (by omega) ?_ | with_reducible refine And.intro ?_ ?_ | (refine AQ.nx rfl ?_; simp only [go_sem, Nat.reduceAdd, Nat.reduceLeDiff, Nat.reduceSub, Int.reduceToNat, reduceCtorEq]) | (refine AQ.fn (by kernel_rfl) rfl rfl rfl (hax) rfl ?_; simp only [go_sem, Nat.reduceAdd, Nat.reduceLeDiff, Nat.reduceSub, Int.reduceToNat, reduceCtorEq]) | refine AQ.done ?_ | (refine AQ.go (by kernel_rfl) ?_; simp only [go_sem, Nat.reduceAdd, Nat.reduceLeDiff, Nat.reduceSub, Int.reduceToNat, reduceCtorEq]; repeat (with_reducible refine And.intro (by omega) ?_); refine AQ.nx rfl ?_; simp only [go_sem, Nat.reduceAdd, Nat.reduceLeDiff, Nat.reduceSub, Int.reduceToNat, reduceCtorEq]))
    all_goals
      simp only [go_sem, Nat.reduceAdd, Nat.reduceLeDiff, Nat.reduceSub, Int.reduceToNat, reduceCtorEq]
      exact AE.meet () trivial (by repeat (first | exact Sub.nil _ | refine Sub.cons rfl ?_)) rfl
  repeat (first | refine xA ?_ | refine xB ?_ | refine xC ?_ | refine xE ?_ | refine xD ?_ | refine xK ?_ | refine xS ?_ | refine xM ?_ | refine xT ?_ | refine xF ?_ | ((first | refine xR ?_ | refine xW ?_ | refine vq_id ?_); simp only [go_sem, Nat.reduceAdd, Nat.reduceLeDiff, Nat.reduceSub, Int.reduceToNat, reduceCtorEq, hne]) | (refine ⟨by first | omega | (intros; simp_all; done) | (intros; simp_all; omega), ?_⟩; try simp only [go_sem, Nat.reduceAdd, Nat.reduceLeDiff, Nat.reduceSub, Int.reduceToNat, reduceCtorEq, hne]))
  exact AE.retD [7, 6, 5, 4] rfl ⟨rfl, trivial⟩ rfl ⟨rfl, rfl⟩
end Go.Proofs.YtlpcdpjkdodmcaaGreatDoor
end

section
namespace Go.Proofs.YtlpcdpjkdodmcaaGreatDoor
open Go Go.AL Go.RowKit
set_option maxRecDepth 10000
def plainQ (r : Rq) : Rq := ⟨r.n, r.k, r.b, false, false, 0, 0, []⟩
structure GL (p w s : Int) (L : List Rq) : Prop where
  hp : 1 ≤ p ∧ p ≤ 3
  hw : 1 ≤ w ∧ w ≤ 16
  hs : 1 ≤ s ∧ s ≤ 2147483646
  len : (L.length : Int) ≤ w
  byes : byesB p L = true
  row : ∀ (i : Nat) (r : Rq), L[i]? = some r → rvB r = true ∧ r.n = s - L.length + 1 + i
theorem kAt_cons (r : Rq) (l : List Rq) (i : Nat) : kAt (r :: l) (i + 1) = kAt l i := by simp [kAt]
theorem byes1 {l : List Rq} : byesB 1 l = true ↔ ∀ (i : Nat) (r : Rq), l[i]? = some r → r.k ≠ 6 := by
  simp only [byesB, if_true, decide_eq_true_eq]
  constructor
  · intro h i r hr; rw [← kAt_eq hr]; exact h i (List.getElem?_eq_some_iff.1 hr).1
  · intro h i hi; rw [kAt_eq (List.getElem?_eq_getElem hi)]; exact h i _ (List.getElem?_eq_getElem hi)
theorem byes2 {l : List Rq} : byesB 2 l = true ↔ 0 < l.length ∧ kAt l (l.length - 1) = 6 ∧ ∀ i, i < l.length - 1 → kAt l i ≠ 6 := by
  simp only [byesB, if_neg (show ¬ (2 : Int) = 1 by decide), if_true, decide_eq_true_eq]
theorem byes3 {l : List Rq} : byesB 3 l = true ↔ l = [] := by
  simp only [byesB, if_neg (show ¬ (3 : Int) = 1 by decide), if_neg (show ¬ (3 : Int) = 2 by decide), decide_eq_true_eq, List.length_eq_zero_iff]
theorem rv_facts {r : Rq} (h : rvB r = true) : 2 ≤ r.k ∧ r.k ≤ 6 ∧ msgE r.k r.n r.b = 0 := by
  simp only [rvB, Bool.and_eq_true, Bool.not_eq_true', Bool.or_eq_false_iff, decide_eq_false_iff_not, bne_eq_false_iff_eq] at h
  exact ⟨by omega, by omega, h.1.1.2⟩
theorem rv_ans {r : Rq} (h : rvB r = true) (ha : r.a = true) : (r.ak = 8 ∨ r.ak = 9) ∧ r.an = r.n ∧ msgE r.ak r.an r.ab = 0 := by
  unfold rvB at h
  rw [ha] at h
  simp only [Bool.and_eq_true, cond_true, Bool.or_eq_true, beq_iff_eq] at h
  exact ⟨h.2.1.1, h.2.1.2, h.2.2⟩
theorem rv_open {r : Rq} (h : rvB r = true) (ha : r.a = false) : workB r.k = true ∧ r.c = false ∧ r.ak = 0 ∧ r.an = 0 ∧ r.ab = [] := by
  unfold rvB at h
  rw [ha] at h
  simp only [Bool.and_eq_true, cond_false, beq_iff_eq, Bool.not_false, Bool.true_or, Bool.and_true, Bool.not_eq_true'] at h
  exact ⟨h.2.1, h.1.2, h.2.2.1, h.2.2.2.1, h.2.2.2.2⟩
theorem GL.tail {p w s : Int} {r : Rq} {L : List Rq} (h : GL p w s (r :: L)) : GL (if r.k = 6 then 3 else p) w s L := by
  obtain ⟨hp, hw, hs, hl, hb, hr⟩ := h
  have hlen : ((L.length : Nat) : Int) ≤ w := by simp at hl; omega
  have hrow : ∀ (i : Nat) (r : Rq), L[i]? = some r → rvB r = true ∧ r.n = s - L.length + 1 + i := fun i r' h' => by
    have := hr (i + 1) r' (by simpa using h')
    refine ⟨this.1, ?_⟩
    rw [this.2]; simp; omega
  rcases (show p = 1 ∨ p = 2 ∨ p = 3 by omega) with rfl | rfl | rfl
  · have h1 := byes1.1 hb
    rw [if_neg (h1 0 r rfl)]
    exact ⟨by omega, hw, hs, hlen, byes1.2 fun i r' h' => h1 (i + 1) r' (by simpa using h'), hrow⟩
  · obtain ⟨_, h2, h3⟩ := byes2.1 hb
    simp only [List.length_cons, Nat.add_sub_cancel] at h2 h3
    cases L with
    | nil =>
      have : r.k = 6 := by simpa [kAt] using h2
      rw [if_pos this]
      exact ⟨by omega, hw, hs, hlen, byes3.2 rfl, hrow⟩
    | cons r2 L =>
      have h30 := h3 0 (by simp)
      have : r.k ≠ 6 := by simpa [kAt] using h30
      rw [if_neg this]
      refine ⟨by omega, hw, hs, hlen, byes2.2 ⟨by simp, ?_, fun i hi => ?_⟩, hrow⟩
      · simp only [List.length_cons, Nat.add_sub_cancel] at h2 ⊢
        rw [← kAt_cons r]; exact h2
      · rw [← kAt_cons r]; exact h3 (i + 1) (by simp at hi ⊢; omega)
  · have := byes3.1 hb
    cases this
theorem plain_get {L : List Rq} {i : Nat} {r : Rq} (h : (L.map plainQ)[i]? = some r) : ∃ q, L[i]? = some q ∧ r = plainQ q := by
  rw [List.getElem?_map] at h
  cases hq : L[i]? with
  | none => rw [hq] at h; cases h
  | some q => rw [hq] at h; exact ⟨q, rfl, by simpa using h.symm⟩
theorem plain_k (L : List Rq) (i : Nat) : kAt (L.map plainQ) i = kAt L i := by
  simp only [kAt, List.getElem?_map]
  cases L[i]? <;> rfl
theorem plain_byes (p : Int) (L : List Rq) : byesB p (L.map plainQ) = byesB p L := by
  simp only [byesB, List.length_map, plain_k]
theorem GL.okP {p w s : Int} {L : List Rq} (h : GL p w s L) : okP p w s (L.map plainQ) := by
  obtain ⟨hp, hw, hs, hl, hb, hr⟩ := h
  refine ⟨⟨by omega, by omega, by omega, by omega⟩, by rw [plain_byes]; exact hb, fun i r hr' => ?_, ?_⟩
  · obtain ⟨q, hq, rfl⟩ := plain_get hr'
    obtain ⟨h1, h2⟩ := hr i q hq
    obtain ⟨h3, h4, h5⟩ := rv_facts h1
    refine ⟨⟨rfl, rfl, rfl, rfl, rfl⟩, h4, h5, ?_, fun hx => ?_⟩
    · rw [List.length_map]; exact h2
    · have : q.k = 1 := hx.1
      omega
  · rw [if_neg (by omega)]
    refine ⟨by omega, ?_⟩
    rw [if_neg (by omega), List.length_map]
    exact hl
theorem GL.srvP {p w s : Int} {L : List Rq} (h : GL p w s L) {nm : List UInt8} (hn : onlyOk nm [2, 3] = true) (h0 : ∀ r, L[0]? = some r → r.a = false) : srvP p nm w (s + 1) L := by
  obtain ⟨hp, hw, hs, hl, hb, hr⟩ := h
  refine ⟨⟨by omega, by omega, by omega, hl⟩, hb, fun i r hr' => ?_, ?_⟩
  · obtain ⟨h1, h2⟩ := hr i r hr'
    have hi := (List.getElem?_eq_some_iff.1 hr').1
    refine ⟨h1, by omega, fun h => h0 r (by rw [← h]; exact hr'), fun h => ?_⟩
    obtain ⟨j, rfl⟩ : ∃ j, i = j + 1 := ⟨i - 1, by omega⟩
    obtain ⟨q, hq⟩ : ∃ q, L[j]? = some q := ⟨L[j], List.getElem?_eq_getElem (by omega)⟩
    rw [Nat.add_sub_cancel, nAt_eq hq, (hr j q hq).2, h2]
    omega
  · rw [if_neg (by omega)]
    exact ⟨hn, by omega⟩
theorem deliver_GL (w s : Int) : ∀ (L : List Rq) (p : Int), GL p w s L → L.length ≤ 100000 →
    GL (rdy p L).1 w s (rdy p L).2.1 ∧ (∀ r, (rdy p L).2.1[0]? = some r → r.a = false) ∧ delChain ⟨p, w, s, L.map plainQ⟩ (rdy p L).2.2 ⟨(rdy p L).1, w, s, (rdy p L).2.1.map plainQ⟩
  | [], p, h, _ => ⟨h, by simp [rdy], rfl⟩
  | r :: L, p, h, hl => by
    rw [rdy]
    by_cases ha : r.a = true
    · rw [if_pos ha]
      obtain ⟨h1, h2, h3⟩ := deliver_GL w s L _ h.tail (by simp at hl; omega)
      refine ⟨h1, h2, ⟨if r.k = 6 then 3 else p, w, s, L.map plainQ⟩, plainQ r, ?_, h3⟩
      obtain ⟨hv, hn⟩ := h.row 0 r rfl
      obtain ⟨hk1, hk2, hm⟩ := rv_facts hv
      obtain ⟨hak, han, ham⟩ := rv_ans hv ha
      refine ⟨?_, by show r.n = r.an; rw [han], by simpa using hl⟩
      have hok : okC p w s ((r :: L).map plainQ) = true := (okC_iff _ _ _ _).2 h.okP
      have hE : recE p w s ((r :: L).map plainQ) r.ak r.an r.ab = 0 := by
        rw [recE, if_neg (by rw [hok]; decide), if_neg (by rw [ham]; decide), if_neg (by simp), if_neg (by simp [hdQ, plainQ, han]), if_neg ?_]
        have : (plainQ r).k = r.k := rfl
        simp only [hdQ, List.map_cons, List.headD_cons, this]
        have h61 : (r.k == 1) = false := by rw [beq_eq_false_iff_ne]; omega
        have h62 : (r.k != 1) = true := by rw [bne_iff_ne]; omega
        rw [h61, h62]
        rcases hak with h | h <;> rw [h] <;> decide
      show recV p w s ((r :: L).map plainQ) r.ak r.an r.ab = _
      rw [recV, hE, recR, if_neg (by simp)]
      have hh : hdQ ((r :: L).map plainQ) = plainQ r := rfl
      have e1 : pStep p (plainQ r).k = if r.k = 6 then 3 else p := by
        show pStep p r.k = _
        rw [pStep, if_neg (by omega)]
      have e2 : wStep w (plainQ r).k r.ab = w := by
        show wStep w r.k r.ab = _
        rw [wStep, if_neg (by omega)]
      rw [hh, e1, e2]
      rfl
    · rw [if_neg ha]
      exact ⟨h, fun r' h' => by simp at h'; rw [← h']; simpa using ha, rfl⟩
end Go.Proofs.YtlpcdpjkdodmcaaGreatDoor
end

section
namespace Go.Proofs.YtlpcdpjkdodmcaaGreatDoor
open Go Go.AL Go.RowKit
set_option maxRecDepth 10000
def tkP (p K : Int) : Int := if K = 6 then 2 else p
noncomputable def tkL (l : List Rq) (K N : Int) (t : List UInt8) : List Rq :=
  if K = 5 then
    if idxQ (freeB (atoiV t).1) (l ++ [⟨N, K, t, false, false, 0, 0, []⟩]) < 0 then l ++ [⟨N, K, t, false, true, 8, N, [48]⟩]
    else cancelled (l ++ [⟨N, K, t, false, true, 8, N, [49]⟩]) (idxQ (freeB (atoiV t).1) (l ++ [⟨N, K, t, false, false, 0, 0, []⟩]))
  else if K = 6 then l ++ [⟨N, K, t, false, true, 8, N, []⟩] else l ++ [⟨N, K, t, false, false, 0, 0, []⟩]
theorem taken_eq {p : Int} {nm : List UInt8} {w n : Int} {l : List Rq} {K N : Int} {t : List UInt8} (hK : K ≠ 1) : taken p nm w n l K N t = okT (tkP p K) nm w (n + 1) (tkL l K N t) := by
  unfold taken tkP tkL
  rw [if_neg hK]
  by_cases h5 : K = 5
  · subst h5
    rw [if_pos rfl, if_pos rfl, if_neg (show ¬ (5 : Int) = 6 by decide)]
    split <;> rfl
  · rw [if_neg h5, if_neg h5]
    by_cases h6 : K = 6
    · rw [if_pos h6, if_pos h6, if_pos h6]
    · rw [if_neg h6, if_neg h6, if_neg h6]
theorem GL.snoc {w s : Int} {L : List Rq} (h : GL 1 w s L) {q : Rq} (hq : rvB q = true) (hn : q.n = s + 1) (hl : (L.length : Int) < w) (hs : s + 1 ≤ 2147483646) : GL (tkP 1 q.k) w (s + 1) (L ++ [q]) := by
  obtain ⟨hp, hw, hs', _, hb, hr⟩ := h
  have hlen : (L ++ [q]).length = L.length + 1 := by simp
  have h1 := byes1.1 hb
  have hb' : byesB (tkP 1 q.k) (L ++ [q]) = true := by
    unfold tkP
    split
    · rename_i h6
      refine byes2.2 ⟨by omega, ?_, fun i hi => ?_⟩
      · rw [hlen, Nat.add_sub_cancel, kAt_eq (r := q) (by simp)]; exact h6
      · rw [hlen, Nat.add_sub_cancel] at hi
        rw [kAt_eq (r := L[i]) (by rw [List.getElem?_append_left hi, List.getElem?_eq_getElem hi])]
        exact h1 i _ (List.getElem?_eq_getElem hi)
    · rename_i h6
      refine byes1.2 fun i r hr' => ?_
      rcases Nat.lt_or_ge i L.length with hi | hi
      · rw [List.getElem?_append_left hi] at hr'; exact h1 i r hr'
      · rw [List.getElem?_append_right hi] at hr'
        have : r ∈ [q] := List.mem_of_getElem? hr'
        rw [List.mem_singleton.1 this]; exact h6
  refine ⟨by unfold tkP; split <;> omega, hw, by omega, by omega, hb', fun i r hr' => ?_⟩
  rcases Nat.lt_or_ge i L.length with hi | hi
  · rw [List.getElem?_append_left hi] at hr'
    refine ⟨(hr i r hr').1, ?_⟩
    rw [(hr i r hr').2, hlen]; omega
  · have hi2 := (List.getElem?_eq_some_iff.1 hr').1
    rw [hlen] at hi2
    have hie : i = L.length := by omega
    subst hie
    rw [List.getElem?_append_right hi, Nat.sub_self] at hr'
    cases hr'
    refine ⟨hq, ?_⟩
    rw [hn, hlen]; omega
theorem GL.set {p w s : Int} {L : List Rq} (h : GL p w s L) {i : Nat} {r r' : Rq} (hi : L[i]? = some r) (hv : rvB r' = true) (hn : r'.n = r.n) (hk : r'.k = r.k) : GL p w s (L.set i r') := by
  obtain ⟨hp, hw, hs, hl, hb, hr⟩ := h
  have hlt := (List.getElem?_eq_some_iff.1 hi).1
  have hka : ∀ j, kAt (L.set i r') j = kAt L j := fun j => by
    by_cases hj : i = j
    · subst hj; rw [kAt_eq (List.getElem?_set_self hlt), kAt_eq hi, hk]
    · simp only [kAt, List.getElem?_set_ne hj]
  refine ⟨hp, hw, hs, by rw [List.length_set]; exact hl, ?_, fun j q hq => ?_⟩
  · rw [← hb]; simp only [byesB, hka, List.length_set]
  · rw [List.length_set]
    by_cases hj : i = j
    · subst hj
      rw [List.getElem?_set_self hlt] at hq
      cases hq
      exact ⟨hv, by rw [hn]; exact (hr i r hi).2⟩
    · rw [List.getElem?_set_ne hj] at hq
      exact hr j q hq
theorem plain_set {L : List Rq} {i : Nat} {r r' : Rq} (hi : L[i]? = some r) (h : plainQ r' = plainQ r) : (L.set i r').map plainQ = L.map plainQ := by
  rw [List.map_set, h]
  refine List.ext_getElem? fun j => ?_
  by_cases hj : i = j
  · subst hj
    rw [List.getElem?_set_self (by rw [List.length_map]; exact (List.getElem?_eq_some_iff.1 hi).1), List.getElem?_map, hi]; rfl
  · rw [List.getElem?_set_ne hj]
theorem rv_new {N K : Int} {t : List UInt8} (hw : workB K = true) (hm : msgE K N t = 0) : rvB ⟨N, K, t, false, false, 0, 0, []⟩ = true := by
  have := hw
  simp only [workB, Bool.and_eq_true, decide_eq_true_eq] at this
  have h1 : decide (K < 2) = false := by rw [decide_eq_false_iff_not]; omega
  have h2 : decide (6 < K) = false := by rw [decide_eq_false_iff_not]; omega
  simp [rvB, h1, h2, hm, hw]
theorem rv_done {N K K' : Int} {t b : List UInt8} (hk : 2 ≤ K ∧ K ≤ 6) (hm : msgE K N t = 0) (h8 : K' = 8 ∨ K' = 9) (hb : msgE K' N b = 0) : rvB ⟨N, K, t, false, true, K', N, b⟩ = true := by
  have h1 : decide (K < 2) = false := by rw [decide_eq_false_iff_not]; omega
  have h2 : decide (6 < K) = false := by rw [decide_eq_false_iff_not]; omega
  have h3 : (K' == 8 || K' == 9) = true := by rcases h8 with h | h <;> rw [h] <;> decide
  simp [rvB, h1, h2, hm, hb, h3]
theorem rv_canc {N K : Int} {t b : List UInt8} (hw : workB K = true) (hm : msgE K N t = 0) (hb : msgE 9 N b = 0) : rvB ⟨N, K, t, true, true, 9, N, b⟩ = true := by
  have := hw
  simp only [workB, Bool.and_eq_true, decide_eq_true_eq] at this
  have h1 : decide (K < 2) = false := by rw [decide_eq_false_iff_not]; omega
  have h2 : decide (6 < K) = false := by rw [decide_eq_false_iff_not]; omega
  simp [rvB, h1, h2, hm, hb, hw]
theorem msg8 {N : Int} (h : 1 ≤ N ∧ N ≤ 2147483647) {b : List UInt8} (hb : b.length ≤ 20000) : msgE 8 N b = 0 := by
  rw [msgE, if_neg (by omega), if_neg (by omega), if_neg (by omega)]
  have : bodyB 8 b = true := by simp [bodyB]
  rw [this]; rfl
theorem msg8_long {N : Int} (h : 1 ≤ N ∧ N ≤ 2147483647) {b : List UInt8} (hb : 20000 < b.length) : msgE 8 N b = 4 := by
  rw [msgE, if_neg (by omega), if_neg (by omega), if_pos hb]
theorem msg9 {N : Int} (h : 1 ≤ N ∧ N ≤ 2147483647) : msgE 9 N [48, 32, 48] = 0 := by
  rw [msgE, if_neg (by omega), if_neg (by omega), if_neg (by simp)]
  have : bodyB 9 [48, 32, 48] = true := by decide +kernel
  rw [this]; rfl
theorem take_GL {w s : Int} {L : List Rq} (h : GL 1 w s L) {K : Int} {t : List UInt8} (hK : 2 ≤ K ∧ K ≤ 6) (hm : msgE K (s + 1) t = 0) (hl : (L.length : Int) < w) (hs : s + 1 ≤ 2147483646) :
    GL (tkP 1 K) w (s + 1) (tkL L K (s + 1) t) ∧ (tkL L K (s + 1) t).map plainQ = L.map plainQ ++ [newR s K t] ∧ (tkL L K (s + 1) t).length = L.length + 1 := by
  have h1 := h.hs
  unfold tkL
  by_cases h5 : K = 5
  · subst h5
    rw [if_pos rfl]
    by_cases hi : idxQ (freeB (atoiV t).1) (L ++ [⟨s + 1, 5, t, false, false, 0, 0, []⟩]) < 0
    · rw [if_pos hi]
      exact ⟨h.snoc (q := ⟨s + 1, 5, t, false, true, 8, s + 1, [48]⟩) (rv_done hK hm (.inl rfl) (msg8 (by omega) (by simp))) rfl hl hs, by rw [List.map_append]; rfl, by simp⟩
    · rw [if_neg hi]
      rcases idxQ_cases (freeB (atoiV t).1) (L ++ [⟨s + 1, 5, t, false, false, 0, 0, []⟩]) with hj | ⟨j, hj, hjl⟩
      · rw [hj] at hi; exact absurd (by decide) hi
      rw [hj]
      obtain ⟨r, hr, hf⟩ := idxQ_some hj
      have hjl2 : j < L.length := by
        rcases Nat.lt_or_ge j L.length with h | h
        · exact h
        · have hje : j = L.length := by simp at hjl; omega
          rw [hje, List.getElem?_append_right (Nat.le_refl _), Nat.sub_self] at hr
          cases hr
          simp [freeB, workB] at hf
      rw [List.getElem?_append_left hjl2] at hr
      have hr2 : (L ++ [(⟨s + 1, 5, t, false, true, 8, s + 1, [49]⟩ : Rq)])[j]? = some r := by rw [List.getElem?_append_left hjl2]; exact hr
      have hra : rAt (L ++ [⟨s + 1, 5, t, false, true, 8, s + 1, [49]⟩]) (j : Int) = r := by
        rw [rAt, Int.toNat_natCast, List.getD_eq_getElem?_getD, hr2]; rfl
      have hG := h.snoc (q := ⟨s + 1, 5, t, false, true, 8, s + 1, [49]⟩) (rv_done hK hm (.inl rfl) (msg8 (by omega) (by simp))) rfl hl hs
      rw [cancelled, hra, Int.toNat_natCast]
      obtain ⟨hv, hn⟩ := h.row j r hr
      simp only [freeB, Bool.and_eq_true, Bool.not_eq_true'] at hf
      have hm2 := (rv_facts hv).2.2
      refine ⟨hG.set hr2 (rv_canc hf.1.2 hm2 (msg9 ?_)) rfl rfl, ?_, by simp⟩
      · rw [hn]; have := h.len; have := h.hw; constructor
        · unfold msgE at hm2
          split at hm2
          · cases hm2
          · split at hm2
            · cases hm2
            · omega
        · omega
      · rw [plain_set (r' := ⟨r.n, r.k, r.b, true, true, 9, r.n, [48, 32, 48]⟩) hr2 rfl, List.map_append]; rfl
  · rw [if_neg h5]
    by_cases h6 : K = 6
    · subst h6
      rw [if_pos rfl]
      exact ⟨h.snoc (q := ⟨s + 1, 6, t, false, true, 8, s + 1, []⟩) (rv_done hK hm (.inl rfl) (msg8 (by omega) (by simp))) rfl hl hs, by rw [List.map_append]; rfl, by simp⟩
    · rw [if_neg h6]
      have hw : workB K = true := by simp only [workB, Bool.and_eq_true, decide_eq_true_eq]; omega
      exact ⟨h.snoc (q := ⟨s + 1, K, t, false, false, 0, 0, []⟩) (rv_new hw hm) rfl hl hs, by rw [List.map_append]; rfl, by simp⟩
end Go.Proofs.YtlpcdpjkdodmcaaGreatDoor
end

section
namespace Go.Proofs.YtlpcdpjkdodmcaaGreatDoor
open Go Go.AL Go.RowKit
set_option maxRecDepth 10000
structure TI (t : TSt) : Prop where
  gl : GL t.s.p t.s.w (t.s.n - 1) t.s.l
  cl : t.c = ⟨t.s.p, t.s.w, t.s.n - 1, t.s.l.map plainQ⟩
  nm : onlyOk t.s.nm [2, 3] = true
  hd : ∀ r, t.s.l[0]? = some r → r.a = false
  sn : (t.sent.length : Int) = t.s.n - 1
  nu : ∀ (j : Nat) (m : Msg), t.sent[j]? = some m → m.2.1 = j + 1
  an : t.ans.length + t.s.l.length = t.sent.length
theorem onlyOk_len {nm : List UInt8} {l : List Int} (h : onlyOk nm l = true) : nm.length ≤ 60 := by
  simp only [onlyOk, Bool.and_eq_true, decide_eq_true_eq] at h
  exact h.1.2
theorem TI.small {t : TSt} (h : TI t) : t.s.l.length ≤ 16 ∧ t.c.l.length ≤ 16 := by
  have h1 := h.gl.len
  have h2 := h.gl.hw
  refine ⟨by omega, ?_⟩
  rw [h.cl]
  simp only [List.length_map]
  omega
theorem TI.srv {t : TSt} (h : TI t) : srvC t.s.p t.s.nm t.s.w t.s.n t.s.l = true := by
  rw [srvC_iff]
  have := h.gl.srvP h.nm h.hd
  rwa [show t.s.n - 1 + 1 = t.s.n by omega] at this
theorem TI.ok {t : TSt} (h : TI t) : okC t.c.p t.c.w t.c.s t.c.l = true := by
  rw [okC_iff, h.cl]
  exact h.gl.okP
theorem rdy_num : ∀ (p : Int) (L : List Rq) (j : Nat) (m : Msg), (rdy p L).2.2[j]? = some m → ∃ r, L[j]? = some r ∧ r.a = true ∧ m.2.1 = r.an
  | p, [], j, m, h => by simp [rdy] at h
  | p, r :: L, j, m, h => by
    rw [rdy] at h
    by_cases ha : r.a = true
    · rw [if_pos ha] at h
      cases j with
      | zero => simp at h; exact ⟨r, rfl, ha, by rw [← h]⟩
      | succ j => simp at h; obtain ⟨q, h1, h2⟩ := rdy_num _ L j m h; exact ⟨q, by simpa using h1, h2⟩
    · rw [if_neg ha] at h; simp at h
theorem rdy_sum : ∀ (p : Int) (L : List Rq), (rdy p L).2.2.length + (rdy p L).2.1.length = L.length
  | p, [] => by simp [rdy]
  | p, r :: L => by
    rw [rdy]
    split
    · have := rdy_sum (if r.k = 6 then 3 else p) L
      simp only [List.length_cons]; omega
    · simp
noncomputable def reqQ (t : TSt) (K : Int) (b : List UInt8) : Int × List Rq × List Msg := rdy (tkP t.s.p K) (tkL t.s.l K t.s.n b)
noncomputable def reqT (t : TSt) (K : Int) (b : List UInt8) : TSt :=
  ⟨⟨(reqQ t K b).1, t.s.w, t.s.n, (reqQ t K b).2.1.map plainQ⟩, ⟨(reqQ t K b).1, t.s.nm, t.s.w, t.s.n + 1, (reqQ t K b).2.1⟩, t.sent ++ [(K, t.s.n, b)], t.ans ++ (reqQ t K b).2.2⟩
theorem TI.sendE0 {t : TSt} (h : TI t) {K : Int} {b : List UInt8} (he : sendE t.c.p t.c.w t.c.s t.c.l K b = 0) :
    t.s.p = 1 ∧ (2 ≤ K ∧ K ≤ 6) ∧ (t.s.l.length : Int) < t.s.w ∧ msgE K t.s.n b = 0 := by
  rw [sendE, if_neg (by rw [h.ok]; decide), h.cl, chainE] at he
  simp only [List.length_map] at he
  have h1 := h.gl.hp
  have h2 := h.gl.hw
  split at he
  · cases he
  rename_i a1
  have hp : t.s.p = 1 := by simp at a1; omega
  rw [hp] at he
  split at he
  · cases he
  rename_i a2
  split at he
  · cases he
  rename_i a3
  split at he
  · cases he
  refine ⟨hp, ?_, ?_, ?_⟩
  · simp at a2; omega
  · simp at a3; omega
  · rwa [show t.s.n - 1 + 1 = t.s.n by omega] at he
theorem TI.request {t : TSt} (h : TI t) {K : Int} {b : List UInt8} (hlen : t.sent.length ≤ 1000) (he : sendE t.c.p t.c.w t.c.s t.c.l K b = 0) :
    TI (reqT t K b) ∧ ACall Tryz.prog 23 [.ob 0 0, Iv K, Sv b] (tkH 1 2 t) (fun r H' => r = Bv true ∧ H' = tkH 3 4 (reqT t K b)) := by
  obtain ⟨hp, hK, hl, hm⟩ := h.sendE0 he
  have hgl := h.gl
  have hsn := h.sn
  have hsm := h.small
  have hnml := onlyOk_len h.nm
  rw [hp] at hgl
  obtain ⟨s, hs⟩ : ∃ s, t.s.n = s + 1 := ⟨t.s.n - 1, by omega⟩
  have hs1 : t.s.n - 1 = s := by omega
  rw [hs1] at hgl hsn
  obtain ⟨hG, hPl, hLl⟩ := take_GL hgl hK (by rw [← hs]; exact hm) hl (by omega)
  obtain ⟨hG1, hG2, hG3⟩ := deliver_GL _ _ _ _ hG (by omega)
  have hLeq : tkL t.s.l K (s + 1) b = tkL t.s.l K t.s.n b := by rw [hs]
  have hq : reqQ t K b = rdy (tkP 1 K) (tkL t.s.l K (s + 1) b) := by rw [reqQ, hp, hs]
  have hsum := rdy_sum (tkP 1 K) (tkL t.s.l K (s + 1) b)
  have hnum := rdy_num (tkP 1 K) (tkL t.s.l K (s + 1) b)
  rw [← hq] at hG1 hG2 hG3 hsum hnum
  have hn' : ∀ (j : Nat) (m' : Msg), (reqQ t K b).2.2[j]? = some m' → ∃ q, (t.sent ++ [(K, t.s.n, b)])[t.ans.length + j]? = some q ∧ q.2.1 = m'.2.1 := fun j m' hj => by
    obtain ⟨r, h1, h2, h3⟩ := hnum j m' hj
    obtain ⟨hv, hrn⟩ := hG.row j r h1
    have hjl := (List.getElem?_eq_some_iff.1 h1).1
    rw [h3, (rv_ans hv h2).2.1, hrn, hLl]
    have han := h.an
    rcases Nat.lt_or_ge (t.ans.length + j) t.sent.length with hlt | hge
    · refine ⟨t.sent[t.ans.length + j], by rw [List.getElem?_append_left hlt, List.getElem?_eq_getElem hlt], ?_⟩
      rw [h.nu _ _ (List.getElem?_eq_getElem hlt)]
      omega
    · have : t.ans.length + j = t.sent.length := by omega
      refine ⟨(K, t.s.n, b), by rw [this]; simp, ?_⟩
      show t.s.n = _
      omega
  refine ⟨⟨?_, ?_, h.nm, hG2, ?_, ?_, ?_⟩, ?_⟩
  · show GL (reqQ t K b).1 t.s.w (t.s.n + 1 - 1) (reqQ t K b).2.1
    rw [show t.s.n + 1 - 1 = s + 1 by omega]; exact hG1
  · show (⟨(reqQ t K b).1, t.s.w, t.s.n, (reqQ t K b).2.1.map plainQ⟩ : CSt) = ⟨(reqQ t K b).1, t.s.w, t.s.n + 1 - 1, (reqQ t K b).2.1.map plainQ⟩
    rw [show t.s.n + 1 - 1 = t.s.n by omega]
  · show (((t.sent ++ [(K, t.s.n, b)]).length : Nat) : Int) = t.s.n + 1 - 1
    rw [List.length_append, List.length_cons, List.length_nil]; omega
  · intro j m hj
    have hj' : (t.sent ++ [(K, t.s.n, b)])[j]? = some m := hj
    rcases Nat.lt_or_ge j t.sent.length with hlt | hge
    · rw [List.getElem?_append_left hlt] at hj'; exact h.nu j m hj'
    · have hjl := (List.getElem?_eq_some_iff.1 hj').1
      rw [List.length_append, List.length_cons, List.length_nil] at hjl
      have : j = t.sent.length := by omega
      subst this
      rw [List.getElem?_append_right hge, Nat.sub_self] at hj'
      cases hj'
      show t.s.n = _
      omega
  · show (t.ans ++ (reqQ t K b).2.2).length + (reqQ t K b).2.1.length = (t.sent ++ [(K, t.s.n, b)]).length
    have := h.an
    rw [List.length_append, List.length_append, List.length_cons, List.length_nil]
    omega
  · refine request_ok t K b ⟨tkP 1 K, t.s.w, s + 1, t.s.l.map plainQ ++ [newR s K b]⟩ ⟨(reqQ t K b).1, t.s.w, t.s.n, (reqQ t K b).2.1.map plainQ⟩ ⟨(reqQ t K b).1, t.s.nm, t.s.w, t.s.n + 1, (reqQ t K b).2.1⟩ (K, t.s.n, b) (reqQ t K b).2.2 ⟨?_, by omega⟩ ⟨?_, by omega, by omega⟩ ?_ (by omega) ?_ hn'
    · have hst : stepK 1 K = tkP 1 K := by rw [stepK, if_neg (by omega)]; rfl
      rw [sendV, he, retS, if_pos rfl, h.cl]
      simp only [hp, hst, hs, show s + 1 - 1 = s by omega]
    · show retT (takeE t.s.p t.s.nm t.s.w t.s.n t.s.l K t.s.n b) (taken t.s.p t.s.nm t.s.w t.s.n t.s.l K t.s.n b) = _
      have hE : takeE t.s.p t.s.nm t.s.w t.s.n t.s.l K t.s.n b = 0 := by
        rw [takeE, if_neg (by rw [h.srv]; decide), chainT, hp]
        rw [if_neg (by decide), if_neg ?_, if_neg (by rw [hm]; decide), if_neg (by simp), if_neg (by simp; omega), if_neg (by simp; omega)]
        have h1 : decide (K < 2) = false := by rw [decide_eq_false_iff_not]; omega
        have h2 : decide (6 < K) = false := by rw [decide_eq_false_iff_not]; omega
        rw [h1, h2]
        simp
      rw [hE, retT, if_neg (by decide), taken_eq (by omega)]
      rfl
    · rw [show t.s.l.map plainQ ++ [newR s K b] = (tkL t.s.l K (s + 1) b).map plainQ from hPl.symm, hs]
      exact hG3
    · have := h.an
      omega
end Go.Proofs.YtlpcdpjkdodmcaaGreatDoor
end

section
namespace Go.Proofs.YtlpcdpjkdodmcaaGreatDoor
open Go Go.AL Go.RowKit
set_option maxRecDepth 10000
theorem GL.idx {p w s : Int} {L : List Rq} (h : GL p w s L) {i : Nat} {r : Rq} (hi : L[i]? = some r) (hk : workB r.k = true) : idxQ (mineB r.n) L = i := by
  refine idxQ_at hi (by simp [mineB, hk]) fun j hj q hq => ?_
  have h1 := (h.row i r hi).2
  have h2 := (h.row j q hq).2
  have : (q.n == r.n) = false := by rw [beq_eq_false_iff_ne]; omega
  simp [mineB, this]
noncomputable def ansQ (t : TSt) (r : Rq) (b : List UInt8) : Int × List Rq × List Msg := rdy t.s.p (answered t.s.l (idxQ (mineB r.n) t.s.l) 8 r.n b)
noncomputable def repT (t : TSt) (r : Rq) (b : List UInt8) : TSt :=
  ⟨⟨(ansQ t r b).1, t.s.w, t.s.n - 1, (ansQ t r b).2.1.map plainQ⟩, ⟨(ansQ t r b).1, t.s.nm, t.s.w, t.s.n, (ansQ t r b).2.1⟩, t.sent, t.ans ++ (ansQ t r b).2.2⟩
theorem open_at {L : List Rq} {k : Nat} {r : Rq} (h : (openQ L)[k]? = some r) : ∃ i : Nat, L[i]? = some r ∧ r.a = false := by
  have hm : r ∈ openQ L := List.mem_of_getElem? h
  rw [openQ, List.mem_filter] at hm
  obtain ⟨i, hi, e⟩ := List.getElem_of_mem hm.1
  exact ⟨i, by rw [List.getElem?_eq_getElem hi, e], by simpa using hm.2⟩
theorem msg_range {K N : Int} {b : List UInt8} (h : msgE K N b = 0) : 1 ≤ N ∧ N ≤ 2147483647 := by
  unfold msgE at h
  split at h
  · cases h
  · split at h
    · cases h
    · omega
theorem TI.ans_ok {t : TSt} (h : TI t) {i : Nat} {r : Rq} (hi : t.s.l[i]? = some r) (ha : r.a = false) {b : List UInt8} (hb : b.length ≤ 20000) :
    ansV t.s.p t.s.nm t.s.w t.s.n t.s.l r.n 8 r.n b = okS (ansQ t r b).1 t.s.nm t.s.w t.s.n (ansQ t r b).2.1 (ansQ t r b).2.2 0 := by
  obtain ⟨hv, hn⟩ := h.gl.row i r hi
  obtain ⟨hw, hc, _⟩ := rv_open hv ha
  have hx := h.gl.idx hi hw
  have hr : rAt t.s.l (i : Int) = r := by rw [rAt, Int.toNat_natCast, List.getD_eq_getElem?_getD, hi]; rfl
  have hm := msg8 (msg_range (rv_facts hv).2.2) hb
  rw [ansV, if_neg (by rw [h.srv]; decide), hx, if_neg (by omega), hr, if_neg (by rw [hc]; decide), if_neg (by rw [ha]; decide), if_neg (by rw [hm]; decide), if_neg (by decide), if_neg (by simp)]
  rw [ansQ, hx]
theorem TI.ans_long {t : TSt} (h : TI t) {i : Nat} {r : Rq} (hi : t.s.l[i]? = some r) (ha : r.a = false) {b : List UInt8} (hb : 20000 < b.length) :
    ansV t.s.p t.s.nm t.s.w t.s.n t.s.l r.n 8 r.n b = failS 4 := by
  obtain ⟨hv, hn⟩ := h.gl.row i r hi
  obtain ⟨hw, hc, _⟩ := rv_open hv ha
  have hx := h.gl.idx hi hw
  have hr : rAt t.s.l (i : Int) = r := by rw [rAt, Int.toNat_natCast, List.getD_eq_getElem?_getD, hi]; rfl
  have hm := msg8_long (msg_range (rv_facts hv).2.2) hb
  rw [ansV, if_neg (by rw [h.srv]; decide), hx, if_neg (by omega), hr, if_neg (by rw [hc]; decide), if_neg (by rw [ha]; decide), if_pos (by rw [hm]; decide), hm]
theorem TI.rep {t : TSt} (h : TI t) {i : Nat} {r : Rq} (hi : t.s.l[i]? = some r) (ha : r.a = false) {b : List UInt8} (hb : b.length ≤ 20000) :
    TI (repT t r b) ∧ delChain t.c (ansQ t r b).2.2 (repT t r b).c ∧ (ansQ t r b).2.2.length + (ansQ t r b).2.1.length = t.s.l.length ∧
      ∀ (j : Nat) (m' : Msg), (ansQ t r b).2.2[j]? = some m' → ∃ q, t.sent[t.ans.length + j]? = some q ∧ q.2.1 = m'.2.1 := by
  obtain ⟨hv, hn⟩ := h.gl.row i r hi
  obtain ⟨hw, hc, _⟩ := rv_open hv ha
  have hx := h.gl.idx hi hw
  have hr : rAt t.s.l (i : Int) = r := by rw [rAt, Int.toNat_natCast, List.getD_eq_getElem?_getD, hi]; rfl
  have hm := msg8 (msg_range (rv_facts hv).2.2) hb
  have hsm := h.small
  have hL : answered t.s.l (i : Int) 8 r.n b = t.s.l.set i ⟨r.n, r.k, r.b, false, true, 8, r.n, b⟩ := by rw [answered, hr, hc, Int.toNat_natCast]
  have hG := h.gl.set hi (r' := ⟨r.n, r.k, r.b, false, true, 8, r.n, b⟩) (rv_done ⟨(rv_facts hv).1, (rv_facts hv).2.1⟩ (rv_facts hv).2.2 (.inl rfl) hm) rfl rfl
  have hP := plain_set hi (r' := ⟨r.n, r.k, r.b, false, true, 8, r.n, b⟩) rfl
  have hq : ansQ t r b = rdy t.s.p (t.s.l.set i ⟨r.n, r.k, r.b, false, true, 8, r.n, b⟩) := by rw [ansQ, hx, hL]
  obtain ⟨hG1, hG2, hG3⟩ := deliver_GL _ _ _ _ hG (by rw [List.length_set]; omega)
  have hsum := rdy_sum t.s.p (t.s.l.set i ⟨r.n, r.k, r.b, false, true, 8, r.n, b⟩)
  have hnum := rdy_num t.s.p (t.s.l.set i ⟨r.n, r.k, r.b, false, true, 8, r.n, b⟩)
  rw [← hq] at hG1 hG2 hG3 hsum hnum
  rw [List.length_set] at hsum
  have han := h.an
  refine ⟨⟨hG1, rfl, h.nm, hG2, h.sn, h.nu, ?_⟩, ?_, hsum, fun j m' hj => ?_⟩
  · show (t.ans ++ (ansQ t r b).2.2).length + (ansQ t r b).2.1.length = t.sent.length
    rw [List.length_append]; omega
  · rw [h.cl, ← hP]; exact hG3
  · obtain ⟨q, h1, h2, h3⟩ := hnum j m' hj
    obtain ⟨hv2, hrn⟩ := hG.row j q h1
    have hjl := (List.getElem?_eq_some_iff.1 h1).1
    rw [List.length_set] at hjl hrn
    have hsn := h.sn
    have hlt : t.ans.length + j < t.sent.length := by omega
    refine ⟨t.sent[t.ans.length + j], List.getElem?_eq_getElem hlt, ?_⟩
    rw [h.nu _ _ (List.getElem?_eq_getElem hlt), h3, (rv_ans hv2 h2).2.1, hrn]
    omega
theorem TI.reply {t : TSt} (h : TI t) (hlen : t.sent.length ≤ 1000) (a0 : Bool) (k0 : Int) {x : Nat} (hx : x < 256) {r : Rq} (hr : (openQ t.s.l)[x % (openQ t.s.l).length]? = some r) {b : List UInt8} (hb : b.length ≤ 20000) :
    TI (repT t r b) ∧ ACall Tryz.prog 24 [.ob 0 0, .agg [Bv a0, U8v k0, U8v x, Sv b]] (tkH 1 2 t) (fun z H' => z = Bv true ∧ H' = tkH 1 3 (repT t r b)) := by
  obtain ⟨i, hi, ha⟩ := open_at hr
  obtain ⟨h1, h2, h3, h4⟩ := h.rep hi ha hb
  have hsm := h.small
  have hnl := onlyOk_len h.nm
  have han := h.an
  exact ⟨h1, reply_ok t a0 k0 x hx b r ⟨(ansQ t r b).1, t.s.nm, t.s.w, t.s.n, (ansQ t r b).2.1⟩ (repT t r b).c (ansQ t r b).2.2 h.srv (by omega) (by omega) hr ⟨h.ans_ok hi ha hb, by omega, by omega⟩ h2 (by omega) (by omega) h4⟩
theorem TI.reply_long {t : TSt} (h : TI t) (a0 : Bool) (k0 : Int) {x : Nat} (hx : x < 256) {r : Rq} (hr : (openQ t.s.l)[x % (openQ t.s.l).length]? = some r) {b : List UInt8} (hb : 20000 < b.length) :
    ACall Tryz.prog 24 [.ob 0 0, .agg [Bv a0, U8v k0, U8v x, Sv b]] (tkH 1 2 t) (fun z H' => z = Bv true ∧ H' = tkH 1 3 t) := by
  obtain ⟨i, hi, ha⟩ := open_at hr
  have hsm := h.small
  have hnl := onlyOk_len h.nm
  have := reply_err t a0 k0 x hx b r 4 h.srv (by omega) (by omega) hr (h.ans_long hi ha hb) (by decide)
  rwa [show decide (20000 < (b.length : Int)) = true by rw [decide_eq_true_eq]; omega] at this
theorem TI.reply_none {t : TSt} (h : TI t) (a0 : Bool) (k0 : Int) (x : Nat) (ho : openQ t.s.l = []) (b : List UInt8) :
    ACall Tryz.prog 24 [.ob 0 0, .agg [Bv a0, U8v k0, U8v x, Sv b]] (tkH 1 2 t) (fun z H' => z = Bv true ∧ H' = tkH 1 3 t) := by
  have hsm := h.small
  have hnl := onlyOk_len h.nm
  exact YtlpcdpjkdodmcaaGreatDoor.reply_none t a0 k0 x b h.srv ho (by omega) (by omega)
end Go.Proofs.YtlpcdpjkdodmcaaGreatDoor
end

section
namespace Go.Proofs.YtlpcdpjkdodmcaaGreatDoor
open Go Go.AL Go.RowKit
set_option maxRecDepth 10000
def T0 (W : Int) : TSt := ⟨⟨0, 0, 0, []⟩, ⟨0, [], W, 1, []⟩, [], []⟩
def meT : List UInt8 := [109, 101]
def T1 (W : Int) : TSt := ⟨⟨1, W, 1, []⟩, ⟨1, meT, W, 2, []⟩, [(1, 1, meT)], [(7, 1, Lib.itoa W)]⟩
theorem win_num {W : Int} (h : 1 ≤ W ∧ W ≤ 16) : msgE 7 1 (Lib.itoa W) = 0 ∧ (digs (Lib.itoa W) : Int) = W := by
  obtain ⟨n, rfl⟩ : ∃ n : Nat, W = n := ⟨W.toNat, by omega⟩
  have key : ∀ n, n ≤ 16 → 1 ≤ n → msgE 7 1 (Lib.itoa (n : Nat)) = 0 ∧ (digs (Lib.itoa (n : Nat)) : Int) = (n : Nat) := by decide +kernel
  exact key n (by omega) (by omega)
theorem TI.start {W : Int} (h : 1 ≤ W ∧ W ≤ 16) : TI (T1 W) := by
  refine ⟨⟨by show (1 : Int) ≤ 1 ∧ (1 : Int) ≤ 3; decide, h, by show (1 : Int) ≤ 1 ∧ (1 : Int) ≤ 2147483646; decide, ?_, rfl, fun i r hr => ?_⟩, rfl, by show onlyOk meT [2, 3] = true; decide +kernel, fun r hr => ?_, rfl, fun j m hj => ?_, rfl⟩
  · show ((0 : Nat) : Int) ≤ W; omega
  · simp [T1] at hr
  · simp [T1] at hr
  · cases j with
    | zero => simp [T1] at hj; rw [← hj]; rfl
    | succ j => simp [T1] at hj
theorem greet {W : Int} (h : 1 ≤ W ∧ W ≤ 16) : ACall Tryz.prog 23 [.ob 0 0, Iv 1, Sv meT] (tkH 1 2 (T0 W)) (fun r H' => r = Bv true ∧ H' = tkH 3 4 (T1 W)) := by
  have hme : msgE 1 1 meT = 0 := by decide +kernel
  obtain ⟨hw1, hw2⟩ := win_num h
  have hok0 : okC 0 0 0 [] = true := (okC_iff _ _ _ _).2 ⟨by unfold headP; omega, rfl, fun i r hr => by simp at hr, by simp⟩
  have hok1 : okC 1 0 1 [⟨1, 1, meT, false, false, 0, 0, []⟩] = true := (okC_iff _ _ _ _).2 ⟨by unfold headP; omega, by decide, fun i r hr => by
    cases i with
    | zero => simp at hr; rw [← hr]; exact ⟨⟨rfl, rfl, rfl, rfl, rfl⟩, by decide, hme, by decide, by decide⟩
    | succ i => simp at hr, by simp [kAt]⟩
  have hs0 : srvC 0 [] W 1 [] = true := (srvC_iff _ _ _ _ _).2 ⟨⟨by omega, h, by omega, by simp; omega⟩, rfl, fun i r hr => by simp at hr, by simp⟩
  refine request_ok (T0 W) 1 meT ⟨1, 0, 1, [⟨1, 1, meT, false, false, 0, 0, []⟩]⟩ ⟨1, W, 1, []⟩ ⟨1, meT, W, 2, []⟩ (1, 1, meT) [(7, 1, Lib.itoa W)] ⟨?_, Nat.zero_le _⟩ ⟨?_, Nat.zero_le _, Nat.zero_le _⟩ ⟨⟨1, W, 1, []⟩, ⟨1, 1, meT, false, false, 0, 0, []⟩, ⟨?_, rfl, by decide⟩, rfl⟩ (show 0 + 1 ≤ 100000 by decide) (show 0 + 1 ≤ 0 + 1 by decide) fun j m hj => ?_
  · show sendV 0 0 0 [] 1 meT = _
    have hE : sendE 0 0 0 [] 1 meT = 0 := by rw [sendE, if_neg (by rw [hok0]; decide)]; decide +kernel
    rw [sendV, hE]; rfl
  · show retT (takeE 0 [] W 1 [] 1 1 meT) (taken 0 [] W 1 [] 1 1 meT) = _
    have hE : takeE 0 [] W 1 [] 1 1 meT = 0 := by
      rw [takeE, if_neg (by rw [hs0]; decide), chainT, if_neg (by decide), if_neg (by decide), if_neg (by rw [hme]; decide), if_neg (by decide), if_neg ?_, if_neg (by decide)]
      simp only [List.length_nil, beq_iff_eq]; omega
    rw [hE]; rfl
  · show recV 1 0 1 [⟨1, 1, meT, false, false, 0, 0, []⟩] 7 1 (Lib.itoa W) = _
    have hE : recE 1 0 1 [⟨1, 1, meT, false, false, 0, 0, []⟩] 7 1 (Lib.itoa W) = 0 := by
      rw [recE, if_neg (by rw [hok1]; decide), if_neg (by rw [hw1]; decide), if_neg (by decide), if_neg (by decide), if_neg (by decide)]
    rw [recV, hE, recR, if_neg (by decide)]
    have e2 : wStep 0 1 (Lib.itoa W) = W := by rw [wStep, if_pos rfl, hw2]
    show AV.tup [.agg [Iv 1, Iv (wStep 0 1 (Lib.itoa W)), Iv 1, .im (.sl 8 (rqR []))], _, _] = _
    rw [e2]; rfl
  · cases j with
    | zero => simp at hj; exact ⟨(1, 1, meT), rfl, by rw [← hj]⟩
    | succ j => simp at hj
end Go.Proofs.YtlpcdpjkdodmcaaGreatDoor
end

section
namespace Go.Proofs.YtlpcdpjkdodmcaaGreatDoor
open Go Go.AL Go.RowKit
set_option maxRecDepth 10000
theorem TI.request_any {t : TSt} (h : TI t) (K : Int) (b : List UInt8) (hlen : t.sent.length ≤ 1000) :
    ∃ t', TI t' ∧ t'.sent.length ≤ t.sent.length + 1 ∧ ACall Tryz.prog 23 [.ob 0 0, Iv K, Sv b] (tkH 1 2 t) (fun r H' => r = Bv true ∧ H' = tkH 3 4 t') := by
  by_cases he : sendE t.c.p t.c.w t.c.s t.c.l K b = 0
  · obtain ⟨h1, h2⟩ := h.request hlen he
    exact ⟨_, h1, by show (t.sent ++ [(K, t.s.n, b)]).length ≤ _; rw [List.length_append]; exact Nat.le_refl _, h2⟩
  · have := h.small
    exact ⟨t, h, by omega, request_no t K b he (by omega)⟩
theorem TI.reply_any {t : TSt} (h : TI t) (hlen : t.sent.length ≤ 1000) (a0 : Bool) (k0 : Int) {x : Nat} (hx : x < 256) (b : List UInt8) :
    ∃ t', TI t' ∧ t'.sent = t.sent ∧ ACall Tryz.prog 24 [.ob 0 0, .agg [Bv a0, U8v k0, U8v x, Sv b]] (tkH 1 2 t) (fun z H' => z = Bv true ∧ H' = tkH 1 3 t') := by
  cases ho : openQ t.s.l with
  | nil => exact ⟨t, h, rfl, h.reply_none a0 k0 x ho b⟩
  | cons r0 l0 =>
    have hlt : x % (openQ t.s.l).length < (openQ t.s.l).length := Nat.mod_lt _ (by rw [ho]; simp)
    have hr := List.getElem?_eq_getElem hlt
    by_cases hb : b.length ≤ 20000
    · obtain ⟨h1, h2⟩ := h.reply hlen a0 k0 hx hr hb
      exact ⟨_, h1, rfl, h2⟩
    · exact ⟨t, h, rfl, h.reply_long a0 k0 hx hr (by omega)⟩
theorem TI.reply_first {t : TSt} (h : TI t) (hlen : t.sent.length ≤ 1000) :
    ∃ t', TI t' ∧ t'.sent = t.sent ∧ t'.s.l.length ≤ t.s.l.length - 1 ∧ ACall Tryz.prog 24 [.ob 0 0, .agg [Bv false, U8v 0, U8v (0 : Nat), Sv []]] (tkH 1 2 t) (fun z H' => z = Bv true ∧ H' = tkH 1 3 t') := by
  cases hl : t.s.l with
  | nil =>
    have ho : openQ t.s.l = [] := by rw [hl]; rfl
    exact ⟨t, h, rfl, by rw [hl]; exact Nat.le_refl _, h.reply_none false 0 0 ho []⟩
  | cons r0 l0 =>
    have h0 : t.s.l[0]? = some r0 := by rw [hl]; rfl
    have ha := h.hd r0 h0
    have ho : openQ t.s.l = r0 :: openQ l0 := by rw [hl, openQ, List.filter_cons_of_pos (by simp [ha])]; rfl
    have hr : (openQ t.s.l)[0 % (openQ t.s.l).length]? = some r0 := by rw [ho, Nat.zero_mod]; rfl
    obtain ⟨h1, h2⟩ := h.reply hlen false 0 (x := 0) (by decide) hr (b := []) (by decide)
    refine ⟨_, h1, rfl, ?_, h2⟩
    show (ansQ t r0 []).2.1.length ≤ (r0 :: l0).length - 1
    have hw := (rv_open (h.gl.row 0 r0 h0).1 ha).1
    have hc := (rv_open (h.gl.row 0 r0 h0).1 ha).2.1
    have hx := h.gl.idx h0 hw
    have hra : rAt t.s.l ((0 : Nat) : Int) = r0 := by rw [rAt, Int.toNat_natCast, hl]; rfl
    have hL : answered t.s.l ((0 : Nat) : Int) 8 r0.n [] = ⟨r0.n, r0.k, r0.b, false, true, 8, r0.n, []⟩ :: l0 := by rw [answered, hra, hc, Int.toNat_natCast, hl]; rfl
    rw [ansQ, hx, hL, rdy, if_pos rfl]
    have := (rdy_len (if r0.k = 6 then 3 else t.s.p) l0).1
    simpa using this
end Go.Proofs.YtlpcdpjkdodmcaaGreatDoor
end

section
namespace Go.Proofs.YtlpcdpjkdodmcaaGreatDoor
open Go Go.AL Go.RowKit
set_option maxRecDepth 10000
set_option maxHeartbeats 4000000
structure Opx where
  a : Bool
  k : Nat
  x : Nat
  b : List UInt8
def opC (o : Opx) : List IV := [.v (.bool o.a), .v (.int .u8 o.k), .v (.int .u8 o.x), Si o.b]
def opR (l : List Opx) : List (List IV) := l.map opC
theorem opR_len (l : List Opx) : (opR l).length = l.length := List.length_map ..
theorem opR_get (l : List Opx) (k : Nat) (h : k < l.length) : ∃ o, l[k]? = some o ∧ (opR l).getD k [] = [.v (.bool o.a), .v (.int .u8 o.k), .v (.int .u8 o.x), Si o.b] := by
  refine ⟨l[k], List.getElem?_eq_getElem h, ?_⟩
  rw [List.getD_eq_getElem?_getD, opR, List.getElem?_map, List.getElem?_eq_getElem h]; rfl
theorem talks_walk (x : Nat) (hx : x < 256) (l : List Opx) (hl : ∀ o ∈ l, o.k < 256 ∧ o.x < 256) : PFn Tryz.prog 4 [U8v x, .im (.sl 4 (opR l))] (Bv true) := by
  obtain ⟨V, hW⟩ : ∃ V : Int, V = ((1 + x % 16 : Nat) : Int) := ⟨_, rfl⟩
  have hWr : 1 ≤ V ∧ V ≤ 16 := by omega
  have hwx := wr (x := (x : Int)) (by omega)
  have hm : (x : Int).tmod 16 = ((x % 16 : Nat) : Int) := by rw [show (16 : Int) = ((16 : Nat) : Int) from rfl, ← Int.ofNat_tmod]
  have hw3 : IntKind.i64.wrap (1 + ((x % 16 : Nat) : Int)) = V := by rw [wr (by omega)]; omega
  have hmw := wr (x := ((x % 16 : Nat) : Int)) (by omega)
  have hnw := new_spec V
  rw [newV, if_neg (by simp; omega)] at hnw
  have hgr := greet (W := V) (by omega)
  refine ACall.walk [0, 1, 4, 5, 6, 7, 9, 10, 13, 32, 33, 34, 35, 36, 40, 85, 87, 88, 92] [5, 9, 25] Tryz.func4 rfl Tryz.ntmps4 (by kernel_rfl) (by rfl) rfl fun W own I0 φ0 lay => ?_
  repeat (first | refine xA ?_ | refine xB ?_ | refine xC ?_ | refine xE ?_ | refine xD ?_ | refine xK ?_ | refine xS ?_ | refine xM ?_ | refine xT ?_ | refine xF ?_ | ((first | refine xR ?_ | refine xW ?_ | refine vq_id ?_); simp only [go_sem, Nat.reduceAdd, Nat.reduceLeDiff, Nat.reduceSub, Int.reduceToNat, reduceCtorEq, opR_len]) | (refine ⟨by first | omega | (intros; simp_all; done) | (intros; simp_all; omega), ?_⟩; try simp only [go_sem, Nat.reduceAdd, Nat.reduceLeDiff, Nat.reduceSub, Int.reduceToNat, reduceCtorEq, opR_len]))
  refine AP.cond rfl rfl (fun hc => ?_) (fun hc => ?_)
  · repeat (first | refine xA ?_ | refine xB ?_ | refine xC ?_ | refine xE ?_ | refine xD ?_ | refine xK ?_ | refine xS ?_ | refine xM ?_ | refine xT ?_ | refine xF ?_ | ((first | refine xR ?_ | refine xW ?_ | refine vq_id ?_); simp only [go_sem, Nat.reduceAdd, Nat.reduceLeDiff, Nat.reduceSub, Int.reduceToNat, reduceCtorEq]) | (refine ⟨by first | omega | (intros; simp_all; done) | (intros; simp_all; omega), ?_⟩; try simp only [go_sem, Nat.reduceAdd, Nat.reduceLeDiff, Nat.reduceSub, Int.reduceToNat, reduceCtorEq]))
    refine AQ.fn (by kernel_rfl) rfl rfl rfl (awake_spec) rfl ?_
    repeat (first | refine xA ?_ | refine xB ?_ | refine xC ?_ | refine xE ?_ | refine xD ?_ | refine xK ?_ | refine xS ?_ | refine xM ?_ | refine xT ?_ | refine xF ?_ | ((first | refine xR ?_ | refine xW ?_ | refine vq_id ?_); simp only [go_sem, Nat.reduceAdd, Nat.reduceLeDiff, Nat.reduceSub, Int.reduceToNat, reduceCtorEq]) | (refine ⟨by first | omega | (intros; simp_all; done) | (intros; simp_all; omega), ?_⟩; try simp only [go_sem, Nat.reduceAdd, Nat.reduceLeDiff, Nat.reduceSub, Int.reduceToNat, reduceCtorEq]))
    exact AE.ret0 rfl ⟨rfl, trivial⟩ rfl ⟨rfl, rfl⟩
  have hll : l.length ≤ 60 := by simp at hc; omega
  repeat (first | refine xA ?_ | refine xB ?_ | refine xC ?_ | refine xE ?_ | refine xD ?_ | refine xK ?_ | refine xS ?_ | refine xM ?_ | refine xT ?_ | refine xF ?_ | ((first | refine xR ?_ | refine xW ?_ | refine vq_id ?_); simp only [go_sem, Nat.reduceAdd, Nat.reduceLeDiff, Nat.reduceSub, Int.reduceToNat, reduceCtorEq, hwx, hm, hmw, hw3]) | (refine ⟨by first | omega | (intros; simp_all; done) | (intros; simp_all; omega), ?_⟩; try simp only [go_sem, Nat.reduceAdd, Nat.reduceLeDiff, Nat.reduceSub, Int.reduceToNat, reduceCtorEq, hwx, hm, hmw, hw3]))
  refine AQ.fn (by kernel_rfl) rfl rfl rfl (hnw) rfl ?_
  repeat (first | refine xA ?_ | refine xB ?_ | refine xC ?_ | refine xE ?_ | refine xD ?_ | refine xK ?_ | refine xS ?_ | refine xM ?_ | refine xT ?_ | refine xF ?_ | ((first | refine xR ?_ | refine xW ?_ | refine vq_id ?_); simp only [go_sem, Nat.reduceAdd, Nat.reduceLeDiff, Nat.reduceSub, Int.reduceToNat, reduceCtorEq, bne_self_eq_false, Bool.not_false]) | (refine ⟨by first | omega | (intros; simp_all; done) | (intros; simp_all; omega), ?_⟩; try simp only [go_sem, Nat.reduceAdd, Nat.reduceLeDiff, Nat.reduceSub, Int.reduceToNat, reduceCtorEq, bne_self_eq_false, Bool.not_false]))
  refine AQ.cellsW 1 [Iv 0, Iv 0, Iv 0, .im (.sl 8 (rqR [])), Iv 0, Sv [], Iv V, Iv 1, .im (.sl 8 (rqR [])), nilS, nilS] rfl (by repeat (first | exact cellsLe.refl _ | refine cellsLe.nil ?_ | refine cellsLe.cons ?_)) ?_
  simp only [go_sem, Nat.reduceAdd, Nat.reduceLeDiff, Nat.reduceSub, Int.reduceToNat, reduceCtorEq]
  refine AQ.ownCell 1 9 26 3 rfl rfl ?_
  simp only [go_sem, Nat.reduceAdd, Nat.reduceLeDiff, Nat.reduceSub, Int.reduceToNat, reduceCtorEq]
  refine AQ.ownCell 1 10 26 3 rfl rfl ?_
  simp only [go_sem, Nat.reduceAdd, Nat.reduceLeDiff, Nat.reduceSub, Int.reduceToNat, reduceCtorEq]
  refine AQ.guard_yes (by simp only [go_sem]) ?_
  refine AQ.callH [(2, 3), (1, 2), (0, 1)] (by kernel_rfl) rfl rfl rfl rfl rfl rfl (by exact ⟨rfl, rfl, rfl, trivial⟩) rfl hgr fun z H1 ⟨h1, h2⟩ => ?_
  subst h1
  subst h2
  refine ⟨rfl, ?_⟩
  simp only [go_sem, Nat.reduceAdd, Nat.reduceLeDiff, Nat.reduceSub, Int.reduceToNat, reduceCtorEq]
  refine AQ.rename 7 2 rfl rfl rfl ?_; simp only [go_sem, Nat.reduceAdd, Nat.reduceLeDiff, Nat.reduceSub, Int.reduceToNat, reduceCtorEq]; refine AQ.rename 8 3 rfl rfl rfl ?_; simp only [go_sem, Nat.reduceAdd, Nat.reduceLeDiff, Nat.reduceSub, Int.reduceToNat, reduceCtorEq]
  repeat (first | refine xA ?_ | refine xB ?_ | refine xC ?_ | refine xE ?_ | refine xD ?_ | refine xK ?_ | refine xS ?_ | refine xM ?_ | refine xT ?_ | refine xF ?_ | ((first | refine xR ?_ | refine xW ?_ | refine vq_id ?_); simp only [go_sem, Nat.reduceAdd, Nat.reduceLeDiff, Nat.reduceSub, Int.reduceToNat, reduceCtorEq, bne_self_eq_false, Bool.not_false, Bool.not_true, Bool.or_self, opR_len]) | (refine ⟨by first | omega | (intros; simp_all; done) | (intros; simp_all; omega), ?_⟩; try simp only [go_sem, Nat.reduceAdd, Nat.reduceLeDiff, Nat.reduceSub, Int.reduceToNat, reduceCtorEq, bne_self_eq_false, Bool.not_false, Bool.not_true, Bool.or_self, opR_len]))
  refine AP.loop rfl (α := Nat × TSt) (fun q => [(7, .ob 1 0), (33, .im (.sl 4 (opR l))), (34, Iv l.length), (35, Iv q.1)])
    (fun q => [(3, .vec 26 3 (msgR q.2.ans)), (2, .vec 26 3 (msgR q.2.sent)), (1, .var (.cell 66) (tkCells 2 3 q.2)), (0, .var (.cell 24) [Iv 0, Sv [], Iv V, Iv 1, .im (.sl 8 (rqR []))])])
    (fun q => q.1 ≤ l.length ∧ TI q.2 ∧ q.2.sent.length ≤ 1 + q.1) (fun q => l.length - q.1) (0, T1 V) ⟨by simp, TI.start hWr, Nat.le_refl _⟩ (by repeat (first | exact Sub.nil _ | refine Sub.cons rfl ?_)) rfl fun ⟨k, t⟩ ⟨hk, ht, hs⟩ => ?_
  simp only at hk ht hs
  have hw := wr (x := (k : Int) + 1) (by omega)
  repeat (first | refine xA ?_ | refine xB ?_ | refine xC ?_ | refine xE ?_ | refine xD ?_ | refine xK ?_ | refine xS ?_ | refine xM ?_ | refine xT ?_ | refine xF ?_ | ((first | refine xR ?_ | refine xW ?_ | refine vq_id ?_); simp only [go_sem, Nat.reduceAdd, Nat.reduceLeDiff, Nat.reduceSub, Int.reduceToNat, reduceCtorEq]) | (refine ⟨by first | omega | (intros; simp_all; done) | (intros; simp_all; omega), ?_⟩; try simp only [go_sem, Nat.reduceAdd, Nat.reduceLeDiff, Nat.reduceSub, Int.reduceToNat, reduceCtorEq]))
  refine AP.cond rfl rfl (fun hc2 => ?_) (fun hc2 => ?_)
  · have hk' : k < l.length := by simp at hc2; omega
    obtain ⟨o, ho, hg⟩ := opR_get l k hk'
    obtain ⟨ho1, ho2⟩ := hl o (List.mem_of_getElem? ho)
    repeat (first | refine xA ?_ | refine xB ?_ | refine xC ?_ | refine xE ?_ | refine xD ?_ | refine xK ?_ | refine xS ?_ | refine xM ?_ | refine xT ?_ | refine xF ?_ | ((first | refine xR ?_ | refine xW ?_ | refine vq_id ?_); simp only [go_sem, Nat.reduceAdd, Nat.reduceLeDiff, Nat.reduceSub, Int.reduceToNat, reduceCtorEq, opR_len, hg, Int.toNat_natCast, List.map_cons, List.map_nil, List.length_cons, List.length_nil, List.take_succ_cons, List.take_zero, List.drop_zero]) | (refine ⟨by first | omega | (intros; simp_all; done) | (intros; simp_all; omega), ?_⟩; try simp only [go_sem, Nat.reduceAdd, Nat.reduceLeDiff, Nat.reduceSub, Int.reduceToNat, reduceCtorEq, opR_len, hg, Int.toNat_natCast, List.map_cons, List.map_nil, List.length_cons, List.length_nil, List.take_succ_cons, List.take_zero, List.drop_zero]))
    refine AP.cut (α := TSt) (fun _ => [(7, .ob 1 0), (10, Bv true), (33, .im (.sl 4 (opR l))), (34, Iv l.length), (35, Iv k)])
      (fun t => [(3, .vec 26 3 (msgR t.ans)), (2, .vec 26 3 (msgR t.sent)), (1, .var (.cell 66) (tkCells 2 3 t)), (0, .var (.cell 24) [Iv 0, Sv [], Iv V, Iv 1, .im (.sl 8 (rqR []))])])
      (fun t' => TI t' ∧ t'.sent.length ≤ t.sent.length + 1) ?_ fun t' ⟨ht', hs'⟩ => ?_
    · refine AP.cond rfl rfl (fun ha => ?_) (fun ha => ?_)
      · obtain ⟨t', h1, h2, h3⟩ := ht.reply_any (by omega) o.a o.k ho2 o.b
        repeat (first | refine xA ?_ | refine xB ?_ | refine xC ?_ | refine xE ?_ | refine xD ?_ | refine xK ?_ | refine xS ?_ | refine xM ?_ | refine xT ?_ | refine xF ?_ | ((first | refine xR ?_ | refine xW ?_ | refine vq_id ?_); simp only [go_sem, Nat.reduceAdd, Nat.reduceLeDiff, Nat.reduceSub, Int.reduceToNat, reduceCtorEq]) | (refine ⟨by first | omega | (intros; simp_all; done) | (intros; simp_all; omega), ?_⟩; try simp only [go_sem, Nat.reduceAdd, Nat.reduceLeDiff, Nat.reduceSub, Int.reduceToNat, reduceCtorEq]))
        refine AQ.callH [(2, 3), (1, 2), (0, 1)] (by kernel_rfl) rfl rfl rfl rfl rfl rfl (by exact ⟨rfl, rfl, rfl, trivial⟩) rfl h3 fun z H1 ⟨e1, e2⟩ => ?_
        subst e1
        subst e2
        refine ⟨rfl, ?_⟩
        simp only [go_sem, Nat.reduceAdd, Nat.reduceLeDiff, Nat.reduceSub, Int.reduceToNat, reduceCtorEq]
        refine AQ.rename 8 3 rfl rfl rfl ?_; simp only [go_sem, Nat.reduceAdd, Nat.reduceLeDiff, Nat.reduceSub, Int.reduceToNat, reduceCtorEq]
        repeat (first | refine xA ?_ | refine xB ?_ | refine xC ?_ | refine xE ?_ | refine xD ?_ | refine xK ?_ | refine xS ?_ | refine xM ?_ | refine xT ?_ | refine xF ?_ | ((first | refine xR ?_ | refine xW ?_ | refine vq_id ?_); simp only [go_sem, Nat.reduceAdd, Nat.reduceLeDiff, Nat.reduceSub, Int.reduceToNat, reduceCtorEq]) | (refine ⟨by first | omega | (intros; simp_all; done) | (intros; simp_all; omega), ?_⟩; try simp only [go_sem, Nat.reduceAdd, Nat.reduceLeDiff, Nat.reduceSub, Int.reduceToNat, reduceCtorEq]))
        refine AE.forgets [4] rfl ?_
        simp only [go_sem, Nat.reduceAdd, Nat.reduceLeDiff, Nat.reduceSub, Int.reduceToNat, reduceCtorEq]
        exact AE.meet t' ⟨h1, by rw [h2]; omega⟩ (by repeat (first | exact Sub.nil _ | refine Sub.cons rfl ?_)) rfl
      · obtain ⟨t', h1, h2, h3⟩ := ht.request_any (((o.k % 7 : Nat) : Int)) o.b (by omega)
        have hkx := wr (x := (o.k : Int)) (by omega)
        have hk7 : (o.k : Int).tmod 7 = ((o.k % 7 : Nat) : Int) := by rw [show (7 : Int) = ((7 : Nat) : Int) from rfl, ← Int.ofNat_tmod]
        have hkw := wr (x := ((o.k % 7 : Nat) : Int)) (by omega)
        repeat (first | refine xA ?_ | refine xB ?_ | refine xC ?_ | refine xE ?_ | refine xD ?_ | refine xK ?_ | refine xS ?_ | refine xM ?_ | refine xT ?_ | refine xF ?_ | ((first | refine xR ?_ | refine xW ?_ | refine vq_id ?_); simp only [go_sem, Nat.reduceAdd, Nat.reduceLeDiff, Nat.reduceSub, Int.reduceToNat, reduceCtorEq, hkx, hk7, hkw]) | (refine ⟨by first | omega | (intros; simp_all; done) | (intros; simp_all; omega), ?_⟩; try simp only [go_sem, Nat.reduceAdd, Nat.reduceLeDiff, Nat.reduceSub, Int.reduceToNat, reduceCtorEq, hkx, hk7, hkw]))
        refine AQ.callH [(2, 3), (1, 2), (0, 1)] (by kernel_rfl) rfl rfl rfl rfl rfl rfl (by exact ⟨rfl, rfl, rfl, trivial⟩) rfl h3 fun z H1 ⟨e1, e2⟩ => ?_
        subst e1
        subst e2
        refine ⟨rfl, ?_⟩
        simp only [go_sem, Nat.reduceAdd, Nat.reduceLeDiff, Nat.reduceSub, Int.reduceToNat, reduceCtorEq]
        refine AQ.rename 8 2 rfl rfl rfl ?_; simp only [go_sem, Nat.reduceAdd, Nat.reduceLeDiff, Nat.reduceSub, Int.reduceToNat, reduceCtorEq]; refine AQ.rename 9 3 rfl rfl rfl ?_; simp only [go_sem, Nat.reduceAdd, Nat.reduceLeDiff, Nat.reduceSub, Int.reduceToNat, reduceCtorEq]
        repeat (first | refine xA ?_ | refine xB ?_ | refine xC ?_ | refine xE ?_ | refine xD ?_ | refine xK ?_ | refine xS ?_ | refine xM ?_ | refine xT ?_ | refine xF ?_ | ((first | refine xR ?_ | refine xW ?_ | refine vq_id ?_); simp only [go_sem, Nat.reduceAdd, Nat.reduceLeDiff, Nat.reduceSub, Int.reduceToNat, reduceCtorEq]) | (refine ⟨by first | omega | (intros; simp_all; done) | (intros; simp_all; omega), ?_⟩; try simp only [go_sem, Nat.reduceAdd, Nat.reduceLeDiff, Nat.reduceSub, Int.reduceToNat, reduceCtorEq]))
        refine AE.forgets [4] rfl ?_
        simp only [go_sem, Nat.reduceAdd, Nat.reduceLeDiff, Nat.reduceSub, Int.reduceToNat, reduceCtorEq]
        exact AE.meet t' ⟨h1, h2⟩ (by repeat (first | exact Sub.nil _ | refine Sub.cons rfl ?_)) rfl
    have hsm := ht'.small
    have hnl := onlyOk_len ht'.nm
    have hck := chk_spec t'.s.p t'.s.nm t'.s.w t'.s.n t'.s.l (by omega) (by omega)
    rw [srvE, ht'.srv, cond_true] at hck
    have hcc := client_spec t'.c.p t'.c.w t'.c.s t'.c.l (by omega)
    have hcr := check_spec t'.c.p t'.c.w t'.c.s t'.c.l (by omega)
    rw [ckE, ht'.ok, cond_true] at hcr
    have hln : t'.s.l.length = t'.c.l.length := by rw [ht'.cl, List.length_map]
    repeat (first | refine xA ?_ | refine xB ?_ | refine xC ?_ | refine xE ?_ | refine xD ?_ | refine xK ?_ | refine xS ?_ | refine xM ?_ | refine xT ?_ | refine xF ?_ | ((first | refine xR ?_ | refine xW ?_ | refine vq_id ?_); simp only [go_sem, Nat.reduceAdd, Nat.reduceLeDiff, Nat.reduceSub, Int.reduceToNat, reduceCtorEq]) | (refine ⟨by first | omega | (intros; simp_all; done) | (intros; simp_all; omega), ?_⟩; try simp only [go_sem, Nat.reduceAdd, Nat.reduceLeDiff, Nat.reduceSub, Int.reduceToNat, reduceCtorEq]))
    refine AP.drawE 34 (Tree.node [] [0, 1, 2, 3, 4, 5, 6] [7] [Tree.node [] [8, 9, 10, 11, 12, 13, 14] [15] [Tree.node [] [] [16] [Tree.node [] [17, 18, 19, 20, 21, 22, 23, 24, 25, 26, 27, 28, 29, 30, 31, 32, 33] [] []]]]) (by kernel_rfl) rfl (by kernel_rfl) (by kernel_rfl) ?_
    refine vd_node ?_
    simp only [go_sem, Nat.reduceAdd, Nat.reduceLeDiff, Nat.reduceSub, Int.reduceToNat, reduceCtorEq]
    repeat' (first | with_reducible exact True.intro | with_reducible refine And.intro (by omega) ?_ | with_reducible refine And.intro ?_ ?_ | (refine AQ.nx rfl ?_; simp only [go_sem, Nat.reduceAdd, Nat.reduceLeDiff, Nat.reduceSub, Int.reduceToNat, reduceCtorEq, bne_self_eq_false, Bool.not_true, Bool.not_false, Bool.or_self, rqR_len, hln]) | (refine AQ.fn_g (by kernel_rfl) rfl rfl (fun h => by first | (simp [gs, AV.g]; done) | (simp [gs, AV.g, constAV]; done) | (simp [gs, AV.g, constAV, bw] at h ⊢; done) | (simp [gs, AV.g, constAV, bw] at h ⊢; exact h) | (simp [gs, AV.g, constAV, bw] at h ⊢; simp [h]; done) | (simp [bw] at h; done) | (simp [gs, AV.g, bw] at h ⊢; simp [h]; done) | (simp [gs, AV.g, bw] at h ⊢; exact h.1) | (simp [gs, AV.g]; rfl) | (simp [gs, AV.g, bw] at h ⊢; rfl) | (simp [gs, AV.g, bw] at h ⊢; simp [h]; rfl) | (simp [gs, AV.g, bw] at h ⊢; simp_all)) rfl (fun _ => hck) rfl ?_; simp only [go_sem, Nat.reduceAdd, Nat.reduceLeDiff, Nat.reduceSub, Int.reduceToNat, reduceCtorEq, bne_self_eq_false, Bool.not_true, Bool.not_false, Bool.or_self]) | (refine AQ.fn_g (by kernel_rfl) rfl rfl (fun h => by first | (simp [gs, AV.g]; done) | (simp [gs, AV.g, constAV]; done) | (simp [gs, AV.g, constAV, bw] at h ⊢; done) | (simp [gs, AV.g, constAV, bw] at h ⊢; exact h) | (simp [gs, AV.g, constAV, bw] at h ⊢; simp [h]; done) | (simp [bw] at h; done) | (simp [gs, AV.g, bw] at h ⊢; simp [h]; done) | (simp [gs, AV.g, bw] at h ⊢; exact h.1) | (simp [gs, AV.g]; rfl) | (simp [gs, AV.g, bw] at h ⊢; rfl) | (simp [gs, AV.g, bw] at h ⊢; simp [h]; rfl) | (simp [gs, AV.g, bw] at h ⊢; simp_all)) rfl (fun _ => hcc) rfl ?_; simp only [go_sem, Nat.reduceAdd, Nat.reduceLeDiff, Nat.reduceSub, Int.reduceToNat, reduceCtorEq]) | (refine AQ.fn_g (by kernel_rfl) rfl rfl (fun h => by first | (simp [gs, AV.g]; done) | (simp [gs, AV.g, constAV]; done) | (simp [gs, AV.g, constAV, bw] at h ⊢; done) | (simp [gs, AV.g, constAV, bw] at h ⊢; exact h) | (simp [gs, AV.g, constAV, bw] at h ⊢; simp [h]; done) | (simp [bw] at h; done) | (simp [gs, AV.g, bw] at h ⊢; simp [h]; done) | (simp [gs, AV.g, bw] at h ⊢; exact h.1) | (simp [gs, AV.g]; rfl) | (simp [gs, AV.g, bw] at h ⊢; rfl) | (simp [gs, AV.g, bw] at h ⊢; simp [h]; rfl) | (simp [gs, AV.g, bw] at h ⊢; simp_all)) rfl (fun _ => hcr) rfl ?_; simp only [go_sem, Nat.reduceAdd, Nat.reduceLeDiff, Nat.reduceSub, Int.reduceToNat, reduceCtorEq, bne_self_eq_false, Bool.not_true, Bool.not_false, Bool.or_self]) | refine AQ.done ?_ | (refine AQ.go (by kernel_rfl) ?_; simp only [go_sem, Nat.reduceAdd, Nat.reduceLeDiff, Nat.reduceSub, Int.reduceToNat, reduceCtorEq, bne_self_eq_false, Bool.not_true, Bool.not_false, Bool.or_self, rqR_len, hln]; repeat (with_reducible refine And.intro (by omega) ?_); refine AQ.nx rfl ?_; simp only [go_sem, Nat.reduceAdd, Nat.reduceLeDiff, Nat.reduceSub, Int.reduceToNat, reduceCtorEq, bne_self_eq_false, Bool.not_true, Bool.not_false, Bool.or_self, rqR_len, hln]))
    repeat (first | refine xA ?_ | refine xB ?_ | refine xC ?_ | refine xE ?_ | refine xD ?_ | refine xK ?_ | refine xS ?_ | refine xM ?_ | refine xT ?_ | refine xF ?_ | ((first | refine xR ?_ | refine xW ?_ | refine vq_id ?_); simp only [go_sem, Nat.reduceAdd, Nat.reduceLeDiff, Nat.reduceSub, Int.reduceToNat, reduceCtorEq, hw]) | (refine ⟨by first | omega | (intros; simp_all; done) | (intros; simp_all; omega), ?_⟩; try simp only [go_sem, Nat.reduceAdd, Nat.reduceLeDiff, Nat.reduceSub, Int.reduceToNat, reduceCtorEq, hw]))
    exact AE.round (k + 1, t') ⟨by show k + 1 ≤ _; omega, ht', by show t'.sent.length ≤ 1 + (k + 1); omega⟩ (by show l.length - (k + 1) < l.length - k; omega) (by repeat (first | exact Sub.nil _ | refine Sub.cons rfl ?_)) rfl
  · repeat (first | refine xA ?_ | refine xB ?_ | refine xC ?_ | refine xE ?_ | refine xD ?_ | refine xK ?_ | refine xS ?_ | refine xM ?_ | refine xT ?_ | refine xF ?_ | ((first | refine xR ?_ | refine xW ?_ | refine vq_id ?_); simp only [go_sem, Nat.reduceAdd, Nat.reduceLeDiff, Nat.reduceSub, Int.reduceToNat, reduceCtorEq]) | (refine ⟨by first | omega | (intros; simp_all; done) | (intros; simp_all; omega), ?_⟩; try simp only [go_sem, Nat.reduceAdd, Nat.reduceLeDiff, Nat.reduceSub, Int.reduceToNat, reduceCtorEq]))
    refine AP.loop rfl (α := Nat × TSt) (fun q => [(7, .ob 1 0), (87, Iv q.1)])
      (fun q => [(3, .vec 26 3 (msgR q.2.ans)), (2, .vec 26 3 (msgR q.2.sent)), (1, .var (.cell 66) (tkCells 2 3 q.2)), (0, .var (.cell 24) [Iv 0, Sv [], Iv V, Iv 1, .im (.sl 8 (rqR []))])])
      (fun q => q.1 ≤ 20 ∧ TI q.2 ∧ q.2.sent.length ≤ 100 ∧ q.2.s.l.length ≤ 16 - q.1) (fun q => 20 - q.1) (0, t) ⟨Nat.zero_le _, ht, by show t.sent.length ≤ 100; omega, ht.small.1⟩ (by repeat (first | exact Sub.nil _ | refine Sub.cons rfl ?_)) rfl fun ⟨j, u⟩ ⟨hj, hu, hus, hul⟩ => ?_
    simp only at hj hu hus hul
    have hw := wr (x := (j : Int) + 1) (by omega)
    repeat (first | refine xA ?_ | refine xB ?_ | refine xC ?_ | refine xE ?_ | refine xD ?_ | refine xK ?_ | refine xS ?_ | refine xM ?_ | refine xT ?_ | refine xF ?_ | ((first | refine xR ?_ | refine xW ?_ | refine vq_id ?_); simp only [go_sem, Nat.reduceAdd, Nat.reduceLeDiff, Nat.reduceSub, Int.reduceToNat, reduceCtorEq]) | (refine ⟨by first | omega | (intros; simp_all; done) | (intros; simp_all; omega), ?_⟩; try simp only [go_sem, Nat.reduceAdd, Nat.reduceLeDiff, Nat.reduceSub, Int.reduceToNat, reduceCtorEq]))
    refine AP.cond rfl rfl (fun hc3 => ?_) (fun hc3 => ?_)
    · have hj' : j < 20 := by simp at hc3; omega
      obtain ⟨u', h1, h2, h3, h4⟩ := hu.reply_first (by omega)
      repeat (first | refine xA ?_ | refine xB ?_ | refine xC ?_ | refine xE ?_ | refine xD ?_ | refine xK ?_ | refine xS ?_ | refine xM ?_ | refine xT ?_ | refine xF ?_ | ((first | refine xR ?_ | refine xW ?_ | refine vq_id ?_); simp only [go_sem, Nat.reduceAdd, Nat.reduceLeDiff, Nat.reduceSub, Int.reduceToNat, reduceCtorEq]) | (refine ⟨by first | omega | (intros; simp_all; done) | (intros; simp_all; omega), ?_⟩; try simp only [go_sem, Nat.reduceAdd, Nat.reduceLeDiff, Nat.reduceSub, Int.reduceToNat, reduceCtorEq]))
      refine AQ.callH [(2, 3), (1, 2), (0, 1)] (by kernel_rfl) rfl rfl rfl rfl rfl rfl (by exact ⟨rfl, rfl, rfl, trivial⟩) rfl h4 fun z H1 ⟨e1, e2⟩ => ?_
      subst e1
      subst e2
      refine ⟨rfl, ?_⟩
      simp only [go_sem, Nat.reduceAdd, Nat.reduceLeDiff, Nat.reduceSub, Int.reduceToNat, reduceCtorEq]
      refine AQ.rename 7 3 rfl rfl rfl ?_; simp only [go_sem, Nat.reduceAdd, Nat.reduceLeDiff, Nat.reduceSub, Int.reduceToNat, reduceCtorEq]
      repeat (first | refine xA ?_ | refine xB ?_ | refine xC ?_ | refine xE ?_ | refine xD ?_ | refine xK ?_ | refine xS ?_ | refine xM ?_ | refine xT ?_ | refine xF ?_ | ((first | refine xR ?_ | refine xW ?_ | refine vq_id ?_); simp only [go_sem, Nat.reduceAdd, Nat.reduceLeDiff, Nat.reduceSub, Int.reduceToNat, reduceCtorEq, Bool.not_true, hw]) | (refine ⟨by first | omega | (intros; simp_all; done) | (intros; simp_all; omega), ?_⟩; try simp only [go_sem, Nat.reduceAdd, Nat.reduceLeDiff, Nat.reduceSub, Int.reduceToNat, reduceCtorEq, Bool.not_true, hw]))
      exact AE.round (j + 1, u') ⟨by show j + 1 ≤ 20; omega, h1, by rw [h2]; exact hus, by show u'.s.l.length ≤ 16 - (j + 1); omega⟩ (by show 20 - (j + 1) < 20 - j; omega) (by repeat (first | exact Sub.nil _ | refine Sub.cons rfl ?_)) rfl
    · have hj' : j = 20 := by simp at hc3; omega
      have hlz : u.s.l.length = 0 := by omega
      have han := hu.an
      have hsa : u.sent.length = u.ans.length := by omega
      repeat (first | refine xA ?_ | refine xB ?_ | refine xC ?_ | refine xE ?_ | refine xD ?_ | refine xK ?_ | refine xS ?_ | refine xM ?_ | refine xT ?_ | refine xF ?_ | ((first | refine xR ?_ | refine xW ?_ | refine vq_id ?_); simp only [go_sem, Nat.reduceAdd, Nat.reduceLeDiff, Nat.reduceSub, Int.reduceToNat, reduceCtorEq]) | (refine ⟨by first | omega | (intros; simp_all; done) | (intros; simp_all; omega), ?_⟩; try simp only [go_sem, Nat.reduceAdd, Nat.reduceLeDiff, Nat.reduceSub, Int.reduceToNat, reduceCtorEq]))
      refine AP.drawE 24 (Tree.node [] [0, 1, 2, 3, 4, 5, 6, 7, 8, 9, 10, 11, 12, 13, 14, 15, 16, 17, 18, 19, 20] [21] [Tree.node [] [22, 23] [] []]) (by kernel_rfl) rfl (by kernel_rfl) (by kernel_rfl) ?_
      refine vd_node ?_
      simp only [go_sem, Nat.reduceAdd, Nat.reduceLeDiff, Nat.reduceSub, Int.reduceToNat, reduceCtorEq, hsa, hlz, rqR_len, msgR_len]
      repeat' (first | with_reducible exact True.intro | with_reducible refine And.intro (by omega) ?_ | with_reducible refine And.intro ?_ ?_ | (refine AQ.nx rfl ?_; simp only [go_sem, Nat.reduceAdd, Nat.reduceLeDiff, Nat.reduceSub, Int.reduceToNat, reduceCtorEq, hsa, hlz, rqR_len, msgR_len, beq_self_eq_true, Bool.and_self, Int.ofNat_zero]) | (refine AQ.fn_g (by kernel_rfl) rfl rfl (fun h => by first | (simp [gs, AV.g]; done) | (simp [gs, AV.g, constAV]; done) | (simp [gs, AV.g, constAV, bw] at h ⊢; done) | (simp [gs, AV.g, constAV, bw] at h ⊢; exact h) | (simp [gs, AV.g, constAV, bw] at h ⊢; simp [h]; done) | (simp [bw] at h; done) | (simp [gs, AV.g, bw] at h ⊢; simp [h]; done) | (simp [gs, AV.g, bw] at h ⊢; exact h.1) | (simp [gs, AV.g]; rfl) | (simp [gs, AV.g, bw] at h ⊢; rfl) | (simp [gs, AV.g, bw] at h ⊢; simp [h]; rfl) | (simp [gs, AV.g, bw] at h ⊢; simp_all)) rfl (fun _ => awake_spec) rfl ?_; simp only [go_sem, Nat.reduceAdd, Nat.reduceLeDiff, Nat.reduceSub, Int.reduceToNat, reduceCtorEq]) | refine AQ.done ?_ | (refine AQ.go (by kernel_rfl) ?_; simp only [go_sem, Nat.reduceAdd, Nat.reduceLeDiff, Nat.reduceSub, Int.reduceToNat, reduceCtorEq, hsa, hlz, rqR_len, msgR_len, beq_self_eq_true, Bool.and_self, Int.ofNat_zero]; repeat (with_reducible refine And.intro (by omega) ?_); refine AQ.nx rfl ?_; simp only [go_sem, Nat.reduceAdd, Nat.reduceLeDiff, Nat.reduceSub, Int.reduceToNat, reduceCtorEq, hsa, hlz, rqR_len, msgR_len, beq_self_eq_true, Bool.and_self, Int.ofNat_zero]))
      repeat (first | refine xA ?_ | refine xB ?_ | refine xC ?_ | refine xE ?_ | refine xD ?_ | refine xK ?_ | refine xS ?_ | refine xM ?_ | refine xT ?_ | refine xF ?_ | ((first | refine xR ?_ | refine xW ?_ | refine vq_id ?_); simp only [go_sem, Nat.reduceAdd, Nat.reduceLeDiff, Nat.reduceSub, Int.reduceToNat, reduceCtorEq]) | (refine ⟨by first | omega | (intros; simp_all; done) | (intros; simp_all; omega), ?_⟩; try simp only [go_sem, Nat.reduceAdd, Nat.reduceLeDiff, Nat.reduceSub, Int.reduceToNat, reduceCtorEq]))
      exact AE.retD [1, 2, 3, 0] rfl ⟨rfl, trivial⟩ rfl ⟨rfl, rfl⟩
end Go.Proofs.YtlpcdpjkdodmcaaGreatDoor
end

section
namespace Go.Proofs.YtlpcdpjkdodmcaaGreatDoor
open Go Go.AL Go.RowKit
set_option maxRecDepth 100000
theorem op_of {n : Nat} {xs : List IV} (h : Typed Tryz.prog n 69 xs) : ∃ o : Opx, xs = opC o ∧ (o.k < 256 ∧ o.x < 256) := by
  have hc : Tryz.prog.cellsOf 69 = 4 := by kernel_rfl
  have hc5 : Tryz.prog.cellsOf 5 = 1 := by kernel_rfl
  have hc4 : Tryz.prog.cellsOf 4 = 1 := by kernel_rfl
  have hc9 : Tryz.prog.cellsOf 9 = 1 := by kernel_rfl
  obtain ⟨m', hlen, hf⟩ := typed_struct Tryz.underlying69 h
  rw [hc] at hlen
  match xs, hlen with
  | [a, b, c, d], _ =>
    have f0 := hf 0 _ rfl
    have f1 := hf 1 _ rfl
    have f2 := hf 2 _ rfl
    have f3 := hf 3 _ rfl
    simp only [hc5, hc4, hc9, List.drop_zero, List.take_succ_cons, List.take_zero, List.drop_succ_cons] at f0 f1 f2 f3
    obtain ⟨b0, e0⟩ := typed_bool Tryz.underlying4 f0
    obtain ⟨i1, e1, w1⟩ := typed_int Tryz.underlying5 f1
    obtain ⟨k, hk⟩ := u8_nat w1
    obtain ⟨i2, e2, w2⟩ := typed_int Tryz.underlying5 f2
    obtain ⟨x, hx⟩ := u8_nat w2
    obtain ⟨s, e3⟩ := str_of f3
    subst hk
    subst hx
    cases e0; cases e1; cases e2; cases e3
    exact ⟨⟨b0, k.toNat, x.toNat, s⟩, rfl, k.toNat_lt, x.toNat_lt⟩
theorem ops_of {n : Nat} {xs : List IV} (h : Typed Tryz.prog n 61 xs) : ∃ l : List Opx, xs = [.sl 4 (opR l)] ∧ ∀ o ∈ l, o.k < 256 ∧ o.x < 256 := by
  have hc : Tryz.prog.cellsOf 69 = 4 := by kernel_rfl
  obtain ⟨rows, m, rfl, hr, hrow⟩ := typed_slice Tryz.underlying61 h
  obtain ⟨l, rfl, hp⟩ := rows_of (p := fun o : Opx => o.k < 256 ∧ o.x < 256) (f := opC) rows fun r hr => by
    obtain ⟨o, rfl, ho⟩ := op_of (hrow r hr)
    exact ⟨o, rfl, ho⟩
  exact ⟨l, by rw [hc]; rfl, hp⟩
end Go.Proofs.YtlpcdpjkdodmcaaGreatDoor
end
