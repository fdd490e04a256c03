/- SessionBytes of layer 39 answers true for all messages, cuts and bytes: Decode of Encode is the message, Feed of two parts gives the messages, a spoilt frame is ErrFrame; the tied card. No conditions. -/
import Derived.Test.YtlpcdpjkdodmcaaDoorW2
import Derived.Test.YtlpcdpjkdodmcaaDoorCards
import Derived.Test.YtlpcdpjkdodmcaaDoorTie
import Derived.ProofKit
import Derived.OpenShut
import Derived.Deep.DeepHandedRow
set_option linter.unusedSimpArgs false
set_option linter.unusedVariables false
set_option linter.unnecessarySimpa false
namespace Go.Proofs.YtlpcdpjkdodmcaaDoor.sessionBytes
open Go Go.AL Go.ChangeShapes Go.WideShapes Go.ChangeAt Go.RowKit
set_option linter.unusedVariables false
theorem own : ownKnob Tryd.prog.godebug = none := by kernel_rfl
theorem walk (xss : List (List IV)) (h : TypedAll Tryd.prog Tryd.f4.params.toList xss) : PFn Tryd.prog 4 (argAVs Tryd.prog Tryd.f4.params.toList xss) (.im (.v (.bool true))) := by
  rw [Tryd.params4] at h ⊢
  match xss, h with
  | [x0, x1, x2, x3], ⟨⟨n0, h0⟩, ⟨n1, h1⟩, ⟨n2, h2⟩, ⟨n3, h3⟩, _⟩ =>
    obtain ⟨l, rfl, hl⟩ := msgs_of h0
    obtain ⟨i1, rfl, w1⟩ := typed_int Tryd.underlying47 h1
    obtain ⟨c, rfl, hc⟩ := u16_nat w1
    obtain ⟨i2, rfl, w2⟩ := typed_int Tryd.underlying47 h2
    obtain ⟨a, rfl, ha⟩ := u16_nat w2
    obtain ⟨i3, rfl, w3⟩ := typed_int Tryd.underlying5 h3
    obtain ⟨o, rfl⟩ := u8_of w3
    have e : argAVs Tryd.prog #[37, 47, 47, 5].toList [[.sl 3 (msgR l)], [.v (.int .u16 c)], [.v (.int .u16 a)], [.v (.int .u8 o.toNat)]] = [.im (.sl 3 (msgR l)), .im (.v (.int .u16 c)), .im (.v (.int .u16 a)), .im (.v (.int .u8 o.toNat))] := by
      simp [argAVs, argAV, Tryd.underlying37, Tryd.underlying47, Tryd.underlying5]
    rw [e]
    exact bytes_walk l c a o hc ha hl
theorem laid_met (os : Os) : laidMet Tryd.prog Rows.sessionBytesRow.laid ((laidWorld os).forCall (fun _ _ => 0) ⟨#[], #[.slice none 0 0, .int .u16 0, .int .u16 0, .int .u8 0], []⟩).memory :=
  laidMet_of_run' 8 (by kernel_rfl) (by kernel_rfl)
set_option maxRecDepth 100000 in
theorem lifted (os : Os) (started : os.Started) (H : Type) (enc : TypeId × Value → H) (F : Stop.Interp) :
    ReturnsInHanded {} Tryd.checked os 4 .any ((OpenSpec.ofChange Rows.sessionBytesSpec).preRow enc Tryd.prog Tryd.f4 Rows.sessionBytesRow.domain false Rows.sessionBytesRow.laid) (((OpenSpec.ofChange Rows.sessionBytesSpec).at F).post enc Tryd.prog Tryd.f4 false true false false) := by
  obtain ⟨places, hx⟩ : ∃ places, DataW.whole enc Tryd.prog ((laidWorld os).forCall (fun _ _ => 0) ⟨#[], #[.slice none 0 0, .int .u16 0, .int .u16 0, .int .u8 0], []⟩).memory Tryd.f4.params.toList Rows.sessionBytesSpec.vars false (#[.slice none 0 0, .int .u16 0, .int .u16 0, .int .u8 0] : Array Value).toList 8 = some ([.nil, .lit (.int .u16 0), .lit (.int .u16 0), .lit (.int .u8 0)], [], places) :=
    ⟨[], by kernel_rfl⟩
  refine returnsInHanded_of_row (C := Tryd.checked) (s := OpenSpec.ofChange Rows.sessionBytesSpec) own started (by kernel_rfl) Tryd.func4
    (witness_row_at (enc := enc) (C := Tryd.checked) false (laidWorld os) #[.slice none 0 0, .int .u16 0, .int .u16 0, .int .u8 0] rfl (by kernel_rfl) (by kernel_rfl) (by kernel_rfl)
      (OpenSpec.preRow_of_cond 8 hx (by kernel_rfl) (fun k hk => by cases hk) (by kernel_rfl) (laid_met os))) ?_
  intro W base args ds gs before hval hW _ _ _ hL _ _
  exact law 4 [37, 23, 3, 9, 47, 5] rfl (fun ds h => by
    have h : ds.length = 4 := h.trans (by kernel_rfl)
    match ds, h with
    | [a, b, c, d], _ => rfl) (by kernel_rfl) (by kernel_rfl) (by kernel_rfl) (by kernel_rfl) (by kernel_rfl) (by kernel_rfl) walk hval hW (vk_of hL)
theorem said : Rows.SessionBytesSaid :=
  OpenClaim.holds_of_cond 4 Tryd.f4 rfl rfl rfl rfl rfl rfl rfl ⟨rfl, rfl, rfl, rfl, rfl⟩ rfl rfl rfl rfl rfl (by kernel_rfl) Tryd.func4 (by kernel_rfl)
    (of_decide_eq_true (by kernel_rfl)) (by unfold Func.isWrapper; first | (rw [if_pos (by decide +kernel)]; kernel_rfl) | (rw [if_neg (by decide +kernel)]; exact ⟨rfl, rfl⟩))
    (fun os started H enc _ F => by rw [OpenClaim.pre_eq_preRow]; exact lifted os started H enc F)
theorem plain (f : FuncId) (fn : Func) (hf : Tryd.pinned.checked.prog.funcNamed Rows.sessionBytesRow.func = some f) (hfn : Tryd.pinned.checked.prog.funcs[f]? = some fn) :
    Rows.sessionBytesCard.stood.looks = Tryd.pinned.checked.prog.looks [] ∧ ∀ (j : Nat) t, fn.params[j]? = some t → Tryd.pinned.checked.prog.wantsStandIn t = false := by
  obtain rfl : f = 4 := Option.some.inj ((show Tryd.prog.funcNamed Rows.sessionBytesRow.func = some 4 by kernel_rfl).symm.trans hf) |>.symm
  obtain rfl : fn = Tryd.f4 := (Option.some.inj (Tryd.func4.symm.trans hfn)).symm
  refine ⟨by kernel_rfl, fun j t ht => ?_⟩
  have hall : Tryd.f4.params.toList.all (fun t => !Tryd.prog.wantsStandIn t) = true := by kernel_rfl
  have := List.all_eq_true.1 hall t (by simpa using Array.mem_of_getElem? ht)
  show Tryd.prog.wantsStandIn t = false
  simpa using this
theorem proved : Rows.SessionBytesCardSaid :=
  Claim7.holds_tied_plain_at .later [] _ _ _ _ said (fun _ h => by cases h) (by kernel_rfl) (fun _ h => by cases h) sessionBytes_row_tie rfl ⟨rfl, rfl⟩ (by kernel_rfl) rfl plain (by kernel_rfl)
end Go.Proofs.YtlpcdpjkdodmcaaDoor.sessionBytes
