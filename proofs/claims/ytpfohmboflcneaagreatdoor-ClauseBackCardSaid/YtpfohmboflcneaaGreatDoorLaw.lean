/- ClauseBack of layer 28 answers true for all clauses and texts: Parse of Text is the clause, Text of Parse the text; Normal of Normal is Normal, and Normal subsumes the clause; the tied card. No conditions. -/
import Derived.Test.YtpfohmboflcneaaGreatDoorW2
import Derived.Test.YtpfohmboflcneaaGreatDoorCards
import Derived.Test.YtpfohmboflcneaaGreatDoorTie
import Derived.ProofKit
import Derived.OpenShut
import Derived.Deep.DeepHandedRow
set_option linter.unusedSimpArgs false
set_option linter.unusedVariables false
set_option linter.unnecessarySimpa false
namespace Go.Proofs.YtpfohmboflcneaaGreatDoor.clauseBack
open Go Go.AL Go.ChangeShapes Go.WideShapes Go.ChangeAt Go.RowKit
set_option linter.unusedVariables false
theorem own:ownKnob Tryz.prog.godebug=none:=by kernel_rfl
theorem walk (gW:List (List IV)) (h:vt Tryz.prog Tryz.f8.params.toList gW):aR Tryz.prog 8 (o9 Tryz.prog Tryz.f8.params.toList gW) (.im (.v (.bool true))):=by
 rw[Tryz.params8]at h⊢
 match gW,h with
 |[x0,x1],⟨⟨n0,h0⟩,⟨n1,U⟩,_⟩=>
  obtain⟨c,rfl,p0⟩:=Ml n0 h0
  obtain⟨s,rfl,l1⟩:=C7 U
  have e:o9 Tryz.prog #[23,9].toList [[.sl 3 (bX c)],[Si s]]=[aV c,Sv s]:=by
   simp[o9,o8,Tryz.underlying23,Tryz.underlying9]
  rw[e]
  exact LR c s p0
theorem PW (os:Os):laidMet Tryz.prog Rows.clauseBackRow.laid ((BV os).forCall (fun _ _=>0) ⟨#[],#[.slice none 0 0,.string ⟨#[]⟩],[]⟩).memory:=
 laidMet_of_run' 8 (by kernel_rfl) (by kernel_rfl)
set_option maxRecDepth 100000 in
theorem lifted (os:Os) (started:os.Started) (H:Type) (enc:TypeId×Value->H) (F:Stop.Interp):
  ReturnsInHanded {} Tryz.checked os 8 .any ((OpenSpec.ofChange Rows.clauseBackSpec).preRow enc Tryz.prog Tryz.f8 Rows.clauseBackRow.domain false Rows.clauseBackRow.laid) (((OpenSpec.ofChange Rows.clauseBackSpec).at F).post enc Tryz.prog Tryz.f8 false true false false):=by
 obtain⟨places,hx⟩:∃places,DataW.whole enc Tryz.prog ((BV os).forCall (fun _ _=>0) ⟨#[],#[.slice none 0 0,.string ⟨#[]⟩],[]⟩).memory Tryz.f8.params.toList Rows.clauseBackSpec.vars false (#[.slice none 0 0,.string ⟨#[]⟩]:Array Value).toList 8=some ([.nil,.lit (.string [])],[],places):=
  ⟨[],by kernel_rfl⟩
 refine returnsInHanded_of_row (C:=Tryz.checked) (s:=OpenSpec.ofChange Rows.clauseBackSpec) own started (by kernel_rfl) Tryz.func8
  (
   witness_row_at (enc:=enc) (C:=Tryz.checked) false (BV os) #[.slice none 0 0,.string ⟨#[]⟩] rfl (by kernel_rfl) (by kernel_rfl) (by kernel_rfl)
   (OpenSpec.preRow_of_cond 8 hx (by kernel_rfl) (fun k hk=>by cases hk) (by kernel_rfl) (PW os))) ?_
 intro W base args ds gs before iJ hW _ _ _ hL da _
 exact law 4 [23,61,57,55,3,4,9] rfl (fun ds h=>by
  have h:ds.length=2:=h.trans (by kernel_rfl)
  match ds,h with
  |[a,b],_=>rfl) (by kernel_rfl) (by kernel_rfl) (by kernel_rfl) (by kernel_rfl) (by kernel_rfl) (by kernel_rfl) walk iJ hW (Ta da hL)
theorem c1:(Rows.clauseBackRow.inPlace==Tryz.pinned.checked.prog.inPlace 8)=true:=by kernel_rfl
theorem c2:(Rows.clauseBackRow.unfollowed==Tryz.pinned.checked.prog.unfollowed 8)=true:=by kernel_rfl
theorem c3:(Rows.clauseBackRow.recurses==Tryz.pinned.checked.prog.recurses 8)=true:=by kernel_rfl
theorem c4:(Rows.clauseBackRow.named==Tryz.pinned.checked.prog.varsNamed 8)=true:=by kernel_rfl
theorem closed:joinedFacts Tryz.pinned.checked.prog 8 Tryz.f8 (OpenSpec.ofChange Rows.clauseBackSpec).bare Rows.clauseBackRow=true:=by
 unfold joinedFacts
 rw[c1,c2,c3,c4]
 kernel_rfl
theorem said:Rows.ClauseBackSaid:=
 OpenClaim.holds_of_cond 8 Tryz.f8 rfl rfl rfl rfl rfl rfl rfl ⟨rfl,rfl,rfl,rfl,rfl⟩ rfl rfl rfl rfl rfl (by kernel_rfl) Tryz.func8 closed
  (of_decide_eq_true (by kernel_rfl)) (by unfold Func.isWrapper;first|(rw[if_pos (by decide+kernel)];kernel_rfl)|(rw[if_neg (by decide+kernel)];exact⟨rfl,rfl⟩))
  (fun os started H enc _ F=>by rw[OpenClaim.pre_eq_preRow];exact lifted os started H enc F)
theorem plain (f:FuncId) (fn:Func) (hf:Tryz.pinned.checked.prog.funcNamed Rows.clauseBackRow.func=some f) (tw:Tryz.pinned.checked.prog.funcs[f]?=some fn):
  Rows.clauseBackCard.stood.looks=Tryz.pinned.checked.prog.looks []/\∀(j:Nat) t,fn.params[j]?=some t->Tryz.pinned.checked.prog.wantsStandIn t=false:=by
 obtain rfl:f=8:=Option.some.inj ((show Tryz.prog.funcNamed Rows.clauseBackRow.func=some 8 by kernel_rfl).symm.trans hf)|>.symm
 obtain rfl:fn=Tryz.f8:=(Option.some.inj (Tryz.func8.symm.trans tw)).symm
 refine⟨by kernel_rfl,fun j t ht=>?_⟩
 have gz:Tryz.f8.params.toList.all (fun t=>!Tryz.prog.wantsStandIn t)=true:=by kernel_rfl
 have:=List.all_eq_true.1 gz t (by simpa using Array.mem_of_getElem? ht)
 show Tryz.prog.wantsStandIn t=false
 simpa using this
theorem proved:Rows.ClauseBackCardSaid:=
 Claim7.holds_tied_plain_at .later [] _ _ _ _ said (fun _ h=>by cases h) (by kernel_rfl) (fun _ h=>by cases h) clauseBack_row_tie rfl ⟨rfl,rfl⟩ (by kernel_rfl) rfl plain (by kernel_rfl)
end Go.Proofs.YtpfohmboflcneaaGreatDoor.clauseBack
