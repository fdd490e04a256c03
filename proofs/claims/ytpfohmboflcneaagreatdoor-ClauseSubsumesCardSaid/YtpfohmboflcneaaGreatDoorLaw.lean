/- ClauseSubsumes of layer 28 answers true for all clauses: Subsumes returns the result of the reference, or its error; a clause subsumes itself, and under the result each literal is one of the other clause; the tied card. No conditions. -/
import Derived.Test.YtpfohmboflcneaaGreatDoorW3
import Derived.Test.YtpfohmboflcneaaGreatDoorCards
import Derived.Test.YtpfohmboflcneaaGreatDoorTie
import Derived.ProofKit
import Derived.OpenShut
import Derived.Deep.DeepHandedRow
set_option linter.unusedSimpArgs false
set_option linter.unusedVariables false
set_option linter.unnecessarySimpa false
namespace Go.Proofs.YtpfohmboflcneaaGreatDoor.clauseSubsumes
open Go Go.AL Go.ChangeShapes Go.WideShapes Go.ChangeAt Go.RowKit
set_option linter.unusedVariables false
theorem own:ownKnob Tryz.prog.godebug=none:=by kernel_rfl
theorem walk (iI:List (List IV)) (h:w4 Tryz.prog Tryz.f6.params.toList iI):aP Tryz.prog 6 (qh Tryz.prog Tryz.f6.params.toList iI) (.im (.v (.bool true))):=by
 rw[Tryz.params6]at h⊢
 match iI,h with
 |[x0,x1],⟨⟨n0,h0⟩,⟨n1,U⟩,_⟩=>
  obtain⟨c,rfl,p0⟩:=FB n0 h0
  obtain⟨d,rfl,p1⟩:=FB n1 U
  have e:qh Tryz.prog #[23,23].toList [[.sl 3 (bP c)],[.sl 3 (bP d)]]=[aK c,aK d]:=by
   simp[qh,qg,Tryz.underlying23]
  rw[e]
  exact TF c d p0 p1
theorem Q9 (os:Os):laidMet Tryz.prog Rows.clauseSubsumesRow.laid ((C1 os).forCall (fun _ _=>0) ⟨#[],#[.slice none 0 0,.slice none 0 0],[]⟩).memory:=
 laidMet_of_run' 8 (by kernel_rfl) (by kernel_rfl)
set_option maxRecDepth 100000 in
theorem lifted (os:Os) (started:os.Started) (H:Type) (enc:TypeId×Value->H) (F:Stop.Interp):
  ReturnsInHanded {} Tryz.checked os 6 .any ((OpenSpec.ofChange Rows.clauseSubsumesSpec).preRow enc Tryz.prog Tryz.f6 Rows.clauseSubsumesRow.domain false Rows.clauseSubsumesRow.laid) (((OpenSpec.ofChange Rows.clauseSubsumesSpec).at F).post enc Tryz.prog Tryz.f6 false true false false):=by
 obtain⟨places,hx⟩:∃places,DataW.whole enc Tryz.prog ((C1 os).forCall (fun _ _=>0) ⟨#[],#[.slice none 0 0,.slice none 0 0],[]⟩).memory Tryz.f6.params.toList Rows.clauseSubsumesSpec.vars false (#[.slice none 0 0,.slice none 0 0]:Array Value).toList 8=some ([.nil,.nil],[],places):=
  ⟨[],by kernel_rfl⟩
 refine returnsInHanded_of_row (C:=Tryz.checked) (s:=OpenSpec.ofChange Rows.clauseSubsumesSpec) own started (by kernel_rfl) Tryz.func6
  (
   witness_row_at (enc:=enc) (C:=Tryz.checked) false (C1 os) #[.slice none 0 0,.slice none 0 0] rfl (by kernel_rfl) (by kernel_rfl) (by kernel_rfl)
   (OpenSpec.preRow_of_cond 8 hx (by kernel_rfl) (fun k hk=>by cases hk) (by kernel_rfl) (Q9 os))) ?_
 intro W base args ds gs before jv hW _ _ _ hL dB _
 exact law 4 [23,61,57,55,3,4,9] rfl (fun ds h=>by
  have h:ds.length=2:=h.trans (by kernel_rfl)
  match ds,h with
  |[a,b],_=>rfl) (by kernel_rfl) (by kernel_rfl) (by kernel_rfl) (by kernel_rfl) (by kernel_rfl) (by kernel_rfl) walk jv hW (Uj dB hL)
theorem c1:(Rows.clauseSubsumesRow.inPlace==Tryz.pinned.checked.prog.inPlace 6)=true:=by kernel_rfl
theorem c2:(Rows.clauseSubsumesRow.unfollowed==Tryz.pinned.checked.prog.unfollowed 6)=true:=by kernel_rfl
theorem c3:(Rows.clauseSubsumesRow.recurses==Tryz.pinned.checked.prog.recurses 6)=true:=by kernel_rfl
theorem c4:(Rows.clauseSubsumesRow.named==Tryz.pinned.checked.prog.varsNamed 6)=true:=by kernel_rfl
theorem closed:joinedFacts Tryz.pinned.checked.prog 6 Tryz.f6 (OpenSpec.ofChange Rows.clauseSubsumesSpec).bare Rows.clauseSubsumesRow=true:=by
 unfold joinedFacts
 rw[c1,c2,c3,c4]
 kernel_rfl
theorem said:Rows.ClauseSubsumesSaid:=
 OpenClaim.holds_of_cond 6 Tryz.f6 rfl rfl rfl rfl rfl rfl rfl ⟨rfl,rfl,rfl,rfl,rfl⟩ rfl rfl rfl rfl rfl (by kernel_rfl) Tryz.func6 closed
  (of_decide_eq_true (by kernel_rfl)) (by unfold Func.isWrapper;first|(rw[if_pos (by decide+kernel)];kernel_rfl)|(rw[if_neg (by decide+kernel)];exact⟨rfl,rfl⟩))
  (fun os started H enc _ F=>by rw[OpenClaim.pre_eq_preRow];exact lifted os started H enc F)
theorem plain (f:FuncId) (fn:Func) (hf:Tryz.pinned.checked.prog.funcNamed Rows.clauseSubsumesRow.func=some f) (uK:Tryz.pinned.checked.prog.funcs[f]?=some fn):
  Rows.clauseSubsumesCard.stood.looks=Tryz.pinned.checked.prog.looks []/\∀(j:Nat) t,fn.params[j]?=some t->Tryz.pinned.checked.prog.wantsStandIn t=false:=by
 obtain rfl:f=6:=Option.some.inj ((show Tryz.prog.funcNamed Rows.clauseSubsumesRow.func=some 6 by kernel_rfl).symm.trans hf)|>.symm
 obtain rfl:fn=Tryz.f6:=(Option.some.inj (Tryz.func6.symm.trans uK)).symm
 refine⟨by kernel_rfl,fun j t ht=>?_⟩
 have gG:Tryz.f6.params.toList.all (fun t=>!Tryz.prog.wantsStandIn t)=true:=by kernel_rfl
 have:=List.all_eq_true.1 gG t (by simpa using Array.mem_of_getElem? ht)
 show Tryz.prog.wantsStandIn t=false
 simpa using this
theorem proved:Rows.ClauseSubsumesCardSaid:=
 Claim7.holds_tied_plain_at .later [] _ _ _ _ said (fun _ h=>by cases h) (by kernel_rfl) (fun _ h=>by cases h) clauseSubsumes_row_tie rfl ⟨rfl,rfl⟩ (by kernel_rfl) rfl plain (by kernel_rfl)
end Go.Proofs.YtpfohmboflcneaaGreatDoor.clauseSubsumes
