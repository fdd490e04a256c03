/- ClauseTerms of layer 28 answers true for all terms: Unify, Match and Compare return the results of the reference, or its errors; the tied card. No conditions. -/
import Derived.Test.YtpfohmboflcneaaGreatDoorW3
import Derived.Test.YtpfohmboflcneaaGreatDoorCards
import Derived.Test.YtpfohmboflcneaaGreatDoorTie
import Derived.ProofKit
import Derived.OpenShut
import Derived.Deep.DeepHandedRow
set_option linter.unusedSimpArgs false
set_option linter.unusedVariables false
set_option linter.unnecessarySimpa false
namespace Go.Proofs.YtpfohmboflcneaaGreatDoor.clauseTerms
open Go Go.AL Go.ChangeShapes Go.WideShapes Go.ChangeAt Go.RowKit
set_option linter.unusedVariables false
theorem own:ownKnob Tryz.prog.godebug=none:=by kernel_rfl
theorem walk (jZ:List (List IV)) (h:BS Tryz.prog Tryz.f7.params.toList jZ):aS Tryz.prog 7 (um Tryz.prog Tryz.f7.params.toList jZ) (.im (.v (.bool true))):=by
 rw[Tryz.params7]at h⊢
 match jZ,h with
 |[x0,x1],⟨⟨n0,h0⟩,⟨n1,U⟩,_⟩=>
  obtain⟨s,rfl,p0⟩:=R6 n0 h0
  obtain⟨t,rfl,p1⟩:=R6 n1 U
  rw[jx,jx]
  have e:um Tryz.prog #[57,57].toList [[Si s.nm,Ii s.ix,.sl 3 (aA s.xs)],[Si t.nm,Ii t.ix,.sl 3 (aA t.xs)]]=[.ar [Si s.nm,Ii s.ix,.sl 3 (aA s.xs)],.ar [Si t.nm,Ii t.ix,.sl 3 (aA t.xs)]]:=by
   simp[um,uk,Tryz.underlying57]
  rw[e]
  exact(abF s t p0 p1).qT (bP.k6 (c6.ar _) (bP.k6 (c6.ar _) (bP.refl _)))
theorem Y3 (os:Os):laidMet Tryz.prog Rows.clauseTermsRow.laid ((IB os).forCall (fun _ _=>0) ⟨#[],#[.agg #[.string ⟨#[]⟩,.int .i64 0,.slice none 0 0],.agg #[.string ⟨#[]⟩,.int .i64 0,.slice none 0 0]],[]⟩).memory:=
 laidMet_of_run' 8 (by kernel_rfl) (by kernel_rfl)
set_option maxRecDepth 100000 in
theorem lifted (os:Os) (started:os.Started) (H:Type) (enc:TypeId×Value->H) (F:Stop.Interp):
  ReturnsInHanded {} Tryz.checked os 7 .any ((OpenSpec.ofChange Rows.clauseTermsSpec).preRow enc Tryz.prog Tryz.f7 Rows.clauseTermsRow.domain false Rows.clauseTermsRow.laid) (((OpenSpec.ofChange Rows.clauseTermsSpec).at F).post enc Tryz.prog Tryz.f7 false true false false):=by
 obtain⟨places,hx⟩:∃places,DataW.whole enc Tryz.prog ((IB os).forCall (fun _ _=>0) ⟨#[],#[.agg #[.string ⟨#[]⟩,.int .i64 0,.slice none 0 0],.agg #[.string ⟨#[]⟩,.int .i64 0,.slice none 0 0]],[]⟩).memory Tryz.f7.params.toList Rows.clauseTermsSpec.vars false (#[.agg #[.string ⟨#[]⟩,.int .i64 0,.slice none 0 0],.agg #[.string ⟨#[]⟩,.int .i64 0,.slice none 0 0]]:Array Value).toList 8=some ([.agg [.lit (.string []),.lit (.int .i64 0),.nil],.agg [.lit (.string []),.lit (.int .i64 0),.nil]],[],places):=
  ⟨[],by kernel_rfl⟩
 refine returnsInHanded_of_row (C:=Tryz.checked) (s:=OpenSpec.ofChange Rows.clauseTermsSpec) own started (by kernel_rfl) Tryz.func7
  (
   witness_row_at (enc:=enc) (C:=Tryz.checked) false (IB os) #[.agg #[.string ⟨#[]⟩,.int .i64 0,.slice none 0 0],.agg #[.string ⟨#[]⟩,.int .i64 0,.slice none 0 0]] rfl (by kernel_rfl) (by kernel_rfl) (by kernel_rfl)
   (OpenSpec.preRow_of_cond 8 hx (by kernel_rfl) (fun k hk=>by cases hk) (by kernel_rfl) (Y3 os))) ?_
 intro W base args ds gs before lE hW _ _ _ hL cX _
 exact law 4 [57,55,3,9] rfl (fun ds h=>by
  have h:ds.length=2:=h.trans (by kernel_rfl)
  match ds,h with
  |[a,b],_=>rfl) (by kernel_rfl) (by kernel_rfl) (by kernel_rfl) (by kernel_rfl) (by kernel_rfl) (by kernel_rfl) walk lE hW (ace cX hL)
theorem c1:(Rows.clauseTermsRow.inPlace==Tryz.pinned.checked.prog.inPlace 7)=true:=by kernel_rfl
theorem c2:(Rows.clauseTermsRow.unfollowed==Tryz.pinned.checked.prog.unfollowed 7)=true:=by kernel_rfl
theorem c3:(Rows.clauseTermsRow.recurses==Tryz.pinned.checked.prog.recurses 7)=true:=by kernel_rfl
theorem c4:(Rows.clauseTermsRow.named==Tryz.pinned.checked.prog.varsNamed 7)=true:=by kernel_rfl
theorem closed:joinedFacts Tryz.pinned.checked.prog 7 Tryz.f7 (OpenSpec.ofChange Rows.clauseTermsSpec).bare Rows.clauseTermsRow=true:=by
 unfold joinedFacts
 rw[c1,c2,c3,c4]
 kernel_rfl
theorem said:Rows.ClauseTermsSaid:=
 OpenClaim.holds_of_cond 7 Tryz.f7 rfl rfl rfl rfl rfl rfl rfl ⟨rfl,rfl,rfl,rfl,rfl⟩ rfl rfl rfl rfl rfl (by kernel_rfl) Tryz.func7 closed
  (of_decide_eq_true (by kernel_rfl)) (by unfold Func.isWrapper;first|(rw[if_pos (by decide+kernel)];kernel_rfl)|(rw[if_neg (by decide+kernel)];exact⟨rfl,rfl⟩))
  (fun os started H enc _ F=>by rw[OpenClaim.pre_eq_preRow];exact lifted os started H enc F)
theorem plain (f:FuncId) (fn:Func) (hf:Tryz.pinned.checked.prog.funcNamed Rows.clauseTermsRow.func=some f) (zU:Tryz.pinned.checked.prog.funcs[f]?=some fn):
  Rows.clauseTermsCard.stood.looks=Tryz.pinned.checked.prog.looks []/\∀(j:Nat) t,fn.params[j]?=some t->Tryz.pinned.checked.prog.wantsStandIn t=false:=by
 obtain rfl:f=7:=Option.some.inj ((show Tryz.prog.funcNamed Rows.clauseTermsRow.func=some 7 by kernel_rfl).symm.trans hf)|>.symm
 obtain rfl:fn=Tryz.f7:=(Option.some.inj (Tryz.func7.symm.trans zU)).symm
 refine⟨by kernel_rfl,fun j t ht=>?_⟩
 have iR:Tryz.f7.params.toList.all (fun t=>!Tryz.prog.wantsStandIn t)=true:=by kernel_rfl
 have:=List.all_eq_true.1 iR t (by simpa using Array.mem_of_getElem? ht)
 show Tryz.prog.wantsStandIn t=false
 simpa using this
theorem proved:Rows.ClauseTermsCardSaid:=
 Claim7.holds_tied_plain_at .later [] _ _ _ _ said (fun _ h=>by cases h) (by kernel_rfl) (fun _ h=>by cases h) clauseTerms_row_tie rfl ⟨rfl,rfl⟩ (by kernel_rfl) rfl plain (by kernel_rfl)
end Go.Proofs.YtpfohmboflcneaaGreatDoor.clauseTerms
