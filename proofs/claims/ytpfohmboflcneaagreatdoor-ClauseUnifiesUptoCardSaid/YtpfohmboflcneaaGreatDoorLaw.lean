/- ClauseUnifies of layer 28 answers true for all terms and bindings that hold together at most 1048576 values and letters: under the result of Unify both terms are equal, also if it is applied twice; if some substitution makes them equal, there is a result, of which that is an instance; the tied card in its second form. No other conditions. -/
import Derived.Test.YtpfohmboflcneaaGreatDoorW3
import Derived.Test.YtpfohmboflcneaaGreatDoorCards
import Derived.Test.YtpfohmboflcneaaGreatDoorTie
import Derived.ProofKit
import Derived.OpenShut
import Derived.Deep.DeepHandedRow
import Derived.JoinedCond
set_option linter.unusedSimpArgs false
set_option linter.unusedVariables false
set_option linter.unnecessarySimpa false
namespace Go.Proofs.YtpfohmboflcneaaGreatDoor.clauseUnifies
open Go Go.AL Go.ChangeShapes Go.WideShapes Go.ChangeAt Go.RowKit
set_option linter.unusedVariables false
theorem own:ownKnob Tryz.prog.godebug=none:=by kernel_rfl
theorem S_ (H:Type):vf (H:=H) Rows.uptoBulk Rows.uptoBulkAll:=by
 refine⟨fun d=>?_,fun l=>?_,fun d=>?_,fun e r=>?_,fun l=>?_,?_,fun d r=>?_⟩
 ·cases d with
  |lit l=>cases l<;>simp[Rows.uptoBulk]
  |_=>simp[Rows.uptoBulk]
 all_goals simp only[Rows.uptoBulk,Rows.uptoBulkAll]
 all_goals omega
theorem bound {H:Type} {l:List (DataW H)} (hk:Rows.uptoSmall H l=true):Rows.uptoBulkAll l<=1048576:=of_decide_eq_true hk
theorem walk (ij:List (List IV)) (h:AU Tryz.prog Tryz.f9.params.toList ij) (hb:IV.iM ij<=1048576):bh Tryz.prog 9 (tr Tryz.prog Tryz.f9.params.toList ij) (.im (.v (.bool true))):=by
 rw[Tryz.params9]at h⊢
 match ij,h with
 |[x0,x1,x2],⟨⟨n0,h0⟩,⟨n1,U⟩,⟨n2,h2⟩,_⟩=>
  obtain⟨s,rfl,p0⟩:=IZ n0 h0
  obtain⟨t,rfl,p1⟩:=IZ n1 U
  obtain⟨l,rfl,p2⟩:=SZ n2 h2
  have hl:iy l:=SX (by
   simp only[IV.iM,IV.eY,IV.sw]at hb
   omega)
  rw[jJ,jJ]
  have e:tr Tryz.prog #[57,57,52].toList [[Si s.nm,Ii s.ix,.sl 3 (az s.xs)],[Si t.nm,Ii t.ix,.sl 3 (az t.xs)],[.sl 4 (fq l)]]=[.ar [Si s.nm,Ii s.ix,.sl 3 (az s.xs)],.ar [Si t.nm,Ii t.ix,.sl 3 (az t.xs)],gV l]:=by
   simp[tr,tq,Tryz.underlying57,Tryz.underlying52]
  rw[e]
  exact(aa2 s t l p0 p1 hl).vp (bY.nT (da.ar _) (bY.nT (da.ar _) (bY.nT (da.refl _) (bY.refl _))))
theorem X0 (os:Os):laidMet Tryz.prog Rows.clauseUnifiesUptoRow.laid ((Hv os).forCall (fun _ _=>0) ⟨#[],#[.agg #[.string ⟨#[]⟩,.int .i64 0,.slice none 0 0],.agg #[.string ⟨#[]⟩,.int .i64 0,.slice none 0 0],.slice none 0 0],[]⟩).memory:=
 laidMet_of_run' 8 (by kernel_rfl) (by kernel_rfl)
set_option maxRecDepth 100000 in
theorem lifted (os:Os) (started:os.Started) (H:Type) (enc:TypeId×Value->H) (F:Stop.Interp):
  ReturnsInHanded {} Tryz.checked os 9 .any ((Rows.OpenSpec.upto Rows.clauseUnifiesSpec).preRow enc Tryz.prog Tryz.f9 Rows.clauseUnifiesUptoRow.domain false Rows.clauseUnifiesUptoRow.laid) (((Rows.OpenSpec.upto Rows.clauseUnifiesSpec).at F).post enc Tryz.prog Tryz.f9 false true false false):=by
 obtain⟨places,hx⟩:∃places,DataW.whole enc Tryz.prog ((Hv os).forCall (fun _ _=>0) ⟨#[],#[.agg #[.string ⟨#[]⟩,.int .i64 0,.slice none 0 0],.agg #[.string ⟨#[]⟩,.int .i64 0,.slice none 0 0],.slice none 0 0],[]⟩).memory Tryz.f9.params.toList Rows.clauseUnifiesSpec.vars false (#[.agg #[.string ⟨#[]⟩,.int .i64 0,.slice none 0 0],.agg #[.string ⟨#[]⟩,.int .i64 0,.slice none 0 0],.slice none 0 0]:Array Value).toList 8=some ([.agg [.lit (.string []),.lit (.int .i64 0),.nil],.agg [.lit (.string []),.lit (.int .i64 0),.nil],.nil],[],places):=
  ⟨[],by kernel_rfl⟩
 refine returnsInHanded_of_row (C:=Tryz.checked) (s:=Rows.OpenSpec.upto Rows.clauseUnifiesSpec) own started (by kernel_rfl) Tryz.func9
  (
   witness_row_at (enc:=enc) (C:=Tryz.checked) false (Hv os) #[.agg #[.string ⟨#[]⟩,.int .i64 0,.slice none 0 0],.agg #[.string ⟨#[]⟩,.int .i64 0,.slice none 0 0],.slice none 0 0] rfl (by kernel_rfl) (by kernel_rfl) (by kernel_rfl)
   (OpenSpec.preRow_of_cond 8 hx (by kernel_rfl) (fun k hk=>by cases hk;kernel_rfl) (by kernel_rfl) (X0 os))) ?_
 intro W base args ds gs before k5 hW _ hk _ hL cK _
 exact X4 (S_ H) 1048576 4 [57,52,59,55,3,9] rfl (fun ds h=>by
  have h:ds.length=3:=h.trans (by kernel_rfl)
  match ds,h with
  |[a,b,c],_=>rfl) (by kernel_rfl) (by kernel_rfl) (by kernel_rfl) (by kernel_rfl) (by kernel_rfl) (by kernel_rfl) walk k5 hW (bound (hk _ rfl)) (abc cK hL)
theorem c1:(Rows.clauseUnifiesUptoRow.inPlace==Tryz.pinned.checked.prog.inPlace 9)=true:=by kernel_rfl
theorem c2:(Rows.clauseUnifiesUptoRow.unfollowed==Tryz.pinned.checked.prog.unfollowed 9)=true:=by kernel_rfl
theorem c3:(Rows.clauseUnifiesUptoRow.recurses==Tryz.pinned.checked.prog.recurses 9)=true:=by kernel_rfl
theorem c4:(Rows.clauseUnifiesUptoRow.named==Tryz.pinned.checked.prog.varsNamed 9)=true:=by kernel_rfl
theorem closed:joinedFacts Tryz.pinned.checked.prog 9 Tryz.f9 (Rows.OpenSpec.upto Rows.clauseUnifiesSpec).bare Rows.clauseUnifiesUptoRow=true:=by
 unfold joinedFacts
 rw[c1,c2,c3,c4]
 kernel_rfl
theorem said:Rows.ClauseUnifiesUptoSaid:=
 OpenClaim.holds_of_cond 9 Tryz.f9 rfl rfl rfl rfl rfl rfl rfl ⟨rfl,rfl,rfl,rfl,rfl⟩ rfl rfl rfl rfl rfl (by kernel_rfl) Tryz.func9 closed
  (of_decide_eq_true (by kernel_rfl)) (by unfold Func.isWrapper;first|(rw[if_pos (by decide+kernel)];kernel_rfl)|(rw[if_neg (by decide+kernel)];exact⟨rfl,rfl⟩))
  (fun os started H enc _ F=>by rw[OpenClaim.pre_eq_preRow];exact lifted os started H enc F)
theorem plain (f:FuncId) (fn:Func) (hf:Tryz.pinned.checked.prog.funcNamed Rows.clauseUnifiesUptoRow.func=some f) (y2:Tryz.pinned.checked.prog.funcs[f]?=some fn):
  Rows.clauseUnifiesUptoCard.stood.looks=Tryz.pinned.checked.prog.looks []/\∀(j:Nat) t,fn.params[j]?=some t->Tryz.pinned.checked.prog.wantsStandIn t=false:=by
 obtain rfl:f=9:=Option.some.inj ((show Tryz.prog.funcNamed Rows.clauseUnifiesUptoRow.func=some 9 by kernel_rfl).symm.trans hf)|>.symm
 obtain rfl:fn=Tryz.f9:=(Option.some.inj (Tryz.func9.symm.trans y2)).symm
 refine⟨by kernel_rfl,fun j t ht=>?_⟩
 have iE:Tryz.f9.params.toList.all (fun t=>!Tryz.prog.wantsStandIn t)=true:=by kernel_rfl
 have:=List.all_eq_true.1 iE t (by simpa using Array.mem_of_getElem? ht)
 show Tryz.prog.wantsStandIn t=false
 simpa using this
theorem proved:Rows.ClauseUnifiesUptoCardSaid:=
 Claim7.holds_tied_plain_at .later [] _ _ _ _ said (fun _ h=>by cases h) (by kernel_rfl) (fun _ h=>by cases h) clauseUnifiesUpto_row_tie rfl ⟨rfl,rfl⟩ (by kernel_rfl) rfl plain (by kernel_rfl)
end Go.Proofs.YtpfohmboflcneaaGreatDoor.clauseUnifies
