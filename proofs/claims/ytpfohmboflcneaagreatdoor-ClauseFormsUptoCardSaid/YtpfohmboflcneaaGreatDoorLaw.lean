/- ClauseForms of layer 28 answers true for all clauses and texts that hold together at most 1048576 values and letters: Check, Text, Normal, Tautology and Maximal of any clause, and Parse of any text, return the results of the reference, or its errors; the tied card in its second form. No other conditions. -/
import Derived.Test.YtpfohmboflcneaaGreatDoorW3
import Derived.Test.YtpfohmboflcneaaGreatDoorCards
import Derived.Test.YtpfohmboflcneaaGreatDoorTie
import Derived.ProofKit
import Derived.OpenShut
import Derived.Deep.DeepHandedRow
import Derived.JoinedCond
set_option linter.unusedSimpArgs false
set_option linter.unusedVariables false
set_option linter.unnecessarySimpa false
namespace Go.Proofs.YtpfohmboflcneaaGreatDoor.clauseForms
open Go Go.AL Go.ChangeShapes Go.WideShapes Go.ChangeAt Go.RowKit
set_option linter.unusedVariables false
theorem own:ownKnob Tryz.prog.godebug=none:=by kernel_rfl
theorem Nh (H:Type):rP (H:=H) Rows.uptoBulk Rows.uptoBulkAll:=by
 refine⟨fun d=>?_,fun l=>?_,fun d=>?_,fun e r=>?_,fun l=>?_,?_,fun d r=>?_⟩
 ·cases d with
  |lit l=>cases l<;>simp[Rows.uptoBulk]
  |_=>simp[Rows.uptoBulk]
 all_goals simp only[Rows.uptoBulk,Rows.uptoBulkAll]
 all_goals omega
theorem bound {H:Type} {l:List (DataW H)} (hk:Rows.uptoSmall H l=true):Rows.uptoBulkAll l<=1048576:=of_decide_eq_true hk
theorem walk (gG:List (List IV)) (h:xm Tryz.prog Tryz.f3.params.toList gG) (hb:IV.gT gG<=1048576):aI Tryz.prog 3 (qn Tryz.prog Tryz.f3.params.toList gG) (.im (.v (.bool true))):=by
 rw[Tryz.params3]at h⊢
 match gG,h with
 |[x0,x1],⟨⟨n0,h0⟩,⟨n1,h1⟩,_⟩=>
  obtain⟨c,rfl,p0⟩:=NB n0 h0
  obtain⟨s,rfl,l1⟩:=Ei h1
  have hl:cG c:=NA (by
   simp only[IV.gT,IV.eE,IV.nn]at hb
   omega)
  have e:qn Tryz.prog #[23,9].toList [[.sl 3 (aF c)],[Si s]]=[aJ c,Sv s]:=by
   simp[qn,qm,Tryz.underlying23,Tryz.underlying9]
  rw[e]
  exact Oe c s hl
theorem Rl (os:Os):laidMet Tryz.prog Rows.clauseFormsUptoRow.laid ((Dj os).forCall (fun _ _=>0) ⟨#[],#[.slice none 0 0,.string ⟨#[]⟩],[]⟩).memory:=
 laidMet_of_run' 8 (by kernel_rfl) (by kernel_rfl)
set_option maxRecDepth 100000 in
theorem lifted (os:Os) (started:os.Started) (H:Type) (enc:TypeId×Value->H) (F:Stop.Interp):
  ReturnsInHanded {} Tryz.checked os 3 .any ((Rows.OpenSpec.upto Rows.clauseFormsSpec).preRow enc Tryz.prog Tryz.f3 Rows.clauseFormsUptoRow.domain false Rows.clauseFormsUptoRow.laid) (((Rows.OpenSpec.upto Rows.clauseFormsSpec).at F).post enc Tryz.prog Tryz.f3 false true false false):=by
 obtain⟨places,hx⟩:∃places,DataW.whole enc Tryz.prog ((Dj os).forCall (fun _ _=>0) ⟨#[],#[.slice none 0 0,.string ⟨#[]⟩],[]⟩).memory Tryz.f3.params.toList Rows.clauseFormsSpec.vars false (#[.slice none 0 0,.string ⟨#[]⟩]:Array Value).toList 8=some ([.nil,.lit (.string [])],[],places):=
  ⟨[],by kernel_rfl⟩
 refine returnsInHanded_of_row (C:=Tryz.checked) (s:=Rows.OpenSpec.upto Rows.clauseFormsSpec) own started (by kernel_rfl) Tryz.func3
  (
   witness_row_at (enc:=enc) (C:=Tryz.checked) false (Dj os) #[.slice none 0 0,.string ⟨#[]⟩] rfl (by kernel_rfl) (by kernel_rfl) (by kernel_rfl)
   (OpenSpec.preRow_of_cond 8 hx (by kernel_rfl) (fun k hk=>by cases hk;kernel_rfl) (by kernel_rfl) (Rl os))) ?_
 intro W base args ds gs before jG hW _ hk _ hL dv _
 exact Ro (Nh H) 1048576 4 [23,61,57,55,3,4,9] rfl (fun ds h=>by
  have h:ds.length=2:=h.trans (by kernel_rfl)
  match ds,h with
  |[a,b],_=>rfl) (by kernel_rfl) (by kernel_rfl) (by kernel_rfl) (by kernel_rfl) (by kernel_rfl) (by kernel_rfl) walk jG hW (bound (hk _ rfl)) (UD dv hL)
theorem c1:(Rows.clauseFormsUptoRow.inPlace==Tryz.pinned.checked.prog.inPlace 3)=true:=by kernel_rfl
theorem c2:(Rows.clauseFormsUptoRow.unfollowed==Tryz.pinned.checked.prog.unfollowed 3)=true:=by kernel_rfl
theorem c3:(Rows.clauseFormsUptoRow.recurses==Tryz.pinned.checked.prog.recurses 3)=true:=by kernel_rfl
theorem c4:(Rows.clauseFormsUptoRow.named==Tryz.pinned.checked.prog.varsNamed 3)=true:=by kernel_rfl
theorem closed:joinedFacts Tryz.pinned.checked.prog 3 Tryz.f3 (Rows.OpenSpec.upto Rows.clauseFormsSpec).bare Rows.clauseFormsUptoRow=true:=by
 unfold joinedFacts
 rw[c1,c2,c3,c4]
 kernel_rfl
theorem said:Rows.ClauseFormsUptoSaid:=
 OpenClaim.holds_of_cond 3 Tryz.f3 rfl rfl rfl rfl rfl rfl rfl ⟨rfl,rfl,rfl,rfl,rfl⟩ rfl rfl rfl rfl rfl (by kernel_rfl) Tryz.func3 closed
  (of_decide_eq_true (by kernel_rfl)) (by unfold Func.isWrapper;first|(rw[if_pos (by decide+kernel)];kernel_rfl)|(rw[if_neg (by decide+kernel)];exact⟨rfl,rfl⟩))
  (fun os started H enc _ F=>by rw[OpenClaim.pre_eq_preRow];exact lifted os started H enc F)
theorem plain (f:FuncId) (fn:Func) (hf:Tryz.pinned.checked.prog.funcNamed Rows.clauseFormsUptoRow.func=some f) (u6:Tryz.pinned.checked.prog.funcs[f]?=some fn):
  Rows.clauseFormsUptoCard.stood.looks=Tryz.pinned.checked.prog.looks []/\∀(j:Nat) t,fn.params[j]?=some t->Tryz.pinned.checked.prog.wantsStandIn t=false:=by
 obtain rfl:f=3:=Option.some.inj ((show Tryz.prog.funcNamed Rows.clauseFormsUptoRow.func=some 3 by kernel_rfl).symm.trans hf)|>.symm
 obtain rfl:fn=Tryz.f3:=(Option.some.inj (Tryz.func3.symm.trans u6)).symm
 refine⟨by kernel_rfl,fun j t ht=>?_⟩
 have fK:Tryz.f3.params.toList.all (fun t=>!Tryz.prog.wantsStandIn t)=true:=by kernel_rfl
 have:=List.all_eq_true.1 fK t (by simpa using Array.mem_of_getElem? ht)
 show Tryz.prog.wantsStandIn t=false
 simpa using this
theorem proved:Rows.ClauseFormsUptoCardSaid:=
 Claim7.holds_tied_plain_at .later [] _ _ _ _ said (fun _ h=>by cases h) (by kernel_rfl) (fun _ h=>by cases h) clauseFormsUpto_row_tie rfl ⟨rfl,rfl⟩ (by kernel_rfl) rfl plain (by kernel_rfl)
end Go.Proofs.YtpfohmboflcneaaGreatDoor.clauseForms
