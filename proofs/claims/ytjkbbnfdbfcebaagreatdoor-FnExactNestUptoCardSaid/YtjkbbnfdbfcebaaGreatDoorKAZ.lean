/- FnExactNest: the statement, proved; where what is read is of bulk at most 1048576. -/
import Derived.Test.YtjkbbnfdbfcebaaGreatDoorKAI
set_option linter.all false
namespace Go.Proofs.YtjkbbnfdbfcebaaGreatDoor.Qz
open Go.ChangeShapes Go.WideShapes Go.ChangeAt Go.RowKit Go.AM
open Qd (own laidOut pP)

set_option maxRecDepth 100000 in
theorem lifted (os:Os) (started:os.Started) (H:Type) (enc:TypeId×Value→H) (F:Stop.Interp):
    ReturnsInHanded {} Tryz.checked os 3 .any ((Rows.OpenSpec.upto Rows.fnExactNestSpec).preRow enc Tryz.prog Tryz.f3 Rows.fnExactNestUptoRow.domain false Rows.fnExactNestUptoRow.laid) (((Rows.OpenSpec.upto Rows.fnExactNestSpec).at F).post enc Tryz.prog Tryz.f3 false true false false):=by
  obtain⟨places,hx⟩:=reads os enc
  refine returnsInHanded_of_row (C:=Tryz.checked) (s:=Rows.OpenSpec.upto Rows.fnExactNestSpec) own started (by kernel_rfl) Tryz.func3
    (witness_row_atRef (enc:=enc) (C:=Tryz.checked) false (pP os) #[.agg #[.slice none 0 0, .int .i64 0, .string ⟨#[]⟩, .int .i64 0, .string ⟨#[]⟩, .int .i64 0, .slice none 0 0, .slice none 0 0]] rfl (by kernel_rfl) (by kernel_rfl) (by kernel_rfl)
      (OpenSpec.preRow_of_cond 8 hx (by kernel_rfl) (fun k hk=>by cases hk;kernel_rfl) (by kernel_rfl) (OX os))) ?_
  intro W base args ds gs before M9 hW _ aef _ hl _ _;exact OW H enc W base args ds gs before M9 hW (aef _ rfl) hl

set_option maxHeartbeats 8000000 in
theorem closed:joinedFacts Tryz.prog 3 Tryz.f3 (Rows.OpenSpec.upto Rows.fnExactNestSpec).bare Rows.fnExactNestUptoRow=true :=by
  unfold joinedFacts;simp only[Bool.and_eq_true]
  repeat' (refine And.intro ?_ ?_)
  all_goals as_aux_lemma =>kernel_rfl

theorem over:Rows.FnExactNestUptoSaid:=
  OpenClaim.holds_of_cond 3 Tryz.f3 rfl rfl rfl rfl rfl rfl rfl ⟨rfl,rfl,rfl,rfl,rfl⟩ rfl rfl rfl rfl rfl (by as_aux_lemma =>kernel_rfl) Tryz.func3 closed
    (of_decide_eq_true (by kernel_rfl)) (by unfold Func.isWrapper;first|(rw[if_pos (by decide +kernel)];kernel_rfl)|(rw[if_neg (by decide +kernel)];exact⟨rfl,rfl⟩))
    (fun os started H enc _ F=>by rw[OpenClaim.pre_eq_preRow];exact lifted os started H enc F)

theorem plain (f:FuncId) (fn:Func) (hf:Tryz.pinned.checked.prog.funcNamed "loop.example/g00080/laws.FnExactNest" =some f) (hfn:Tryz.pinned.checked.prog.funcs[f]?=some fn):
    true =Tryz.pinned.checked.prog.looks []∧∀(j:Nat) t,fn.params[j]?=some t→Tryz.pinned.checked.prog.wantsStandIn t=false :=by
  obtain rfl:f=3:=Option.some.inj ((show Tryz.prog.funcNamed "loop.example/g00080/laws.FnExactNest" =some 3 by kernel_rfl).symm.trans hf)|>.symm;obtain rfl:fn=Tryz.f3:=(Option.some.inj (Tryz.func3.symm.trans hfn)).symm;refine⟨by kernel_rfl,fun j t ht=> ?_⟩;rw[Tryz.params3]at ht;obtain rfl:t=28:=by simpa using Array.mem_of_getElem? ht
  exact(show Tryz.prog.wantsStandIn 28=false by kernel_rfl)

theorem proved:Rows.FnExactNestUptoCardSaid:=
  Claim7.holds_tied_plain_at .later [] _ _ _ _ over (fun _ h=>by cases h) (by kernel_rfl) (fun _ h=>by cases h) fnExactNestUpto_row_tie rfl ⟨rfl,rfl⟩ (by kernel_rfl) rfl plain (by kernel_rfl)
end Go.Proofs.YtjkbbnfdbfcebaaGreatDoor.Qz
