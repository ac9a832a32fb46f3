/- FnMatched: the statement, proved; where what is read is of bulk at most 1048576. -/
import Derived.Test.YtiehnbbbhcaacaaGreatDoorKAP
set_option linter.all false
namespace Go.Proofs.YtiehnbbbhcaacaaGreatDoor.Qm
open Go.ChangeShapes Go.WideShapes Go.ChangeAt Go.RowKit Go.AM
open Qd (own laidOut laidWorld)

theorem none_goes {P : Program} (h : P.funcs.toList.any Func.goes = false) {c : OpenClaim} (hs : c.start = .entering) : false = c.goesBy P := by
  have h0 : P.funcs.any Func.goes = false := by rw [← Array.any_toList]; exact h
  have h1 : ∀ f, P.goes f = false := fun f => by
    unfold Program.goes
    rw [h0, Bool.and_false, Bool.or_false]
    rw [List.any_eq_false]
    intro g _ hg
    cases e : P.funcs[g]? with
    | none => rw [e] at hg; cases hg
    | some fn =>
      rw [e] at hg
      have hm : fn ∈ P.funcs.toList := by
        obtain ⟨hlt, rfl⟩ := Array.getElem?_eq_some_iff.1 e
        simp
      exact (List.any_eq_false.1 h fn hm) (by simpa using hg)
  unfold OpenClaim.goesBy Program.goesAt Program.goesFrom
  rw [hs]
  simp only [Bool.or_false]
  cases P.funcNamed c.func with
  | none => rfl
  | some f => exact (h1 f).symm
theorem noGo : Tryz.prog.funcs.toList.any Func.goes = false := by kernel_rfl
theorem plain (f : FuncId) (fn : Func) (hf : Tryz.pinned.checked.prog.funcNamed "loop.example/g00080/laws.FnMatched" = some f) (hfn : Tryz.pinned.checked.prog.funcs[f]? = some fn) :
    true = Tryz.pinned.checked.prog.looks [] ∧ ∀ (j : Nat) t, fn.params[j]? = some t → Tryz.pinned.checked.prog.wantsStandIn t = false := by
  obtain rfl : f = 3 := Option.some.inj ((show Tryz.prog.funcNamed "loop.example/g00080/laws.FnMatched" = some 3 by kernel_rfl).symm.trans hf) |>.symm
  obtain rfl : fn = Tryz.f3 := (Option.some.inj (Tryz.func3.symm.trans hfn)).symm
  refine ⟨by kernel_rfl, fun j t ht => ?_⟩
  rw [Tryz.params3] at ht
  obtain rfl : t = 22 := by simpa using Array.mem_of_getElem? ht
  exact (show Tryz.prog.wantsStandIn 22 = false by kernel_rfl)

theorem proved : Rows.FnMatchedUptoCardSaid :=
  Claim7.holds_tied_plain_at .later [] _ _ _ _ over (fun _ h => by cases h) (by as_aux_lemma => kernel_rfl) (fun _ h => by cases h) fnMatchedUpto_row_tie rfl ⟨rfl, rfl⟩ (by as_aux_lemma => kernel_rfl) rfl plain (none_goes noGo rfl)
end Go.Proofs.YtiehnbbbhcaacaaGreatDoor.Qm
