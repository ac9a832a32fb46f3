/- FnExactTrace: the program's function returns what the reference's returns: the statement, proved; where what is read is of bulk at most 1048576. -/
import Derived.Test.YtmbggdfceecojaaKyF
set_option linter.all false
namespace Go.Proofs.Ytmbggdfceecojaa.Tc
open Go.ChangeShapes Go.WideShapes Go.ChangeAt Go.RowKit Go.AM
open Ho (own laidOut)

set_option maxRecDepth 100000 in
theorem lifted (os : Os) (started : os.Started) (H : Type) (enc : TypeId × Value → H) (F : Stop.Interp) :
    ReturnsInHanded {} Try.checked os 13 .any ((Rows.OpenSpec.upto Rows.fnExactTraceSpec).pre6 enc Try.prog Try.f13 Rows.fnExactTraceUptoRow.domain false) (((Rows.OpenSpec.upto Rows.fnExactTraceSpec).at F).post enc Try.prog Try.f13 false true false false) := by
  refine returnsInHanded_of_cond (C := Try.checked) (s := Rows.OpenSpec.upto Rows.fnExactTraceSpec) (k := Rows.uptoSmall) rfl own started (by kernel_rfl) Try.func13
    (OpenSpec.witness (enc := enc) (C := Try.checked) (s := Rows.OpenSpec.upto Rows.fnExactTraceSpec) (k := Rows.uptoSmall) rfl false ⟨#[], #[.agg #[.slice none 0 0, .slice none 0 0], .slice none 0 0, .int .i64 0, .int .i64 0], []⟩ 8 (by kernel_rfl) (by kernel_rfl) (by kernel_rfl)
      (x := ([.agg [.nil, .nil], .nil, .lit (.int .i64 0), .lit (.int .i64 0)], [], [])) (by kernel_rfl) rfl (by kernel_rfl)) ?_
  intro W base args ds gs before hval hW _ hk _
  exact Cd.contractTrace H enc W base args ds gs before hval hW hk

set_option maxHeartbeats 8000000 in
theorem closed : joinedFacts Try.prog 13 Try.f13 (Rows.OpenSpec.upto Rows.fnExactTraceSpec).bare Rows.fnExactTraceUptoRow = true := by
  unfold joinedFacts
  simp only [Bool.and_eq_true]
  repeat' (refine And.intro ?_ ?_)
  all_goals as_aux_lemma => kernel_rfl

theorem over : Rows.fnExactTraceUptoRow.holds Try.pinned (Rows.OpenSpec.upto Rows.fnExactTraceSpec) :=
  OpenClaim.holds_of_cond 13 Try.f13 rfl rfl rfl rfl rfl rfl rfl ⟨rfl, rfl, rfl, rfl, rfl⟩ rfl rfl rfl rfl rfl (by as_aux_lemma => kernel_rfl) Try.func13 closed
    (of_decide_eq_true (by kernel_rfl)) (by unfold Func.isWrapper; first | (rw [if_pos (by decide +kernel)]; kernel_rfl) | (rw [if_neg (by decide +kernel)]; exact ⟨rfl, rfl⟩))
    (fun os started H enc _ F => lifted os started H enc F)

theorem proved : Rows.FnExactTraceUptoSaid :=
  over
end Go.Proofs.Ytmbggdfceecojaa.Tc
