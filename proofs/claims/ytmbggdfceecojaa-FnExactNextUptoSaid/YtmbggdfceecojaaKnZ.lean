/- FnExactNext: the program's function returns what the reference's returns: the statement, proved; where what is read is of bulk at most 1048576. -/
import Derived.Test.YtmbggdfceecojaaKnD
set_option linter.all false
namespace Go.Proofs.Ytmbggdfceecojaa.Nx
open Go.ChangeShapes Go.WideShapes Go.ChangeAt Go.RowKit Go.AM
open Ho (own laidOut)

set_option maxRecDepth 100000 in
theorem lifted (os : Os) (started : os.Started) (H : Type) (enc : TypeId × Value → H) (F : Stop.Interp) :
    ReturnsInHanded {} Try.checked os 14 .any ((Rows.OpenSpec.upto Rows.fnExactNextSpec).pre6 enc Try.prog Try.f14 Rows.fnExactNextUptoRow.domain false) (((Rows.OpenSpec.upto Rows.fnExactNextSpec).at F).post enc Try.prog Try.f14 false true false false) := by
  refine returnsInHanded_of_cond (C := Try.checked) (s := Rows.OpenSpec.upto Rows.fnExactNextSpec) (k := Rows.uptoSmall) rfl own started (by kernel_rfl) Try.func14
    (OpenSpec.witness (enc := enc) (C := Try.checked) (s := Rows.OpenSpec.upto Rows.fnExactNextSpec) (k := Rows.uptoSmall) rfl false ⟨#[], #[.agg #[.slice none 0 0, .slice none 0 0], .int .i64 0], []⟩ 8 (by kernel_rfl) (by kernel_rfl) (by kernel_rfl)
      (x := ([.agg [.nil, .nil], .lit (.int .i64 0)], [], [])) (by kernel_rfl) rfl (by kernel_rfl)) ?_
  intro W base args ds gs before hval hW _ hk _
  exact Cd.contractNext H enc W base args ds gs before hval hW hk

set_option maxHeartbeats 8000000 in
theorem closed : joinedFacts Try.prog 14 Try.f14 (Rows.OpenSpec.upto Rows.fnExactNextSpec).bare Rows.fnExactNextUptoRow = true := by
  unfold joinedFacts
  simp only [Bool.and_eq_true]
  repeat' (refine And.intro ?_ ?_)
  all_goals as_aux_lemma => kernel_rfl

theorem over : Rows.fnExactNextUptoRow.holds Try.pinned (Rows.OpenSpec.upto Rows.fnExactNextSpec) :=
  OpenClaim.holds_of_cond 14 Try.f14 rfl rfl rfl rfl rfl rfl rfl ⟨rfl, rfl, rfl, rfl, rfl⟩ rfl rfl rfl rfl rfl (by as_aux_lemma => kernel_rfl) Try.func14 closed
    (of_decide_eq_true (by kernel_rfl)) (by unfold Func.isWrapper; first | (rw [if_pos (by decide +kernel)]; kernel_rfl) | (rw [if_neg (by decide +kernel)]; exact ⟨rfl, rfl⟩))
    (fun os started H enc _ F => lifted os started H enc F)

theorem proved : Rows.FnExactNextUptoSaid :=
  over
end Go.Proofs.Ytmbggdfceecojaa.Nx
