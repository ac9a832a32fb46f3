/- Texts HoB CdF GiP, merged. -/
import Derived.Test.YtmbggdfceecojaaKgE
import Derived.Test.YtmbggdfceecojaaRows
import Derived.WalkKit
import Derived.ProofKit
import Derived.OpenShut
import Derived.JoinedCond
/- Hottest: the statement. -/
set_option linter.all false
namespace Go.Proofs.Ytmbggdfceecojaa.Ho
open Go.ChangeShapes Go.WideShapes Go.ChangeAt Go.RowKit Go.AM

theorem own : ownKnob Try.prog.godebug = none := by kernel_rfl
theorem laidOut : laidOutB Try.prog = true := by kernel_rfl

theorem bulk_elems {H : Type} : ∀ (l : List (DataW H)), l.length ≤ Rows.uptoBulkAll l ∧ ∀ d ∈ l, Rows.uptoBulk d ≤ Rows.uptoBulkAll l
  | [] => ⟨Nat.zero_le _, fun d h => by cases h⟩
  | d :: r => by
    obtain ⟨h1, h2⟩ := bulk_elems r
    have hd : 1 ≤ Rows.uptoBulk d := by
      cases d with
      | lit l => cases l <;> simp [Rows.uptoBulk]
      | _ => simp [Rows.uptoBulk]
    refine ⟨by simp only [Rows.uptoBulkAll, List.length_cons]; omega, fun x hx => ?_⟩
    simp only [Rows.uptoBulkAll]
    rcases List.mem_cons.1 hx with rfl | hx
    · omega
    · have := h2 x hx; omega

theorem bkOk : BkOk (fun H d => Rows.uptoBulk (H := H) d) where
  str := fun H l => by simp [Rows.uptoBulk]
  len := fun H es sp => by have := (bulk_elems es).1; simp only [Rows.uptoBulk]; omega
  elem := fun H es sp d hd => by have := (bulk_elems es).2 d hd; simp only [Rows.uptoBulk]; omega
  part := fun H ps d hd => by have := (bulk_elems ps).2 d hd; simp only [Rows.uptoBulk]; omega

theorem cells3 : Try.prog.cellsOf 3 = 1 := by kernel_rfl

set_option maxRecDepth 100000 in
theorem contract (H : Type) (enc : TypeId × Value → H) (W : World) (base : Nat) (args : Array Value) (ds gs : List (DataW H)) (before : List MemPlace)
    (hval : ∀ (j : Nat) t v, Try.f3.params[j]? = some t → args[j]? = some v → Value.okWide Try.prog W .any base t v)
    (hW : DataW.Whole enc Try.prog Try.f3.params.toList Rows.fnExactHottestSpec.vars false W args.toList ds gs before) (hk : Rows.uptoSmall H (ds ++ gs) = true) :
    Calls Try.prog 3 args W fun e W' => ∃ v, e = .returned v ∧ Rows.fnExactHottestSpec.post enc Try.prog Try.f3 false true false false W args v W' := by
  have hW' := hW
  obtain ⟨p, q, hA0, hV, rfl, hfz, hnd⟩ := hW
  have hA : DataW.TrodAll enc Try.prog W 0 (fun _ => true) true Try.f3.params.toList args.toList ds p := hA0
  rw [Try.params3] at hA hval
  obtain ⟨v0, vs0, d0, ds0, p0, q0, hargs, rfl, rfl, h0, r0⟩ := trodAll_cons hA
  obtain ⟨rfl, rfl, rfl⟩ := trodAll_nil r0
  obtain rfl : args = #[v0] := by cases args; simp_all
  obtain ⟨rfl, rfl⟩ := trodVars_none hV
  have hb : Rows.uptoBulk d0 ≤ maxL := by
    have h1 := of_decide_eq_true hk
    simp only [List.append_nil, Rows.uptoBulkAll] at h1
    unfold maxL
    omega
  have hdec : ∀ n, Dec Try.prog (fun H d => Rows.uptoBulk (H := H) d) maxL n 22 (fun l : List Int => [.l (l.map fun z => [.i .i64 z])]) (fun l => (∀ a ∈ l, (Lit.int .i64 a).wf = true) ∧ l.length ≤ maxL) := fun n => by
    cases n with
    | zero => exact dec_zero
    | succ n => exact dec_slice bkOk (Nat.le_refl _) Try.underlying22 (by rw [cells3]; exact Nat.one_pos) (dec_int n Try.underlying3)
  obtain ⟨zs, ⟨_, hz⟩, hp⟩ := arg_slice Try.underlying22 hdec (hval 0 22 v0 rfl rfl) h0 hb
  exact law_post (tb := 4) Try.underlying4 (by kernel_rfl) laidOut (by intro t ht; rw [Try.params3] at ht; simp at ht; subst ht; exact ⟨by kernel_rfl, of_decide_eq_true (by kernel_rfl)⟩) rfl hW' (fun _ => rfl)
    (avs := [.p (.l (ints zs))]) ⟨rfl, fun j a v ha hv => by
      cases j with
      | zero => cases ha; cases hv; exact .p _ _ hp
      | succ j => simp at ha⟩ (law zs hz)

end Go.Proofs.Ytmbggdfceecojaa.Ho

/- Codes: what a reading of one is. -/
set_option linter.all false
namespace Go.Proofs.Ytmbggdfceecojaa.Cd
open Go.ChangeShapes Go.WideShapes Go.ChangeAt Go.RowKit Go.AM
open Ho (bkOk own laidOut ints)

theorem cells3 : Try.prog.cellsOf 3 = 1 := by kernel_rfl
end Go.Proofs.Ytmbggdfceecojaa.Cd

/- GetImage: the statement's contract. -/
set_option linter.all false
namespace Go.Proofs.Ytmbggdfceecojaa.Cd
open Go.ChangeShapes Go.WideShapes Go.ChangeAt Go.RowKit Go.AM
open Ho (bkOk own laidOut)

theorem under8 : Try.prog.underlying 5 = some (.int .u8) := Try.underlying5
theorem cellsB : Try.prog.cellsOf 5 = 1 := by kernel_rfl
theorem underB : Try.prog.underlying 5 = some (.int .u8) := under8

set_option maxRecDepth 100000 in
theorem contractGet (H : Type) (enc : TypeId × Value → H) (W : World) (base : Nat) (args : Array Value) (ds gs : List (DataW H)) (before : List MemPlace)
    (hval : ∀ (j : Nat) t v, Try.f7.params[j]? = some t → args[j]? = some v → Value.okWide Try.prog W .any base t v)
    (hW : DataW.Whole enc Try.prog Try.f7.params.toList Rows.fnExactGetImageSpec.vars false W args.toList ds gs before) (hk : Rows.uptoSmall H (ds ++ gs) = true) :
    Calls Try.prog 7 args W fun e W' => ∃ v, e = .returned v ∧ Rows.fnExactGetImageSpec.post enc Try.prog Try.f7 false true false false W args v W' := by
  have hW' := hW
  obtain ⟨p, q, hA0, hV, rfl, hfz, hnd⟩ := hW
  have hA : DataW.TrodAll enc Try.prog W 0 (fun _ => true) true Try.f7.params.toList args.toList ds p := hA0
  rw [Try.params7] at hA hval
  obtain ⟨v0, vs0, d0, ds0, p0, q0, hargs, rfl, rfl, h0, r0⟩ := trodAll_cons hA
  obtain ⟨rfl, rfl, rfl⟩ := trodAll_nil r0
  obtain rfl : args = #[v0] := by cases args; simp_all
  obtain ⟨rfl, rfl⟩ := trodVars_none hV
  have hb : Rows.uptoBulk d0 ≤ maxL := by
    have h1 := of_decide_eq_true hk
    simp only [List.append_nil, Rows.uptoBulkAll] at h1
    unfold maxL
    omega
  have hdec : ∀ n, Dec Try.prog (fun H d => Rows.uptoBulk (H := H) d) maxL n 32 (fun l : List Int => [.l (l.map fun z => [.i .u8 z])]) (fun l => (∀ a ∈ l, (Lit.int .u8 a).wf = true) ∧ l.length ≤ maxL) := fun n => by
    cases n with
    | zero => exact dec_zero
    | succ n => exact dec_slice bkOk (Nat.le_refl _) Try.underlying32 (by rw [cellsB]; exact Nat.one_pos) (dec_int n underB)
  obtain ⟨zs, ⟨hwf, hz⟩, hp⟩ := arg_slice Try.underlying32 hdec (hval 0 32 v0 rfl rfl) h0 hb
  exact law_post (tb := 4) Try.underlying4 (by kernel_rfl) laidOut (by intro t ht; rw [Try.params7] at ht; simp at ht; subst ht; exact ⟨by kernel_rfl, of_decide_eq_true (by kernel_rfl)⟩) rfl hW' (fun _ => rfl)
    (avs := [.p (.l (rowsK .u8 zs))]) ⟨rfl, fun j a v ha hv => by
      cases j with
      | zero => cases ha; cases hv; exact .p _ _ hp
      | succ j => simp at ha⟩ (lawGet zs (fun z hz => by have := hwf z hz; simp [Lit.wf, IntKind.min, IntKind.max, IntKind.bits, IntKind.signed] at this; omega) hz)
end Go.Proofs.Ytmbggdfceecojaa.Cd
