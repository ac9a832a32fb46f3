/- Texts HoB CdF MaR NxG, merged. -/
import Derived.Test.YtmbggdfceecojaaKnC
import Derived.Test.YtmbggdfceecojaaRows
import Derived.WalkKit
import Derived.ProofKit
import Derived.OpenShut
import Derived.JoinedCond
/- Hottest: the statement. -/
set_option linter.all false
namespace Go.Proofs.Ytmbggdfceecojaa.Ho
open Go.ChangeShapes Go.WideShapes Go.ChangeAt Go.RowKit Go.AM

theorem own : ownKnob Try.prog.godebug = none := by kernel_rfl
theorem laidOut : laidOutB Try.prog = true := by kernel_rfl

theorem bulk_elems {H : Type} : ∀ (l : List (DataW H)), l.length ≤ Rows.uptoBulkAll l ∧ ∀ d ∈ l, Rows.uptoBulk d ≤ Rows.uptoBulkAll l
  | [] => ⟨Nat.zero_le _, fun d h => by cases h⟩
  | d :: r => by
    obtain ⟨h1, h2⟩ := bulk_elems r
    have hd : 1 ≤ Rows.uptoBulk d := by
      cases d with
      | lit l => cases l <;> simp [Rows.uptoBulk]
      | _ => simp [Rows.uptoBulk]
    refine ⟨by simp only [Rows.uptoBulkAll, List.length_cons]; omega, fun x hx => ?_⟩
    simp only [Rows.uptoBulkAll]
    rcases List.mem_cons.1 hx with rfl | hx
    · omega
    · have := h2 x hx; omega

theorem bkOk : BkOk (fun H d => Rows.uptoBulk (H := H) d) where
  str := fun H l => by simp [Rows.uptoBulk]
  len := fun H es sp => by have := (bulk_elems es).1; simp only [Rows.uptoBulk]; omega
  elem := fun H es sp d hd => by have := (bulk_elems es).2 d hd; simp only [Rows.uptoBulk]; omega
  part := fun H ps d hd => by have := (bulk_elems ps).2 d hd; simp only [Rows.uptoBulk]; omega

theorem cells3 : Try.prog.cellsOf 3 = 1 := by kernel_rfl

set_option maxRecDepth 100000 in
theorem contract (H : Type) (enc : TypeId × Value → H) (W : World) (base : Nat) (args : Array Value) (ds gs : List (DataW H)) (before : List MemPlace)
    (hval : ∀ (j : Nat) t v, Try.f3.params[j]? = some t → args[j]? = some v → Value.okWide Try.prog W .any base t v)
    (hW : DataW.Whole enc Try.prog Try.f3.params.toList Rows.fnExactHottestSpec.vars false W args.toList ds gs before) (hk : Rows.uptoSmall H (ds ++ gs) = true) :
    Calls Try.prog 3 args W fun e W' => ∃ v, e = .returned v ∧ Rows.fnExactHottestSpec.post enc Try.prog Try.f3 false true false false W args v W' := by
  have hW' := hW
  obtain ⟨p, q, hA0, hV, rfl, hfz, hnd⟩ := hW
  have hA : DataW.TrodAll enc Try.prog W 0 (fun _ => true) true Try.f3.params.toList args.toList ds p := hA0
  rw [Try.params3] at hA hval
  obtain ⟨v0, vs0, d0, ds0, p0, q0, hargs, rfl, rfl, h0, r0⟩ := trodAll_cons hA
  obtain ⟨rfl, rfl, rfl⟩ := trodAll_nil r0
  obtain rfl : args = #[v0] := by cases args; simp_all
  obtain ⟨rfl, rfl⟩ := trodVars_none hV
  have hb : Rows.uptoBulk d0 ≤ maxL := by
    have h1 := of_decide_eq_true hk
    simp only [List.append_nil, Rows.uptoBulkAll] at h1
    unfold maxL
    omega
  have hdec : ∀ n, Dec Try.prog (fun H d => Rows.uptoBulk (H := H) d) maxL n 22 (fun l : List Int => [.l (l.map fun z => [.i .i64 z])]) (fun l => (∀ a ∈ l, (Lit.int .i64 a).wf = true) ∧ l.length ≤ maxL) := fun n => by
    cases n with
    | zero => exact dec_zero
    | succ n => exact dec_slice bkOk (Nat.le_refl _) Try.underlying22 (by rw [cells3]; exact Nat.one_pos) (dec_int n Try.underlying3)
  obtain ⟨zs, ⟨_, hz⟩, hp⟩ := arg_slice Try.underlying22 hdec (hval 0 22 v0 rfl rfl) h0 hb
  exact law_post (tb := 4) Try.underlying4 (by kernel_rfl) laidOut (by intro t ht; rw [Try.params3] at ht; simp at ht; subst ht; exact ⟨by kernel_rfl, of_decide_eq_true (by kernel_rfl)⟩) rfl hW' (fun _ => rfl)
    (avs := [.p (.l (ints zs))]) ⟨rfl, fun j a v ha hv => by
      cases j with
      | zero => cases ha; cases hv; exact .p _ _ hp
      | succ j => simp at ha⟩ (law zs hz)

end Go.Proofs.Ytmbggdfceecojaa.Ho

/- Codes: what a reading of one is. -/
set_option linter.all false
namespace Go.Proofs.Ytmbggdfceecojaa.Cd
open Go.ChangeShapes Go.WideShapes Go.ChangeAt Go.RowKit Go.AM
open Ho (bkOk own laidOut ints)

theorem rng_wf {z : Int} (h : (Lit.int .i64 z).wf = true) : rng z := by
  unfold rng
  simp [Lit.wf, IntKind.min, IntKind.max, IntKind.bits, IntKind.signed] at h
  omega

abbrev bkT : (H : Type) → DataW H → Nat := fun H d => Rows.uptoBulk (H := H) d
theorem cells3 : Try.prog.cellsOf 3 = 1 := by kernel_rfl
theorem cells9 : Try.prog.cellsOf 9 = 1 := by kernel_rfl
theorem cells22 : Try.prog.cellsOf 22 = 1 := by kernel_rfl
theorem cells28 : Try.prog.cellsOf 28 = 1 := by kernel_rfl
theorem cells30 : Try.prog.cellsOf 30 = 2 := by kernel_rfl
theorem cells162 : Try.prog.cellsOf 162 = 6 := by kernel_rfl

def okI (x : InsD) : Prop := x.text.length ≤ maxL ∧ rng x.n
theorem decIns (n : Nat) : Dec Try.prog bkT maxL n 162 InsD.cells okI := by
  refine Dec.all (fun n => ?_) n
  have hi : ∀ m, Dec Try.prog bkT maxL m 3 (fun z : Int => [.i .i64 z]) (fun z => (Lit.int .i64 z).wf = true) := fun m => dec_int m Try.underlying3
  have hs : Dec Try.prog bkT maxL n 9 (fun s : List UInt8 => [.s s]) (fun s => s.length ≤ maxL) := dec_string n bkOk (Nat.le_refl _) Try.underlying9
  have h5 := decFs_cons (P := Try.prog) (bk := bkT) (B := maxL) (tot := 6) (fd := { name := "N", type := 3, offset := 4, embedded := false, tag := "", pkgPath := "", byteOffset := 32 }) (off := 4) rfl (off' := 5) (by rw [cells3]) (hi n)
    (decFs_one (fd := { name := "Text", type := 9, offset := 5, embedded := false, tag := "", pkgPath := "", byteOffset := 40 }) rfl (by rw [cells9]) hs)
  have h4 := decFs_cons (fd := { name := "C", type := 3, offset := 3, embedded := false, tag := "", pkgPath := "", byteOffset := 24 }) (off := 3) rfl (off' := 4) (by rw [cells3]) (hi n) h5
  have h3 := decFs_cons (fd := { name := "B", type := 3, offset := 2, embedded := false, tag := "", pkgPath := "", byteOffset := 16 }) (off := 2) rfl (off' := 3) (by rw [cells3]) (hi n) h4
  have h2 := decFs_cons (fd := { name := "A", type := 3, offset := 1, embedded := false, tag := "", pkgPath := "", byteOffset := 8 }) (off := 1) rfl (off' := 2) (by rw [cells3]) (hi n) h3
  have h1 := decFs_cons (fd := { name := "Op", type := 3, offset := 0, embedded := false, tag := "", pkgPath := "", byteOffset := 0 }) (off := 0) rfl (off' := 1) (by rw [cells3]) (hi n) h2
  refine (dec_struct bkOk Try.underlying162 cells162 h1).map (fun a => ⟨a.1, a.2.1, a.2.2.1, a.2.2.2.1, a.2.2.2.2.1, a.2.2.2.2.2⟩) (fun a _ => rfl) (fun a ha => ?_)
  exact ⟨ha.2.2.2.2.2, rng_wf ha.2.2.2.2.1⟩

theorem decCode (n : Nat) : Dec Try.prog bkT maxL n 30 CodeD.cells (fun c => okCode c ∧ rngCode c) := by
  refine Dec.all (fun n => ?_) n
  have h28 : Dec Try.prog bkT maxL n 28 (fun l : List InsD => [.l (l.map InsD.cells)]) (fun l => (∀ a ∈ l, okI a) ∧ l.length ≤ maxL) := by
    cases n with
    | zero => exact dec_zero
    | succ n => exact dec_slice bkOk (Nat.le_refl _) Try.underlying28 (by rw [cells162]; exact Nat.succ_pos _) (decIns n)
  have h22 : Dec Try.prog bkT maxL n 22 (fun l : List Int => [.l (l.map fun z => [.i .i64 z])]) (fun l => (∀ a ∈ l, (Lit.int .i64 a).wf = true) ∧ l.length ≤ maxL) := by
    cases n with
    | zero => exact dec_zero
    | succ n => exact dec_slice bkOk (Nat.le_refl _) Try.underlying22 (by rw [cells3]; exact Nat.one_pos) (dec_int n Try.underlying3)
  have h1 := decFs_cons (P := Try.prog) (bk := bkT) (B := maxL) (tot := 2) (fd := { name := "Instrs", type := 28, offset := 0, embedded := false, tag := "", pkgPath := "", byteOffset := 0 }) (off := 0) rfl (off' := 1) (by rw [cells28]) h28
    (decFs_one (fd := { name := "Starts", type := 22, offset := 1, embedded := false, tag := "", pkgPath := "", byteOffset := 24 }) rfl (by rw [cells22]) h22)
  refine (dec_struct bkOk Try.underlying30 cells30 h1).map (fun a => ⟨a.1, a.2⟩) (fun a _ => rfl) (fun a ha => ?_)
  exact ⟨⟨⟨ha.1.2, fun x hx => (ha.1.1 x hx).1⟩, ha.2.2⟩, fun z hz => rng_wf (ha.2.1 z hz), fun x hx => (ha.1.1 x hx).2⟩
end Go.Proofs.Ytmbggdfceecojaa.Cd

/- Readings of the machine's laws' arguments. -/
set_option linter.all false
namespace Go.Proofs.Ytmbggdfceecojaa.Cd
open Go.ChangeShapes Go.WideShapes Go.ChangeAt Go.RowKit Go.AM
open Ho (bkOk own laidOut ints)

end Go.Proofs.Ytmbggdfceecojaa.Cd

/- FnExactNext: the statement's contract. -/
set_option linter.all false
namespace Go.Proofs.Ytmbggdfceecojaa.Cd
open Go.ChangeShapes Go.WideShapes Go.ChangeAt Go.RowKit Go.AM
open Ho (bkOk own laidOut ints)

set_option maxRecDepth 100000 in
theorem contractNext (H : Type) (enc : TypeId × Value → H) (W : World) (base : Nat) (args : Array Value) (ds gs : List (DataW H)) (before : List MemPlace)
    (hval : ∀ (j : Nat) t v, Try.f14.params[j]? = some t → args[j]? = some v → Value.okWide Try.prog W .any base t v)
    (hW : DataW.Whole enc Try.prog Try.f14.params.toList Rows.fnExactNextSpec.vars false W args.toList ds gs before) (hk : Rows.uptoSmall H (ds ++ gs) = true) :
    Calls Try.prog 14 args W fun e W' => ∃ v, e = .returned v ∧ Rows.fnExactNextSpec.post enc Try.prog Try.f14 false true false false W args v W' := by
  have hW' := hW
  obtain ⟨p, q, hA0, hV, rfl, hfz, hnd⟩ := hW
  have hA : DataW.TrodAll enc Try.prog W 0 (fun _ => true) true Try.f14.params.toList args.toList ds p := hA0
  rw [Try.params14] at hA hval
  obtain ⟨v0, vs0, d0, ds0, p0, q0, e0, rfl, rfl, h0, r0⟩ := trodAll_cons hA
  obtain ⟨v1, vs1, d1, ds1, p1, q1, e1, rfl, rfl, h1, r1⟩ := trodAll_cons r0
  obtain ⟨rfl, rfl, rfl⟩ := trodAll_nil r1
  have hargs : args.toList = [v0, v1] := by simp_all
  obtain rfl : args = #[v0, v1] := by rw [← Array.toList_inj]; exact hargs
  obtain ⟨rfl, rfl⟩ := trodVars_none hV
  have hbk := of_decide_eq_true hk
  simp only [List.append_nil, Rows.uptoBulkAll] at hbk
  have hb0 : Rows.uptoBulk d0 ≤ maxL := by unfold maxL; omega
  obtain ⟨c, ⟨hok0, hrg0⟩, hp0⟩ := arg_struct Try.underlying30 decCode (hval 0 30 v0 rfl rfl) h0 hb0
  obtain ⟨n1, rfl⟩ := okWide_int Try.underlying3 (hval 1 3 v1 rfl rfl)
  exact law_post (tb := 4) Try.underlying4 (by kernel_rfl) laidOut (by intro t ht; rw [Try.params14] at ht; simp at ht; rcases ht with rfl | rfl <;> exact ⟨by kernel_rfl, of_decide_eq_true (by kernel_rfl)⟩) rfl hW' (fun _ => rfl)
    (avs := [.st (c.cells.map .p), .p (.i .i64 n1)]) ⟨rfl, fun j a v ha hv => by
      match j with
      | 0 => cases ha; cases hv; exact hp0
      | 1 => cases ha; cases hv; exact .p _ _ (.i .i64 n1)
      | j + 2 => simp at ha⟩ (lawNext c hok0 n1)
end Go.Proofs.Ytmbggdfceecojaa.Cd
