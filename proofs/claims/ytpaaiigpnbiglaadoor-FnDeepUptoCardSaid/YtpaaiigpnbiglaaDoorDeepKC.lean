/- Brackets: the statement's contract. -/
import Derived.Test.YtpaaiigpnbiglaaDoorDeepKB
import Derived.Test.YtpaaiigpnbiglaaDoorCards
import Derived.Test.YtpaaiigpnbiglaaDoorTie
import Derived.WalkKit
import Derived.ProofKit
import Derived.OpenShut
import Derived.Deep.DeepHandedRow
import Derived.Deep.DeepWitnessRowRef
set_option linter.all false
namespace Go.Proofs.YtpaaiigpnbiglaaDoor.Dm
open Go.ChangeShapes Go.WideShapes Go.ChangeAt Go.RowKit Go.AM

theorem own : ownKnob Tryd.prog.godebug = none := by kernel_rfl
theorem laidOut : laidOutB Tryd.prog = true := by kernel_rfl

theorem bulk_elems {H : Type} : ∀ (l : List (DataW H)), l.length ≤ Rows.uptoBulkAll l ∧ ∀ d ∈ l, Rows.uptoBulk d ≤ Rows.uptoBulkAll l
  | [] => ⟨Nat.zero_le _, fun d h => by cases h⟩
  | d :: r => by
    obtain ⟨h1, h2⟩ := bulk_elems r
    have hd : 1 ≤ Rows.uptoBulk d := by
      cases d with
      | lit l => cases l <;> simp [Rows.uptoBulk]
      | _ => simp [Rows.uptoBulk]
    refine ⟨by simp only [Rows.uptoBulkAll, List.length_cons]; omega, fun x hx => ?_⟩
    simp only [Rows.uptoBulkAll]
    rcases List.mem_cons.1 hx with rfl | hx
    · omega
    · have := h2 x hx; omega

theorem bkOk : BkOk (fun H d => Rows.uptoBulk (H := H) d) where
  str := fun H l => by simp [Rows.uptoBulk]
  len := fun H es sp => by have := (bulk_elems es).1; simp only [Rows.uptoBulk]; omega
  elem := fun H es sp d hd => by have := (bulk_elems es).2 d hd; simp only [Rows.uptoBulk]; omega
  part := fun H ps d hd => by have := (bulk_elems ps).2 d hd; simp only [Rows.uptoBulk]; omega

theorem cells5 : Tryd.prog.cellsOf 5 = 1 := by kernel_rfl

set_option maxRecDepth 100000 in
theorem contract (H : Type) (enc : TypeId × Value → H) (W : World) (base : Nat) (args : Array Value) (ds gs : List (DataW H)) (before : List MemPlace)
    (hval : ∀ (j : Nat) t v, Tryd.f3.params[j]? = some t → args[j]? = some v → Value.okWide Tryd.prog W .any base t v)
    (hW : DataW.Whole enc Tryd.prog Tryd.f3.params.toList Rows.fnDeepSpec.vars false W args.toList ds gs before) (hk : Rows.uptoSmall H (ds ++ gs) = true) :
    Calls Tryd.prog 3 args W fun e W' => ∃ v, e = .returned v ∧ Rows.fnDeepSpec.post enc Tryd.prog Tryd.f3 false true false false W args v W' := by
  have hW' := hW
  obtain ⟨p, q, hA0, hV, rfl, hfz, hnd⟩ := hW
  have hA : DataW.TrodAll enc Tryd.prog W 0 (fun _ => true) true Tryd.f3.params.toList args.toList ds p := hA0
  rw [Tryd.params3] at hA hval
  obtain ⟨v0, vs0, d0, ds0, p0, q0, hargs, rfl, rfl, h0, r0⟩ := trodAll_cons hA
  obtain ⟨rfl, rfl, rfl⟩ := trodAll_nil r0
  obtain rfl : args = #[v0] := by cases args; simp_all
  obtain ⟨rfl, rfl⟩ := trodVars_none hV
  have hb : Rows.uptoBulk d0 ≤ 1048576 := by
    have h1 := of_decide_eq_true hk
    simp only [List.append_nil, Rows.uptoBulkAll] at h1
    omega
  have hdec : ∀ n, Dec Tryd.prog (fun H d => Rows.uptoBulk (H := H) d) 1048576 n 22 (fun l : List Int => [.l (l.map fun z => [.i .u8 z])]) (fun l => (∀ a ∈ l, (Lit.int .u8 a).wf = true) ∧ l.length ≤ 1048576) := fun n => by
    cases n with
    | zero => exact dec_zero
    | succ n => exact dec_slice bkOk (by unfold maxL; omega) Tryd.underlying22 (by rw [cells5]; exact Nat.one_pos) (dec_int n Tryd.underlying5)
  obtain ⟨zs, ⟨hw, hz⟩, hp⟩ := arg_slice Tryd.underlying22 hdec (hval 0 22 v0 rfl rfl) h0 hb
  have hw' : ∀ a ∈ zs, 0 ≤ a ∧ a < 256 := by
    intro a ha
    have := hw a ha
    simp [Lit.wf, IntKind.min, IntKind.max, IntKind.signed, IntKind.bits] at this
    omega
  exact law_post (tb := 4) Tryd.underlying4 (by kernel_rfl) laidOut (by intro t ht; rw [Tryd.params3] at ht; simp at ht; subst ht; exact ⟨by kernel_rfl, of_decide_eq_true (by kernel_rfl)⟩) rfl hW' (fun _ => rfl)
    (avs := [.p (.l (byts zs))]) ⟨rfl, fun j a v ha hv => by
      cases j with
      | zero => cases ha; cases hv; exact .p _ _ hp
      | succ j => simp at ha⟩ (lawDeep hw' hz)

/-- a world for the witness: the variables hold what their initialisers lay -/
def litV : DataW Unit → Value
  | .lit (.int k n) => .int k n
  | _ => .nilIface
def aggV : DataW Unit → Array Value
  | .agg ps => (ps.map litV).toArray
  | _ => #[]
def strV : DataW Unit → ByteArray
  | .iface _ (.ptr (.agg [.lit (.string l)])) => ⟨l.toArray⟩
  | _ => ⟨#[]⟩
noncomputable def low : Nat := (World.holding Tryd.prog default ⟨#[], #[], []⟩).heap.size
noncomputable def laidWorld (os : Os) : World :=
  let w0 := World.holding Tryd.prog os ⟨#[.cells #[.string (strV Rows.laid_strconv_ErrSyntax)] 95, .cells #[.string (strV Rows.laid_strconv_ErrRange)] 95], #[], []⟩
  let put (h : Array Obj) (g : Nat) (cs : Array Value) : Array Obj := h.modify g fun
    | .cells _ t frozen => .cells cs t frozen
    | o => o
  let h0 := put w0.heap 0 #[.iface 93 (.pointer (some ⟨low, 0, none⟩))]
  let h1 := put h0 1 #[.iface 93 (.pointer (some ⟨low + 1, 0, none⟩))]
  let h2 := put h1 2 (aggV Rows.laid_internal_strconv_uint64pow10)
  let h3 := put h2 3 (aggV Rows.laid_math_bits_deBruijn32tab)
  let h4 := put h3 4 (aggV Rows.laid_math_bits_deBruijn64tab)
  { w0 with heap := h4 }
theorem laid_met (os : Os) : laidMet Tryd.prog Rows.fnDeepUptoRow.laid ((laidWorld os).forCall (fun _ _ => 0) ⟨#[], #[.slice none 0 0], []⟩).memory :=
  laidMet_of_run' 8 (by kernel_rfl) (by kernel_rfl)
theorem reads (os : Os) {H : Type} (enc : TypeId × Value → H) : ∃ places, DataW.whole enc Tryd.prog ((laidWorld os).forCall (fun _ _ => 0) ⟨#[], #[.slice none 0 0], []⟩).memory Tryd.f3.params.toList Rows.fnDeepSpec.vars false #[Value.slice none 0 0].toList 8 = some ([.nil], [], places) :=
  ⟨[], by kernel_rfl⟩
end Go.Proofs.YtpaaiigpnbiglaaDoor.Dm
