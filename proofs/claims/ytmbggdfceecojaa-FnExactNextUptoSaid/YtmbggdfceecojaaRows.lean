/-
  NARROWER THAN 'FOR EVERY INPUT', by the rows' own cells (each row's printed sentence says how): FnExactDead: loops.
  DERIVED. THE GIVEN ROWS OF THIS SEAT. 12 by the template 'for every input the law returns true; each argument reads behind the call as it read before'; 0 by the template 'total and deterministic' (their statements: YtmbggdfceecojaaTotals.lean).
  GIVEN WITH THE SEED: the statements are not yours to turn. If you find one false, say at which input.
  Laid BY PROGRAM, IN A SANDBOX (cutbox-rows.mjs): the forced cells as the released guide's own fill.sh prints them over the translation d90c7123303f48b6… (all of the seat's roots in one cut). By AI agents, Wed Nov 11 2026. No macro, syntax, notation, axiom, sorry.
-/
import Derived.Test.YtmbggdfceecojaaChecked
import GoSem.Claim
import GoSem.ClaimJoined
import GoSem.ClaimMapViews
import Derived.JoinedTies
import Derived.KernelRfl
namespace Go.Proofs.Ytmbggdfceecojaa
/- THE CELL 'sum', in the pinned program and in every row, IS THE sha256 OF THE DUMP (.gsa) THAT YtmbggdfceecojaaProg.lean LOADS. Nothing in Lean hashes anything: it is a label: what it is worth is what the hold of that sum in a sandbox is worth. -/
noncomputable def Try.pinned : Pinned := { name := "ytmbggdfceecojaa", sum := "d90c7123303f48b6d3d68b3ae0e8cb7032f347d2a317b4f2ebb6d811839100a7", checked := Try.checked }
namespace Rows
def none {H : Type} : Left H := { results := [], args := [] }

/-- 'laws.FnExactHottest': WHATEVER THE INPUT: true; the input reads as it did. -/
def fnExactHottestSpec : ChangeSpec := { name := "fnExactHottest", fn := fun _ => fun
  | [d] => { results := [.lit (.bool true)], args := [d] }
  | _ => none }
def fnExactHottestRow : OpenClaim := { program := "ytmbggdfceecojaa", sum := "d90c7123303f48b6d3d68b3ae0e8cb7032f347d2a317b4f2ebb6d811839100a7", func := "loop.example/g00080/laws.FnExactHottest", spec := "fnExactHottest", apart := false }
def FnExactHottestSaid : Prop := fnExactHottestRow.holds Try.pinned (OpenSpec.ofChange fnExactHottestSpec)

/-- ITS FALSE NEIGHBOUR: 'it returns false'. Refute it at one input. -/
def fnExactHottestWrong : ChangeSpec := { name := "fnExactHottest", fn := fun _ => fun
  | [d] => { results := [.lit (.bool false)], args := [d] }
  | _ => none }
def FnExactHottestWrongFalsely : Prop := fnExactHottestRow.holds Try.pinned (OpenSpec.ofChange fnExactHottestWrong)

/-- 'laws.FnExactPutImage': WHATEVER THE INPUT: true; the input reads as it did. -/
def fnExactPutImageSpec : ChangeSpec := { name := "fnExactPutImage", fn := fun _ => fun
  | [d] => { results := [.lit (.bool true)], args := [d] }
  | _ => none }
def fnExactPutImageRow : OpenClaim := { program := "ytmbggdfceecojaa", sum := "d90c7123303f48b6d3d68b3ae0e8cb7032f347d2a317b4f2ebb6d811839100a7", func := "loop.example/g00080/laws.FnExactPutImage", spec := "fnExactPutImage", inPlace := ["internal/bytealg.IndexByteString", "internal/bytealg.IndexString"], unfollowed := true, recurses := true, named := ["internal/bytealg.MaxLen"], apart := false }
def FnExactPutImageSaid : Prop := fnExactPutImageRow.holds Try.pinned (OpenSpec.ofChange fnExactPutImageSpec)

/-- ITS FALSE NEIGHBOUR: 'it returns false'. Refute it at one input. -/
def fnExactPutImageWrong : ChangeSpec := { name := "fnExactPutImage", fn := fun _ => fun
  | [d] => { results := [.lit (.bool false)], args := [d] }
  | _ => none }
def FnExactPutImageWrongFalsely : Prop := fnExactPutImageRow.holds Try.pinned (OpenSpec.ofChange fnExactPutImageWrong)

/-- 'laws.FnExactReached': WHATEVER THE INPUT: true; the input reads as it did. -/
def fnExactReachedSpec : ChangeSpec := { name := "fnExactReached", fn := fun _ => fun
  | [d] => { results := [.lit (.bool true)], args := [d] }
  | _ => none }
def fnExactReachedRow : OpenClaim := { program := "ytmbggdfceecojaa", sum := "d90c7123303f48b6d3d68b3ae0e8cb7032f347d2a317b4f2ebb6d811839100a7", func := "loop.example/g00080/laws.FnExactReached", spec := "fnExactReached", inPlace := ["internal/bytealg.IndexByteString", "internal/bytealg.IndexString"], unfollowed := true, recurses := true, named := ["internal/bytealg.MaxLen"], apart := false }
def FnExactReachedSaid : Prop := fnExactReachedRow.holds Try.pinned (OpenSpec.ofChange fnExactReachedSpec)

/-- ITS FALSE NEIGHBOUR: 'it returns false'. Refute it at one input. -/
def fnExactReachedWrong : ChangeSpec := { name := "fnExactReached", fn := fun _ => fun
  | [d] => { results := [.lit (.bool false)], args := [d] }
  | _ => none }
def FnExactReachedWrongFalsely : Prop := fnExactReachedRow.holds Try.pinned (OpenSpec.ofChange fnExactReachedWrong)

/-- 'laws.FnExactTrim': WHATEVER THE INPUT: true; the input reads as it did. -/
def fnExactTrimSpec : ChangeSpec := { name := "fnExactTrim", fn := fun _ => fun
  | [d] => { results := [.lit (.bool true)], args := [d] }
  | _ => none }
def fnExactTrimRow : OpenClaim := { program := "ytmbggdfceecojaa", sum := "d90c7123303f48b6d3d68b3ae0e8cb7032f347d2a317b4f2ebb6d811839100a7", func := "loop.example/g00080/laws.FnExactTrim", spec := "fnExactTrim", inPlace := ["internal/bytealg.IndexByteString", "internal/bytealg.IndexString"], unfollowed := true, recurses := true, named := ["internal/bytealg.MaxLen"], apart := false }
def FnExactTrimSaid : Prop := fnExactTrimRow.holds Try.pinned (OpenSpec.ofChange fnExactTrimSpec)

/-- ITS FALSE NEIGHBOUR: 'it returns false'. Refute it at one input. -/
def fnExactTrimWrong : ChangeSpec := { name := "fnExactTrim", fn := fun _ => fun
  | [d] => { results := [.lit (.bool false)], args := [d] }
  | _ => none }
def FnExactTrimWrongFalsely : Prop := fnExactTrimRow.holds Try.pinned (OpenSpec.ofChange fnExactTrimWrong)

/-- 'laws.FnExactGetImage': WHATEVER THE INPUT: true; the input reads as it did. -/
def fnExactGetImageSpec : ChangeSpec := { name := "fnExactGetImage", fn := fun _ => fun
  | [d] => { results := [.lit (.bool true)], args := [d] }
  | _ => none }
def fnExactGetImageRow : OpenClaim := { program := "ytmbggdfceecojaa", sum := "d90c7123303f48b6d3d68b3ae0e8cb7032f347d2a317b4f2ebb6d811839100a7", func := "loop.example/g00080/laws.FnExactGetImage", spec := "fnExactGetImage", inPlace := ["internal/bytealg.IndexByteString", "internal/bytealg.IndexString"], unfollowed := true, recurses := true, named := ["internal/bytealg.MaxLen"], apart := false }
def FnExactGetImageSaid : Prop := fnExactGetImageRow.holds Try.pinned (OpenSpec.ofChange fnExactGetImageSpec)

/-- ITS FALSE NEIGHBOUR: 'it returns false'. Refute it at one input. -/
def fnExactGetImageWrong : ChangeSpec := { name := "fnExactGetImage", fn := fun _ => fun
  | [d] => { results := [.lit (.bool false)], args := [d] }
  | _ => none }
def FnExactGetImageWrongFalsely : Prop := fnExactGetImageRow.holds Try.pinned (OpenSpec.ofChange fnExactGetImageWrong)

/-- 'laws.FnExactDead': WHATEVER THE INPUT: true; the input reads as it did. -/
def fnExactDeadSpec : ChangeSpec := { name := "fnExactDead", fn := fun _ => fun
  | [d] => { results := [.lit (.bool true)], args := [d] }
  | _ => none }
def fnExactDeadRow : OpenClaim := { program := "ytmbggdfceecojaa", sum := "d90c7123303f48b6d3d68b3ae0e8cb7032f347d2a317b4f2ebb6d811839100a7", func := "loop.example/g00080/laws.FnExactDead", spec := "fnExactDead", unfollowed := true, recurses := true, loops := true, apart := false }
def FnExactDeadSaid : Prop := fnExactDeadRow.holds Try.pinned (OpenSpec.ofChange fnExactDeadSpec)

/-- ITS FALSE NEIGHBOUR: 'it returns false'. Refute it at one input. -/
def fnExactDeadWrong : ChangeSpec := { name := "fnExactDead", fn := fun _ => fun
  | [d] => { results := [.lit (.bool false)], args := [d] }
  | _ => none }
def FnExactDeadWrongFalsely : Prop := fnExactDeadRow.holds Try.pinned (OpenSpec.ofChange fnExactDeadWrong)

/-- 'laws.FnExactStep1': WHATEVER THE INPUT: true; the input reads as it did. -/
def fnExactStep1Spec : ChangeSpec := { name := "fnExactStep1", fn := fun _ => fun
  | [d1, d2, d3, d4] => { results := [.lit (.bool true)], args := [d1, d2, d3, d4] }
  | _ => none }
def fnExactStep1Row : OpenClaim := { program := "ytmbggdfceecojaa", sum := "d90c7123303f48b6d3d68b3ae0e8cb7032f347d2a317b4f2ebb6d811839100a7", func := "loop.example/g00080/laws.FnExactStep1", spec := "fnExactStep1", inPlace := ["internal/bytealg.IndexByteString", "internal/bytealg.IndexString"], unfollowed := true, recurses := true, named := ["internal/bytealg.MaxLen"], apart := false }
def FnExactStep1Said : Prop := fnExactStep1Row.holds Try.pinned (OpenSpec.ofChange fnExactStep1Spec)

/-- ITS FALSE NEIGHBOUR: 'it returns false'. Refute it at one input. -/
def fnExactStep1Wrong : ChangeSpec := { name := "fnExactStep1", fn := fun _ => fun
  | [d1, d2, d3, d4] => { results := [.lit (.bool false)], args := [d1, d2, d3, d4] }
  | _ => none }
def FnExactStep1WrongFalsely : Prop := fnExactStep1Row.holds Try.pinned (OpenSpec.ofChange fnExactStep1Wrong)

/-- 'laws.FnExactProfile': WHATEVER THE INPUT: true; the input reads as it did. -/
def fnExactProfileSpec : ChangeSpec := { name := "fnExactProfile", fn := fun _ => fun
  | [d1, d2, d3, d4] => { results := [.lit (.bool true)], args := [d1, d2, d3, d4] }
  | _ => none }
def fnExactProfileRow : OpenClaim := { program := "ytmbggdfceecojaa", sum := "d90c7123303f48b6d3d68b3ae0e8cb7032f347d2a317b4f2ebb6d811839100a7", func := "loop.example/g00080/laws.FnExactProfile", spec := "fnExactProfile", inPlace := ["internal/bytealg.IndexByteString", "internal/bytealg.IndexString"], unfollowed := true, recurses := true, named := ["internal/bytealg.MaxLen"], apart := false }
def FnExactProfileSaid : Prop := fnExactProfileRow.holds Try.pinned (OpenSpec.ofChange fnExactProfileSpec)

/-- ITS FALSE NEIGHBOUR: 'it returns false'. Refute it at one input. -/
def fnExactProfileWrong : ChangeSpec := { name := "fnExactProfile", fn := fun _ => fun
  | [d1, d2, d3, d4] => { results := [.lit (.bool false)], args := [d1, d2, d3, d4] }
  | _ => none }
def FnExactProfileWrongFalsely : Prop := fnExactProfileRow.holds Try.pinned (OpenSpec.ofChange fnExactProfileWrong)

/-- 'laws.FnExactRunCode': WHATEVER THE INPUT: true; the input reads as it did. -/
def fnExactRunCodeSpec : ChangeSpec := { name := "fnExactRunCode", fn := fun _ => fun
  | [d1, d2, d3, d4] => { results := [.lit (.bool true)], args := [d1, d2, d3, d4] }
  | _ => none }
def fnExactRunCodeRow : OpenClaim := { program := "ytmbggdfceecojaa", sum := "d90c7123303f48b6d3d68b3ae0e8cb7032f347d2a317b4f2ebb6d811839100a7", func := "loop.example/g00080/laws.FnExactRunCode", spec := "fnExactRunCode", inPlace := ["internal/bytealg.IndexByteString", "internal/bytealg.IndexString"], unfollowed := true, recurses := true, named := ["internal/bytealg.MaxLen"], apart := false }
def FnExactRunCodeSaid : Prop := fnExactRunCodeRow.holds Try.pinned (OpenSpec.ofChange fnExactRunCodeSpec)

/-- ITS FALSE NEIGHBOUR: 'it returns false'. Refute it at one input. -/
def fnExactRunCodeWrong : ChangeSpec := { name := "fnExactRunCode", fn := fun _ => fun
  | [d1, d2, d3, d4] => { results := [.lit (.bool false)], args := [d1, d2, d3, d4] }
  | _ => none }
def FnExactRunCodeWrongFalsely : Prop := fnExactRunCodeRow.holds Try.pinned (OpenSpec.ofChange fnExactRunCodeWrong)

/-- 'laws.FnExactTraceOk': WHATEVER THE INPUT: true; the input reads as it did. -/
def fnExactTraceOkSpec : ChangeSpec := { name := "fnExactTraceOk", fn := fun _ => fun
  | [d1, d2, d3, d4] => { results := [.lit (.bool true)], args := [d1, d2, d3, d4] }
  | _ => none }
def fnExactTraceOkRow : OpenClaim := { program := "ytmbggdfceecojaa", sum := "d90c7123303f48b6d3d68b3ae0e8cb7032f347d2a317b4f2ebb6d811839100a7", func := "loop.example/g00080/laws.FnExactTraceOk", spec := "fnExactTraceOk", inPlace := ["internal/bytealg.IndexByteString", "internal/bytealg.IndexString"], unfollowed := true, recurses := true, named := ["internal/bytealg.MaxLen"], apart := false }
def FnExactTraceOkSaid : Prop := fnExactTraceOkRow.holds Try.pinned (OpenSpec.ofChange fnExactTraceOkSpec)

/-- ITS FALSE NEIGHBOUR: 'it returns false'. Refute it at one input. -/
def fnExactTraceOkWrong : ChangeSpec := { name := "fnExactTraceOk", fn := fun _ => fun
  | [d1, d2, d3, d4] => { results := [.lit (.bool false)], args := [d1, d2, d3, d4] }
  | _ => none }
def FnExactTraceOkWrongFalsely : Prop := fnExactTraceOkRow.holds Try.pinned (OpenSpec.ofChange fnExactTraceOkWrong)

/-- 'laws.FnExactTrace': WHATEVER THE INPUT: true; the input reads as it did. -/
def fnExactTraceSpec : ChangeSpec := { name := "fnExactTrace", fn := fun _ => fun
  | [d1, d2, d3, d4] => { results := [.lit (.bool true)], args := [d1, d2, d3, d4] }
  | _ => none }
def fnExactTraceRow : OpenClaim := { program := "ytmbggdfceecojaa", sum := "d90c7123303f48b6d3d68b3ae0e8cb7032f347d2a317b4f2ebb6d811839100a7", func := "loop.example/g00080/laws.FnExactTrace", spec := "fnExactTrace", inPlace := ["internal/bytealg.IndexByteString", "internal/bytealg.IndexString"], unfollowed := true, recurses := true, named := ["internal/bytealg.MaxLen"], apart := false }
def FnExactTraceSaid : Prop := fnExactTraceRow.holds Try.pinned (OpenSpec.ofChange fnExactTraceSpec)

/-- ITS FALSE NEIGHBOUR: 'it returns false'. Refute it at one input. -/
def fnExactTraceWrong : ChangeSpec := { name := "fnExactTrace", fn := fun _ => fun
  | [d1, d2, d3, d4] => { results := [.lit (.bool false)], args := [d1, d2, d3, d4] }
  | _ => none }
def FnExactTraceWrongFalsely : Prop := fnExactTraceRow.holds Try.pinned (OpenSpec.ofChange fnExactTraceWrong)

/-- 'laws.FnExactNext': WHATEVER THE INPUT: true; the input reads as it did. -/
def fnExactNextSpec : ChangeSpec := { name := "fnExactNext", fn := fun _ => fun
  | [d1, d2] => { results := [.lit (.bool true)], args := [d1, d2] }
  | _ => none }
def fnExactNextRow : OpenClaim := { program := "ytmbggdfceecojaa", sum := "d90c7123303f48b6d3d68b3ae0e8cb7032f347d2a317b4f2ebb6d811839100a7", func := "loop.example/g00080/laws.FnExactNext", spec := "fnExactNext", inPlace := ["internal/bytealg.IndexByteString", "internal/bytealg.IndexString"], unfollowed := true, recurses := true, named := ["internal/bytealg.MaxLen"], apart := false }
def FnExactNextSaid : Prop := fnExactNextRow.holds Try.pinned (OpenSpec.ofChange fnExactNextSpec)

/-- ITS FALSE NEIGHBOUR: 'it returns false'. Refute it at one input. -/
def fnExactNextWrong : ChangeSpec := { name := "fnExactNext", fn := fun _ => fun
  | [d1, d2] => { results := [.lit (.bool false)], args := [d1, d2] }
  | _ => none }
def FnExactNextWrongFalsely : Prop := fnExactNextRow.holds Try.pinned (OpenSpec.ofChange fnExactNextWrong)

/- THE SECOND FORM. 'bulk': how many values and letters a reading holds, each counted each time it is reached (what is shared counts as often as it is met; a slice's spare places count too). A statement '..UptoSaid' is the law's where the arguments, and the package variables that the reading takes, are together of bulk at most 1048576: NARROWER than '..Said'. Prove '..Said' where nothing that the law and all that it calls make is longer than what came in: it says more and counts as full. Else prove '..UptoSaid'. A law counts once. -/
mutual
def uptoBulk {H : Type} : DataW H → Nat
  | .lit (.string bytes) => bytes.length + 1
  | .lit _ => 1
  | .nil => 1
  | .ptr d => uptoBulk d + 1
  | .slice elems spare => uptoBulkAll elems + uptoBulkAll spare + 1
  | .agg parts => uptoBulkAll parts + 1
  | .iface _ d => uptoBulk d + 1
  | .map entries => uptoBulkEntries entries + 1
  | .held _ => 1
def uptoBulkAll {H : Type} : List (DataW H) → Nat
  | [] => 0
  | d :: r => uptoBulk d + uptoBulkAll r
def uptoBulkEntries {H : Type} : List (Lit × DataW H) → Nat
  | [] => 0
  | x :: r => uptoBulkEntry x + uptoBulkEntries r
def uptoBulkEntry {H : Type} : Lit × DataW H → Nat
  | (.string bytes, d) => bytes.length + uptoBulk d + 1
  | (_, d) => uptoBulk d + 1
 end
def uptoSmall : (H : Type) → List (DataW H) → Bool := fun _ ds => decide (uptoBulkAll ds ≤ 1048576)
def OpenSpec.upto (s : _root_.Go.ChangeSpec) : _root_.Go.OpenSpec := { _root_.Go.OpenSpec.ofChange s with cond := some uptoSmall }

/-- 'laws.FnExactHottest', WHERE WHAT IT READS IS OF BULK AT MOST 1048576: true; the input reads as it did. -/
def fnExactHottestUptoRow : OpenClaim := { program := "ytmbggdfceecojaa", sum := "d90c7123303f48b6d3d68b3ae0e8cb7032f347d2a317b4f2ebb6d811839100a7", func := "loop.example/g00080/laws.FnExactHottest", spec := "fnExactHottest", apart := false, narrowed := true }
def FnExactHottestUptoSaid : Prop := fnExactHottestUptoRow.holds Try.pinned (OpenSpec.upto fnExactHottestSpec)

/-- 'laws.FnExactPutImage', WHERE WHAT IT READS IS OF BULK AT MOST 1048576: true; the input reads as it did. -/
def fnExactPutImageUptoRow : OpenClaim := { program := "ytmbggdfceecojaa", sum := "d90c7123303f48b6d3d68b3ae0e8cb7032f347d2a317b4f2ebb6d811839100a7", func := "loop.example/g00080/laws.FnExactPutImage", spec := "fnExactPutImage", inPlace := ["internal/bytealg.IndexByteString", "internal/bytealg.IndexString"], unfollowed := true, recurses := true, named := ["internal/bytealg.MaxLen"], apart := false, narrowed := true }
def FnExactPutImageUptoSaid : Prop := fnExactPutImageUptoRow.holds Try.pinned (OpenSpec.upto fnExactPutImageSpec)

/-- 'laws.FnExactReached', WHERE WHAT IT READS IS OF BULK AT MOST 1048576: true; the input reads as it did. -/
def fnExactReachedUptoRow : OpenClaim := { program := "ytmbggdfceecojaa", sum := "d90c7123303f48b6d3d68b3ae0e8cb7032f347d2a317b4f2ebb6d811839100a7", func := "loop.example/g00080/laws.FnExactReached", spec := "fnExactReached", inPlace := ["internal/bytealg.IndexByteString", "internal/bytealg.IndexString"], unfollowed := true, recurses := true, named := ["internal/bytealg.MaxLen"], apart := false, narrowed := true }
def FnExactReachedUptoSaid : Prop := fnExactReachedUptoRow.holds Try.pinned (OpenSpec.upto fnExactReachedSpec)

/-- 'laws.FnExactTrim', WHERE WHAT IT READS IS OF BULK AT MOST 1048576: true; the input reads as it did. -/
def fnExactTrimUptoRow : OpenClaim := { program := "ytmbggdfceecojaa", sum := "d90c7123303f48b6d3d68b3ae0e8cb7032f347d2a317b4f2ebb6d811839100a7", func := "loop.example/g00080/laws.FnExactTrim", spec := "fnExactTrim", inPlace := ["internal/bytealg.IndexByteString", "internal/bytealg.IndexString"], unfollowed := true, recurses := true, named := ["internal/bytealg.MaxLen"], apart := false, narrowed := true }
def FnExactTrimUptoSaid : Prop := fnExactTrimUptoRow.holds Try.pinned (OpenSpec.upto fnExactTrimSpec)

/-- 'laws.FnExactGetImage', WHERE WHAT IT READS IS OF BULK AT MOST 1048576: true; the input reads as it did. -/
def fnExactGetImageUptoRow : OpenClaim := { program := "ytmbggdfceecojaa", sum := "d90c7123303f48b6d3d68b3ae0e8cb7032f347d2a317b4f2ebb6d811839100a7", func := "loop.example/g00080/laws.FnExactGetImage", spec := "fnExactGetImage", inPlace := ["internal/bytealg.IndexByteString", "internal/bytealg.IndexString"], unfollowed := true, recurses := true, named := ["internal/bytealg.MaxLen"], apart := false, narrowed := true }
def FnExactGetImageUptoSaid : Prop := fnExactGetImageUptoRow.holds Try.pinned (OpenSpec.upto fnExactGetImageSpec)

/-- 'laws.FnExactDead', WHERE WHAT IT READS IS OF BULK AT MOST 1048576: true; the input reads as it did. -/
def fnExactDeadUptoRow : OpenClaim := { program := "ytmbggdfceecojaa", sum := "d90c7123303f48b6d3d68b3ae0e8cb7032f347d2a317b4f2ebb6d811839100a7", func := "loop.example/g00080/laws.FnExactDead", spec := "fnExactDead", unfollowed := true, recurses := true, loops := true, apart := false, narrowed := true }
def FnExactDeadUptoSaid : Prop := fnExactDeadUptoRow.holds Try.pinned (OpenSpec.upto fnExactDeadSpec)

/-- 'laws.FnExactStep1', WHERE WHAT IT READS IS OF BULK AT MOST 1048576: true; the input reads as it did. -/
def fnExactStep1UptoRow : OpenClaim := { program := "ytmbggdfceecojaa", sum := "d90c7123303f48b6d3d68b3ae0e8cb7032f347d2a317b4f2ebb6d811839100a7", func := "loop.example/g00080/laws.FnExactStep1", spec := "fnExactStep1", inPlace := ["internal/bytealg.IndexByteString", "internal/bytealg.IndexString"], unfollowed := true, recurses := true, named := ["internal/bytealg.MaxLen"], apart := false, narrowed := true }
def FnExactStep1UptoSaid : Prop := fnExactStep1UptoRow.holds Try.pinned (OpenSpec.upto fnExactStep1Spec)

/-- 'laws.FnExactProfile', WHERE WHAT IT READS IS OF BULK AT MOST 1048576: true; the input reads as it did. -/
def fnExactProfileUptoRow : OpenClaim := { program := "ytmbggdfceecojaa", sum := "d90c7123303f48b6d3d68b3ae0e8cb7032f347d2a317b4f2ebb6d811839100a7", func := "loop.example/g00080/laws.FnExactProfile", spec := "fnExactProfile", inPlace := ["internal/bytealg.IndexByteString", "internal/bytealg.IndexString"], unfollowed := true, recurses := true, named := ["internal/bytealg.MaxLen"], apart := false, narrowed := true }
def FnExactProfileUptoSaid : Prop := fnExactProfileUptoRow.holds Try.pinned (OpenSpec.upto fnExactProfileSpec)

/-- 'laws.FnExactRunCode', WHERE WHAT IT READS IS OF BULK AT MOST 1048576: true; the input reads as it did. -/
def fnExactRunCodeUptoRow : OpenClaim := { program := "ytmbggdfceecojaa", sum := "d90c7123303f48b6d3d68b3ae0e8cb7032f347d2a317b4f2ebb6d811839100a7", func := "loop.example/g00080/laws.FnExactRunCode", spec := "fnExactRunCode", inPlace := ["internal/bytealg.IndexByteString", "internal/bytealg.IndexString"], unfollowed := true, recurses := true, named := ["internal/bytealg.MaxLen"], apart := false, narrowed := true }
def FnExactRunCodeUptoSaid : Prop := fnExactRunCodeUptoRow.holds Try.pinned (OpenSpec.upto fnExactRunCodeSpec)

/-- 'laws.FnExactTraceOk', WHERE WHAT IT READS IS OF BULK AT MOST 1048576: true; the input reads as it did. -/
def fnExactTraceOkUptoRow : OpenClaim := { program := "ytmbggdfceecojaa", sum := "d90c7123303f48b6d3d68b3ae0e8cb7032f347d2a317b4f2ebb6d811839100a7", func := "loop.example/g00080/laws.FnExactTraceOk", spec := "fnExactTraceOk", inPlace := ["internal/bytealg.IndexByteString", "internal/bytealg.IndexString"], unfollowed := true, recurses := true, named := ["internal/bytealg.MaxLen"], apart := false, narrowed := true }
def FnExactTraceOkUptoSaid : Prop := fnExactTraceOkUptoRow.holds Try.pinned (OpenSpec.upto fnExactTraceOkSpec)

/-- 'laws.FnExactTrace', WHERE WHAT IT READS IS OF BULK AT MOST 1048576: true; the input reads as it did. -/
def fnExactTraceUptoRow : OpenClaim := { program := "ytmbggdfceecojaa", sum := "d90c7123303f48b6d3d68b3ae0e8cb7032f347d2a317b4f2ebb6d811839100a7", func := "loop.example/g00080/laws.FnExactTrace", spec := "fnExactTrace", inPlace := ["internal/bytealg.IndexByteString", "internal/bytealg.IndexString"], unfollowed := true, recurses := true, named := ["internal/bytealg.MaxLen"], apart := false, narrowed := true }
def FnExactTraceUptoSaid : Prop := fnExactTraceUptoRow.holds Try.pinned (OpenSpec.upto fnExactTraceSpec)

/-- 'laws.FnExactNext', WHERE WHAT IT READS IS OF BULK AT MOST 1048576: true; the input reads as it did. -/
def fnExactNextUptoRow : OpenClaim := { program := "ytmbggdfceecojaa", sum := "d90c7123303f48b6d3d68b3ae0e8cb7032f347d2a317b4f2ebb6d811839100a7", func := "loop.example/g00080/laws.FnExactNext", spec := "fnExactNext", inPlace := ["internal/bytealg.IndexByteString", "internal/bytealg.IndexString"], unfollowed := true, recurses := true, named := ["internal/bytealg.MaxLen"], apart := false, narrowed := true }
def FnExactNextUptoSaid : Prop := fnExactNextUptoRow.holds Try.pinned (OpenSpec.upto fnExactNextSpec)

end Rows
end Go.Proofs.Ytmbggdfceecojaa
