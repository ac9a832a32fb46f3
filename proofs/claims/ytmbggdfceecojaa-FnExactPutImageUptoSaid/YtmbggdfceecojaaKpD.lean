/- Texts CoB CoC CoD ShA McC ShB CoE CoF PiC PiD PiE Am29 PiF HoB, merged. -/
import Derived.Test.YtmbggdfceecojaaKpC
import Derived.Test.YtmbggdfceecojaaChecked
import Derived.Shelf.Strings.Search1
import Derived.KernelRfl
import Derived.ChangeKeysEq
import Derived.Test.YtmbggdfceecojaaRows
import Derived.WalkKit
import Derived.ProofKit
import Derived.OpenShut
import Derived.JoinedCond
/- Right codes: the fields that are not told are zero. -/
set_option linter.all false
namespace Go.Proofs.Ytmbggdfceecojaa.Cd
open Go.AM Mc Ho

theorem l14Reg (x : Int) {H : List AO} : ACall Try.prog 162 [.p (.i .i64 x)] H (fun r H' => r = .p (.b (inD x 0 15)) ∧ H' = H) := by
  refine call162 (by simp) ?_
  simp only [go_sem, Nat.reduceEqDiff, reduceIte, ↓reduceIte, Nat.reduceAdd, mc162, mr162]
  refine (l1In_any _ _ _).mono ?_
  rintro r H' ⟨rfl, rfl⟩
  simp only [go_sem, Nat.reduceEqDiff, reduceIte, ↓reduceIte, Nat.reduceAdd]

def zeroD (w : List UInt8) (x : InsD) : Bool := (w.contains 97 || decide (x.a = 0)) && (w.contains 98 || decide (x.b = 0)) && (w.contains 99 || decide (x.c = 0)) && (w.contains 110 || decide (x.n = 0)) && (w.contains 116 || decide (x.text = []))

/-- of which letters there is a mark: those of s, and the first m of those of t -/
def hasR (s t : List UInt8) (m : Nat) : List (List AV) :=
  [[.p (.b (if 0 < m then t.contains 97 else s.contains 97))], [.p (.b (if 1 < m then t.contains 98 else s.contains 98))], [.p (.b (if 2 < m then t.contains 99 else s.contains 99))], [.p (.b (if 3 < m then t.contains 110 else s.contains 110))], [.p (.b (if 4 < m then t.contains 116 else s.contains 116))]]

theorem hasR_zero (s t) : hasR s t 0 = hasR s s 5 := by simp [hasR]
theorem hasR_five (s t) : hasR s t 5 = hasR t t 5 := by simp [hasR]

theorem tk {w : List UInt8} {i : Nat} (h : i < w.length) (c : UInt8) : c ∈ w.take (i + 1) ↔ (c ∈ w.take i ∨ w[i] = c) := by
  rw [List.take_succ, List.getElem?_eq_getElem h, List.mem_append]
  simp [eq_comm]

set_option maxHeartbeats 4000000 in
theorem l14Zero (x : InsD) (w : List UInt8) (hw : w.length ≤ 100) : ACall Try.prog 163 [.st (x.cells.map .p), .p (.s w)] [] (fun r H => r = .p (.b (zeroD w x))) := by
  refine call163 (by simp) ?_
  simp only [go_sem, Nat.reduceEqDiff, reduceIte, ↓reduceIte, Nat.reduceAdd, List.replicate_succ, List.replicate_zero, List.set_cons_zero, List.set_cons_succ, List.length_cons, List.length_nil, Nat.reduceLT, Nat.lt_add_one, ne_eq, Int.reduceEq, not_false_eq_true, Option.map_some, Nat.reduceLeDiff, Nat.zero_lt_succ, List.map_cons, List.map_nil, List.nil_append, List.cons_append, List.append_nil, bytesOf, List.take_succ_cons, List.take_zero, List.drop_zero, and_self, List.append_assoc, List.length_append, Int.reduceLT, Int.reduceLE, Int.toNat_zero, Int.reduceToNat, Int.cast_ofNat_Int, Int.natCast_zero, Int.natCast_one, Int.reduceAdd, List.map_append, mc163, mr163, InsD.cells]
  refine ⟨Nat, [0, 1, 2, 4, 5, 6], fun i st => i ≤ w.length ∧ st = ⟨[(0, .st (x.cells.map .p)), (1, .p (.s w)), (2, .ptr 0 0), (4, .p (.b false)), (5, .gs 1 0 0 5), (6, .p (.i .i64 i))], [], [.var (x.cells.map .p), .rows 1 0 (hasR (w.take i) (w.take i) 5)]⟩, fun i => w.length - i, ⟨0, ?_⟩, ?_⟩
  · simp only [go_sem, Nat.reduceEqDiff, reduceIte, ↓reduceIte, Nat.reduceAdd]
    exact ⟨Nat.zero_le _, by simp [InsD.cells, hasR]⟩
  · rintro i st ⟨hi, rfl⟩
    simp only [go_sem, Nat.reduceEqDiff, reduceIte, ↓reduceIte, Nat.reduceAdd]
    intro _
    refine condK_split _ (fun hc => ?_) (fun hc => ?_)
    · have hil : i < w.length := by simpa using hc
      have hg : w[i]? = some w[i] := List.getElem?_eq_getElem hil
      simp only [go_sem, Nat.reduceEqDiff, reduceIte, ↓reduceIte, Nat.reduceAdd]
      refine ⟨Nat, [0, 1, 2, 4, 5, 6, 7], fun m st => m ≤ 5 ∧ st = ⟨[(0, .st (x.cells.map .p)), (1, .p (.s w)), (2, .ptr 0 0), (4, .p (.b false)), (5, .gs 1 0 0 5), (6, .p (.i .i64 i)), (7, .p (.i .i64 m))], [], [.var (x.cells.map .p), .rows 1 0 (hasR (w.take i) (w.take (i + 1)) m)]⟩, fun m => 5 - m, ⟨0, ?_⟩, ?_⟩
      · simp only [go_sem, Nat.reduceEqDiff, reduceIte, ↓reduceIte, Nat.reduceAdd]
        exact ⟨by omega, by rw [hasR_zero]; rfl⟩
      · rintro m st ⟨hm, rfl⟩
        simp only [go_sem, Nat.reduceEqDiff, reduceIte, ↓reduceIte, Nat.reduceAdd]
        refine condK_split _ (fun hd => ?_) (fun hd => ?_)
        · have hm5 : m < 5 := by have : (m : Int) < 5 := by simpa using hd
                                 omega
          have e97 : decide ((w[i].toNat : Int) = 97) = decide (w[i] = 97) := u8_eq w[i] 97 (by omega)
          have e98 : decide ((w[i].toNat : Int) = 98) = decide (w[i] = 98) := u8_eq w[i] 98 (by omega)
          have e99 : decide ((w[i].toNat : Int) = 99) = decide (w[i] = 99) := u8_eq w[i] 99 (by omega)
          have e110 : decide ((w[i].toNat : Int) = 110) = decide (w[i] = 110) := u8_eq w[i] 110 (by omega)
          have e116 : decide ((w[i].toNat : Int) = 116) = decide (w[i] = 116) := u8_eq w[i] 116 (by omega)
          obtain rfl | rfl | rfl | rfl | rfl : m = 0 ∨ m = 1 ∨ m = 2 ∨ m = 3 ∨ m = 4 := by omega
          · simp only [go_sem, Nat.reduceEqDiff, reduceIte, ↓reduceIte, Nat.reduceAdd]
            (refine drw_same ?_; simp only [go_sem, Nat.reduceEqDiff, reduceIte, ↓reduceIte, Nat.reduceAdd, hg, Int.toNat_zero, Int.reduceToNat, Int.cast_ofNat_Int, Int.natCast_one, Int.natCast_zero, Int.reduceLE, Int.reduceLT])
            rw [show ((UInt8.toNat 97 : Nat) : Int) = 97 from rfl, e97]
            refine condK_split _ (fun h1 => ?_) (fun h1 => ?_)
            · simp only [go_sem, Nat.reduceEqDiff, reduceIte, ↓reduceIte, Nat.reduceAdd, List.replicate_succ, List.replicate_zero, List.set_cons_zero, List.set_cons_succ, List.length_cons, List.length_nil, Nat.reduceLT, Nat.lt_add_one, ne_eq, Int.reduceEq, not_false_eq_true, Option.map_some, Nat.reduceLeDiff, Nat.zero_lt_succ, List.map_cons, List.map_nil, List.nil_append, List.cons_append, List.append_nil, bytesOf, List.take_succ_cons, List.take_zero, List.drop_zero, and_self, List.append_assoc, List.length_append, Int.reduceLT, Int.reduceLE, Int.toNat_zero, Int.reduceToNat, Int.cast_ofNat_Int, Int.natCast_zero, Int.natCast_one, Int.reduceAdd, List.map_append, hasR]
              rw [stoR_at rfl rfl]
              simp only [go_sem, Nat.reduceEqDiff, reduceIte, ↓reduceIte, Nat.reduceAdd, List.replicate_succ, List.replicate_zero, List.set_cons_zero, List.set_cons_succ, List.length_cons, List.length_nil, Nat.reduceLT, Nat.lt_add_one, ne_eq, Int.reduceEq, not_false_eq_true, Option.map_some, Nat.reduceLeDiff, Nat.zero_lt_succ, List.map_cons, List.map_nil, List.nil_append, List.cons_append, List.append_nil, bytesOf, List.take_succ_cons, List.take_zero, List.drop_zero, and_self, List.append_assoc, List.length_append, Int.reduceLT, Int.reduceLE, Int.toNat_zero, Int.reduceToNat, Int.cast_ofNat_Int, Int.natCast_zero, Int.natCast_one, Int.reduceAdd, List.map_append]
              refine ⟨1, ⟨by omega, ?_⟩, by omega⟩
              rw [wr64 (by omega) (by omega)]
              have h1' := of_decide_eq_true h1
              simp [hasR, tk hil, h1']
            · simp only [go_sem, Nat.reduceEqDiff, reduceIte, ↓reduceIte, Nat.reduceAdd]
              refine ⟨1, ⟨by omega, ?_⟩, by omega⟩
              rw [wr64 (by omega) (by omega)]
              have h1' := of_decide_eq_false h1
              simp [hasR, tk hil, h1']
          · simp only [go_sem, Nat.reduceEqDiff, reduceIte, ↓reduceIte, Nat.reduceAdd]
            (refine drw_same ?_; simp only [go_sem, Nat.reduceEqDiff, reduceIte, ↓reduceIte, Nat.reduceAdd, hg, Int.toNat_zero, Int.reduceToNat, Int.cast_ofNat_Int, Int.natCast_one, Int.natCast_zero, Int.reduceLE, Int.reduceLT])
            rw [show ((UInt8.toNat 98 : Nat) : Int) = 98 from rfl, e98]
            refine condK_split _ (fun h1 => ?_) (fun h1 => ?_)
            · simp only [go_sem, Nat.reduceEqDiff, reduceIte, ↓reduceIte, Nat.reduceAdd, List.replicate_succ, List.replicate_zero, List.set_cons_zero, List.set_cons_succ, List.length_cons, List.length_nil, Nat.reduceLT, Nat.lt_add_one, ne_eq, Int.reduceEq, not_false_eq_true, Option.map_some, Nat.reduceLeDiff, Nat.zero_lt_succ, List.map_cons, List.map_nil, List.nil_append, List.cons_append, List.append_nil, bytesOf, List.take_succ_cons, List.take_zero, List.drop_zero, and_self, List.append_assoc, List.length_append, Int.reduceLT, Int.reduceLE, Int.toNat_zero, Int.reduceToNat, Int.cast_ofNat_Int, Int.natCast_zero, Int.natCast_one, Int.reduceAdd, List.map_append, hasR]
              rw [stoR_at rfl rfl]
              simp only [go_sem, Nat.reduceEqDiff, reduceIte, ↓reduceIte, Nat.reduceAdd, List.replicate_succ, List.replicate_zero, List.set_cons_zero, List.set_cons_succ, List.length_cons, List.length_nil, Nat.reduceLT, Nat.lt_add_one, ne_eq, Int.reduceEq, not_false_eq_true, Option.map_some, Nat.reduceLeDiff, Nat.zero_lt_succ, List.map_cons, List.map_nil, List.nil_append, List.cons_append, List.append_nil, bytesOf, List.take_succ_cons, List.take_zero, List.drop_zero, and_self, List.append_assoc, List.length_append, Int.reduceLT, Int.reduceLE, Int.toNat_zero, Int.reduceToNat, Int.cast_ofNat_Int, Int.natCast_zero, Int.natCast_one, Int.reduceAdd, List.map_append]
              refine ⟨2, ⟨by omega, ?_⟩, by omega⟩
              rw [wr64 (by omega) (by omega)]
              have h1' := of_decide_eq_true h1
              simp [hasR, tk hil, h1']
            · simp only [go_sem, Nat.reduceEqDiff, reduceIte, ↓reduceIte, Nat.reduceAdd]
              refine ⟨2, ⟨by omega, ?_⟩, by omega⟩
              rw [wr64 (by omega) (by omega)]
              have h1' := of_decide_eq_false h1
              simp [hasR, tk hil, h1']
          · simp only [go_sem, Nat.reduceEqDiff, reduceIte, ↓reduceIte, Nat.reduceAdd]
            (refine drw_same ?_; simp only [go_sem, Nat.reduceEqDiff, reduceIte, ↓reduceIte, Nat.reduceAdd, hg, Int.toNat_zero, Int.reduceToNat, Int.cast_ofNat_Int, Int.natCast_one, Int.natCast_zero, Int.reduceLE, Int.reduceLT])
            rw [show ((UInt8.toNat 99 : Nat) : Int) = 99 from rfl, e99]
            refine condK_split _ (fun h1 => ?_) (fun h1 => ?_)
            · simp only [go_sem, Nat.reduceEqDiff, reduceIte, ↓reduceIte, Nat.reduceAdd, List.replicate_succ, List.replicate_zero, List.set_cons_zero, List.set_cons_succ, List.length_cons, List.length_nil, Nat.reduceLT, Nat.lt_add_one, ne_eq, Int.reduceEq, not_false_eq_true, Option.map_some, Nat.reduceLeDiff, Nat.zero_lt_succ, List.map_cons, List.map_nil, List.nil_append, List.cons_append, List.append_nil, bytesOf, List.take_succ_cons, List.take_zero, List.drop_zero, and_self, List.append_assoc, List.length_append, Int.reduceLT, Int.reduceLE, Int.toNat_zero, Int.reduceToNat, Int.cast_ofNat_Int, Int.natCast_zero, Int.natCast_one, Int.reduceAdd, List.map_append, hasR]
              rw [stoR_at rfl rfl]
              simp only [go_sem, Nat.reduceEqDiff, reduceIte, ↓reduceIte, Nat.reduceAdd, List.replicate_succ, List.replicate_zero, List.set_cons_zero, List.set_cons_succ, List.length_cons, List.length_nil, Nat.reduceLT, Nat.lt_add_one, ne_eq, Int.reduceEq, not_false_eq_true, Option.map_some, Nat.reduceLeDiff, Nat.zero_lt_succ, List.map_cons, List.map_nil, List.nil_append, List.cons_append, List.append_nil, bytesOf, List.take_succ_cons, List.take_zero, List.drop_zero, and_self, List.append_assoc, List.length_append, Int.reduceLT, Int.reduceLE, Int.toNat_zero, Int.reduceToNat, Int.cast_ofNat_Int, Int.natCast_zero, Int.natCast_one, Int.reduceAdd, List.map_append]
              refine ⟨3, ⟨by omega, ?_⟩, by omega⟩
              rw [wr64 (by omega) (by omega)]
              have h1' := of_decide_eq_true h1
              simp [hasR, tk hil, h1']
            · simp only [go_sem, Nat.reduceEqDiff, reduceIte, ↓reduceIte, Nat.reduceAdd]
              refine ⟨3, ⟨by omega, ?_⟩, by omega⟩
              rw [wr64 (by omega) (by omega)]
              have h1' := of_decide_eq_false h1
              simp [hasR, tk hil, h1']
          · simp only [go_sem, Nat.reduceEqDiff, reduceIte, ↓reduceIte, Nat.reduceAdd]
            (refine drw_same ?_; simp only [go_sem, Nat.reduceEqDiff, reduceIte, ↓reduceIte, Nat.reduceAdd, hg, Int.toNat_zero, Int.reduceToNat, Int.cast_ofNat_Int, Int.natCast_one, Int.natCast_zero, Int.reduceLE, Int.reduceLT])
            rw [show ((UInt8.toNat 110 : Nat) : Int) = 110 from rfl, e110]
            refine condK_split _ (fun h1 => ?_) (fun h1 => ?_)
            · simp only [go_sem, Nat.reduceEqDiff, reduceIte, ↓reduceIte, Nat.reduceAdd, List.replicate_succ, List.replicate_zero, List.set_cons_zero, List.set_cons_succ, List.length_cons, List.length_nil, Nat.reduceLT, Nat.lt_add_one, ne_eq, Int.reduceEq, not_false_eq_true, Option.map_some, Nat.reduceLeDiff, Nat.zero_lt_succ, List.map_cons, List.map_nil, List.nil_append, List.cons_append, List.append_nil, bytesOf, List.take_succ_cons, List.take_zero, List.drop_zero, and_self, List.append_assoc, List.length_append, Int.reduceLT, Int.reduceLE, Int.toNat_zero, Int.reduceToNat, Int.cast_ofNat_Int, Int.natCast_zero, Int.natCast_one, Int.reduceAdd, List.map_append, hasR]
              rw [stoR_at rfl rfl]
              simp only [go_sem, Nat.reduceEqDiff, reduceIte, ↓reduceIte, Nat.reduceAdd, List.replicate_succ, List.replicate_zero, List.set_cons_zero, List.set_cons_succ, List.length_cons, List.length_nil, Nat.reduceLT, Nat.lt_add_one, ne_eq, Int.reduceEq, not_false_eq_true, Option.map_some, Nat.reduceLeDiff, Nat.zero_lt_succ, List.map_cons, List.map_nil, List.nil_append, List.cons_append, List.append_nil, bytesOf, List.take_succ_cons, List.take_zero, List.drop_zero, and_self, List.append_assoc, List.length_append, Int.reduceLT, Int.reduceLE, Int.toNat_zero, Int.reduceToNat, Int.cast_ofNat_Int, Int.natCast_zero, Int.natCast_one, Int.reduceAdd, List.map_append]
              refine ⟨4, ⟨by omega, ?_⟩, by omega⟩
              rw [wr64 (by omega) (by omega)]
              have h1' := of_decide_eq_true h1
              simp [hasR, tk hil, h1']
            · simp only [go_sem, Nat.reduceEqDiff, reduceIte, ↓reduceIte, Nat.reduceAdd]
              refine ⟨4, ⟨by omega, ?_⟩, by omega⟩
              rw [wr64 (by omega) (by omega)]
              have h1' := of_decide_eq_false h1
              simp [hasR, tk hil, h1']
          · simp only [go_sem, Nat.reduceEqDiff, reduceIte, ↓reduceIte, Nat.reduceAdd]
            (refine drw_same ?_; simp only [go_sem, Nat.reduceEqDiff, reduceIte, ↓reduceIte, Nat.reduceAdd, hg, Int.toNat_zero, Int.reduceToNat, Int.cast_ofNat_Int, Int.natCast_one, Int.natCast_zero, Int.reduceLE, Int.reduceLT])
            rw [show ((UInt8.toNat 116 : Nat) : Int) = 116 from rfl, e116]
            refine condK_split _ (fun h1 => ?_) (fun h1 => ?_)
            · simp only [go_sem, Nat.reduceEqDiff, reduceIte, ↓reduceIte, Nat.reduceAdd, List.replicate_succ, List.replicate_zero, List.set_cons_zero, List.set_cons_succ, List.length_cons, List.length_nil, Nat.reduceLT, Nat.lt_add_one, ne_eq, Int.reduceEq, not_false_eq_true, Option.map_some, Nat.reduceLeDiff, Nat.zero_lt_succ, List.map_cons, List.map_nil, List.nil_append, List.cons_append, List.append_nil, bytesOf, List.take_succ_cons, List.take_zero, List.drop_zero, and_self, List.append_assoc, List.length_append, Int.reduceLT, Int.reduceLE, Int.toNat_zero, Int.reduceToNat, Int.cast_ofNat_Int, Int.natCast_zero, Int.natCast_one, Int.reduceAdd, List.map_append, hasR]
              rw [stoR_at rfl rfl]
              simp only [go_sem, Nat.reduceEqDiff, reduceIte, ↓reduceIte, Nat.reduceAdd, List.replicate_succ, List.replicate_zero, List.set_cons_zero, List.set_cons_succ, List.length_cons, List.length_nil, Nat.reduceLT, Nat.lt_add_one, ne_eq, Int.reduceEq, not_false_eq_true, Option.map_some, Nat.reduceLeDiff, Nat.zero_lt_succ, List.map_cons, List.map_nil, List.nil_append, List.cons_append, List.append_nil, bytesOf, List.take_succ_cons, List.take_zero, List.drop_zero, and_self, List.append_assoc, List.length_append, Int.reduceLT, Int.reduceLE, Int.toNat_zero, Int.reduceToNat, Int.cast_ofNat_Int, Int.natCast_zero, Int.natCast_one, Int.reduceAdd, List.map_append]
              refine ⟨5, ⟨by omega, ?_⟩, by omega⟩
              rw [wr64 (by omega) (by omega)]
              have h1' := of_decide_eq_true h1
              simp [hasR, tk hil, h1']
            · simp only [go_sem, Nat.reduceEqDiff, reduceIte, ↓reduceIte, Nat.reduceAdd]
              refine ⟨5, ⟨by omega, ?_⟩, by omega⟩
              rw [wr64 (by omega) (by omega)]
              have h1' := of_decide_eq_false h1
              simp [hasR, tk hil, h1']
        · have hm5 : m = 5 := by have : ¬ (m : Int) < 5 := by simpa using hd
                                 omega
          subst hm5
          simp only [go_sem, Nat.reduceEqDiff, reduceIte, ↓reduceIte, Nat.reduceAdd]
          refine ⟨i + 1, ⟨hil, ?_⟩, by omega⟩
          rw [wr1 hil (by unfold maxL; omega), hasR_five]
    · have hil : i = w.length := by simp at hc; omega
      subst hil
      rw [List.take_length]
      unfold zeroD
      simp only [hasR]
      generalize w.contains 97 = h0
      generalize w.contains 98 = h1
      generalize w.contains 99 = h2
      generalize w.contains 110 = h3
      generalize w.contains 116 = h4
      cases h0 <;> cases h1 <;> cases h2 <;> cases h3 <;> cases h4
      all_goals simp only [go_sem, Nat.reduceEqDiff, reduceIte, ↓reduceIte, Nat.reduceAdd, List.replicate_succ, List.replicate_zero, List.set_cons_zero, List.set_cons_succ, List.length_cons, List.length_nil, Nat.reduceLT, Nat.lt_add_one, ne_eq, Int.reduceEq, not_false_eq_true, Option.map_some, Nat.reduceLeDiff, Nat.zero_lt_succ, List.map_cons, List.map_nil, List.nil_append, List.cons_append, List.append_nil, bytesOf, List.take_succ_cons, List.take_zero, List.drop_zero, and_self, List.append_assoc, List.length_append, Int.reduceLT, Int.reduceLE, Int.toNat_zero, Int.reduceToNat, Int.cast_ofNat_Int, Int.natCast_zero, Int.natCast_one, Int.reduceAdd, List.map_append, InsD.cells]
      all_goals repeat' (refine condK_split _ (fun hd => ?_) (fun hd => ?_) <;> simp only [go_sem, Nat.reduceEqDiff, reduceIte, ↓reduceIte, Nat.reduceAdd, List.replicate_succ, List.replicate_zero, List.set_cons_zero, List.set_cons_succ, List.length_cons, List.length_nil, Nat.reduceLT, Nat.lt_add_one, ne_eq, Int.reduceEq, not_false_eq_true, Option.map_some, Nat.reduceLeDiff, Nat.zero_lt_succ, List.map_cons, List.map_nil, List.nil_append, List.cons_append, List.append_nil, bytesOf, List.take_succ_cons, List.take_zero, List.drop_zero, and_self, List.append_assoc, List.length_append, Int.reduceLT, Int.reduceLE, Int.toNat_zero, Int.reduceToNat, Int.cast_ofNat_Int, Int.natCast_zero, Int.natCast_one, Int.reduceAdd, List.map_append, hd])
      all_goals simp_all
end Go.Proofs.Ytmbggdfceecojaa.Cd

/- Right codes: one instruction, by the reference. -/
set_option linter.all false
namespace Go.Proofs.Ytmbggdfceecojaa.Cd
open Go.AM Mc Ho

theorem l14Zero_any (x : InsD) (w : List UInt8) (hw : w.length ≤ 100) {H : List AO} : ACall Try.prog 163 [.st (x.cells.map .p), .p (.s w)] H (fun r H' => r = .p (.b (zeroD w x)) ∧ H' = H) :=
  (acall_lend (l14Zero x w hw) (fun r H' h => by subst h; exact grnd_b _) (lentAll_cons (ins_lent x) (lentAll_cons (.pure _) (lentAll_nil _)))).mono fun r H' ⟨h1, _, h2⟩ => ⟨h2, h1⟩
theorem l1Chars_any (s : List UInt8) (hs : s.length ≤ maxL) {H : List AO} : ACall Try.prog 164 [.p (.s s)] H (fun r H' => r = .p (.b (plainD s)) ∧ H' = H) :=
  (acall_lend (l1Chars s hs) (fun r H' h => by subst h; exact grnd_b _) (lentAll_cons (.pure _) (lentAll_nil _))).mono fun r H' ⟨h1, _, h2⟩ => ⟨h2, h1⟩
theorem plain_any (s : List UInt8) (hs : s.length ≤ maxL) {H : List AO} : ACall Try.prog 171 [.p (.s s)] H (fun r H' => r = .p (.b (plainD s)) ∧ H' = H) :=
  (acall_lend (plain s hs) (fun r H' h => by subst h; exact grnd_b _) (lentAll_cons (.pure _) (lentAll_nil _))).mono fun r H' ⟨h1, _, h2⟩ => ⟨h2, h1⟩

/-- what an operation's instruction tells -/
def opW (t : List UInt8) : Option (List UInt8) :=
  if t = [43] then some [97, 98, 99, 116] else if t = [45] then some [97, 98, 99, 116] else if t = [42] then some [97, 98, 99, 116] else if t = [61] then some [97, 98, 99, 116] else if t = [60] then some [97, 98, 99, 116] else if t = [94] then some [97, 98, 99, 116]
  else if t = [115, 105, 122, 101] then some [97, 98, 116] else if t = [114, 101, 97, 100] then some [97, 116] else if t = [112, 114, 105, 110, 116] then some [98, 116] else none
def zeroO (w : Option (List UInt8)) (x : InsD) : Bool := match w with | some w => zeroD w x | none => false

theorem ins_eta (x : InsD) : [AV.p (.i .i64 x.op), .p (.i .i64 x.a), .p (.i .i64 x.b), .p (.i .i64 x.c), .p (.i .i64 x.n), .p (.s x.text)] = x.cells.map .p := rfl

theorem l14Op (x : InsD) : ACall Try.prog 165 [.st (x.cells.map .p)] [] (fun r H' => r = .p (.b (zeroO (opW x.text) x))) := by
  refine call165 (by simp) ?_
  simp only [go_sem, Nat.reduceEqDiff, reduceIte, ↓reduceIte, Nat.reduceAdd, List.replicate_succ, List.replicate_zero, List.set_cons_zero, List.set_cons_succ, List.length_cons, List.length_nil, Nat.reduceLT, Nat.lt_add_one, ne_eq, Int.reduceEq, not_false_eq_true, Option.map_some, Nat.reduceLeDiff, Nat.zero_lt_succ, List.map_cons, List.map_nil, List.nil_append, List.cons_append, List.append_nil, bytesOf, List.take_succ_cons, List.take_zero, List.drop_zero, and_self, List.append_assoc, List.length_append, Int.reduceLT, Int.reduceLE, Int.toNat_zero, Int.reduceToNat, Int.cast_ofNat_Int, Int.natCast_zero, Int.natCast_one, Int.reduceAdd, List.map_append, mc165, mr165, InsD.cells]
  repeat' (refine condK_split _ (fun hd => ?_) (fun hd => ?_) <;> simp only [go_sem, Nat.reduceEqDiff, reduceIte, ↓reduceIte, Nat.reduceAdd, List.replicate_succ, List.replicate_zero, List.set_cons_zero, List.set_cons_succ, List.length_cons, List.length_nil, Nat.reduceLT, Nat.lt_add_one, ne_eq, Int.reduceEq, not_false_eq_true, Option.map_some, Nat.reduceLeDiff, Nat.zero_lt_succ, List.map_cons, List.map_nil, List.nil_append, List.cons_append, List.append_nil, bytesOf, List.take_succ_cons, List.take_zero, List.drop_zero, and_self, List.append_assoc, List.length_append, Int.reduceLT, Int.reduceLE, Int.toNat_zero, Int.reduceToNat, Int.cast_ofNat_Int, Int.natCast_zero, Int.natCast_one, Int.reduceAdd, List.map_append, hd])
  all_goals first
    | (simp_all [opW, zeroO]; done)
    | (rw [ins_eta]
       refine (l14Zero_any x _ (by simp)).mono ?_
       rintro r H' ⟨rfl, rfl⟩
       simp only [go_sem, Nat.reduceEqDiff, reduceIte, ↓reduceIte, Nat.reduceAdd, List.replicate_succ, List.replicate_zero, List.set_cons_zero, List.set_cons_succ, List.length_cons, List.length_nil, Nat.reduceLT, Nat.lt_add_one, ne_eq, Int.reduceEq, not_false_eq_true, Option.map_some, Nat.reduceLeDiff, Nat.zero_lt_succ, List.map_cons, List.map_nil, List.nil_append, List.cons_append, List.append_nil, bytesOf, List.take_succ_cons, List.take_zero, List.drop_zero, and_self, List.append_assoc, List.length_append, Int.reduceLT, Int.reduceLE, Int.toNat_zero, Int.reduceToNat, Int.cast_ofNat_Int, Int.natCast_zero, Int.natCast_one, Int.reduceAdd, List.map_append]
       simp_all [opW, zeroO])

theorem l14Op_any (x : InsD) {H : List AO} : ACall Try.prog 165 [.st (x.cells.map .p)] H (fun r H' => r = .p (.b (zeroO (opW x.text) x)) ∧ H' = H) :=
  (acall_lend (l14Op x) (fun r H' h => by subst h; exact grnd_b _) (lentAll_cons (ins_lent x) (lentAll_nil _))).mono fun r H' ⟨h1, _, h2⟩ => ⟨h2, h1⟩

def extraD (nI nS : Nat) (x : InsD) : Bool :=
  if x.op = 2 then plainD x.text && decide ((x.text.length : Int) ≤ 4000) else if x.op = 3 then inD x.n 0 (nS - 1) else if x.op = 5 then inD x.n 0 63 else if x.op = 6 then inD x.n 0 63 else if x.op = 8 then inD x.n 1 4000
  else if x.op = 9 then decide (0 ≤ x.n) else if x.op = 10 then decide (0 ≤ x.n) else if x.op = 11 then inD x.n 0 (nI - 1) else if x.op = 12 then inD x.n 0 (nI - 1) else if x.op = 15 then inD x.n 1 2 else true
def wantsD (x : InsD) : Option (List UInt8) :=
  if x.op = 1 then some [97, 110] else if x.op = 2 then some [97, 116] else if x.op = 3 then some [97, 110] else if x.op = 4 then some [97, 98] else if x.op = 5 then some [97, 110] else if x.op = 6 then some [97, 110]
  else if x.op = 7 then opW x.text else if x.op = 8 then some [97, 110] else if x.op = 9 then some [97, 98, 110] else if x.op = 10 then some [97, 98, 110] else if x.op = 11 then some [97, 110] else if x.op = 12 then some [110]
  else if x.op = 13 then some [97] else if x.op = 14 then some [97] else if x.op = 15 then some [110] else none
def insOk (nI nS : Nat) (x : InsD) : Bool := inD x.a 0 15 && inD x.b 0 15 && inD x.c 0 15 && zeroO (wantsD x) x && extraD nI nS x

set_option maxHeartbeats 4000000 in
set_option maxRecDepth 100000 in
theorem l14InstrOk (x : InsD) (hx : x.text.length ≤ maxL) (c : CodeD) (hc : okCode c) : ACall Try.prog 128 [.st (x.cells.map .p), .st (c.cells.map .p)] [] (fun r H' => r = .p (.b (insOk c.ins.length c.starts.length x))) := by
  have hl1 : c.ins.length ≤ 9223372036854775807 := by have := hc.1.1; unfold maxL at this; omega
  have hl2 : c.starts.length ≤ 9223372036854775807 := by have := hc.2; unfold maxL at this; omega
  refine call128 (by simp) ?_
  simp only [go_sem, Nat.reduceEqDiff, reduceIte, ↓reduceIte, Nat.reduceAdd, List.replicate_succ, List.replicate_zero, List.set_cons_zero, List.set_cons_succ, List.length_cons, List.length_nil, Nat.reduceLT, Nat.lt_add_one, ne_eq, Int.reduceEq, not_false_eq_true, Option.map_some, Nat.reduceLeDiff, Nat.zero_lt_succ, List.map_cons, List.map_nil, List.nil_append, List.cons_append, List.append_nil, bytesOf, List.take_succ_cons, List.take_zero, List.drop_zero, and_self, List.append_assoc, List.length_append, Int.reduceLT, Int.reduceLE, Int.toNat_zero, Int.reduceToNat, Int.cast_ofNat_Int, Int.natCast_zero, Int.natCast_one, Int.reduceAdd, List.map_append, mc128, mr128, InsD.cells, CodeD.cells]
  repeat' first
    | (refine condK_split _ (fun hd => ?_) (fun hd => ?_) <;> simp only [go_sem, Nat.reduceEqDiff, reduceIte, ↓reduceIte, Nat.reduceAdd, List.replicate_succ, List.replicate_zero, List.set_cons_zero, List.set_cons_succ, List.length_cons, List.length_nil, Nat.reduceLT, Nat.lt_add_one, ne_eq, Int.reduceEq, not_false_eq_true, Option.map_some, Nat.reduceLeDiff, Nat.zero_lt_succ, List.map_cons, List.map_nil, List.nil_append, List.cons_append, List.append_nil, bytesOf, List.take_succ_cons, List.take_zero, List.drop_zero, and_self, List.append_assoc, List.length_append, Int.reduceLT, Int.reduceLE, Int.toNat_zero, Int.reduceToNat, Int.cast_ofNat_Int, Int.natCast_zero, Int.natCast_one, Int.reduceAdd, List.map_append, hd, inss_len, ints_len])
    | (rw [ins_eta]; refine (l14Zero_any x _ (by simp)).mono ?_; rintro r H' ⟨rfl, rfl⟩; simp only [go_sem, Nat.reduceEqDiff, reduceIte, ↓reduceIte, Nat.reduceAdd, List.replicate_succ, List.replicate_zero, List.set_cons_zero, List.set_cons_succ, List.length_cons, List.length_nil, Nat.reduceLT, Nat.lt_add_one, ne_eq, Int.reduceEq, not_false_eq_true, Option.map_some, Nat.reduceLeDiff, Nat.zero_lt_succ, List.map_cons, List.map_nil, List.nil_append, List.cons_append, List.append_nil, bytesOf, List.take_succ_cons, List.take_zero, List.drop_zero, and_self, List.append_assoc, List.length_append, Int.reduceLT, Int.reduceLE, Int.toNat_zero, Int.reduceToNat, Int.cast_ofNat_Int, Int.natCast_zero, Int.natCast_one, Int.reduceAdd, List.map_append, InsD.cells, inss_len, ints_len])
    | (rw [ins_eta]; refine (l14Op_any x).mono ?_; rintro r H' ⟨rfl, rfl⟩; simp only [go_sem, Nat.reduceEqDiff, reduceIte, ↓reduceIte, Nat.reduceAdd, List.replicate_succ, List.replicate_zero, List.set_cons_zero, List.set_cons_succ, List.length_cons, List.length_nil, Nat.reduceLT, Nat.lt_add_one, ne_eq, Int.reduceEq, not_false_eq_true, Option.map_some, Nat.reduceLeDiff, Nat.zero_lt_succ, List.map_cons, List.map_nil, List.nil_append, List.cons_append, List.append_nil, bytesOf, List.take_succ_cons, List.take_zero, List.drop_zero, and_self, List.append_assoc, List.length_append, Int.reduceLT, Int.reduceLE, Int.toNat_zero, Int.reduceToNat, Int.cast_ofNat_Int, Int.natCast_zero, Int.natCast_one, Int.reduceAdd, List.map_append, InsD.cells, inss_len, ints_len])
    | (refine (l1In_any _ _ _).mono ?_; rintro r H' ⟨rfl, rfl⟩; simp only [go_sem, Nat.reduceEqDiff, reduceIte, ↓reduceIte, Nat.reduceAdd, List.replicate_succ, List.replicate_zero, List.set_cons_zero, List.set_cons_succ, List.length_cons, List.length_nil, Nat.reduceLT, Nat.lt_add_one, ne_eq, Int.reduceEq, not_false_eq_true, Option.map_some, Nat.reduceLeDiff, Nat.zero_lt_succ, List.map_cons, List.map_nil, List.nil_append, List.cons_append, List.append_nil, bytesOf, List.take_succ_cons, List.take_zero, List.drop_zero, and_self, List.append_assoc, List.length_append, Int.reduceLT, Int.reduceLE, Int.toNat_zero, Int.reduceToNat, Int.cast_ofNat_Int, Int.natCast_zero, Int.natCast_one, Int.reduceAdd, List.map_append, inss_len, ints_len])
    | (refine (l14Reg _).mono ?_; rintro r H' ⟨rfl, rfl⟩; simp only [go_sem, Nat.reduceEqDiff, reduceIte, ↓reduceIte, Nat.reduceAdd, List.replicate_succ, List.replicate_zero, List.set_cons_zero, List.set_cons_succ, List.length_cons, List.length_nil, Nat.reduceLT, Nat.lt_add_one, ne_eq, Int.reduceEq, not_false_eq_true, Option.map_some, Nat.reduceLeDiff, Nat.zero_lt_succ, List.map_cons, List.map_nil, List.nil_append, List.cons_append, List.append_nil, bytesOf, List.take_succ_cons, List.take_zero, List.drop_zero, and_self, List.append_assoc, List.length_append, Int.reduceLT, Int.reduceLE, Int.toNat_zero, Int.reduceToNat, Int.cast_ofNat_Int, Int.natCast_zero, Int.natCast_one, Int.reduceAdd, List.map_append, inss_len, ints_len])
    | (refine (l1Chars_any _ hx).mono ?_; rintro r H' ⟨rfl, rfl⟩; simp only [go_sem, Nat.reduceEqDiff, reduceIte, ↓reduceIte, Nat.reduceAdd, List.replicate_succ, List.replicate_zero, List.set_cons_zero, List.set_cons_succ, List.length_cons, List.length_nil, Nat.reduceLT, Nat.lt_add_one, ne_eq, Int.reduceEq, not_false_eq_true, Option.map_some, Nat.reduceLeDiff, Nat.zero_lt_succ, List.map_cons, List.map_nil, List.nil_append, List.cons_append, List.append_nil, bytesOf, List.take_succ_cons, List.take_zero, List.drop_zero, and_self, List.append_assoc, List.length_append, Int.reduceLT, Int.reduceLE, Int.toNat_zero, Int.reduceToNat, Int.cast_ofNat_Int, Int.natCast_zero, Int.natCast_one, Int.reduceAdd, List.map_append, inss_len, ints_len])
    | (intro _; rw [wr64 (by omega) (by omega)])
    | intro _
  all_goals simp only [decide_eq_false_iff_not, decide_eq_true_eq, Bool.not_eq_true', Bool.not_eq_false', Bool.not_eq_true, Bool.not_eq_false] at *
  all_goals (congr 2; simp [insOk, wantsD, extraD, zeroO, *])
end Go.Proofs.Ytmbggdfceecojaa.Cd

/- Right codes: a whole code, by the reference. -/
set_option linter.all false
namespace Go.Proofs.Ytmbggdfceecojaa.Cd
open Go.AM Mc Ho

def lastOk (c : CodeD) : Bool := match c.ins[c.ins.length - 1]? with
  | some x => decide (x.op = 12) || decide (x.op = 13) || decide (x.op = 14) || decide (x.op = 15)
  | none => false
def placeOk (c : CodeD) (n : Int) : Bool := inD n 0 (c.ins.length - 1)
def codeOk (c : CodeD) : Bool := inD c.ins.length 1 40000 && decide ((c.starts.length : Int) ≤ 400) && c.ins.all (insOk c.ins.length c.starts.length) && c.starts.all (placeOk c) && lastOk c

theorem code_eta (c : CodeD) : [AV.p (.l (inss c.ins)), .p (.l (ints c.starts))] = c.cells.map .p := rfl
theorem code_lent {H : List AO} (c : CodeD) : Lent H (.st (c.cells.map .p)) (.st (c.cells.map .p)) :=
  .st _ _ rfl fun j a b ha hb => by
    rw [ha] at hb; cases hb
    rw [List.getElem?_map] at ha
    cases hq : c.cells[j]? with
    | none => rw [hq] at ha; cases ha
    | some q => rw [hq] at ha; cases ha; exact .pure _
theorem l14InstrOk_any (x : InsD) (hx : x.text.length ≤ maxL) (c : CodeD) (hc : okCode c) {H : List AO} : ACall Try.prog 128 [.st (x.cells.map .p), .st (c.cells.map .p)] H (fun r H' => r = .p (.b (insOk c.ins.length c.starts.length x)) ∧ H' = H) :=
  (acall_lend (l14InstrOk x hx c hc) (fun r H' h => by subst h; exact grnd_b _) (lentAll_cons (ins_lent x) (lentAll_cons (code_lent c) (lentAll_nil _)))).mono fun r H' ⟨h1, _, h2⟩ => ⟨h2, h1⟩

theorem specCodeOk (c : CodeD) (hc : okCode c) : ACall Try.prog 70 [.st (c.cells.map .p)] [] (fun r H' => r = .p (.b (codeOk c))) := by
  have hl1 : c.ins.length ≤ 9223372036854775807 := by have := hc.1.1; unfold maxL at this; omega
  have hl2 : c.starts.length ≤ 9223372036854775807 := by have := hc.2; unfold maxL at this; omega
  refine call70 (by simp) ?_
  simp only [go_sem, Nat.reduceEqDiff, reduceIte, ↓reduceIte, Nat.reduceAdd, List.replicate_succ, List.replicate_zero, List.set_cons_zero, List.set_cons_succ, List.length_cons, List.length_nil, Nat.reduceLT, Nat.lt_add_one, ne_eq, Int.reduceEq, not_false_eq_true, Option.map_some, Nat.reduceLeDiff, Nat.zero_lt_succ, List.map_cons, List.map_nil, List.nil_append, List.cons_append, List.append_nil, bytesOf, List.take_succ_cons, List.take_zero, List.drop_zero, and_self, List.append_assoc, List.length_append, Int.reduceLT, Int.reduceLE, Int.toNat_zero, Int.reduceToNat, Int.cast_ofNat_Int, Int.natCast_zero, Int.natCast_one, Int.reduceAdd, List.map_append, mc70, mr70, CodeD.cells, inss_len, ints_len]
  intro _
  refine (l1In_any _ _ _).mono ?_
  rintro r H' ⟨rfl, rfl⟩
  simp only [go_sem, Nat.reduceEqDiff, reduceIte, ↓reduceIte, Nat.reduceAdd, List.replicate_succ, List.replicate_zero, List.set_cons_zero, List.set_cons_succ, List.length_cons, List.length_nil, Nat.reduceLT, Nat.lt_add_one, ne_eq, Int.reduceEq, not_false_eq_true, Option.map_some, Nat.reduceLeDiff, Nat.zero_lt_succ, List.map_cons, List.map_nil, List.nil_append, List.cons_append, List.append_nil, bytesOf, List.take_succ_cons, List.take_zero, List.drop_zero, and_self, List.append_assoc, List.length_append, Int.reduceLT, Int.reduceLE, Int.toNat_zero, Int.reduceToNat, Int.cast_ofNat_Int, Int.natCast_zero, Int.natCast_one, Int.reduceAdd, List.map_append]
  have hbad : inD c.ins.length 1 40000 = false ∨ decide ((400 : Int) < c.starts.length) = true → codeOk c = false := by
    intro h
    unfold codeOk
    rcases h with h | h
    · simp [h]
    · have : ¬ (c.starts.length : Int) ≤ 400 := by simp at h; omega
      simp [this]
  refine condK_split _ (fun h1 => ?_) (fun h1 => ?_)
  · simp only [go_sem, Nat.reduceEqDiff, reduceIte, ↓reduceIte, Nat.reduceAdd, List.replicate_succ, List.replicate_zero, List.set_cons_zero, List.set_cons_succ, List.length_cons, List.length_nil, Nat.reduceLT, Nat.lt_add_one, ne_eq, Int.reduceEq, not_false_eq_true, Option.map_some, Nat.reduceLeDiff, Nat.zero_lt_succ, List.map_cons, List.map_nil, List.nil_append, List.cons_append, List.append_nil, bytesOf, List.take_succ_cons, List.take_zero, List.drop_zero, and_self, List.append_assoc, List.length_append, Int.reduceLT, Int.reduceLE, Int.toNat_zero, Int.reduceToNat, Int.cast_ofNat_Int, Int.natCast_zero, Int.natCast_one, Int.reduceAdd, List.map_append, h1]
    rw [hbad (.inl (by simpa using h1))]
  · simp only [go_sem, Nat.reduceEqDiff, reduceIte, ↓reduceIte, Nat.reduceAdd, List.replicate_succ, List.replicate_zero, List.set_cons_zero, List.set_cons_succ, List.length_cons, List.length_nil, Nat.reduceLT, Nat.lt_add_one, ne_eq, Int.reduceEq, not_false_eq_true, Option.map_some, Nat.reduceLeDiff, Nat.zero_lt_succ, List.map_cons, List.map_nil, List.nil_append, List.cons_append, List.append_nil, bytesOf, List.take_succ_cons, List.take_zero, List.drop_zero, and_self, List.append_assoc, List.length_append, Int.reduceLT, Int.reduceLE, Int.toNat_zero, Int.reduceToNat, Int.cast_ofNat_Int, Int.natCast_zero, Int.natCast_one, Int.reduceAdd, List.map_append, h1, ints_len]
    intro _
    refine condK_split _ (fun h2 => ?_) (fun h2 => ?_)
    · simp only [go_sem, Nat.reduceEqDiff, reduceIte, ↓reduceIte, Nat.reduceAdd, List.replicate_succ, List.replicate_zero, List.set_cons_zero, List.set_cons_succ, List.length_cons, List.length_nil, Nat.reduceLT, Nat.lt_add_one, ne_eq, Int.reduceEq, not_false_eq_true, Option.map_some, Nat.reduceLeDiff, Nat.zero_lt_succ, List.map_cons, List.map_nil, List.nil_append, List.cons_append, List.append_nil, bytesOf, List.take_succ_cons, List.take_zero, List.drop_zero, and_self, List.append_assoc, List.length_append, Int.reduceLT, Int.reduceLE, Int.toNat_zero, Int.reduceToNat, Int.cast_ofNat_Int, Int.natCast_zero, Int.natCast_one, Int.reduceAdd, List.map_append]
      rw [hbad (.inr h2)]
    · simp only [go_sem, Nat.reduceEqDiff, reduceIte, ↓reduceIte, Nat.reduceAdd, List.replicate_succ, List.replicate_zero, List.set_cons_zero, List.set_cons_succ, List.length_cons, List.length_nil, Nat.reduceLT, Nat.lt_add_one, ne_eq, Int.reduceEq, not_false_eq_true, Option.map_some, Nat.reduceLeDiff, Nat.zero_lt_succ, List.map_cons, List.map_nil, List.nil_append, List.cons_append, List.append_nil, bytesOf, List.take_succ_cons, List.take_zero, List.drop_zero, and_self, List.append_assoc, List.length_append, Int.reduceLT, Int.reduceLE, Int.toNat_zero, Int.reduceToNat, Int.cast_ofNat_Int, Int.natCast_zero, Int.natCast_one, Int.reduceAdd, List.map_append]
      have hpos : 0 < c.ins.length := by simp [inD] at h1; omega
      have h40 : c.ins.length ≤ 40000 := by simp [inD] at h1; omega
      refine ⟨Nat, [0, 1, 2, 3], fun i st => i ≤ c.ins.length ∧ (c.ins.take i).all (insOk c.ins.length c.starts.length) = true ∧ st = ⟨[(0, .st (c.cells.map .p)), (1, .ptr 0 0), (2, .p (.b false)), (3, .p (.i .i64 i))], [], [.var (c.cells.map .p)]⟩, fun i => c.ins.length - i, ⟨0, ?_⟩, ?_⟩
      · simp only [go_sem, Nat.reduceEqDiff, reduceIte, ↓reduceIte, Nat.reduceAdd, List.replicate_succ, List.replicate_zero, List.set_cons_zero, List.set_cons_succ, List.length_cons, List.length_nil, Nat.reduceLT, Nat.lt_add_one, ne_eq, Int.reduceEq, not_false_eq_true, Option.map_some, Nat.reduceLeDiff, Nat.zero_lt_succ, List.map_cons, List.map_nil, List.nil_append, List.cons_append, List.append_nil, bytesOf, List.take_succ_cons, List.take_zero, List.drop_zero, and_self, List.append_assoc, List.length_append, Int.reduceLT, Int.reduceLE, Int.toNat_zero, Int.reduceToNat, Int.cast_ofNat_Int, Int.natCast_zero, Int.natCast_one, Int.reduceAdd, List.map_append]
        exact ⟨Nat.zero_le _, by simp, by simp [CodeD.cells]⟩
      · rintro i st ⟨hi, ht, rfl⟩
        simp only [go_sem, Nat.reduceEqDiff, reduceIte, ↓reduceIte, Nat.reduceAdd, List.replicate_succ, List.replicate_zero, List.set_cons_zero, List.set_cons_succ, List.length_cons, List.length_nil, Nat.reduceLT, Nat.lt_add_one, ne_eq, Int.reduceEq, not_false_eq_true, Option.map_some, Nat.reduceLeDiff, Nat.zero_lt_succ, List.map_cons, List.map_nil, List.nil_append, List.cons_append, List.append_nil, bytesOf, List.take_succ_cons, List.take_zero, List.drop_zero, and_self, List.append_assoc, List.length_append, Int.reduceLT, Int.reduceLE, Int.toNat_zero, Int.reduceToNat, Int.cast_ofNat_Int, Int.natCast_zero, Int.natCast_one, Int.reduceAdd, List.map_append, CodeD.cells, inss_len]
        intro _
        refine condK_split _ (fun hd => ?_) (fun hd => ?_)
        · have hil : i < c.ins.length := by simpa using hd
          simp only [go_sem, Nat.reduceEqDiff, reduceIte, ↓reduceIte, Nat.reduceAdd, List.replicate_succ, List.replicate_zero, List.set_cons_zero, List.set_cons_succ, List.length_cons, List.length_nil, Nat.reduceLT, Nat.lt_add_one, ne_eq, Int.reduceEq, not_false_eq_true, Option.map_some, Nat.reduceLeDiff, Nat.zero_lt_succ, List.map_cons, List.map_nil, List.nil_append, List.cons_append, List.append_nil, bytesOf, List.take_succ_cons, List.take_zero, List.drop_zero, and_self, List.append_assoc, List.length_append, Int.reduceLT, Int.reduceLE, Int.toNat_zero, Int.reduceToNat, Int.cast_ofNat_Int, Int.natCast_zero, Int.natCast_one, Int.reduceAdd, List.map_append]
          refine drw_same ?_
          simp only [go_sem, Nat.reduceEqDiff, reduceIte, ↓reduceIte, Nat.reduceAdd, List.replicate_succ, List.replicate_zero, List.set_cons_zero, List.set_cons_succ, List.length_cons, List.length_nil, Nat.reduceLT, Nat.lt_add_one, ne_eq, Int.reduceEq, not_false_eq_true, Option.map_some, Nat.reduceLeDiff, Nat.zero_lt_succ, List.map_cons, List.map_nil, List.nil_append, List.cons_append, List.append_nil, bytesOf, List.take_succ_cons, List.take_zero, List.drop_zero, and_self, List.append_assoc, List.length_append, Int.reduceLT, Int.reduceLE, Int.toNat_zero, Int.reduceToNat, Int.cast_ofNat_Int, Int.natCast_zero, Int.natCast_one, Int.reduceAdd, List.map_append, inss_at _ hil, ins_clen, ins_take, CodeD.cells]
          rw [code_eta]
          refine (l14InstrOk_any _ (hc.1.2 _ (List.getElem_mem hil)) c hc).mono ?_
          rintro r H' ⟨rfl, rfl⟩
          simp only [go_sem, Nat.reduceEqDiff, reduceIte, ↓reduceIte, Nat.reduceAdd, List.replicate_succ, List.replicate_zero, List.set_cons_zero, List.set_cons_succ, List.length_cons, List.length_nil, Nat.reduceLT, Nat.lt_add_one, ne_eq, Int.reduceEq, not_false_eq_true, Option.map_some, Nat.reduceLeDiff, Nat.zero_lt_succ, List.map_cons, List.map_nil, List.nil_append, List.cons_append, List.append_nil, bytesOf, List.take_succ_cons, List.take_zero, List.drop_zero, and_self, List.append_assoc, List.length_append, Int.reduceLT, Int.reduceLE, Int.toNat_zero, Int.reduceToNat, Int.cast_ofNat_Int, Int.natCast_zero, Int.natCast_one, Int.reduceAdd, List.map_append]
          refine condK_split _ (fun he => ?_) (fun he => ?_)
          · simp only [go_sem, Nat.reduceEqDiff, reduceIte, ↓reduceIte, Nat.reduceAdd, List.replicate_succ, List.replicate_zero, List.set_cons_zero, List.set_cons_succ, List.length_cons, List.length_nil, Nat.reduceLT, Nat.lt_add_one, ne_eq, Int.reduceEq, not_false_eq_true, Option.map_some, Nat.reduceLeDiff, Nat.zero_lt_succ, List.map_cons, List.map_nil, List.nil_append, List.cons_append, List.append_nil, bytesOf, List.take_succ_cons, List.take_zero, List.drop_zero, and_self, List.append_assoc, List.length_append, Int.reduceLT, Int.reduceLE, Int.toNat_zero, Int.reduceToNat, Int.cast_ofNat_Int, Int.natCast_zero, Int.natCast_one, Int.reduceAdd, List.map_append]
            have : codeOk c = false := by
              unfold codeOk
              rw [all_false hil (by simpa using he)]; simp
            rw [this]
          · simp only [go_sem, Nat.reduceEqDiff, reduceIte, ↓reduceIte, Nat.reduceAdd, List.replicate_succ, List.replicate_zero, List.set_cons_zero, List.set_cons_succ, List.length_cons, List.length_nil, Nat.reduceLT, Nat.lt_add_one, ne_eq, Int.reduceEq, not_false_eq_true, Option.map_some, Nat.reduceLeDiff, Nat.zero_lt_succ, List.map_cons, List.map_nil, List.nil_append, List.cons_append, List.append_nil, bytesOf, List.take_succ_cons, List.take_zero, List.drop_zero, and_self, List.append_assoc, List.length_append, Int.reduceLT, Int.reduceLE, Int.toNat_zero, Int.reduceToNat, Int.cast_ofNat_Int, Int.natCast_zero, Int.natCast_one, Int.reduceAdd, List.map_append]
            refine ⟨i + 1, ⟨hil, all_take hil ht (by simpa using he), ?_⟩, by omega⟩
            rw [wr1 hil hc.1.1]
        · have hil : i = c.ins.length := by simp at hd; omega
          subst hil
          rw [List.take_length] at ht
          simp only [go_sem, Nat.reduceEqDiff, reduceIte, ↓reduceIte, Nat.reduceAdd, List.replicate_succ, List.replicate_zero, List.set_cons_zero, List.set_cons_succ, List.length_cons, List.length_nil, Nat.reduceLT, Nat.lt_add_one, ne_eq, Int.reduceEq, not_false_eq_true, Option.map_some, Nat.reduceLeDiff, Nat.zero_lt_succ, List.map_cons, List.map_nil, List.nil_append, List.cons_append, List.append_nil, bytesOf, List.take_succ_cons, List.take_zero, List.drop_zero, and_self, List.append_assoc, List.length_append, Int.reduceLT, Int.reduceLE, Int.toNat_zero, Int.reduceToNat, Int.cast_ofNat_Int, Int.natCast_zero, Int.natCast_one, Int.reduceAdd, List.map_append]
          refine ⟨Nat, [0, 1, 2, 4], fun i st => i ≤ c.starts.length ∧ (c.starts.take i).all (placeOk c) = true ∧ st = ⟨[(0, .st (c.cells.map .p)), (1, .ptr 0 0), (2, .p (.b false)), (4, .p (.i .i64 i))], [], [.var (c.cells.map .p)]⟩, fun i => c.starts.length - i, ⟨0, ?_⟩, ?_⟩
          · simp only [go_sem, Nat.reduceEqDiff, reduceIte, ↓reduceIte, Nat.reduceAdd, List.replicate_succ, List.replicate_zero, List.set_cons_zero, List.set_cons_succ, List.length_cons, List.length_nil, Nat.reduceLT, Nat.lt_add_one, ne_eq, Int.reduceEq, not_false_eq_true, Option.map_some, Nat.reduceLeDiff, Nat.zero_lt_succ, List.map_cons, List.map_nil, List.nil_append, List.cons_append, List.append_nil, bytesOf, List.take_succ_cons, List.take_zero, List.drop_zero, and_self, List.append_assoc, List.length_append, Int.reduceLT, Int.reduceLE, Int.toNat_zero, Int.reduceToNat, Int.cast_ofNat_Int, Int.natCast_zero, Int.natCast_one, Int.reduceAdd, List.map_append]
            exact ⟨Nat.zero_le _, by simp, by simp [CodeD.cells]⟩
          · rintro i st ⟨hi, hu, rfl⟩
            simp only [go_sem, Nat.reduceEqDiff, reduceIte, ↓reduceIte, Nat.reduceAdd, List.replicate_succ, List.replicate_zero, List.set_cons_zero, List.set_cons_succ, List.length_cons, List.length_nil, Nat.reduceLT, Nat.lt_add_one, ne_eq, Int.reduceEq, not_false_eq_true, Option.map_some, Nat.reduceLeDiff, Nat.zero_lt_succ, List.map_cons, List.map_nil, List.nil_append, List.cons_append, List.append_nil, bytesOf, List.take_succ_cons, List.take_zero, List.drop_zero, and_self, List.append_assoc, List.length_append, Int.reduceLT, Int.reduceLE, Int.toNat_zero, Int.reduceToNat, Int.cast_ofNat_Int, Int.natCast_zero, Int.natCast_one, Int.reduceAdd, List.map_append, CodeD.cells, ints_len]
            intro _
            refine condK_split _ (fun hd => ?_) (fun hd => ?_)
            · have hil : i < c.starts.length := by simpa using hd
              simp only [go_sem, Nat.reduceEqDiff, reduceIte, ↓reduceIte, Nat.reduceAdd, List.replicate_succ, List.replicate_zero, List.set_cons_zero, List.set_cons_succ, List.length_cons, List.length_nil, Nat.reduceLT, Nat.lt_add_one, ne_eq, Int.reduceEq, not_false_eq_true, Option.map_some, Nat.reduceLeDiff, Nat.zero_lt_succ, List.map_cons, List.map_nil, List.nil_append, List.cons_append, List.append_nil, bytesOf, List.take_succ_cons, List.take_zero, List.drop_zero, and_self, List.append_assoc, List.length_append, Int.reduceLT, Int.reduceLE, Int.toNat_zero, Int.reduceToNat, Int.cast_ofNat_Int, Int.natCast_zero, Int.natCast_one, Int.reduceAdd, List.map_append]
              refine drw_same ?_
              simp only [go_sem, Nat.reduceEqDiff, reduceIte, ↓reduceIte, Nat.reduceAdd, List.replicate_succ, List.replicate_zero, List.set_cons_zero, List.set_cons_succ, List.length_cons, List.length_nil, Nat.reduceLT, Nat.lt_add_one, ne_eq, Int.reduceEq, not_false_eq_true, Option.map_some, Nat.reduceLeDiff, Nat.zero_lt_succ, List.map_cons, List.map_nil, List.nil_append, List.cons_append, List.append_nil, bytesOf, List.take_succ_cons, List.take_zero, List.drop_zero, and_self, List.append_assoc, List.length_append, Int.reduceLT, Int.reduceLE, Int.toNat_zero, Int.reduceToNat, Int.cast_ofNat_Int, Int.natCast_zero, Int.natCast_one, Int.reduceAdd, List.map_append, ints_at _ hil, inss_len, CodeD.cells]
              rw [wr64 (by omega) (by omega)]
              refine (l1In_any _ _ _).mono ?_
              rintro r H' ⟨rfl, rfl⟩
              simp only [go_sem, Nat.reduceEqDiff, reduceIte, ↓reduceIte, Nat.reduceAdd, List.replicate_succ, List.replicate_zero, List.set_cons_zero, List.set_cons_succ, List.length_cons, List.length_nil, Nat.reduceLT, Nat.lt_add_one, ne_eq, Int.reduceEq, not_false_eq_true, Option.map_some, Nat.reduceLeDiff, Nat.zero_lt_succ, List.map_cons, List.map_nil, List.nil_append, List.cons_append, List.append_nil, bytesOf, List.take_succ_cons, List.take_zero, List.drop_zero, and_self, List.append_assoc, List.length_append, Int.reduceLT, Int.reduceLE, Int.toNat_zero, Int.reduceToNat, Int.cast_ofNat_Int, Int.natCast_zero, Int.natCast_one, Int.reduceAdd, List.map_append]
              refine condK_split _ (fun he => ?_) (fun he => ?_)
              · simp only [go_sem, Nat.reduceEqDiff, reduceIte, ↓reduceIte, Nat.reduceAdd, List.replicate_succ, List.replicate_zero, List.set_cons_zero, List.set_cons_succ, List.length_cons, List.length_nil, Nat.reduceLT, Nat.lt_add_one, ne_eq, Int.reduceEq, not_false_eq_true, Option.map_some, Nat.reduceLeDiff, Nat.zero_lt_succ, List.map_cons, List.map_nil, List.nil_append, List.cons_append, List.append_nil, bytesOf, List.take_succ_cons, List.take_zero, List.drop_zero, and_self, List.append_assoc, List.length_append, Int.reduceLT, Int.reduceLE, Int.toNat_zero, Int.reduceToNat, Int.cast_ofNat_Int, Int.natCast_zero, Int.natCast_one, Int.reduceAdd, List.map_append]
                have : codeOk c = false := by
                  unfold codeOk
                  rw [all_false (p := placeOk c) hil (by simpa [placeOk] using he)]; simp
                rw [this]
              · simp only [go_sem, Nat.reduceEqDiff, reduceIte, ↓reduceIte, Nat.reduceAdd, List.replicate_succ, List.replicate_zero, List.set_cons_zero, List.set_cons_succ, List.length_cons, List.length_nil, Nat.reduceLT, Nat.lt_add_one, ne_eq, Int.reduceEq, not_false_eq_true, Option.map_some, Nat.reduceLeDiff, Nat.zero_lt_succ, List.map_cons, List.map_nil, List.nil_append, List.cons_append, List.append_nil, bytesOf, List.take_succ_cons, List.take_zero, List.drop_zero, and_self, List.append_assoc, List.length_append, Int.reduceLT, Int.reduceLE, Int.toNat_zero, Int.reduceToNat, Int.cast_ofNat_Int, Int.natCast_zero, Int.natCast_one, Int.reduceAdd, List.map_append]
                refine ⟨i + 1, ⟨hil, all_take hil hu (by simpa [placeOk] using he), ?_⟩, by omega⟩
                rw [wr1 hil hc.2]
            · have hil : i = c.starts.length := by simp at hd; omega
              subst hil
              rw [List.take_length] at hu
              simp only [go_sem, Nat.reduceEqDiff, reduceIte, ↓reduceIte, Nat.reduceAdd, List.replicate_succ, List.replicate_zero, List.set_cons_zero, List.set_cons_succ, List.length_cons, List.length_nil, Nat.reduceLT, Nat.lt_add_one, ne_eq, Int.reduceEq, not_false_eq_true, Option.map_some, Nat.reduceLeDiff, Nat.zero_lt_succ, List.map_cons, List.map_nil, List.nil_append, List.cons_append, List.append_nil, bytesOf, List.take_succ_cons, List.take_zero, List.drop_zero, and_self, List.append_assoc, List.length_append, Int.reduceLT, Int.reduceLE, Int.toNat_zero, Int.reduceToNat, Int.cast_ofNat_Int, Int.natCast_zero, Int.natCast_one, Int.reduceAdd, List.map_append, inss_len]
              intro _
              rw [wr64 (by omega) (by omega)]
              have hlast : c.ins.length - 1 < c.ins.length := by omega
              have e1 : ((c.ins.length : Int) - 1) = ((c.ins.length - 1 : Nat) : Int) := by omega
              rw [e1]
              simp only [go_sem, Nat.reduceEqDiff, reduceIte, ↓reduceIte, Nat.reduceAdd, List.replicate_succ, List.replicate_zero, List.set_cons_zero, List.set_cons_succ, List.length_cons, List.length_nil, Nat.reduceLT, Nat.lt_add_one, ne_eq, Int.reduceEq, not_false_eq_true, Option.map_some, Nat.reduceLeDiff, Nat.zero_lt_succ, List.map_cons, List.map_nil, List.nil_append, List.cons_append, List.append_nil, bytesOf, List.take_succ_cons, List.take_zero, List.drop_zero, and_self, List.append_assoc, List.length_append, Int.reduceLT, Int.reduceLE, Int.toNat_zero, Int.reduceToNat, Int.cast_ofNat_Int, Int.natCast_zero, Int.natCast_one, Int.reduceAdd, List.map_append, inss_at _ hlast, InsD.cells]
              have hco : codeOk c = (decide (c.ins[c.ins.length - 1].op = 12) || decide (c.ins[c.ins.length - 1].op = 13) || decide (c.ins[c.ins.length - 1].op = 14) || decide (c.ins[c.ins.length - 1].op = 15)) := by
                have h1' : inD c.ins.length 1 40000 = true := by simpa using h1
                have h2' : (c.starts.length : Int) ≤ 400 := by simpa using h2
                unfold codeOk lastOk
                rw [ht, hu, h1', List.getElem?_eq_getElem hlast]
                simp [h2']
              rw [hco]
              repeat' (refine condK_split _ (fun hd => ?_) (fun hd => ?_) <;> simp only [go_sem, Nat.reduceEqDiff, reduceIte, ↓reduceIte, Nat.reduceAdd, List.replicate_succ, List.replicate_zero, List.set_cons_zero, List.set_cons_succ, List.length_cons, List.length_nil, Nat.reduceLT, Nat.lt_add_one, ne_eq, Int.reduceEq, not_false_eq_true, Option.map_some, Nat.reduceLeDiff, Nat.zero_lt_succ, List.map_cons, List.map_nil, List.nil_append, List.cons_append, List.append_nil, bytesOf, List.take_succ_cons, List.take_zero, List.drop_zero, and_self, List.append_assoc, List.length_append, Int.reduceLT, Int.reduceLE, Int.toNat_zero, Int.reduceToNat, Int.cast_ofNat_Int, Int.natCast_zero, Int.natCast_one, Int.reduceAdd, List.map_append, hd])
              all_goals simp_all
end Go.Proofs.Ytmbggdfceecojaa.Cd

/- The search for a byte in a text: the kit's contract, at this program. -/
set_option linter.all false
namespace Go.Proofs.Ytmbggdfceecojaa.Cd
open Go.AM Go.Shelf Mc

def rhoS : Ren := ⟨fun n => if n = 217 then 240 else if n = 266 then 245 else n, fun n => n, fun n => n⟩
theorem run_zero {P : Program} {t : TypeId} {i : TypeInfo} {v : Value} (h : P.info? t = some i) (hz : i.zero = some v) (w : World) : (zeroValue t).run P w = .ok v w := by simp [zeroValue, typeInfo, h, hz]
theorem run_size {P : Program} {t : TypeId} {i : TypeInfo} (h : P.info? t = some i) (hs : i.size = 1) (w : World) : (Go.sizeOf t).run P w = .ok 1 w := by simp [Go.sizeOf, typeInfo, h, hs]
theorem info3 : (Try.prog.info? 3).map (fun i => (i.size, i.zero)) = some (1, some (.int .i64 0)) := by kernel_rfl
theorem sz3 (w : World) : (Go.sizeOf 3).run Try.prog w = .ok 1 w := by
  obtain ⟨i, h1, h2⟩ := Option.map_eq_some_iff.1 info3
  exact run_size h1 (congrArg Prod.fst h2) w
theorem zv3 (w : World) : (zeroValue 3).run Try.prog w = .ok (.int .i64 0) w := by
  obtain ⟨i, h1, h2⟩ := Option.map_eq_some_iff.1 info3
  exact run_zero h1 (congrArg Prod.snd h2) w
theorem info5 : (Try.prog.info? 5).map (fun i => (i.size, i.zero)) = some (1, some (.int .u8 0)) := by kernel_rfl
theorem sz5 (w : World) : (Go.sizeOf 5).run Try.prog w = .ok 1 w := by
  obtain ⟨i, h1, h2⟩ := Option.map_eq_some_iff.1 info5
  exact run_size h1 (congrArg Prod.fst h2) w
theorem zv5 (w : World) : (zeroValue 5).run Try.prog w = .ok (.int .u8 0) w := by
  obtain ⟨i, h1, h2⟩ := Option.map_eq_some_iff.1 info5
  exact run_zero h1 (congrArg Prod.snd h2) w
theorem info9 : (Try.prog.info? 9).map (fun i => (i.size, i.zero)) = some (1, some (.string ⟨#[]⟩)) := by kernel_rfl
theorem sz9 (w : World) : (Go.sizeOf 9).run Try.prog w = .ok 1 w := by
  obtain ⟨i, h1, h2⟩ := Option.map_eq_some_iff.1 info9
  exact run_size h1 (congrArg Prod.fst h2) w
theorem zv9 (w : World) : (zeroValue 9).run Try.prog w = .ok (.string ⟨#[]⟩) w := by
  obtain ⟨i, h1, h2⟩ := Option.map_eq_some_iff.1 info9
  exact run_zero h1 (congrArg Prod.snd h2) w
theorem laysIB : Lays.n217 Try.prog rhoS where
  mixed := by kernel_rfl
  f217 := by kernel_rfl
  f266 := by kernel_rfl
  t3 := by kernel_rfl
  a3 := run_isAgg_plain (t := 3) (show Try.prog.underlying 3 = some (TypeDesc.int IntKind.i64) from by kernel_rfl) rfl
  z3 := sz3
  v3 := zv3
  t5 := by kernel_rfl
  a5 := run_isAgg_plain (t := 5) (show Try.prog.underlying 5 = some (TypeDesc.int IntKind.u8) from by kernel_rfl) rfl
  z5 := sz5
  v5 := zv5
  t9 := by kernel_rfl
  a9 := run_isAgg_plain (t := 9) (show Try.prog.underlying 9 = some (TypeDesc.string) from by kernel_rfl) rfl
  z9 := sz9
  v9 := zv9

theorem acall_kept {P : Program} {f : Nat} {args : List AV} {H : List AO} {Q : AV → List AO → Prop} (hb : HasBody P f)
    (h : ∀ (w : World) (θ : Th) (W : Im) (vs : Array Value), Rels θ W args vs → ∃ v r, Calls P f vs w (fun e w' => e = .returned v ∧ w' = w) ∧ Q r H ∧ ARel θ W r v) : ACall P f args H Q := by
  refine ⟨hb, fun w θ W vs hSR hr => ?_⟩
  obtain ⟨v, r, h1, h2, h3⟩ := h w θ W vs hr
  refine h1.mono ?_
  rintro e w' ⟨rfl, rfl⟩
  exact ⟨v, r, H, θ, W, rfl, h2, hSR, h3, Stp.refl _ _ _⟩

theorem indexByte (s : List UInt8) (c : UInt8) {H : List AO} : ACall Try.prog 240 [.p (.s s), .p (.i .u8 c.toNat)] H (fun r H' => r = .p (.i .i64 (Lib.indexByte s c)) ∧ H' = H) := by
  refine acall_kept ⟨Try.f240, Try.func240, by kernel_rfl, by kernel_rfl⟩ ?_
  intro w θ W vs hr
  obtain ⟨h1, h2⟩ := hr
  have hvs : vs = #[.string ⟨s.toArray⟩, .int .u8 c.toNat] := by
    apply Array.ext'
    have hs : vs.toList.length = 2 := by simpa using h1
    match hl : vs.toList, hs with
    | [a, b], _ =>
      have ha := h2 0 _ a rfl (by rw [← Array.getElem?_toList, hl]; rfl)
      have hb := h2 1 _ b rfl (by rw [← Array.getElem?_toList, hl]; rfl)
      obtain ⟨e1, _⟩ := ha.s_inv
      have e2 := hb.i_inv
      rw [e1, e2]
  subst hvs
  have key := Any.stringslite_IndexByte laysIB ⟨s.toArray⟩ c.toNat w
  refine ⟨_, _, key, ⟨rfl, rfl⟩, ?_⟩
  simp
  exact .p _ _ (.i _ _)
end Go.Proofs.Ytmbggdfceecojaa.Cd

/- THE SMALL CODES of functions 235, and their ties to the program (printed by wip/tools/mkties.sh). -/
set_option linter.all false
namespace Go.Proofs.Ytmbggdfceecojaa.Mc
open Go.AM
def lv235 : List Nat := [0, 1, 4, 5, 6, 7, 8, 9, 10, 11, 12, 13, 16, 24, 31, 36, 59, 64, 73, 93, 107, 114, 132, 139]
def mc235 : MC :=
.seq (.reg [
    ⟨.l 4, .mv (.c (.p (.i .i64 0))), none⟩]) (
  .seq (.reg [
    ⟨.t 14, .mv (.l 1), none⟩,
    ⟨.t 15, .len true (.t 14), none⟩,
    ⟨.l 5, .mv (.t 15), none⟩]) (
  .seq (.blk 0 (
    .seq (.reg [
      ⟨.t 17, .mv (.l 5), none⟩,
      ⟨.t 18, .bin .eql (.t 17) (.c (.p (.i .i64 0))), none⟩,
      ⟨.t 19, .mv (.t 18), none⟩,
      ⟨.t 20, .mv (.l 1), some ((.t 19), false)⟩,
      ⟨.t 21, .mv (.l 0), some ((.t 19), false)⟩,
      ⟨.t 22, .bin .eql (.t 20) (.t 21), some ((.t 19), false)⟩,
      ⟨.t 23, .pick (.t 19) (.c (.p (.b true))) (.t 22), none⟩,
      ⟨.l 16, .mv (.t 23), none⟩]) (
    .cond (.l 16) (
      .seq (.reg [
        ⟨.l 4, .mv (.c (.p (.i .i64 0))), none⟩]) (
      .ret)) (
      .seq (.reg [
        ⟨.t 25, .mv (.l 5), none⟩,
        ⟨.t 26, .bin .eql (.t 25) (.c (.p (.i .i64 1))), none⟩,
        ⟨.l 24, .mv (.t 26), none⟩]) (
      .cond (.l 24) (
        .seq (.reg [
          ⟨.t 27, .mv (.l 0), none⟩,
          ⟨.t 28, .mv (.l 1), none⟩,
          ⟨.t 29, .ixt (.t 28) (.c (.p (.i .i64 0))), none⟩,
          ⟨.t 30, .call 240 [.t 27, .t 29], none⟩,
          ⟨.l 4, .mv (.t 30), none⟩]) (
        .ret)) (
        .seq (.reg [
          ⟨.t 32, .mv (.l 5), none⟩,
          ⟨.t 33, .mv (.l 0), none⟩,
          ⟨.t 34, .len true (.t 33), none⟩,
          ⟨.t 35, .bin .geq (.t 32) (.t 34), none⟩,
          ⟨.l 31, .mv (.t 35), none⟩]) (
        .cond (.l 31) (
          .seq (.reg [
            ⟨.l 4, .mv (.c (.p (.i .i64 (-1)))), none⟩]) (
          .ret)) (
          .seq (.reg [
            ⟨.t 37, .mv (.l 5), none⟩,
            ⟨.no, .stop, none⟩,
            ⟨.t 39, .bin .leq (.t 37) (.t 38), none⟩,
            ⟨.t 40, .mv (.t 39), none⟩,
            ⟨.t 41, .mv (.l 0), some ((.t 40), true)⟩,
            ⟨.t 42, .len true (.t 41), some ((.t 40), true)⟩,
            ⟨.t 43, .bin .leq (.t 42) (.c (.p (.i .i64 64))), some ((.t 40), true)⟩,
            ⟨.t 44, .pick (.t 40) (.t 43) (.c (.p (.b false))), none⟩,
            ⟨.l 36, .mv (.t 44), none⟩]) (
          .cond (.l 36) (
            .seq (.reg [
              ⟨.t 45, .mv (.l 0), none⟩,
              ⟨.t 46, .mv (.l 1), none⟩,
              ⟨.no, .stop, none⟩,
              ⟨.l 4, .mv (.t 47), none⟩]) (
            .ret)) (
            .skip)))))))))) (
  .seq (.reg [
    ⟨.t 48, .mv (.l 1), none⟩,
    ⟨.t 49, .ixt (.t 48) (.c (.p (.i .i64 0))), none⟩,
    ⟨.l 6, .mv (.t 49), none⟩]) (
  .seq (.reg [
    ⟨.t 50, .mv (.l 1), none⟩,
    ⟨.t 51, .ixt (.t 50) (.c (.p (.i .i64 1))), none⟩,
    ⟨.l 7, .mv (.t 51), none⟩]) (
  .seq (.reg [
    ⟨.l 8, .mv (.c (.p (.i .i64 0))), none⟩]) (
  .seq (.reg [
    ⟨.t 52, .mv (.l 0), none⟩,
    ⟨.t 53, .len true (.t 52), none⟩,
    ⟨.t 54, .mv (.l 5), none⟩,
    ⟨.t 55, .bin .sub (.t 53) (.t 54), none⟩,
    ⟨.t 56, .bin .add (.t 55) (.c (.p (.i .i64 1))), none⟩,
    ⟨.l 9, .mv (.t 56), none⟩]) (
  .seq (.reg [
    ⟨.l 10, .mv (.c (.p (.i .i64 0))), none⟩]) (
  .seq (.blk 1 (
    .loop (
      .seq (.seq (.reg [
        ⟨.t 57, .mv (.l 8), none⟩,
        ⟨.t 58, .mv (.l 9), none⟩,
        ⟨.l 59, .bin .lss (.t 57) (.t 58), none⟩]) (
      .cond (.l 59) (
        .skip) (
        .exit 1))) (
      .blk 2 (
        .seq (.seq (.reg [
          ⟨.t 60, .mv (.l 0), none⟩,
          ⟨.t 61, .mv (.l 8), none⟩,
          ⟨.t 62, .ixt (.t 60) (.t 61), none⟩,
          ⟨.t 63, .mv (.l 6), none⟩,
          ⟨.l 64, .bin .neq (.t 62) (.t 63), none⟩]) (
        .cond (.l 64) (
          .seq (.reg [
            ⟨.t 65, .mv (.l 0), none⟩,
            ⟨.t 66, .mv (.l 8), none⟩,
            ⟨.t 67, .bin .add (.t 66) (.c (.p (.i .i64 1))), none⟩,
            ⟨.t 68, .mv (.l 9), none⟩,
            ⟨.t 69, .slc none (.t 65) (some (.t 67)) (some (.t 68)), none⟩,
            ⟨.t 70, .mv (.l 6), none⟩,
            ⟨.t 71, .call 240 [.t 69, .t 70], none⟩,
            ⟨.l 11, .mv (.t 71), none⟩]) (
          .seq (.seq (.reg [
            ⟨.t 72, .mv (.l 11), none⟩,
            ⟨.l 73, .bin .lss (.t 72) (.c (.p (.i .i64 0))), none⟩]) (
          .cond (.l 73) (
            .seq (.reg [
              ⟨.l 4, .mv (.c (.p (.i .i64 (-1)))), none⟩]) (
            .ret)) (
            .skip))) (
          .reg [
            ⟨.t 74, .mv (.l 8), none⟩,
            ⟨.t 75, .mv (.l 11), none⟩,
            ⟨.t 76, .bin .add (.t 75) (.c (.p (.i .i64 1))), none⟩,
            ⟨.t 77, .bin .add (.t 74) (.t 76), none⟩,
            ⟨.l 8, .mv (.t 77), none⟩]))) (
          .skip))) (
        .seq (.seq (.reg [
          ⟨.t 78, .mv (.l 0), none⟩,
          ⟨.t 79, .mv (.l 8), none⟩,
          ⟨.t 80, .bin .add (.t 79) (.c (.p (.i .i64 1))), none⟩,
          ⟨.t 81, .ixt (.t 78) (.t 80), none⟩,
          ⟨.t 82, .mv (.l 7), none⟩,
          ⟨.t 83, .bin .eql (.t 81) (.t 82), none⟩,
          ⟨.t 84, .mv (.t 83), none⟩,
          ⟨.t 85, .mv (.l 0), some ((.t 84), true)⟩,
          ⟨.t 86, .mv (.l 8), some ((.t 84), true)⟩,
          ⟨.t 87, .mv (.l 8), some ((.t 84), true)⟩,
          ⟨.t 88, .mv (.l 5), some ((.t 84), true)⟩,
          ⟨.t 89, .bin .add (.t 87) (.t 88), some ((.t 84), true)⟩,
          ⟨.t 90, .slc none (.t 85) (some (.t 86)) (some (.t 89)), some ((.t 84), true)⟩,
          ⟨.t 91, .mv (.l 1), some ((.t 84), true)⟩,
          ⟨.t 92, .bin .eql (.t 90) (.t 91), some ((.t 84), true)⟩,
          ⟨.l 93, .pick (.t 84) (.t 92) (.c (.p (.b false))), none⟩]) (
        .cond (.l 93) (
          .seq (.reg [
            ⟨.t 94, .mv (.l 8), none⟩,
            ⟨.l 4, .mv (.t 94), none⟩]) (
          .ret)) (
          .skip))) (
        .seq (.reg [
          ⟨.t 95, .mv (.l 8), none⟩,
          ⟨.t 96, .bin .add (.t 95) (.c (.p (.i .i64 1))), none⟩,
          ⟨.l 8, .mv (.t 96), none⟩]) (
        .seq (.reg [
          ⟨.t 97, .mv (.l 10), none⟩,
          ⟨.t 98, .bin .add (.t 97) (.c (.p (.i .i64 1))), none⟩,
          ⟨.l 10, .mv (.t 98), none⟩]) (
        .seq (.reg [
          ⟨.t 99, .mv (.l 5), none⟩,
          ⟨.no, .stop, none⟩,
          ⟨.t 101, .bin .leq (.t 99) (.t 100), none⟩,
          ⟨.t 102, .mv (.t 101), none⟩,
          ⟨.t 103, .mv (.l 10), some ((.t 102), true)⟩,
          ⟨.t 104, .mv (.l 8), some ((.t 102), true)⟩,
          ⟨.t 105, .call 242 [.t 104], some ((.t 102), true)⟩,
          ⟨.t 106, .bin .gtr (.t 103) (.t 105), some ((.t 102), true)⟩,
          ⟨.l 107, .pick (.t 102) (.t 106) (.c (.p (.b false))), none⟩]) (
        .cond (.l 107) (
          .seq (.reg [
            ⟨.t 108, .mv (.l 0), none⟩,
            ⟨.t 109, .mv (.l 8), none⟩,
            ⟨.t 110, .slc none (.t 108) (some (.t 109)) none, none⟩,
            ⟨.t 111, .mv (.l 1), none⟩,
            ⟨.no, .stop, none⟩,
            ⟨.l 12, .mv (.t 112), none⟩]) (
          .seq (.seq (.reg [
            ⟨.t 113, .mv (.l 12), none⟩,
            ⟨.l 114, .bin .geq (.t 113) (.c (.p (.i .i64 0))), none⟩]) (
          .cond (.l 114) (
            .seq (.reg [
              ⟨.t 115, .mv (.l 12), none⟩,
              ⟨.t 116, .mv (.l 8), none⟩,
              ⟨.t 117, .bin .add (.t 115) (.t 116), none⟩,
              ⟨.l 4, .mv (.t 117), none⟩]) (
            .ret)) (
            .skip))) (
          .seq (.reg [
            ⟨.l 4, .mv (.c (.p (.i .i64 (-1)))), none⟩]) (
          .ret)))) (
          .seq (.reg [
            ⟨.t 118, .mv (.l 5), none⟩,
            ⟨.no, .stop, none⟩,
            ⟨.t 120, .bin .gtr (.t 118) (.t 119), none⟩,
            ⟨.t 121, .mv (.t 120), none⟩,
            ⟨.t 122, .mv (.l 10), some ((.t 121), true)⟩,
            ⟨.t 123, .mv (.l 8), some ((.t 121), true)⟩,
            ⟨.t 124, .bin .shr (.t 123) (.c (.p (.i .u64 4))), some ((.t 121), true)⟩,
            ⟨.t 125, .bin .add (.c (.p (.i .i64 4))) (.t 124), some ((.t 121), true)⟩,
            ⟨.t 126, .bin .geq (.t 122) (.t 125), some ((.t 121), true)⟩,
            ⟨.t 127, .pick (.t 121) (.t 126) (.c (.p (.b false))), none⟩,
            ⟨.t 128, .mv (.t 127), none⟩,
            ⟨.t 129, .mv (.l 8), some ((.t 128), true)⟩,
            ⟨.t 130, .mv (.l 9), some ((.t 128), true)⟩,
            ⟨.t 131, .bin .lss (.t 129) (.t 130), some ((.t 128), true)⟩,
            ⟨.l 132, .pick (.t 128) (.t 131) (.c (.p (.b false))), none⟩]) (
          .cond (.l 132) (
            .seq (.reg [
              ⟨.t 133, .mv (.l 0), none⟩,
              ⟨.t 134, .mv (.l 8), none⟩,
              ⟨.t 135, .slc none (.t 133) (some (.t 134)) none, none⟩,
              ⟨.t 136, .mv (.l 1), none⟩,
              ⟨.t 137, .call 243 [.t 135, .t 136], none⟩,
              ⟨.l 13, .mv (.t 137), none⟩]) (
            .seq (.seq (.reg [
              ⟨.t 138, .mv (.l 13), none⟩,
              ⟨.l 139, .bin .lss (.t 138) (.c (.p (.i .i64 0))), none⟩]) (
            .cond (.l 139) (
              .seq (.reg [
                ⟨.l 4, .mv (.c (.p (.i .i64 (-1)))), none⟩]) (
              .ret)) (
              .skip))) (
            .seq (.reg [
              ⟨.t 140, .mv (.l 8), none⟩,
              ⟨.t 141, .mv (.l 13), none⟩,
              ⟨.t 142, .bin .add (.t 140) (.t 141), none⟩,
              ⟨.l 4, .mv (.t 142), none⟩]) (
            .ret)))) (
            .skip))))))))))))) (
  .seq (.reg [
    ⟨.l 4, .mv (.c (.p (.i .i64 (-1)))), none⟩]) (
  .ret))))))))))
theorem mc235_eq : (Try.f235.body.map (compile lv235 Try.prog 143)) = some mc235 := by kernel_rfl
def mr235 : List MR := [.t 4]
theorem mr235_eq : cRess lv235 Try.prog Try.f235.results.toList = some mr235 := by kernel_rfl
theorem call235 {args : List AV} {H : List AO} {Q : AV → List AO → Prop} (hla : args.length ≤ 143) (h : wpm (ACall Try.prog) mc235 (finK mr235 Q) ⟨argEnv 0 args, [], H⟩) : ACall Try.prog 235 args H Q :=
  acall_mc (by kernel_rfl) Try.func235 mc235_eq Try.ntmps235 (by kernel_rfl) mr235_eq hla h
end Go.Proofs.Ytmbggdfceecojaa.Mc

/- Whether a text has a byte. -/
set_option linter.all false
namespace Go.Proofs.Ytmbggdfceecojaa.Cd
open Go.AM Mc

theorem has_index (s : List UInt8) (c : UInt8) : decide (0 ≤ Go.Lib.indexByte s c) = s.contains c := by
  induction s with
  | nil => rfl
  | cons b l ih =>
    unfold Go.Lib.indexByte
    by_cases h : b = c
    · subst h; simp
    · have h' : ¬ c = b := fun e => h e.symm
      have hb : (b == c) = false := by simp [h]
      have hg := Go.Lib.indexByte_ge l c
      rw [hb]
      simp only [Bool.false_eq_true, if_false]
      rw [List.contains_cons, ← ih]
      have hcb : (c == b) = false := by simp [h']
      rw [hcb, Bool.false_or, decide_eq_decide]
      split
      · rename_i e; simp at e; omega
      · rename_i e; simp at e; omega

theorem index1 (s : List UInt8) (hs : s.length ≤ maxL) (c : UInt8) : ACall Try.prog 235 [.p (.s s), .p (.s [c])] [] (fun r H' => ∃ z : Int, r = .p (.i .i64 z) ∧ decide (0 ≤ z) = s.contains c) := by
  refine call235 (by simp) ?_
  simp only [go_sem, Nat.reduceEqDiff, reduceIte, ↓reduceIte, Nat.reduceAdd, List.replicate_succ, List.replicate_zero, List.set_cons_zero, List.set_cons_succ, List.length_cons, List.length_nil, Nat.reduceLT, Nat.lt_add_one, ne_eq, Int.reduceEq, not_false_eq_true, Option.map_some, Nat.reduceLeDiff, Nat.zero_lt_succ, List.map_cons, List.map_nil, List.nil_append, List.cons_append, List.append_nil, bytesOf, List.take_succ_cons, List.take_zero, List.drop_zero, and_self, List.append_assoc, List.length_append, Int.reduceLT, Int.reduceLE, Int.toNat_zero, Int.reduceToNat, Int.cast_ofNat_Int, Int.natCast_zero, Int.natCast_one, Int.reduceAdd, List.map_append, mc235, mr235]
  intro _
  refine condK_split _ (fun h1 => ?_) (fun h1 => ?_)
  · simp only [go_sem, Nat.reduceEqDiff, reduceIte, ↓reduceIte, Nat.reduceAdd, List.replicate_succ, List.replicate_zero, List.set_cons_zero, List.set_cons_succ, List.length_cons, List.length_nil, Nat.reduceLT, Nat.lt_add_one, ne_eq, Int.reduceEq, not_false_eq_true, Option.map_some, Nat.reduceLeDiff, Nat.zero_lt_succ, List.map_cons, List.map_nil, List.nil_append, List.cons_append, List.append_nil, bytesOf, List.take_succ_cons, List.take_zero, List.drop_zero, and_self, List.append_assoc, List.length_append, Int.reduceLT, Int.reduceLE, Int.toNat_zero, Int.reduceToNat, Int.cast_ofNat_Int, Int.natCast_zero, Int.natCast_one, Int.reduceAdd, List.map_append, h1]
    have : [c] = s := by simpa using h1
    subst this
    exact ⟨0, rfl, by simp⟩
  · simp only [go_sem, Nat.reduceEqDiff, reduceIte, ↓reduceIte, Nat.reduceAdd, List.replicate_succ, List.replicate_zero, List.set_cons_zero, List.set_cons_succ, List.length_cons, List.length_nil, Nat.reduceLT, Nat.lt_add_one, ne_eq, Int.reduceEq, not_false_eq_true, Option.map_some, Nat.reduceLeDiff, Nat.zero_lt_succ, List.map_cons, List.map_nil, List.nil_append, List.cons_append, List.append_nil, bytesOf, List.take_succ_cons, List.take_zero, List.drop_zero, and_self, List.append_assoc, List.length_append, Int.reduceLT, Int.reduceLE, Int.toNat_zero, Int.reduceToNat, Int.cast_ofNat_Int, Int.natCast_zero, Int.natCast_one, Int.reduceAdd, List.map_append, h1]
    refine (indexByte s c).mono ?_
    rintro r H' ⟨rfl, rfl⟩
    simp only [go_sem, Nat.reduceEqDiff, reduceIte, ↓reduceIte, Nat.reduceAdd, List.replicate_succ, List.replicate_zero, List.set_cons_zero, List.set_cons_succ, List.length_cons, List.length_nil, Nat.reduceLT, Nat.lt_add_one, ne_eq, Int.reduceEq, not_false_eq_true, Option.map_some, Nat.reduceLeDiff, Nat.zero_lt_succ, List.map_cons, List.map_nil, List.nil_append, List.cons_append, List.append_nil, bytesOf, List.take_succ_cons, List.take_zero, List.drop_zero, and_self, List.append_assoc, List.length_append, Int.reduceLT, Int.reduceLE, Int.toNat_zero, Int.reduceToNat, Int.cast_ofNat_Int, Int.natCast_zero, Int.natCast_one, Int.reduceAdd, List.map_append]
    exact ⟨_, rfl, has_index s c⟩

theorem index (s : List UInt8) (hs : s.length ≤ maxL) (c : UInt8) : ACall Try.prog 214 [.p (.s s), .p (.s [c])] [] (fun r H' => ∃ z : Int, r = .p (.i .i64 z) ∧ decide (0 ≤ z) = s.contains c) := by
  refine call214 (by simp) ?_
  simp only [go_sem, Nat.reduceEqDiff, reduceIte, ↓reduceIte, Nat.reduceAdd, List.replicate_succ, List.replicate_zero, List.set_cons_zero, List.set_cons_succ, List.length_cons, List.length_nil, Nat.reduceLT, Nat.lt_add_one, ne_eq, Int.reduceEq, not_false_eq_true, Option.map_some, Nat.reduceLeDiff, Nat.zero_lt_succ, List.map_cons, List.map_nil, List.nil_append, List.cons_append, List.append_nil, bytesOf, List.take_succ_cons, List.take_zero, List.drop_zero, and_self, List.append_assoc, List.length_append, Int.reduceLT, Int.reduceLE, Int.toNat_zero, Int.reduceToNat, Int.cast_ofNat_Int, Int.natCast_zero, Int.natCast_one, Int.reduceAdd, List.map_append, mc214, mr214]
  refine (index1 s hs c).mono ?_
  rintro r H' ⟨z, rfl, hz⟩
  simp only [go_sem, Nat.reduceEqDiff, reduceIte, ↓reduceIte, Nat.reduceAdd, List.replicate_succ, List.replicate_zero, List.set_cons_zero, List.set_cons_succ, List.length_cons, List.length_nil, Nat.reduceLT, Nat.lt_add_one, ne_eq, Int.reduceEq, not_false_eq_true, Option.map_some, Nat.reduceLeDiff, Nat.zero_lt_succ, List.map_cons, List.map_nil, List.nil_append, List.cons_append, List.append_nil, bytesOf, List.take_succ_cons, List.take_zero, List.drop_zero, and_self, List.append_assoc, List.length_append, Int.reduceLT, Int.reduceLE, Int.toNat_zero, Int.reduceToNat, Int.cast_ofNat_Int, Int.natCast_zero, Int.natCast_one, Int.reduceAdd, List.map_append]
  exact ⟨z, rfl, hz⟩

theorem contains1 (s : List UInt8) (hs : s.length ≤ maxL) (c : UInt8) : ACall Try.prog 169 [.p (.s s), .p (.s [c])] [] (fun r H' => r = .p (.b (s.contains c))) := by
  refine call169 (by simp) ?_
  simp only [go_sem, Nat.reduceEqDiff, reduceIte, ↓reduceIte, Nat.reduceAdd, List.replicate_succ, List.replicate_zero, List.set_cons_zero, List.set_cons_succ, List.length_cons, List.length_nil, Nat.reduceLT, Nat.lt_add_one, ne_eq, Int.reduceEq, not_false_eq_true, Option.map_some, Nat.reduceLeDiff, Nat.zero_lt_succ, List.map_cons, List.map_nil, List.nil_append, List.cons_append, List.append_nil, bytesOf, List.take_succ_cons, List.take_zero, List.drop_zero, and_self, List.append_assoc, List.length_append, Int.reduceLT, Int.reduceLE, Int.toNat_zero, Int.reduceToNat, Int.cast_ofNat_Int, Int.natCast_zero, Int.natCast_one, Int.reduceAdd, List.map_append, mc169, mr169]
  refine (index s hs c).mono ?_
  rintro r H' ⟨z, rfl, hz⟩
  simp only [go_sem, Nat.reduceEqDiff, reduceIte, ↓reduceIte, Nat.reduceAdd, List.replicate_succ, List.replicate_zero, List.set_cons_zero, List.set_cons_succ, List.length_cons, List.length_nil, Nat.reduceLT, Nat.lt_add_one, ne_eq, Int.reduceEq, not_false_eq_true, Option.map_some, Nat.reduceLeDiff, Nat.zero_lt_succ, List.map_cons, List.map_nil, List.nil_append, List.cons_append, List.append_nil, bytesOf, List.take_succ_cons, List.take_zero, List.drop_zero, and_self, List.append_assoc, List.length_append, Int.reduceLT, Int.reduceLE, Int.toNat_zero, Int.reduceToNat, Int.cast_ofNat_Int, Int.natCast_zero, Int.natCast_one, Int.reduceAdd, List.map_append, hz]
theorem contains_any (s : List UInt8) (hs : s.length ≤ maxL) (c : UInt8) {H : List AO} : ACall Try.prog 169 [.p (.s s), .p (.s [c])] H (fun r H' => r = .p (.b (s.contains c)) ∧ H' = H) :=
  (acall_lend (contains1 s hs c) (fun r H' h => by subst h; exact grnd_b _) (lentAll_cons (.pure _) (lentAll_cons (.pure _) (lentAll_nil _)))).mono fun r H' ⟨h1, _, h2⟩ => ⟨h2, h1⟩
end Go.Proofs.Ytmbggdfceecojaa.Cd

/- Right codes: one instruction, by the program. -/
set_option linter.all false
namespace Go.Proofs.Ytmbggdfceecojaa.Cd
open Go.AM Mc Ho

def wantsR (w : Option (List UInt8)) : AV := match w with | some w => .tup [.p (.s w), .p (.b true)] | none => .tup [.p (.s []), .p (.b false)]

set_option maxHeartbeats 4000000 in
set_option maxRecDepth 100000 in
theorem wants (x : InsD) : ACall Try.prog 167 [.st (x.cells.map .p)] [] (fun r H' => r = wantsR (wantsD x)) := by
  refine call167 (by simp) ?_
  simp only [go_sem, Nat.reduceEqDiff, reduceIte, ↓reduceIte, Nat.reduceAdd, List.replicate_succ, List.replicate_zero, List.set_cons_zero, List.set_cons_succ, List.length_cons, List.length_nil, Nat.reduceLT, Nat.lt_add_one, ne_eq, Int.reduceEq, not_false_eq_true, Option.map_some, Nat.reduceLeDiff, Nat.zero_lt_succ, List.map_cons, List.map_nil, List.nil_append, List.cons_append, List.append_nil, bytesOf, List.take_succ_cons, List.take_zero, List.drop_zero, and_self, List.append_assoc, List.length_append, Int.reduceLT, Int.reduceLE, Int.toNat_zero, Int.reduceToNat, Int.cast_ofNat_Int, Int.natCast_zero, Int.natCast_one, Int.reduceAdd, List.map_append, mc167, mr167, InsD.cells]
  repeat' (refine condK_split _ (fun hd => ?_) (fun hd => ?_) <;> simp only [go_sem, Nat.reduceEqDiff, reduceIte, ↓reduceIte, Nat.reduceAdd, List.replicate_succ, List.replicate_zero, List.set_cons_zero, List.set_cons_succ, List.length_cons, List.length_nil, Nat.reduceLT, Nat.lt_add_one, ne_eq, Int.reduceEq, not_false_eq_true, Option.map_some, Nat.reduceLeDiff, Nat.zero_lt_succ, List.map_cons, List.map_nil, List.nil_append, List.cons_append, List.append_nil, bytesOf, List.take_succ_cons, List.take_zero, List.drop_zero, and_self, List.append_assoc, List.length_append, Int.reduceLT, Int.reduceLE, Int.toNat_zero, Int.reduceToNat, Int.cast_ofNat_Int, Int.natCast_zero, Int.natCast_one, Int.reduceAdd, List.map_append, hd])
  all_goals simp only [decide_eq_false_iff_not, decide_eq_true_eq, Bool.not_eq_true', Bool.not_eq_false', Bool.not_eq_true, Bool.not_eq_false] at *
  all_goals simp [wantsD, wantsR, opW, *]

theorem wantsR_grnd (w) : Grnd (wantsR w) := by
  cases w with
  | none => exact grnd_tup _ (by simp; exact ⟨grnd_s _, grnd_b _⟩)
  | some w => exact grnd_tup _ (by simp; exact ⟨grnd_s _, grnd_b _⟩)
theorem wants_any (x : InsD) {H : List AO} : ACall Try.prog 167 [.st (x.cells.map .p)] H (fun r H' => r = wantsR (wantsD x) ∧ H' = H) :=
  (acall_lend (wants x) (fun r H' h => by subst h; exact wantsR_grnd _) (lentAll_cons (ins_lent x) (lentAll_nil _))).mono fun r H' ⟨h1, _, h2⟩ => ⟨h2, h1⟩

theorem hasC {w : List UInt8} (hw : w.length ≤ maxL) (c : UInt8) {H : List AO} {j : Nat} (hj : H[j]? = some (.var [.p (.s w)])) : ACall Try.prog 168 [.p (.s [c]), .ptr j 0] H (fun r H' => r = .p (.b (w.contains c)) ∧ H' = H) := by
  refine call168 (by simp) ?_
  simp only [go_sem, Nat.reduceEqDiff, reduceIte, ↓reduceIte, Nat.reduceAdd, List.replicate_succ, List.replicate_zero, List.set_cons_zero, List.set_cons_succ, List.length_cons, List.length_nil, Nat.reduceLT, Nat.lt_add_one, ne_eq, Int.reduceEq, not_false_eq_true, Option.map_some, Nat.reduceLeDiff, Nat.zero_lt_succ, List.map_cons, List.map_nil, List.nil_append, List.cons_append, List.append_nil, bytesOf, List.take_succ_cons, List.take_zero, List.drop_zero, and_self, List.append_assoc, List.length_append, Int.reduceLT, Int.reduceLE, Int.toNat_zero, Int.reduceToNat, Int.cast_ofNat_Int, Int.natCast_zero, Int.natCast_one, Int.reduceAdd, List.map_append, mc168, mr168, hj]
  refine (contains_any w hw c).mono ?_
  rintro r H' ⟨rfl, rfl⟩
  simp only [go_sem, Nat.reduceEqDiff, reduceIte, ↓reduceIte, Nat.reduceAdd, List.replicate_succ, List.replicate_zero, List.set_cons_zero, List.set_cons_succ, List.length_cons, List.length_nil, Nat.reduceLT, Nat.lt_add_one, ne_eq, Int.reduceEq, not_false_eq_true, Option.map_some, Nat.reduceLeDiff, Nat.zero_lt_succ, List.map_cons, List.map_nil, List.nil_append, List.cons_append, List.append_nil, bytesOf, List.take_succ_cons, List.take_zero, List.drop_zero, and_self, List.append_assoc, List.length_append, Int.reduceLT, Int.reduceLE, Int.toNat_zero, Int.reduceToNat, Int.cast_ofNat_Int, Int.natCast_zero, Int.natCast_one, Int.reduceAdd, List.map_append]

def regD (h : Bool) (v : Int) : Bool := (h && inD v 0 15) || decide (v = 0)

theorem regC {w : List UInt8} (hw : w.length ≤ maxL) (c : UInt8) (v : Int) {H : List AO} {j k : Nat} (hj : H[j]? = some (.var [.p (.s w)])) (hk : H[k]? = some (.var [.clo 168 [.ptr j 0]])) :
    ACall Try.prog 170 [.p (.s [c]), .p (.i .i64 v), .ptr k 0] H (fun r H' => r = .p (.b (regD (w.contains c) v)) ∧ H' = H) := by
  refine call170 (by simp) ?_
  simp only [go_sem, Nat.reduceEqDiff, reduceIte, ↓reduceIte, Nat.reduceAdd, List.replicate_succ, List.replicate_zero, List.set_cons_zero, List.set_cons_succ, List.length_cons, List.length_nil, Nat.reduceLT, Nat.lt_add_one, ne_eq, Int.reduceEq, not_false_eq_true, Option.map_some, Nat.reduceLeDiff, Nat.zero_lt_succ, List.map_cons, List.map_nil, List.nil_append, List.cons_append, List.append_nil, bytesOf, List.take_succ_cons, List.take_zero, List.drop_zero, and_self, List.append_assoc, List.length_append, Int.reduceLT, Int.reduceLE, Int.toNat_zero, Int.reduceToNat, Int.cast_ofNat_Int, Int.natCast_zero, Int.natCast_one, Int.reduceAdd, List.map_append, mc170, mr170, hk]
  refine (hasC hw c hj).mono ?_
  rintro r H' ⟨rfl, rfl⟩
  simp only [go_sem, Nat.reduceEqDiff, reduceIte, ↓reduceIte, Nat.reduceAdd, List.replicate_succ, List.replicate_zero, List.set_cons_zero, List.set_cons_succ, List.length_cons, List.length_nil, Nat.reduceLT, Nat.lt_add_one, ne_eq, Int.reduceEq, not_false_eq_true, Option.map_some, Nat.reduceLeDiff, Nat.zero_lt_succ, List.map_cons, List.map_nil, List.nil_append, List.cons_append, List.append_nil, bytesOf, List.take_succ_cons, List.take_zero, List.drop_zero, and_self, List.append_assoc, List.length_append, Int.reduceLT, Int.reduceLE, Int.toNat_zero, Int.reduceToNat, Int.cast_ofNat_Int, Int.natCast_zero, Int.natCast_one, Int.reduceAdd, List.map_append]
  refine condK_split _ (fun h1 => ?_) (fun h1 => ?_)
  · simp only [go_sem, Nat.reduceEqDiff, reduceIte, ↓reduceIte, Nat.reduceAdd, List.replicate_succ, List.replicate_zero, List.set_cons_zero, List.set_cons_succ, List.length_cons, List.length_nil, Nat.reduceLT, Nat.lt_add_one, ne_eq, Int.reduceEq, not_false_eq_true, Option.map_some, Nat.reduceLeDiff, Nat.zero_lt_succ, List.map_cons, List.map_nil, List.nil_append, List.cons_append, List.append_nil, bytesOf, List.take_succ_cons, List.take_zero, List.drop_zero, and_self, List.append_assoc, List.length_append, Int.reduceLT, Int.reduceLE, Int.toNat_zero, Int.reduceToNat, Int.cast_ofNat_Int, Int.natCast_zero, Int.natCast_one, Int.reduceAdd, List.map_append, h1]
    refine (within_any _ _ _).mono ?_
    rintro r H' ⟨rfl, rfl⟩
    simp only [go_sem, Nat.reduceEqDiff, reduceIte, ↓reduceIte, Nat.reduceAdd, List.replicate_succ, List.replicate_zero, List.set_cons_zero, List.set_cons_succ, List.length_cons, List.length_nil, Nat.reduceLT, Nat.lt_add_one, ne_eq, Int.reduceEq, not_false_eq_true, Option.map_some, Nat.reduceLeDiff, Nat.zero_lt_succ, List.map_cons, List.map_nil, List.nil_append, List.cons_append, List.append_nil, bytesOf, List.take_succ_cons, List.take_zero, List.drop_zero, and_self, List.append_assoc, List.length_append, Int.reduceLT, Int.reduceLE, Int.toNat_zero, Int.reduceToNat, Int.cast_ofNat_Int, Int.natCast_zero, Int.natCast_one, Int.reduceAdd, List.map_append, h1]
    refine condK_split _ (fun h2 => ?_) (fun h2 => ?_)
    · simp only [go_sem, Nat.reduceEqDiff, reduceIte, ↓reduceIte, Nat.reduceAdd, List.replicate_succ, List.replicate_zero, List.set_cons_zero, List.set_cons_succ, List.length_cons, List.length_nil, Nat.reduceLT, Nat.lt_add_one, ne_eq, Int.reduceEq, not_false_eq_true, Option.map_some, Nat.reduceLeDiff, Nat.zero_lt_succ, List.map_cons, List.map_nil, List.nil_append, List.cons_append, List.append_nil, bytesOf, List.take_succ_cons, List.take_zero, List.drop_zero, and_self, List.append_assoc, List.length_append, Int.reduceLT, Int.reduceLE, Int.toNat_zero, Int.reduceToNat, Int.cast_ofNat_Int, Int.natCast_zero, Int.natCast_one, Int.reduceAdd, List.map_append, h2]
      simp [regD, h1, h2]
    · simp only [go_sem, Nat.reduceEqDiff, reduceIte, ↓reduceIte, Nat.reduceAdd, List.replicate_succ, List.replicate_zero, List.set_cons_zero, List.set_cons_succ, List.length_cons, List.length_nil, Nat.reduceLT, Nat.lt_add_one, ne_eq, Int.reduceEq, not_false_eq_true, Option.map_some, Nat.reduceLeDiff, Nat.zero_lt_succ, List.map_cons, List.map_nil, List.nil_append, List.cons_append, List.append_nil, bytesOf, List.take_succ_cons, List.take_zero, List.drop_zero, and_self, List.append_assoc, List.length_append, Int.reduceLT, Int.reduceLE, Int.toNat_zero, Int.reduceToNat, Int.cast_ofNat_Int, Int.natCast_zero, Int.natCast_one, Int.reduceAdd, List.map_append, h2]
      simp [regD, h1, h2]
  · simp only [go_sem, Nat.reduceEqDiff, reduceIte, ↓reduceIte, Nat.reduceAdd, List.replicate_succ, List.replicate_zero, List.set_cons_zero, List.set_cons_succ, List.length_cons, List.length_nil, Nat.reduceLT, Nat.lt_add_one, ne_eq, Int.reduceEq, not_false_eq_true, Option.map_some, Nat.reduceLeDiff, Nat.zero_lt_succ, List.map_cons, List.map_nil, List.nil_append, List.cons_append, List.append_nil, bytesOf, List.take_succ_cons, List.take_zero, List.drop_zero, and_self, List.append_assoc, List.length_append, Int.reduceLT, Int.reduceLE, Int.toNat_zero, Int.reduceToNat, Int.cast_ofNat_Int, Int.natCast_zero, Int.natCast_one, Int.reduceAdd, List.map_append, h1]
    simp [regD, h1]

theorem insOk_some {nI nS : Nat} {x : InsD} {w : List UInt8} (h : wantsD x = some w) : insOk nI nS x = (regD (w.contains 97) x.a && regD (w.contains 98) x.b && regD (w.contains 99) x.c && (w.contains 110 || decide (x.n = 0)) && (w.contains 116 || decide (x.text = [])) && extraD nI nS x) := by
  unfold insOk
  rw [h]
  simp only [zeroO, zeroD, regD]
  have key : ∀ (b : Bool) (v : Int), ((b && inD v 0 15) || decide (v = 0)) = (inD v 0 15 && (b || decide (v = 0))) := by
    intro b v
    by_cases hv : v = 0
    · subst hv; cases b <;> simp [inD]
    · cases b <;> simp [hv]
  rw [key, key, key]
  generalize inD x.a 0 15 = p1
  generalize inD x.b 0 15 = p2
  generalize inD x.c 0 15 = p3
  generalize (w.contains 97 || decide (x.a = 0)) = q1
  generalize (w.contains 98 || decide (x.b = 0)) = q2
  generalize (w.contains 99 || decide (x.c = 0)) = q3
  cases p1 <;> cases p2 <;> cases p3 <;> cases q1 <;> cases q2 <;> cases q3 <;> simp

def len4 : Option (List UInt8) → Prop
  | some w => w.length ≤ 4
  | none => True
theorem len4_ite {c : Prop} [Decidable c] {a b : Option (List UInt8)} (ha : len4 a) (hb : len4 b) : len4 (if c then a else b) := by
  by_cases h : c
  · rw [if_pos h]; exact ha
  · rw [if_neg h]; exact hb
theorem wants_len4 (x : InsD) : len4 (wantsD x) := by
  unfold wantsD opW
  repeat' (refine len4_ite ?_ ?_)
  all_goals first | exact trivial | (show List.length _ ≤ 4; simp)
theorem wants_len {x : InsD} {w : List UInt8} (h : wantsD x = some w) : w.length ≤ maxL := by
  have := wants_len4 x
  rw [h] at this
  unfold len4 at this
  unfold maxL; omega

set_option maxHeartbeats 4000000 in
set_option maxRecDepth 100000 in
theorem instrOk (x : InsD) (hx : x.text.length ≤ maxL) (c : CodeD) (hc : okCode c) : ACall Try.prog 132 [.st (c.cells.map .p), .st (x.cells.map .p)] [] (fun r H' => r = .p (.b (insOk c.ins.length c.starts.length x))) := by
  have hl1 : c.ins.length ≤ 9223372036854775807 := by have := hc.1.1; unfold maxL at this; omega
  have hl2 : c.starts.length ≤ 9223372036854775807 := by have := hc.2; unfold maxL at this; omega
  refine call132 (by simp) ?_
  simp only [go_sem, Nat.reduceEqDiff, reduceIte, ↓reduceIte, Nat.reduceAdd, List.replicate_succ, List.replicate_zero, List.set_cons_zero, List.set_cons_succ, List.length_cons, List.length_nil, Nat.reduceLT, Nat.lt_add_one, ne_eq, Int.reduceEq, not_false_eq_true, Option.map_some, Nat.reduceLeDiff, Nat.zero_lt_succ, List.map_cons, List.map_nil, List.nil_append, List.cons_append, List.append_nil, bytesOf, List.take_succ_cons, List.take_zero, List.drop_zero, and_self, List.append_assoc, List.length_append, Int.reduceLT, Int.reduceLE, Int.toNat_zero, Int.reduceToNat, Int.cast_ofNat_Int, Int.natCast_zero, Int.natCast_one, Int.reduceAdd, List.map_append, mc132, mr132, InsD.cells, CodeD.cells]
  rw [ins_eta]
  refine (wants_any x).mono ?_
  rintro r H' ⟨rfl, rfl⟩
  cases hw : wantsD x with
  | none =>
    simp only [go_sem, Nat.reduceEqDiff, reduceIte, ↓reduceIte, Nat.reduceAdd, List.replicate_succ, List.replicate_zero, List.set_cons_zero, List.set_cons_succ, List.length_cons, List.length_nil, Nat.reduceLT, Nat.lt_add_one, ne_eq, Int.reduceEq, not_false_eq_true, Option.map_some, Nat.reduceLeDiff, Nat.zero_lt_succ, List.map_cons, List.map_nil, List.nil_append, List.cons_append, List.append_nil, bytesOf, List.take_succ_cons, List.take_zero, List.drop_zero, and_self, List.append_assoc, List.length_append, Int.reduceLT, Int.reduceLE, Int.toNat_zero, Int.reduceToNat, Int.cast_ofNat_Int, Int.natCast_zero, Int.natCast_one, Int.reduceAdd, List.map_append, wantsR]
    simp [insOk, hw, zeroO]
  | some w =>
    have hwl := wants_len hw
    rw [insOk_some hw]
    simp only [go_sem, Nat.reduceEqDiff, reduceIte, ↓reduceIte, Nat.reduceAdd, List.replicate_succ, List.replicate_zero, List.set_cons_zero, List.set_cons_succ, List.length_cons, List.length_nil, Nat.reduceLT, Nat.lt_add_one, ne_eq, Int.reduceEq, not_false_eq_true, Option.map_some, Nat.reduceLeDiff, Nat.zero_lt_succ, List.map_cons, List.map_nil, List.nil_append, List.cons_append, List.append_nil, bytesOf, List.take_succ_cons, List.take_zero, List.drop_zero, and_self, List.append_assoc, List.length_append, Int.reduceLT, Int.reduceLE, Int.toNat_zero, Int.reduceToNat, Int.cast_ofNat_Int, Int.natCast_zero, Int.natCast_one, Int.reduceAdd, List.map_append, wantsR, InsD.cells]
    repeat' first
      | (refine condK_split _ (fun hd => ?_) (fun hd => ?_) <;> simp only [go_sem, Nat.reduceEqDiff, reduceIte, ↓reduceIte, Nat.reduceAdd, List.replicate_succ, List.replicate_zero, List.set_cons_zero, List.set_cons_succ, List.length_cons, List.length_nil, Nat.reduceLT, Nat.lt_add_one, ne_eq, Int.reduceEq, not_false_eq_true, Option.map_some, Nat.reduceLeDiff, Nat.zero_lt_succ, List.map_cons, List.map_nil, List.nil_append, List.cons_append, List.append_nil, bytesOf, List.take_succ_cons, List.take_zero, List.drop_zero, and_self, List.append_assoc, List.length_append, Int.reduceLT, Int.reduceLE, Int.toNat_zero, Int.reduceToNat, Int.cast_ofNat_Int, Int.natCast_zero, Int.natCast_one, Int.reduceAdd, List.map_append, hd, inss_len, ints_len])
      | (refine (regC hwl _ _ (j := 2) (k := 3) rfl rfl).mono ?_; rintro r H' ⟨rfl, rfl⟩; simp only [go_sem, Nat.reduceEqDiff, reduceIte, ↓reduceIte, Nat.reduceAdd, List.replicate_succ, List.replicate_zero, List.set_cons_zero, List.set_cons_succ, List.length_cons, List.length_nil, Nat.reduceLT, Nat.lt_add_one, ne_eq, Int.reduceEq, not_false_eq_true, Option.map_some, Nat.reduceLeDiff, Nat.zero_lt_succ, List.map_cons, List.map_nil, List.nil_append, List.cons_append, List.append_nil, bytesOf, List.take_succ_cons, List.take_zero, List.drop_zero, and_self, List.append_assoc, List.length_append, Int.reduceLT, Int.reduceLE, Int.toNat_zero, Int.reduceToNat, Int.cast_ofNat_Int, Int.natCast_zero, Int.natCast_one, Int.reduceAdd, List.map_append])
      | (refine (hasC hwl _ (j := 2) rfl).mono ?_; rintro r H' ⟨rfl, rfl⟩; simp only [go_sem, Nat.reduceEqDiff, reduceIte, ↓reduceIte, Nat.reduceAdd, List.replicate_succ, List.replicate_zero, List.set_cons_zero, List.set_cons_succ, List.length_cons, List.length_nil, Nat.reduceLT, Nat.lt_add_one, ne_eq, Int.reduceEq, not_false_eq_true, Option.map_some, Nat.reduceLeDiff, Nat.zero_lt_succ, List.map_cons, List.map_nil, List.nil_append, List.cons_append, List.append_nil, bytesOf, List.take_succ_cons, List.take_zero, List.drop_zero, and_self, List.append_assoc, List.length_append, Int.reduceLT, Int.reduceLE, Int.toNat_zero, Int.reduceToNat, Int.cast_ofNat_Int, Int.natCast_zero, Int.natCast_one, Int.reduceAdd, List.map_append])
      | (refine (within_any _ _ _).mono ?_; rintro r H' ⟨rfl, rfl⟩; simp only [go_sem, Nat.reduceEqDiff, reduceIte, ↓reduceIte, Nat.reduceAdd, List.replicate_succ, List.replicate_zero, List.set_cons_zero, List.set_cons_succ, List.length_cons, List.length_nil, Nat.reduceLT, Nat.lt_add_one, ne_eq, Int.reduceEq, not_false_eq_true, Option.map_some, Nat.reduceLeDiff, Nat.zero_lt_succ, List.map_cons, List.map_nil, List.nil_append, List.cons_append, List.append_nil, bytesOf, List.take_succ_cons, List.take_zero, List.drop_zero, and_self, List.append_assoc, List.length_append, Int.reduceLT, Int.reduceLE, Int.toNat_zero, Int.reduceToNat, Int.cast_ofNat_Int, Int.natCast_zero, Int.natCast_one, Int.reduceAdd, List.map_append, inss_len, ints_len])
      | (refine (plain_any _ hx).mono ?_; rintro r H' ⟨rfl, rfl⟩; simp only [go_sem, Nat.reduceEqDiff, reduceIte, ↓reduceIte, Nat.reduceAdd, List.replicate_succ, List.replicate_zero, List.set_cons_zero, List.set_cons_succ, List.length_cons, List.length_nil, Nat.reduceLT, Nat.lt_add_one, ne_eq, Int.reduceEq, not_false_eq_true, Option.map_some, Nat.reduceLeDiff, Nat.zero_lt_succ, List.map_cons, List.map_nil, List.nil_append, List.cons_append, List.append_nil, bytesOf, List.take_succ_cons, List.take_zero, List.drop_zero, and_self, List.append_assoc, List.length_append, Int.reduceLT, Int.reduceLE, Int.toNat_zero, Int.reduceToNat, Int.cast_ofNat_Int, Int.natCast_zero, Int.natCast_one, Int.reduceAdd, List.map_append])
      | (intro _; rw [wr64 (by omega) (by omega)])
      | intro _
    all_goals simp only [decide_eq_false_iff_not, decide_eq_true_eq, Bool.not_eq_true', Bool.not_eq_false', Bool.not_eq_true, Bool.not_eq_false] at *
    all_goals congr 2
    all_goals first | (simp [extraD, -List.contains_eq_mem, *]; done) | (simp_all [extraD]; done)
end Go.Proofs.Ytmbggdfceecojaa.Cd

/- Right codes: a whole code, by the program. -/
set_option linter.all false
namespace Go.Proofs.Ytmbggdfceecojaa.Cd
open Go.AM Mc Ho

theorem instrOk_any (x : InsD) (hx : x.text.length ≤ maxL) (c : CodeD) (hc : okCode c) {H : List AO} : ACall Try.prog 132 [.st (c.cells.map .p), .st (x.cells.map .p)] H (fun r H' => r = .p (.b (insOk c.ins.length c.starts.length x)) ∧ H' = H) :=
  (acall_lend (instrOk x hx c hc) (fun r H' h => by subst h; exact grnd_b _) (lentAll_cons (code_lent c) (lentAll_cons (ins_lent x) (lentAll_nil _)))).mono fun r H' ⟨h1, _, h2⟩ => ⟨h2, h1⟩

theorem code_take (c : CodeD) : takeN 2 (c.cells.map .p) = some (c.cells.map .p) := rfl
theorem fn131 (x : InsD) (hx : x.text.length ≤ maxL) (c : CodeD) (hc : okCode c) {H : List AO} {j : Nat} (hj : H[j]? = some (.var (c.cells.map .p))) :
    ACall Try.prog 131 [.st (x.cells.map .p), .ptr j 0] H (fun r H' => r = .p (.b (!insOk c.ins.length c.starts.length x)) ∧ ∃ G, H' = H ++ G) := by
  have hjl := (List.getElem?_eq_some_iff.1 hj).1
  refine call131 (by simp) ?_
  simp only [go_sem, Nat.reduceEqDiff, reduceIte, ↓reduceIte, Nat.reduceAdd, List.replicate_succ, List.replicate_zero, List.set_cons_zero, List.set_cons_succ, List.length_cons, List.length_nil, Nat.reduceLT, Nat.lt_add_one, ne_eq, Int.reduceEq, not_false_eq_true, Option.map_some, Nat.reduceLeDiff, Nat.zero_lt_succ, List.map_cons, List.map_nil, List.nil_append, List.cons_append, List.append_nil, bytesOf, List.take_succ_cons, List.take_zero, List.drop_zero, and_self, List.append_assoc, List.length_append, Int.reduceLT, Int.reduceLE, Int.toNat_zero, Int.reduceToNat, Int.cast_ofNat_Int, Int.natCast_zero, Int.natCast_one, Int.reduceAdd, List.map_append, mc131, mr131, InsD.cells, List.getElem?_append_left hjl, hj, code_take]
  rw [ins_eta]
  refine (instrOk_any x hx c hc).mono ?_
  rintro r H' ⟨rfl, rfl⟩
  simp only [go_sem, Nat.reduceEqDiff, reduceIte, ↓reduceIte, Nat.reduceAdd, List.replicate_succ, List.replicate_zero, List.set_cons_zero, List.set_cons_succ, List.length_cons, List.length_nil, Nat.reduceLT, Nat.lt_add_one, ne_eq, Int.reduceEq, not_false_eq_true, Option.map_some, Nat.reduceLeDiff, Nat.zero_lt_succ, List.map_cons, List.map_nil, List.nil_append, List.cons_append, List.append_nil, bytesOf, List.take_succ_cons, List.take_zero, List.drop_zero, and_self, List.append_assoc, List.length_append, Int.reduceLT, Int.reduceLE, Int.toNat_zero, Int.reduceToNat, Int.cast_ofNat_Int, Int.natCast_zero, Int.natCast_one, Int.reduceAdd, List.map_append]
  exact ⟨_, rfl⟩
theorem fn134 (x : Int) (c : CodeD) (hc : okCode c) {H : List AO} {j : Nat} (hj : H[j]? = some (.var (c.cells.map .p))) :
    ACall Try.prog 134 [.p (.i .i64 x), .ptr j 0] H (fun r H' => r = .p (.b (!placeOk c x)) ∧ ∃ G, H' = H ++ G) := by
  have hl1 : c.ins.length ≤ 9223372036854775807 := by have := hc.1.1; unfold maxL at this; omega
  refine call134 (by simp) ?_
  simp only [go_sem, Nat.reduceEqDiff, reduceIte, ↓reduceIte, Nat.reduceAdd, List.replicate_succ, List.replicate_zero, List.set_cons_zero, List.set_cons_succ, List.length_cons, List.length_nil, Nat.reduceLT, Nat.lt_add_one, ne_eq, Int.reduceEq, not_false_eq_true, Option.map_some, Nat.reduceLeDiff, Nat.zero_lt_succ, List.map_cons, List.map_nil, List.nil_append, List.cons_append, List.append_nil, bytesOf, List.take_succ_cons, List.take_zero, List.drop_zero, and_self, List.append_assoc, List.length_append, Int.reduceLT, Int.reduceLE, Int.toNat_zero, Int.reduceToNat, Int.cast_ofNat_Int, Int.natCast_zero, Int.natCast_one, Int.reduceAdd, List.map_append, mc134, mr134, hj, CodeD.cells, inss_len]
  intro _
  rw [wr64 (by omega) (by omega)]
  refine (within_any _ _ _).mono ?_
  rintro r H' ⟨rfl, rfl⟩
  simp only [go_sem, Nat.reduceEqDiff, reduceIte, ↓reduceIte, Nat.reduceAdd, List.replicate_succ, List.replicate_zero, List.set_cons_zero, List.set_cons_succ, List.length_cons, List.length_nil, Nat.reduceLT, Nat.lt_add_one, ne_eq, Int.reduceEq, not_false_eq_true, Option.map_some, Nat.reduceLeDiff, Nat.zero_lt_succ, List.map_cons, List.map_nil, List.nil_append, List.cons_append, List.append_nil, bytesOf, List.take_succ_cons, List.take_zero, List.drop_zero, and_self, List.append_assoc, List.length_append, Int.reduceLT, Int.reduceLE, Int.toNat_zero, Int.reduceToNat, Int.cast_ofNat_Int, Int.natCast_zero, Int.natCast_one, Int.reduceAdd, List.map_append]
  exact ⟨rfl, [], by simp⟩

/-- the first that passes a test, of instructions -/
theorem indexFn (l : List InsD) (hl : okIns l) (p : InsD → Bool) (f : Nat) (caps : List AV) (H : List AO)
    (hp : ∀ x ∈ l, ∀ G, ACall Try.prog f ([.st (x.cells.map .p)] ++ caps) (H ++ G) (fun r H' => r = .p (.b (p x)) ∧ ∃ G', H' = H ++ G ++ G')) :
    ACall Try.prog 166 [.p (.l (inss l)), .clo f caps] H (fun r H' => (∃ z : Int, r = .p (.i .i64 z) ∧ decide (0 ≤ z) = l.any p) ∧ ∃ G, H' = H ++ G) := by
  refine call166 (by simp) ?_
  simp only [go_sem, Nat.reduceEqDiff, reduceIte, ↓reduceIte, Nat.reduceAdd, List.replicate_succ, List.replicate_zero, List.set_cons_zero, List.set_cons_succ, List.length_cons, List.length_nil, Nat.reduceLT, Nat.lt_add_one, ne_eq, Int.reduceEq, not_false_eq_true, Option.map_some, Nat.reduceLeDiff, Nat.zero_lt_succ, List.map_cons, List.map_nil, List.nil_append, List.cons_append, List.append_nil, bytesOf, List.take_succ_cons, List.take_zero, List.drop_zero, and_self, List.append_assoc, List.length_append, Int.reduceLT, Int.reduceLE, Int.toNat_zero, Int.reduceToNat, Int.cast_ofNat_Int, Int.natCast_zero, Int.natCast_one, Int.reduceAdd, List.map_append, mc166, mr166, inss_len]
  intro _
  refine ⟨Nat × List AO, [0, 1, 4, 7, 8], fun x st => x.1 ≤ l.length ∧ (l.take x.1).all (fun y => !p y) = true ∧ st = ⟨[(0, .p (.l (inss l))), (1, .clo f caps), (4, .p (.i .i64 0)), (7, .p (.i .i64 l.length)), (8, .p (.i .i64 x.1))], [], H ++ x.2⟩, fun x => l.length - x.1, ⟨(0, []), ?_⟩, ?_⟩
  · simp only [go_sem, Nat.reduceEqDiff, reduceIte, ↓reduceIte, Nat.reduceAdd, List.replicate_succ, List.replicate_zero, List.set_cons_zero, List.set_cons_succ, List.length_cons, List.length_nil, Nat.reduceLT, Nat.lt_add_one, ne_eq, Int.reduceEq, not_false_eq_true, Option.map_some, Nat.reduceLeDiff, Nat.zero_lt_succ, List.map_cons, List.map_nil, List.nil_append, List.cons_append, List.append_nil, bytesOf, List.take_succ_cons, List.take_zero, List.drop_zero, and_self, List.append_assoc, List.length_append, Int.reduceLT, Int.reduceLE, Int.toNat_zero, Int.reduceToNat, Int.cast_ofNat_Int, Int.natCast_zero, Int.natCast_one, Int.reduceAdd, List.map_append]
    exact ⟨Nat.zero_le _, by simp⟩
  · rintro ⟨i, G⟩ st ⟨hi, ht, rfl⟩
    simp only at hi ht
    simp only [go_sem, Nat.reduceEqDiff, reduceIte, ↓reduceIte, Nat.reduceAdd, List.replicate_succ, List.replicate_zero, List.set_cons_zero, List.set_cons_succ, List.length_cons, List.length_nil, Nat.reduceLT, Nat.lt_add_one, ne_eq, Int.reduceEq, not_false_eq_true, Option.map_some, Nat.reduceLeDiff, Nat.zero_lt_succ, List.map_cons, List.map_nil, List.nil_append, List.cons_append, List.append_nil, bytesOf, List.take_succ_cons, List.take_zero, List.drop_zero, and_self, List.append_assoc, List.length_append, Int.reduceLT, Int.reduceLE, Int.toNat_zero, Int.reduceToNat, Int.cast_ofNat_Int, Int.natCast_zero, Int.natCast_one, Int.reduceAdd, List.map_append]
    refine condK_split _ (fun hc => ?_) (fun hc => ?_)
    · have hil : i < l.length := by simpa using hc
      simp only [go_sem, Nat.reduceEqDiff, reduceIte, ↓reduceIte, Nat.reduceAdd, List.replicate_succ, List.replicate_zero, List.set_cons_zero, List.set_cons_succ, List.length_cons, List.length_nil, Nat.reduceLT, Nat.lt_add_one, ne_eq, Int.reduceEq, not_false_eq_true, Option.map_some, Nat.reduceLeDiff, Nat.zero_lt_succ, List.map_cons, List.map_nil, List.nil_append, List.cons_append, List.append_nil, bytesOf, List.take_succ_cons, List.take_zero, List.drop_zero, and_self, List.append_assoc, List.length_append, Int.reduceLT, Int.reduceLE, Int.toNat_zero, Int.reduceToNat, Int.cast_ofNat_Int, Int.natCast_zero, Int.natCast_one, Int.reduceAdd, List.map_append, inss_at _ hil, ins_clen, ins_take]
      refine (hp _ (List.getElem_mem hil) G).mono ?_
      rintro r H' ⟨rfl, G', rfl⟩
      simp only [go_sem, Nat.reduceEqDiff, reduceIte, ↓reduceIte, Nat.reduceAdd, List.replicate_succ, List.replicate_zero, List.set_cons_zero, List.set_cons_succ, List.length_cons, List.length_nil, Nat.reduceLT, Nat.lt_add_one, ne_eq, Int.reduceEq, not_false_eq_true, Option.map_some, Nat.reduceLeDiff, Nat.zero_lt_succ, List.map_cons, List.map_nil, List.nil_append, List.cons_append, List.append_nil, bytesOf, List.take_succ_cons, List.take_zero, List.drop_zero, and_self, List.append_assoc, List.length_append, Int.reduceLT, Int.reduceLE, Int.toNat_zero, Int.reduceToNat, Int.cast_ofNat_Int, Int.natCast_zero, Int.natCast_one, Int.reduceAdd, List.map_append]
      refine condK_split _ (fun hd => ?_) (fun hd => ?_)
      · simp only [go_sem, Nat.reduceEqDiff, reduceIte, ↓reduceIte, Nat.reduceAdd, List.replicate_succ, List.replicate_zero, List.set_cons_zero, List.set_cons_succ, List.length_cons, List.length_nil, Nat.reduceLT, Nat.lt_add_one, ne_eq, Int.reduceEq, not_false_eq_true, Option.map_some, Nat.reduceLeDiff, Nat.zero_lt_succ, List.map_cons, List.map_nil, List.nil_append, List.cons_append, List.append_nil, bytesOf, List.take_succ_cons, List.take_zero, List.drop_zero, and_self, List.append_assoc, List.length_append, Int.reduceLT, Int.reduceLE, Int.toNat_zero, Int.reduceToNat, Int.cast_ofNat_Int, Int.natCast_zero, Int.natCast_one, Int.reduceAdd, List.map_append]
        refine ⟨⟨i, rfl, ?_⟩, G ++ G', rfl⟩
        have : l.any p = true := List.any_eq_true.2 ⟨_, List.getElem_mem hil, hd⟩
        rw [this]; simp
      · simp only [go_sem, Nat.reduceEqDiff, reduceIte, ↓reduceIte, Nat.reduceAdd, List.replicate_succ, List.replicate_zero, List.set_cons_zero, List.set_cons_succ, List.length_cons, List.length_nil, Nat.reduceLT, Nat.lt_add_one, ne_eq, Int.reduceEq, not_false_eq_true, Option.map_some, Nat.reduceLeDiff, Nat.zero_lt_succ, List.map_cons, List.map_nil, List.nil_append, List.cons_append, List.append_nil, bytesOf, List.take_succ_cons, List.take_zero, List.drop_zero, and_self, List.append_assoc, List.length_append, Int.reduceLT, Int.reduceLE, Int.toNat_zero, Int.reduceToNat, Int.cast_ofNat_Int, Int.natCast_zero, Int.natCast_one, Int.reduceAdd, List.map_append]
        refine ⟨(i + 1, G ++ G'), ⟨hil, all_take (p := fun y => !p y) hil ht (by simp [hd]), ?_⟩, by simp; omega⟩
        rw [wr1 hil hl.1]
    · have hil : i = l.length := by simp at hc; omega
      subst hil
      rw [List.take_length] at ht
      simp only [go_sem, Nat.reduceEqDiff, reduceIte, ↓reduceIte, Nat.reduceAdd, List.replicate_succ, List.replicate_zero, List.set_cons_zero, List.set_cons_succ, List.length_cons, List.length_nil, Nat.reduceLT, Nat.lt_add_one, ne_eq, Int.reduceEq, not_false_eq_true, Option.map_some, Nat.reduceLeDiff, Nat.zero_lt_succ, List.map_cons, List.map_nil, List.nil_append, List.cons_append, List.append_nil, bytesOf, List.take_succ_cons, List.take_zero, List.drop_zero, and_self, List.append_assoc, List.length_append, Int.reduceLT, Int.reduceLE, Int.toNat_zero, Int.reduceToNat, Int.cast_ofNat_Int, Int.natCast_zero, Int.natCast_one, Int.reduceAdd, List.map_append]
      refine ⟨⟨-1, rfl, ?_⟩, G, rfl⟩
      have : l.any p = false := by
        rw [List.any_eq_false]; intro y hy
        have := List.all_eq_true.1 ht y hy
        simpa using this
      rw [this]; rfl

theorem indexFnI (l : List Int) (hl : l.length ≤ maxL) (p : Int → Bool) (f : Nat) (caps : List AV) (H : List AO)
    (hp : ∀ x ∈ l, ∀ G, ACall Try.prog f ([.p (.i .i64 x)] ++ caps) (H ++ G) (fun r H' => r = .p (.b (p x)) ∧ ∃ G', H' = H ++ G ++ G')) :
    ACall Try.prog 172 [.p (.l (ints l)), .clo f caps] H (fun r H' => (∃ z : Int, r = .p (.i .i64 z) ∧ decide (0 ≤ z) = l.any p) ∧ ∃ G, H' = H ++ G) := by
  refine call172 (by simp) ?_
  simp only [go_sem, Nat.reduceEqDiff, reduceIte, ↓reduceIte, Nat.reduceAdd, List.replicate_succ, List.replicate_zero, List.set_cons_zero, List.set_cons_succ, List.length_cons, List.length_nil, Nat.reduceLT, Nat.lt_add_one, ne_eq, Int.reduceEq, not_false_eq_true, Option.map_some, Nat.reduceLeDiff, Nat.zero_lt_succ, List.map_cons, List.map_nil, List.nil_append, List.cons_append, List.append_nil, bytesOf, List.take_succ_cons, List.take_zero, List.drop_zero, and_self, List.append_assoc, List.length_append, Int.reduceLT, Int.reduceLE, Int.toNat_zero, Int.reduceToNat, Int.cast_ofNat_Int, Int.natCast_zero, Int.natCast_one, Int.reduceAdd, List.map_append, mc172, mr172, ints_len]
  intro _
  refine ⟨Nat × List AO, [0, 1, 4, 7, 8], fun x st => x.1 ≤ l.length ∧ (l.take x.1).all (fun y => !p y) = true ∧ st = ⟨[(0, .p (.l (ints l))), (1, .clo f caps), (4, .p (.i .i64 0)), (7, .p (.i .i64 l.length)), (8, .p (.i .i64 x.1))], [], H ++ x.2⟩, fun x => l.length - x.1, ⟨(0, []), ?_⟩, ?_⟩
  · simp only [go_sem, Nat.reduceEqDiff, reduceIte, ↓reduceIte, Nat.reduceAdd, List.replicate_succ, List.replicate_zero, List.set_cons_zero, List.set_cons_succ, List.length_cons, List.length_nil, Nat.reduceLT, Nat.lt_add_one, ne_eq, Int.reduceEq, not_false_eq_true, Option.map_some, Nat.reduceLeDiff, Nat.zero_lt_succ, List.map_cons, List.map_nil, List.nil_append, List.cons_append, List.append_nil, bytesOf, List.take_succ_cons, List.take_zero, List.drop_zero, and_self, List.append_assoc, List.length_append, Int.reduceLT, Int.reduceLE, Int.toNat_zero, Int.reduceToNat, Int.cast_ofNat_Int, Int.natCast_zero, Int.natCast_one, Int.reduceAdd, List.map_append]
    exact ⟨Nat.zero_le _, by simp⟩
  · rintro ⟨i, G⟩ st ⟨hi, ht, rfl⟩
    simp only at hi ht
    simp only [go_sem, Nat.reduceEqDiff, reduceIte, ↓reduceIte, Nat.reduceAdd, List.replicate_succ, List.replicate_zero, List.set_cons_zero, List.set_cons_succ, List.length_cons, List.length_nil, Nat.reduceLT, Nat.lt_add_one, ne_eq, Int.reduceEq, not_false_eq_true, Option.map_some, Nat.reduceLeDiff, Nat.zero_lt_succ, List.map_cons, List.map_nil, List.nil_append, List.cons_append, List.append_nil, bytesOf, List.take_succ_cons, List.take_zero, List.drop_zero, and_self, List.append_assoc, List.length_append, Int.reduceLT, Int.reduceLE, Int.toNat_zero, Int.reduceToNat, Int.cast_ofNat_Int, Int.natCast_zero, Int.natCast_one, Int.reduceAdd, List.map_append]
    refine condK_split _ (fun hc => ?_) (fun hc => ?_)
    · have hil : i < l.length := by simpa using hc
      simp only [go_sem, Nat.reduceEqDiff, reduceIte, ↓reduceIte, Nat.reduceAdd, List.replicate_succ, List.replicate_zero, List.set_cons_zero, List.set_cons_succ, List.length_cons, List.length_nil, Nat.reduceLT, Nat.lt_add_one, ne_eq, Int.reduceEq, not_false_eq_true, Option.map_some, Nat.reduceLeDiff, Nat.zero_lt_succ, List.map_cons, List.map_nil, List.nil_append, List.cons_append, List.append_nil, bytesOf, List.take_succ_cons, List.take_zero, List.drop_zero, and_self, List.append_assoc, List.length_append, Int.reduceLT, Int.reduceLE, Int.toNat_zero, Int.reduceToNat, Int.cast_ofNat_Int, Int.natCast_zero, Int.natCast_one, Int.reduceAdd, List.map_append, ints_at _ hil]
      refine (hp _ (List.getElem_mem hil) G).mono ?_
      rintro r H' ⟨rfl, G', rfl⟩
      simp only [go_sem, Nat.reduceEqDiff, reduceIte, ↓reduceIte, Nat.reduceAdd, List.replicate_succ, List.replicate_zero, List.set_cons_zero, List.set_cons_succ, List.length_cons, List.length_nil, Nat.reduceLT, Nat.lt_add_one, ne_eq, Int.reduceEq, not_false_eq_true, Option.map_some, Nat.reduceLeDiff, Nat.zero_lt_succ, List.map_cons, List.map_nil, List.nil_append, List.cons_append, List.append_nil, bytesOf, List.take_succ_cons, List.take_zero, List.drop_zero, and_self, List.append_assoc, List.length_append, Int.reduceLT, Int.reduceLE, Int.toNat_zero, Int.reduceToNat, Int.cast_ofNat_Int, Int.natCast_zero, Int.natCast_one, Int.reduceAdd, List.map_append]
      refine condK_split _ (fun hd => ?_) (fun hd => ?_)
      · simp only [go_sem, Nat.reduceEqDiff, reduceIte, ↓reduceIte, Nat.reduceAdd, List.replicate_succ, List.replicate_zero, List.set_cons_zero, List.set_cons_succ, List.length_cons, List.length_nil, Nat.reduceLT, Nat.lt_add_one, ne_eq, Int.reduceEq, not_false_eq_true, Option.map_some, Nat.reduceLeDiff, Nat.zero_lt_succ, List.map_cons, List.map_nil, List.nil_append, List.cons_append, List.append_nil, bytesOf, List.take_succ_cons, List.take_zero, List.drop_zero, and_self, List.append_assoc, List.length_append, Int.reduceLT, Int.reduceLE, Int.toNat_zero, Int.reduceToNat, Int.cast_ofNat_Int, Int.natCast_zero, Int.natCast_one, Int.reduceAdd, List.map_append]
        refine ⟨⟨i, rfl, ?_⟩, G ++ G', rfl⟩
        have : l.any p = true := List.any_eq_true.2 ⟨_, List.getElem_mem hil, hd⟩
        rw [this]; simp
      · simp only [go_sem, Nat.reduceEqDiff, reduceIte, ↓reduceIte, Nat.reduceAdd, List.replicate_succ, List.replicate_zero, List.set_cons_zero, List.set_cons_succ, List.length_cons, List.length_nil, Nat.reduceLT, Nat.lt_add_one, ne_eq, Int.reduceEq, not_false_eq_true, Option.map_some, Nat.reduceLeDiff, Nat.zero_lt_succ, List.map_cons, List.map_nil, List.nil_append, List.cons_append, List.append_nil, bytesOf, List.take_succ_cons, List.take_zero, List.drop_zero, and_self, List.append_assoc, List.length_append, Int.reduceLT, Int.reduceLE, Int.toNat_zero, Int.reduceToNat, Int.cast_ofNat_Int, Int.natCast_zero, Int.natCast_one, Int.reduceAdd, List.map_append]
        refine ⟨(i + 1, G ++ G'), ⟨hil, all_take (p := fun y => !p y) hil ht (by simp [hd]), ?_⟩, by simp; omega⟩
        rw [wr1 hil hl]
    · have hil : i = l.length := by simp at hc; omega
      subst hil
      rw [List.take_length] at ht
      simp only [go_sem, Nat.reduceEqDiff, reduceIte, ↓reduceIte, Nat.reduceAdd, List.replicate_succ, List.replicate_zero, List.set_cons_zero, List.set_cons_succ, List.length_cons, List.length_nil, Nat.reduceLT, Nat.lt_add_one, ne_eq, Int.reduceEq, not_false_eq_true, Option.map_some, Nat.reduceLeDiff, Nat.zero_lt_succ, List.map_cons, List.map_nil, List.nil_append, List.cons_append, List.append_nil, bytesOf, List.take_succ_cons, List.take_zero, List.drop_zero, and_self, List.append_assoc, List.length_append, Int.reduceLT, Int.reduceLE, Int.toNat_zero, Int.reduceToNat, Int.cast_ofNat_Int, Int.natCast_zero, Int.natCast_one, Int.reduceAdd, List.map_append]
      refine ⟨⟨-1, rfl, ?_⟩, G, rfl⟩
      have : l.any p = false := by
        rw [List.any_eq_false]; intro y hy
        have := List.all_eq_true.1 ht y hy
        simpa using this
      rw [this]; rfl

theorem any_not {α : Type} (l : List α) (p : α → Bool) : (l.any fun y => !p y) = !l.all p := by
  induction l with
  | nil => rfl
  | cons a l ih => simp only [List.any_cons, List.all_cons, ih, Bool.not_and]

theorem containsFn (c : CodeD) (hc : okCode c) (H : List AO) {j : Nat} (hj : H[j]? = some (.var (c.cells.map .p))) :
    ACall Try.prog 130 [.p (.l (inss c.ins)), .clo 131 [.ptr j 0]] H (fun r H' => r = .p (.b (!c.ins.all (insOk c.ins.length c.starts.length))) ∧ ∃ G, H' = H ++ G) := by
  have hjl := (List.getElem?_eq_some_iff.1 hj).1
  refine call130 (by simp) ?_
  simp only [go_sem, Nat.reduceEqDiff, reduceIte, ↓reduceIte, Nat.reduceAdd, List.replicate_succ, List.replicate_zero, List.set_cons_zero, List.set_cons_succ, List.length_cons, List.length_nil, Nat.reduceLT, Nat.lt_add_one, ne_eq, Int.reduceEq, not_false_eq_true, Option.map_some, Nat.reduceLeDiff, Nat.zero_lt_succ, List.map_cons, List.map_nil, List.nil_append, List.cons_append, List.append_nil, bytesOf, List.take_succ_cons, List.take_zero, List.drop_zero, and_self, List.append_assoc, List.length_append, Int.reduceLT, Int.reduceLE, Int.toNat_zero, Int.reduceToNat, Int.cast_ofNat_Int, Int.natCast_zero, Int.natCast_one, Int.reduceAdd, List.map_append, mc130, mr130]
  refine (indexFn c.ins hc.1 (fun x => !insOk c.ins.length c.starts.length x) 131 [.ptr j 0] H (fun x hx G => fn131 x (hc.1.2 x hx) c hc (by rw [List.getElem?_append_left hjl]; exact hj))).mono ?_
  rintro r H' ⟨⟨z, rfl, hz⟩, G, rfl⟩
  simp only [go_sem, Nat.reduceEqDiff, reduceIte, ↓reduceIte, Nat.reduceAdd, List.replicate_succ, List.replicate_zero, List.set_cons_zero, List.set_cons_succ, List.length_cons, List.length_nil, Nat.reduceLT, Nat.lt_add_one, ne_eq, Int.reduceEq, not_false_eq_true, Option.map_some, Nat.reduceLeDiff, Nat.zero_lt_succ, List.map_cons, List.map_nil, List.nil_append, List.cons_append, List.append_nil, bytesOf, List.take_succ_cons, List.take_zero, List.drop_zero, and_self, List.append_assoc, List.length_append, Int.reduceLT, Int.reduceLE, Int.toNat_zero, Int.reduceToNat, Int.cast_ofNat_Int, Int.natCast_zero, Int.natCast_one, Int.reduceAdd, List.map_append, hz]
  exact ⟨by rw [any_not], G, rfl⟩
theorem containsFnI (c : CodeD) (hc : okCode c) (H : List AO) {j : Nat} (hj : H[j]? = some (.var (c.cells.map .p))) :
    ACall Try.prog 133 [.p (.l (ints c.starts)), .clo 134 [.ptr j 0]] H (fun r H' => r = .p (.b (!c.starts.all (placeOk c))) ∧ ∃ G, H' = H ++ G) := by
  have hjl := (List.getElem?_eq_some_iff.1 hj).1
  refine call133 (by simp) ?_
  simp only [go_sem, Nat.reduceEqDiff, reduceIte, ↓reduceIte, Nat.reduceAdd, List.replicate_succ, List.replicate_zero, List.set_cons_zero, List.set_cons_succ, List.length_cons, List.length_nil, Nat.reduceLT, Nat.lt_add_one, ne_eq, Int.reduceEq, not_false_eq_true, Option.map_some, Nat.reduceLeDiff, Nat.zero_lt_succ, List.map_cons, List.map_nil, List.nil_append, List.cons_append, List.append_nil, bytesOf, List.take_succ_cons, List.take_zero, List.drop_zero, and_self, List.append_assoc, List.length_append, Int.reduceLT, Int.reduceLE, Int.toNat_zero, Int.reduceToNat, Int.cast_ofNat_Int, Int.natCast_zero, Int.natCast_one, Int.reduceAdd, List.map_append, mc133, mr133]
  refine (indexFnI c.starts hc.2 (fun x => !placeOk c x) 134 [.ptr j 0] H (fun x hx G => fn134 x c hc (by rw [List.getElem?_append_left hjl]; exact hj))).mono ?_
  rintro r H' ⟨⟨z, rfl, hz⟩, G, rfl⟩
  simp only [go_sem, Nat.reduceEqDiff, reduceIte, ↓reduceIte, Nat.reduceAdd, List.replicate_succ, List.replicate_zero, List.set_cons_zero, List.set_cons_succ, List.length_cons, List.length_nil, Nat.reduceLT, Nat.lt_add_one, ne_eq, Int.reduceEq, not_false_eq_true, Option.map_some, Nat.reduceLeDiff, Nat.zero_lt_succ, List.map_cons, List.map_nil, List.nil_append, List.cons_append, List.append_nil, bytesOf, List.take_succ_cons, List.take_zero, List.drop_zero, and_self, List.append_assoc, List.length_append, Int.reduceLT, Int.reduceLE, Int.toNat_zero, Int.reduceToNat, Int.cast_ofNat_Int, Int.natCast_zero, Int.natCast_one, Int.reduceAdd, List.map_append, hz]
  exact ⟨by rw [any_not], G, rfl⟩

theorem implCodeOk (c : CodeD) (hc : okCode c) : ACall Try.prog 74 [.st (c.cells.map .p)] [] (fun r H' => r = .p (.b (codeOk c))) := by
  have hl1 : c.ins.length ≤ 9223372036854775807 := by have := hc.1.1; unfold maxL at this; omega
  have hl2 : c.starts.length ≤ 9223372036854775807 := by have := hc.2; unfold maxL at this; omega
  refine call74 (by simp) ?_
  simp only [go_sem, Nat.reduceEqDiff, reduceIte, ↓reduceIte, Nat.reduceAdd, List.replicate_succ, List.replicate_zero, List.set_cons_zero, List.set_cons_succ, List.length_cons, List.length_nil, Nat.reduceLT, Nat.lt_add_one, ne_eq, Int.reduceEq, not_false_eq_true, Option.map_some, Nat.reduceLeDiff, Nat.zero_lt_succ, List.map_cons, List.map_nil, List.nil_append, List.cons_append, List.append_nil, bytesOf, List.take_succ_cons, List.take_zero, List.drop_zero, and_self, List.append_assoc, List.length_append, Int.reduceLT, Int.reduceLE, Int.toNat_zero, Int.reduceToNat, Int.cast_ofNat_Int, Int.natCast_zero, Int.natCast_one, Int.reduceAdd, List.map_append, mc74, mr74, CodeD.cells, inss_len, ints_len]
  intro _
  refine (within_any _ _ _).mono ?_
  rintro r H' ⟨rfl, rfl⟩
  simp only [go_sem, Nat.reduceEqDiff, reduceIte, ↓reduceIte, Nat.reduceAdd, List.replicate_succ, List.replicate_zero, List.set_cons_zero, List.set_cons_succ, List.length_cons, List.length_nil, Nat.reduceLT, Nat.lt_add_one, ne_eq, Int.reduceEq, not_false_eq_true, Option.map_some, Nat.reduceLeDiff, Nat.zero_lt_succ, List.map_cons, List.map_nil, List.nil_append, List.cons_append, List.append_nil, bytesOf, List.take_succ_cons, List.take_zero, List.drop_zero, and_self, List.append_assoc, List.length_append, Int.reduceLT, Int.reduceLE, Int.toNat_zero, Int.reduceToNat, Int.cast_ofNat_Int, Int.natCast_zero, Int.natCast_one, Int.reduceAdd, List.map_append]
  have hbad : inD c.ins.length 1 40000 = false ∨ decide ((400 : Int) < c.starts.length) = true → codeOk c = false := by
    intro h
    unfold codeOk
    rcases h with h | h
    · simp [h]
    · have : ¬ (c.starts.length : Int) ≤ 400 := by simp at h; omega
      simp [this]
  refine condK_split _ (fun h1 => ?_) (fun h1 => ?_)
  · simp only [go_sem, Nat.reduceEqDiff, reduceIte, ↓reduceIte, Nat.reduceAdd, List.replicate_succ, List.replicate_zero, List.set_cons_zero, List.set_cons_succ, List.length_cons, List.length_nil, Nat.reduceLT, Nat.lt_add_one, ne_eq, Int.reduceEq, not_false_eq_true, Option.map_some, Nat.reduceLeDiff, Nat.zero_lt_succ, List.map_cons, List.map_nil, List.nil_append, List.cons_append, List.append_nil, bytesOf, List.take_succ_cons, List.take_zero, List.drop_zero, and_self, List.append_assoc, List.length_append, Int.reduceLT, Int.reduceLE, Int.toNat_zero, Int.reduceToNat, Int.cast_ofNat_Int, Int.natCast_zero, Int.natCast_one, Int.reduceAdd, List.map_append, h1]
    rw [hbad (.inl (by simpa using h1))]
  · simp only [go_sem, Nat.reduceEqDiff, reduceIte, ↓reduceIte, Nat.reduceAdd, List.replicate_succ, List.replicate_zero, List.set_cons_zero, List.set_cons_succ, List.length_cons, List.length_nil, Nat.reduceLT, Nat.lt_add_one, ne_eq, Int.reduceEq, not_false_eq_true, Option.map_some, Nat.reduceLeDiff, Nat.zero_lt_succ, List.map_cons, List.map_nil, List.nil_append, List.cons_append, List.append_nil, bytesOf, List.take_succ_cons, List.take_zero, List.drop_zero, and_self, List.append_assoc, List.length_append, Int.reduceLT, Int.reduceLE, Int.toNat_zero, Int.reduceToNat, Int.cast_ofNat_Int, Int.natCast_zero, Int.natCast_one, Int.reduceAdd, List.map_append, h1, ints_len]
    intro _
    refine condK_split _ (fun h2 => ?_) (fun h2 => ?_)
    · simp only [go_sem, Nat.reduceEqDiff, reduceIte, ↓reduceIte, Nat.reduceAdd, List.replicate_succ, List.replicate_zero, List.set_cons_zero, List.set_cons_succ, List.length_cons, List.length_nil, Nat.reduceLT, Nat.lt_add_one, ne_eq, Int.reduceEq, not_false_eq_true, Option.map_some, Nat.reduceLeDiff, Nat.zero_lt_succ, List.map_cons, List.map_nil, List.nil_append, List.cons_append, List.append_nil, bytesOf, List.take_succ_cons, List.take_zero, List.drop_zero, and_self, List.append_assoc, List.length_append, Int.reduceLT, Int.reduceLE, Int.toNat_zero, Int.reduceToNat, Int.cast_ofNat_Int, Int.natCast_zero, Int.natCast_one, Int.reduceAdd, List.map_append]
      rw [hbad (.inr h2)]
    · simp only [go_sem, Nat.reduceEqDiff, reduceIte, ↓reduceIte, Nat.reduceAdd, List.replicate_succ, List.replicate_zero, List.set_cons_zero, List.set_cons_succ, List.length_cons, List.length_nil, Nat.reduceLT, Nat.lt_add_one, ne_eq, Int.reduceEq, not_false_eq_true, Option.map_some, Nat.reduceLeDiff, Nat.zero_lt_succ, List.map_cons, List.map_nil, List.nil_append, List.cons_append, List.append_nil, bytesOf, List.take_succ_cons, List.take_zero, List.drop_zero, and_self, List.append_assoc, List.length_append, Int.reduceLT, Int.reduceLE, Int.toNat_zero, Int.reduceToNat, Int.cast_ofNat_Int, Int.natCast_zero, Int.natCast_one, Int.reduceAdd, List.map_append]
      have hpos : 0 < c.ins.length := by simp [inD] at h1; omega
      have h1' : inD c.ins.length 1 40000 = true := by simpa using h1
      have h2' : (c.starts.length : Int) ≤ 400 := by simpa using h2
      refine (containsFn c hc _ (j := 0) rfl).mono ?_
      rintro r H' ⟨rfl, G, rfl⟩
      simp only [go_sem, Nat.reduceEqDiff, reduceIte, ↓reduceIte, Nat.reduceAdd, List.replicate_succ, List.replicate_zero, List.set_cons_zero, List.set_cons_succ, List.length_cons, List.length_nil, Nat.reduceLT, Nat.lt_add_one, ne_eq, Int.reduceEq, not_false_eq_true, Option.map_some, Nat.reduceLeDiff, Nat.zero_lt_succ, List.map_cons, List.map_nil, List.nil_append, List.cons_append, List.append_nil, bytesOf, List.take_succ_cons, List.take_zero, List.drop_zero, and_self, List.append_assoc, List.length_append, Int.reduceLT, Int.reduceLE, Int.toNat_zero, Int.reduceToNat, Int.cast_ofNat_Int, Int.natCast_zero, Int.natCast_one, Int.reduceAdd, List.map_append]
      refine condK_split _ (fun h3 => ?_) (fun h3 => ?_)
      · simp only [go_sem, Nat.reduceEqDiff, reduceIte, ↓reduceIte, Nat.reduceAdd, List.replicate_succ, List.replicate_zero, List.set_cons_zero, List.set_cons_succ, List.length_cons, List.length_nil, Nat.reduceLT, Nat.lt_add_one, ne_eq, Int.reduceEq, not_false_eq_true, Option.map_some, Nat.reduceLeDiff, Nat.zero_lt_succ, List.map_cons, List.map_nil, List.nil_append, List.cons_append, List.append_nil, bytesOf, List.take_succ_cons, List.take_zero, List.drop_zero, and_self, List.append_assoc, List.length_append, Int.reduceLT, Int.reduceLE, Int.toNat_zero, Int.reduceToNat, Int.cast_ofNat_Int, Int.natCast_zero, Int.natCast_one, Int.reduceAdd, List.map_append, h3]
        have h3' : c.ins.all (insOk c.ins.length c.starts.length) = false := by simpa using h3
        unfold codeOk
        rw [h3']; simp
      · simp only [go_sem, Nat.reduceEqDiff, reduceIte, ↓reduceIte, Nat.reduceAdd, List.replicate_succ, List.replicate_zero, List.set_cons_zero, List.set_cons_succ, List.length_cons, List.length_nil, Nat.reduceLT, Nat.lt_add_one, ne_eq, Int.reduceEq, not_false_eq_true, Option.map_some, Nat.reduceLeDiff, Nat.zero_lt_succ, List.map_cons, List.map_nil, List.nil_append, List.cons_append, List.append_nil, bytesOf, List.take_succ_cons, List.take_zero, List.drop_zero, and_self, List.append_assoc, List.length_append, Int.reduceLT, Int.reduceLE, Int.toNat_zero, Int.reduceToNat, Int.cast_ofNat_Int, Int.natCast_zero, Int.natCast_one, Int.reduceAdd, List.map_append, h3]
        have h3' : c.ins.all (insOk c.ins.length c.starts.length) = true := by simpa using h3
        refine (containsFnI c hc _ (j := 0) rfl).mono ?_
        rintro r H' ⟨rfl, G', rfl⟩
        simp only [go_sem, Nat.reduceEqDiff, reduceIte, ↓reduceIte, Nat.reduceAdd, List.replicate_succ, List.replicate_zero, List.set_cons_zero, List.set_cons_succ, List.length_cons, List.length_nil, Nat.reduceLT, Nat.lt_add_one, ne_eq, Int.reduceEq, not_false_eq_true, Option.map_some, Nat.reduceLeDiff, Nat.zero_lt_succ, List.map_cons, List.map_nil, List.nil_append, List.cons_append, List.append_nil, bytesOf, List.take_succ_cons, List.take_zero, List.drop_zero, and_self, List.append_assoc, List.length_append, Int.reduceLT, Int.reduceLE, Int.toNat_zero, Int.reduceToNat, Int.cast_ofNat_Int, Int.natCast_zero, Int.natCast_one, Int.reduceAdd, List.map_append, h3]
        refine condK_split _ (fun h4 => ?_) (fun h4 => ?_)
        · simp only [go_sem, Nat.reduceEqDiff, reduceIte, ↓reduceIte, Nat.reduceAdd, List.replicate_succ, List.replicate_zero, List.set_cons_zero, List.set_cons_succ, List.length_cons, List.length_nil, Nat.reduceLT, Nat.lt_add_one, ne_eq, Int.reduceEq, not_false_eq_true, Option.map_some, Nat.reduceLeDiff, Nat.zero_lt_succ, List.map_cons, List.map_nil, List.nil_append, List.cons_append, List.append_nil, bytesOf, List.take_succ_cons, List.take_zero, List.drop_zero, and_self, List.append_assoc, List.length_append, Int.reduceLT, Int.reduceLE, Int.toNat_zero, Int.reduceToNat, Int.cast_ofNat_Int, Int.natCast_zero, Int.natCast_one, Int.reduceAdd, List.map_append, h4]
          have h4' : c.starts.all (placeOk c) = false := by simpa using h4
          unfold codeOk
          rw [h4']; simp
        · simp only [go_sem, Nat.reduceEqDiff, reduceIte, ↓reduceIte, Nat.reduceAdd, List.replicate_succ, List.replicate_zero, List.set_cons_zero, List.set_cons_succ, List.length_cons, List.length_nil, Nat.reduceLT, Nat.lt_add_one, ne_eq, Int.reduceEq, not_false_eq_true, Option.map_some, Nat.reduceLeDiff, Nat.zero_lt_succ, List.map_cons, List.map_nil, List.nil_append, List.cons_append, List.append_nil, bytesOf, List.take_succ_cons, List.take_zero, List.drop_zero, and_self, List.append_assoc, List.length_append, Int.reduceLT, Int.reduceLE, Int.toNat_zero, Int.reduceToNat, Int.cast_ofNat_Int, Int.natCast_zero, Int.natCast_one, Int.reduceAdd, List.map_append, h4, inss_len]
          have h4' : c.starts.all (placeOk c) = true := by simpa using h4
          intro _
          rw [wr64 (by omega) (by omega)]
          have hlast : c.ins.length - 1 < c.ins.length := by omega
          have e1 : ((c.ins.length : Int) - 1) = ((c.ins.length - 1 : Nat) : Int) := by omega
          rw [e1]
          simp only [go_sem, Nat.reduceEqDiff, reduceIte, ↓reduceIte, Nat.reduceAdd, List.replicate_succ, List.replicate_zero, List.set_cons_zero, List.set_cons_succ, List.length_cons, List.length_nil, Nat.reduceLT, Nat.lt_add_one, ne_eq, Int.reduceEq, not_false_eq_true, Option.map_some, Nat.reduceLeDiff, Nat.zero_lt_succ, List.map_cons, List.map_nil, List.nil_append, List.cons_append, List.append_nil, bytesOf, List.take_succ_cons, List.take_zero, List.drop_zero, and_self, List.append_assoc, List.length_append, Int.reduceLT, Int.reduceLE, Int.toNat_zero, Int.reduceToNat, Int.cast_ofNat_Int, Int.natCast_zero, Int.natCast_one, Int.reduceAdd, List.map_append, inss_at _ hlast, InsD.cells]
          have hco : codeOk c = (decide (c.ins[c.ins.length - 1].op = 12) || decide (c.ins[c.ins.length - 1].op = 13) || decide (c.ins[c.ins.length - 1].op = 14) || decide (c.ins[c.ins.length - 1].op = 15)) := by
            unfold codeOk lastOk
            rw [h3', h4', h1', List.getElem?_eq_getElem hlast]
            simp [h2']
          rw [hco]
          repeat' (refine condK_split _ (fun hd => ?_) (fun hd => ?_) <;> simp only [go_sem, Nat.reduceEqDiff, reduceIte, ↓reduceIte, Nat.reduceAdd, List.replicate_succ, List.replicate_zero, List.set_cons_zero, List.set_cons_succ, List.length_cons, List.length_nil, Nat.reduceLT, Nat.lt_add_one, ne_eq, Int.reduceEq, not_false_eq_true, Option.map_some, Nat.reduceLeDiff, Nat.zero_lt_succ, List.map_cons, List.map_nil, List.nil_append, List.cons_append, List.append_nil, bytesOf, List.take_succ_cons, List.take_zero, List.drop_zero, and_self, List.append_assoc, List.length_append, Int.reduceLT, Int.reduceLE, Int.toNat_zero, Int.reduceToNat, Int.cast_ofNat_Int, Int.natCast_zero, Int.natCast_one, Int.reduceAdd, List.map_append, hd])
          all_goals simp_all
end Go.Proofs.Ytmbggdfceecojaa.Cd

/- Images of codes: bytes compared and marked; what an image is. -/
set_option linter.all false
namespace Go.Proofs.Ytmbggdfceecojaa.Cd
open Go.AM Mc Ho

theorem eqByteS (xs ys : List Int) (hx : xs.length ≤ maxL) (hy : ys.length ≤ maxL) : ACall Try.prog 23 [.p (.l (rowsK .u8 xs)), .p (.l (rowsK .u8 ys))] [] (fun r H => r = .p (.b (decide (xs = ys)))) := by
  refine call23 (by simp) ?_
  simp only [go_sem, Nat.reduceEqDiff, reduceIte, ↓reduceIte, Nat.reduceAdd, mc23, mr23, rowsK_len]
  intro _ _
  refine condK_split _ (fun hc => ?_) (fun hc => ?_)
  · simp only [go_sem, Nat.reduceEqDiff, reduceIte, ↓reduceIte, Nat.reduceAdd]
    have : xs ≠ ys := by rintro rfl; simp at hc
    simp [this]
  · have hl : xs.length = ys.length := by simp at hc; omega
    simp only [go_sem, Nat.reduceEqDiff, reduceIte, ↓reduceIte, Nat.reduceAdd]
    refine ⟨Nat, [0, 1, 4, 5], fun i st => i ≤ xs.length ∧ xs.take i = ys.take i ∧ st = ⟨[(0, .p (.l (rowsK .u8 xs))), (1, .p (.l (rowsK .u8 ys))), (4, .p (.b false)), (5, .p (.i .i64 i))], [], []⟩, fun i => xs.length - i, ⟨0, ?_⟩, ?_⟩
    · simp only [go_sem, Nat.reduceEqDiff, reduceIte, ↓reduceIte, Nat.reduceAdd]
      exact ⟨Nat.zero_le _, rfl, rfl⟩
    · rintro i st ⟨hi, ht, rfl⟩
      simp only [go_sem, Nat.reduceEqDiff, reduceIte, ↓reduceIte, Nat.reduceAdd, rowsK_len]
      intro _
      refine condK_split _ (fun hc => ?_) (fun hc => ?_)
      · have hil : i < xs.length := by simpa using hc
        have hiy : i < ys.length := by omega
        simp only [go_sem, Nat.reduceEqDiff, reduceIte, ↓reduceIte, Nat.reduceAdd]
        (refine drw_same ?_; simp only [go_sem, Nat.reduceEqDiff, reduceIte, ↓reduceIte, Nat.reduceAdd, rowsK_at _ _ hil, rowsK_at _ _ hiy])
        refine condK_split _ (fun hd => ?_) (fun hd => ?_)
        · simp only [go_sem, Nat.reduceEqDiff, reduceIte, ↓reduceIte, Nat.reduceAdd]
          have : xs ≠ ys := by rintro rfl; simp at hd
          simp [this]
        · simp only [go_sem, Nat.reduceEqDiff, reduceIte, ↓reduceIte, Nat.reduceAdd]
          have he : xs[i] = ys[i] := by simpa using hd
          refine ⟨i + 1, ⟨hil, ?_, ?_⟩, by omega⟩
          · rw [List.take_succ, List.take_succ, ht, List.getElem?_eq_getElem hil, List.getElem?_eq_getElem hiy, he]
          · rw [wr1 hil hx]
      · have hil : i = xs.length := by simp at hc; omega
        simp only [go_sem, Nat.reduceEqDiff, reduceIte, ↓reduceIte, Nat.reduceAdd]
        subst hil
        have : xs = ys := by
          rw [List.take_length, hl, List.take_length] at ht
          exact ht
        simp [this]
theorem eqByteS_any (xs ys : List Int) (hx : xs.length ≤ maxL) (hy : ys.length ≤ maxL) {H : List AO} {a b : AV} (ha : Lent H a (.p (.l (rowsK .u8 xs)))) (hb : Lent H b (.p (.l (rowsK .u8 ys)))) : ACall Try.prog 23 [a, b] H (fun r H' => r = .p (.b (decide (xs = ys))) ∧ H' = H) :=
  (acall_lend (eqByteS xs ys hx hy) (fun r H' h => by subst h; exact grnd_b _) (lentAll_cons ha (lentAll_cons hb (lentAll_nil _)))).mono fun r H' ⟨h1, _, h2⟩ => ⟨h2, h1⟩

/-- the pattern that marks bytes -/
def pat (k : Int) (n : Nat) : List Int := (List.range n).map fun j => wr .u8 (k + (j : Nat))
theorem pat_len (k n) : (pat k n).length = n := by simp [pat]

theorem markByteS {H : List AO} {id ver : Nat} (old : List (List AV)) (hid : H[id]? = some (.rows 1 ver old)) (h1 : ∀ r ∈ old, r.length = 1) (hn : old.length ≤ 100000000) (k : Int) (hk0 : 0 ≤ k) (hk : k ≤ 100000000) :
    ACall Try.prog 26 [.gs id ver 0 old.length, .p (.i .i64 k)] H (fun r H' => r = .p (.i .i64 (k + old.length)) ∧ H' = H.set id (.rows 1 ver (intR .u8 (pat k old.length)))) := by
  have hm : old.length ≤ maxL := by unfold maxL; omega
  refine call26 (by simp) ?_
  simp only [go_sem, Nat.reduceEqDiff, reduceIte, ↓reduceIte, Nat.reduceAdd, mc26, mr26]
  refine ⟨Nat, [0, 1, 4, 5], fun i st => i ≤ old.length ∧ st = ⟨[(0, .gs id ver 0 old.length), (1, .p (.i .i64 (k + i))), (4, .p (.i .i64 0)), (5, .p (.i .i64 i))], [], H.set id (.rows 1 ver (over (fun j => [.p (.i .u8 (wr .u8 (k + j)))]) old i))⟩, fun i => old.length - i, ⟨0, ?_⟩, ?_⟩
  · simp only [go_sem, Nat.reduceEqDiff, reduceIte, ↓reduceIte, Nat.reduceAdd]
    refine ⟨Nat.zero_le _, ?_⟩
    rw [over_zero]
    rw [set_same hid]; simp
  · rintro i st ⟨hi, rfl⟩
    simp only [go_sem, Nat.reduceEqDiff, reduceIte, ↓reduceIte, Nat.reduceAdd]
    intro _
    refine condK_split _ (fun hc => ?_) (fun hc => ?_)
    · have hil : i < old.length := by simpa using hc
      simp only [go_sem, Nat.reduceEqDiff, reduceIte, ↓reduceIte, Nat.reduceAdd, set_get hid, over_get _ _ hil]
      refine ⟨by simpa using hc, ?_⟩
      rw [stoR_at (over_get _ _ hil) (splice_one (h1 _ (List.getElem_mem hil)) _)]
      simp only [go_sem, Nat.reduceEqDiff, reduceIte, ↓reduceIte, Nat.reduceAdd]
      refine ⟨i + 1, ⟨hil, ?_⟩, by omega⟩
      rw [wr1 hil hm, wr64 (by omega) (by omega), List.set_set, over_set _ _ hil]
      simp only [Int.natCast_add, Int.natCast_one, Int.add_assoc]
    · have hil : i = old.length := by simp at hc; omega
      simp only [go_sem, Nat.reduceEqDiff, reduceIte, ↓reduceIte, Nat.reduceAdd]
      subst hil
      refine ⟨rfl, ?_⟩
      rw [over_all, intR, pat, List.map_map]
      rfl

theorem pat_get (k : Int) (n : Nat) {i : Nat} (h : i < n) : (intR .u8 (pat k n))[i]? = some [.p (.i .u8 (wr .u8 (k + i)))] := by simp [intR, pat, h]

theorem heldByteS {H : List AO} {id ver : Nat} (n : Nat) (k : Int) (hid : H[id]? = some (.rows 1 ver (intR .u8 (pat k n)))) (hn : n ≤ 100000000) (hk0 : 0 ≤ k) (hk : k ≤ 100000000) :
    ACall Try.prog 27 [.gs id ver 0 n, .p (.i .i64 k)] H (fun r H' => r = .p (.i .i64 (k + n)) ∧ H' = H) := by
  have hm : n ≤ maxL := by unfold maxL; omega
  refine call27 (by simp) ?_
  simp only [go_sem, Nat.reduceEqDiff, reduceIte, ↓reduceIte, Nat.reduceAdd, mc27, mr27]
  refine ⟨Nat, [0, 1, 4, 5], fun i st => i ≤ n ∧ st = ⟨[(0, .gs id ver 0 n), (1, .p (.i .i64 (k + i))), (4, .p (.i .i64 0)), (5, .p (.i .i64 i))], [], H⟩, fun i => n - i, ⟨0, ?_⟩, ?_⟩
  · simp only [go_sem, Nat.reduceEqDiff, reduceIte, ↓reduceIte, Nat.reduceAdd]
    exact ⟨Nat.zero_le _, by simp⟩
  · rintro i st ⟨hi, rfl⟩
    simp only [go_sem, Nat.reduceEqDiff, reduceIte, ↓reduceIte, Nat.reduceAdd]
    intro _
    refine condK_split _ (fun hc => ?_) (fun hc => ?_)
    · have hil : i < n := by simpa using hc
      simp only [go_sem, Nat.reduceEqDiff, reduceIte, ↓reduceIte, Nat.reduceAdd, List.replicate_succ, List.replicate_zero, List.set_cons_zero, List.set_cons_succ, List.length_cons, List.length_nil, Nat.reduceLT, Nat.lt_add_one, ne_eq, Int.reduceEq, not_false_eq_true, Option.map_some, Nat.reduceLeDiff, Nat.zero_lt_succ, List.map_cons, List.map_nil, List.nil_append, List.cons_append, List.append_nil, bytesOf, List.take_succ_cons, List.take_zero, List.drop_zero, and_self, List.append_assoc, List.length_append, Int.reduceLT, Int.reduceLE, Int.toNat_zero, Int.reduceToNat, Int.cast_ofNat_Int, Int.natCast_zero, Int.natCast_one, Int.reduceAdd, List.map_append, hid, pat_get k n hil]
      refine ⟨by simpa using hc, ?_⟩
      refine ⟨i + 1, ⟨hil, ?_⟩, by omega⟩
      rw [wr1 hil hm, wr64 (by omega) (by omega)]
      simp only [Int.natCast_add, Int.natCast_one, Int.add_assoc]
    · have hil : i = n := by simp at hc; omega
      simp only [go_sem, Nat.reduceEqDiff, reduceIte, ↓reduceIte, Nat.reduceAdd]
      subst hil
      rfl
end Go.Proofs.Ytmbggdfceecojaa.Cd

/- Images of codes: what an image is; by the program. -/
set_option linter.all false
namespace Go.Proofs.Ytmbggdfceecojaa.Cd
open Go.AM Mc Ho

def strI (s : List UInt8) : List Int := s.map fun c => (c.toNat : Int)
theorem bytes_strI (s : List UInt8) : bytesRows s = intR .u8 (strI s) := by
  induction s with
  | nil => rfl
  | cons c s ih => simp [bytesRows, ih, intR, strI]
def encI (n : Int) : List Int := enc (zig n)
def insB (x : InsD) : List Int := [wr .u8 x.op, wr .u8 (wr .i64 (wr .i64 (16 * x.a) + x.b)), wr .u8 x.c] ++ encI x.n ++ encI x.text.length ++ strI x.text
def headB (c : CodeD) : List Int := [77, 78, 1] ++ encI c.starts.length ++ encI c.ins.length
def bodyB (c : CodeD) : List Int := headB c ++ c.starts.flatMap encI ++ c.ins.flatMap insB
def imgB (c : CodeD) : List Int := bodyB c ++ sumB (bodyB c)
def putD (c : CodeD) : List Int := if codeOk c = true ∧ (imgB c).length ≤ 200000 then imgB c else []

def rng (n : Int) : Prop := -9223372036854775808 ≤ n ∧ n ≤ 9223372036854775807
def rngCode (c : CodeD) : Prop := (∀ n ∈ c.starts, rng n) ∧ ∀ x ∈ c.ins, rng x.n

theorem rng_len {n : Nat} (h : n ≤ maxL) : rng n := by unfold maxL at h; unfold rng; omega
theorem encI_len {n : Int} (h : rng n) : (encI n).length ≤ 10 := enc10 h.1 h.2
theorem encI_byte (n : Int) : isB (encI n) := enc_byte _
theorem isB_app {a b : List Int} (ha : isB a) (hb : isB b) : isB (a ++ b) := fun x hx => (List.mem_append.1 hx).elim (ha x) (hb x)
theorem isB_str (s : List UInt8) : isB (strI s) := by
  intro b hb
  obtain ⟨c, _, rfl⟩ := List.mem_map.1 hb
  have := c.toNat_lt; omega
theorem isB_ins (x : InsD) : isB (insB x) := by
  refine isB_app (isB_app (isB_app ?_ (encI_byte _)) (encI_byte _)) (isB_str _)
  intro b hb
  simp only [List.mem_cons, List.not_mem_nil, or_false] at hb
  rcases hb with rfl | rfl | rfl <;> rw [wr_u8] <;> omega
theorem isB_flat {α : Type} (f : α → List Int) (h : ∀ a, isB (f a)) (l : List α) : isB (l.flatMap f) := by
  intro b hb
  obtain ⟨a, _, hb⟩ := List.mem_flatMap.1 hb
  exact h a b hb
theorem isB_body (c : CodeD) : isB (bodyB c) := by
  refine isB_app (isB_app (isB_app (isB_app ?_ (encI_byte _)) (encI_byte _)) (isB_flat _ encI_byte _)) (isB_flat _ isB_ins _)
  intro b hb
  simp at hb; omega

theorem flat_take {α : Type} (f : α → List Int) {l : List α} {i : Nat} (h : i < l.length) : (l.take (i + 1)).flatMap f = (l.take i).flatMap f ++ f l[i] := by
  rw [List.take_succ, List.flatMap_append, List.getElem?_eq_getElem h]; simp
theorem flat_enc_len (l : List Int) (h : ∀ n ∈ l, rng n) : (l.flatMap encI).length ≤ 10 * l.length := by
  induction l with
  | nil => simp
  | cons n l ih =>
    have h1 := encI_len (h n (by simp))
    have h2 := ih (fun m hm => h m (List.mem_cons_of_mem _ hm))
    simp only [List.flatMap_cons, List.length_append, List.length_cons]; omega
theorem insB_len (x : InsD) (h : rng x.n) (ht : x.text.length ≤ maxL) : (insB x).length ≤ 23 + x.text.length := by
  have h1 := encI_len h
  have h2 := encI_len (rng_len ht)
  simp [insB, strI]; omega
theorem flat_ins_len (l : List InsD) (h : ∀ x ∈ l, rng x.n ∧ x.text.length ≤ maxL) : (l.flatMap insB).length ≤ 23 * l.length + texts l := by
  induction l with
  | nil => simp [texts]
  | cons x l ih =>
    have h1 := insB_len x (h x (by simp)).1 (h x (by simp)).2
    have h2 := ih (fun m hm => h m (List.mem_cons_of_mem _ hm))
    simp only [List.flatMap_cons, List.length_append, List.length_cons, texts]; omega
theorem texts_take_le (l : List InsD) (i : Nat) : texts (l.take i) ≤ texts l := by
  induction l generalizing i with
  | nil => simp
  | cons x l ih =>
    cases i with
    | zero => simp [texts]
    | succ i => simp [texts]; exact ih i

/-- how much room is wanted at most -/
structure Fits (c : CodeD) : Prop where
  ok : okCode c
  sm : small c
  rg : rngCode c
theorem Fits.head {c : CodeD} (h : Fits c) : (headB c).length ≤ 23 := by
  have h1 := encI_len (rng_len h.ok.2)
  have h2 := encI_len (rng_len h.ok.1.1)
  simp [headB]; omega
theorem Fits.starts {c : CodeD} (h : Fits c) (i : Nat) : ((c.starts.take i).flatMap encI).length ≤ 10485760 := by
  have h1 := flat_enc_len (c.starts.take i) (fun n hn => h.rg.1 n (List.mem_of_mem_take hn))
  have h2 := h.sm
  unfold small at h2
  have : (c.starts.take i).length ≤ c.starts.length := by simp; omega
  omega
theorem Fits.ins {c : CodeD} (h : Fits c) (i : Nat) : ((c.ins.take i).flatMap insB).length ≤ 25165824 := by
  have h1 := flat_ins_len (c.ins.take i) (fun x hx => ⟨h.rg.2 x (List.mem_of_mem_take hx), h.ok.1.2 x (List.mem_of_mem_take hx)⟩)
  have h2 := h.sm
  unfold small at h2
  have h3 : (c.ins.take i).length ≤ c.ins.length := by simp; omega
  have h4 := texts_take_le c.ins i
  omega
theorem Fits.text {c : CodeD} (h : Fits c) {x : InsD} (hx : x ∈ c.ins) : x.text.length ≤ 1048576 := by
  have key : ∀ l : List InsD, x ∈ l → x.text.length ≤ texts l := by
    intro l
    induction l with
    | nil => intro h; cases h
    | cons y l ih =>
      intro hx
      rcases List.mem_cons.1 hx with rfl | hx
      · simp [texts]
      · have := ih hx; simp [texts]; omega
  have h1 := key _ hx
  have h2 := h.sm
  unfold small at h2
  omega

/-- a slice that is owned, as its caller's -/
theorem own_result {f : Nat} {xs bs : List AV} {H : List AO} {k : IntKind} {zs : List Int} (h : ACall Try.prog f bs [] (fun r H' => OwnR H' r 1 (intR k zs))) (hl : LentAll H xs bs) :
    ACall Try.prog f xs H (fun r H' => (zs = [] ∧ r = .p .nl ∧ H' = H) ∨ ∃ ver, r = .gs H.length ver 0 zs.length ∧ H' = H ++ [.rows 1 ver (intR k zs)]) := by
  refine acall_own h hl ?_
  rintro r H0 (⟨rfl, he⟩ | ⟨id, ver, rfl, hid⟩)
  · have hz : zs = [] := by simpa [intR] using he
    exact own_g (H := H) (R := fun (r : AV) (H' : List AO) => (zs = [] ∧ r = .p .nl ∧ H' = H) ∨ ∃ ver, r = .gs H.length ver 0 zs.length ∧ H' = H ++ [.rows 1 ver (intR k zs)]) grnd_nl (.inl ⟨hz, rfl, rfl⟩)
  · rw [intR_len]
    exact own_gs (H := H) (R := fun (r : AV) (H' : List AO) => (zs = [] ∧ r = .p .nl ∧ H' = H) ∨ ∃ ver, r = .gs H.length ver 0 zs.length ∧ H' = H ++ [.rows 1 ver (intR k zs)]) hid (grnd_intR _ _) (.inr ⟨ver, rfl, rfl⟩)

theorem own_var {H : List AO} {a : AV} {sz : Nat} {rs : List (List AV)} {j : Nat} {cs : List AV} (h : OwnR H a sz rs) (hj : H[j]? = some (.var cs)) : ∀ ver off n, a ≠ .gs j ver off n := by
  rintro ver off n rfl
  rcases h with ⟨h, _⟩ | ⟨id, v, h1, h2⟩
  · cases h
  · cases h1; rw [h2] at hj; cases hj
theorem kept_var {H H' : List AO} {a : AV} {sz : Nat} {rs : List (List AV)} {j : Nat} {cs : List AV} (hk : Kept a H H') (h : OwnR H a sz rs) (hj : H[j]? = some (.var cs)) : H'[j]? = some (.var cs) :=
  hk.2 j _ hj (own_var h hj)
theorem intR_take (k : IntKind) (zs : List Int) : List.take zs.length (intR k zs) = intR k zs := List.take_of_length_le (by simp [intR])

theorem rows_src (k : IntKind) (zs : List Int) : (rowsK k zs).map (·.map AV.p) = intR k zs := by simp [rowsK, intR]

theorem mark0 : ACall Try.prog 75 [] [] (fun r H' => r = .gs 0 0 0 3 ∧ H' = [.rows 1 0 (intR .u8 [77, 78, 1])]) := by
  refine call75 (by simp) ?_
  simp only [go_sem, Nat.reduceEqDiff, reduceIte, ↓reduceIte, Nat.reduceAdd, List.replicate_succ, List.replicate_zero, List.set_cons_zero, List.set_cons_succ, List.length_cons, List.length_nil, Nat.reduceLT, Nat.lt_add_one, ne_eq, Int.reduceEq, not_false_eq_true, Option.map_some, Nat.reduceLeDiff, Nat.zero_lt_succ, List.map_cons, List.map_nil, List.nil_append, List.cons_append, List.append_nil, bytesOf, List.take_succ_cons, List.take_zero, List.drop_zero, and_self, List.append_assoc, List.length_append, Int.reduceLT, Int.reduceLE, Int.toNat_zero, Int.reduceToNat, Int.cast_ofNat_Int, Int.natCast_zero, Int.natCast_one, Int.reduceAdd, List.map_append, mc75, mr75]
  rfl

theorem implPut0 (c : CodeD) (hf : Fits c) : ACall Try.prog 22 [.st (c.cells.map .p)] [] (fun r H' => OwnR H' r 1 (intR .u8 (putD c))) := by
  have hsm := hf.sm
  unfold small at hsm
  have hok : okCode c := hf.ok
  refine call22 (by simp) ?_
  simp only [go_sem, Nat.reduceEqDiff, reduceIte, ↓reduceIte, Nat.reduceAdd, List.replicate_succ, List.replicate_zero, List.set_cons_zero, List.set_cons_succ, List.length_cons, List.length_nil, Nat.reduceLT, Nat.lt_add_one, ne_eq, Int.reduceEq, not_false_eq_true, Option.map_some, Nat.reduceLeDiff, Nat.zero_lt_succ, List.map_cons, List.map_nil, List.nil_append, List.cons_append, List.append_nil, bytesOf, List.take_succ_cons, List.take_zero, List.drop_zero, and_self, List.append_assoc, List.length_append, Int.reduceLT, Int.reduceLE, Int.toNat_zero, Int.reduceToNat, Int.cast_ofNat_Int, Int.natCast_zero, Int.natCast_one, Int.reduceAdd, List.map_append, mc22, mr22, CodeD.cells]
  rw [code_eta]
  refine (acall_lend (implCodeOk c hf.ok) (fun r H' h => by subst h; exact grnd_b _) (lentAll_cons (code_lent c) (lentAll_nil _))).mono ?_
  rintro r H' ⟨rfl, _, rfl⟩
  simp only [go_sem, Nat.reduceEqDiff, reduceIte, ↓reduceIte, Nat.reduceAdd, List.replicate_succ, List.replicate_zero, List.set_cons_zero, List.set_cons_succ, List.length_cons, List.length_nil, Nat.reduceLT, Nat.lt_add_one, ne_eq, Int.reduceEq, not_false_eq_true, Option.map_some, Nat.reduceLeDiff, Nat.zero_lt_succ, List.map_cons, List.map_nil, List.nil_append, List.cons_append, List.append_nil, bytesOf, List.take_succ_cons, List.take_zero, List.drop_zero, and_self, List.append_assoc, List.length_append, Int.reduceLT, Int.reduceLE, Int.toNat_zero, Int.reduceToNat, Int.cast_ofNat_Int, Int.natCast_zero, Int.natCast_one, Int.reduceAdd, List.map_append]
  refine condK_split _ (fun hco => ?_) (fun hco => ?_)
  · simp only [go_sem, Nat.reduceEqDiff, reduceIte, ↓reduceIte, Nat.reduceAdd, List.replicate_succ, List.replicate_zero, List.set_cons_zero, List.set_cons_succ, List.length_cons, List.length_nil, Nat.reduceLT, Nat.lt_add_one, ne_eq, Int.reduceEq, not_false_eq_true, Option.map_some, Nat.reduceLeDiff, Nat.zero_lt_succ, List.map_cons, List.map_nil, List.nil_append, List.cons_append, List.append_nil, bytesOf, List.take_succ_cons, List.take_zero, List.drop_zero, and_self, List.append_assoc, List.length_append, Int.reduceLT, Int.reduceLE, Int.toNat_zero, Int.reduceToNat, Int.cast_ofNat_Int, Int.natCast_zero, Int.natCast_one, Int.reduceAdd, List.map_append]
    have : codeOk c = false := by simpa using hco
    refine .inl ⟨rfl, ?_⟩
    simp [putD, this, intR]
  · have hco' : codeOk c = true := by simpa using hco
    simp only [go_sem, Nat.reduceEqDiff, reduceIte, ↓reduceIte, Nat.reduceAdd, List.replicate_succ, List.replicate_zero, List.set_cons_zero, List.set_cons_succ, List.length_cons, List.length_nil, Nat.reduceLT, Nat.lt_add_one, ne_eq, Int.reduceEq, not_false_eq_true, Option.map_some, Nat.reduceLeDiff, Nat.zero_lt_succ, List.map_cons, List.map_nil, List.nil_append, List.cons_append, List.append_nil, bytesOf, List.take_succ_cons, List.take_zero, List.drop_zero, and_self, List.append_assoc, List.length_append, Int.reduceLT, Int.reduceLE, Int.toNat_zero, Int.reduceToNat, Int.cast_ofNat_Int, Int.natCast_zero, Int.natCast_one, Int.reduceAdd, List.map_append]
    refine drw_same ?_
    simp only [go_sem, Nat.reduceEqDiff, reduceIte, ↓reduceIte, Nat.reduceAdd, List.replicate_succ, List.replicate_zero, List.set_cons_zero, List.set_cons_succ, List.length_cons, List.length_nil, Nat.reduceLT, Nat.lt_add_one, ne_eq, Int.reduceEq, not_false_eq_true, Option.map_some, Nat.reduceLeDiff, Nat.zero_lt_succ, List.map_cons, List.map_nil, List.nil_append, List.cons_append, List.append_nil, bytesOf, List.take_succ_cons, List.take_zero, List.drop_zero, and_self, List.append_assoc, List.length_append, Int.reduceLT, Int.reduceLE, Int.toNat_zero, Int.reduceToNat, Int.cast_ofNat_Int, Int.natCast_zero, Int.natCast_one, Int.reduceAdd, List.map_append]
    refine pcall_new (.rows 1 0 (intR .u8 [77, 78, 1])) (fun j => .gs j 0 0 3) (acall_at mark0 (lentAll_nil _) ?_) ?_
    · rintro r H0 ⟨rfl, rfl⟩
      exact ⟨0, _, rfl, fun j => ⟨.gs 0 0 0 0 3 rfl, renO_g (grnd_intR _ _)⟩⟩
    simp only [go_sem, Nat.reduceEqDiff, reduceIte, ↓reduceIte, Nat.reduceAdd, List.replicate_succ, List.replicate_zero, List.set_cons_zero, List.set_cons_succ, List.length_cons, List.length_nil, Nat.reduceLT, Nat.lt_add_one, ne_eq, Int.reduceEq, not_false_eq_true, Option.map_some, Nat.reduceLeDiff, Nat.zero_lt_succ, List.map_cons, List.map_nil, List.nil_append, List.cons_append, List.append_nil, bytesOf, List.take_succ_cons, List.take_zero, List.drop_zero, and_self, List.append_assoc, List.length_append, Int.reduceLT, Int.reduceLE, Int.toNat_zero, Int.reduceToNat, Int.cast_ofNat_Int, Int.natCast_zero, Int.natCast_one, Int.reduceAdd, List.map_append, CodeD.cells, ints_len]
    refine (putShortI _ (rng_len hok.2).1 (rng_len hok.2).2).mono ?_
    rintro r H' ⟨rfl, rfl⟩
    have hl1 := encI_len (rng_len hok.2)
    have hl2 := encI_len (rng_len hok.1.1)
    have ho0 : OwnR [.var [.p (.l (inss c.ins)), .p (.l (ints c.starts))], .rows 1 0 (intR .u8 [77, 78, 1])] (.gs 1 0 0 3) 1 (intR .u8 [77, 78, 1]) := .inr ⟨1, 0, rfl, rfl⟩
    have hv0 : [AO.var [.p (.l (inss c.ins)), .p (.l (ints c.starts))], .rows 1 0 (intR .u8 [77, 78, 1])][0]? = some (.var [.p (.l (inss c.ins)), .p (.l (ints c.starts))]) := rfl
    generalize [AO.var [.p (.l (inss c.ins)), .p (.l (ints c.starts))], .rows 1 0 (intR .u8 [77, 78, 1])] = H0 at ho0 hv0 ⊢
    generalize AV.gs 1 0 0 3 = a0 at ho0 ⊢
    simp only [go_sem, Nat.reduceEqDiff, reduceIte, ↓reduceIte, Nat.reduceAdd, List.replicate_succ, List.replicate_zero, List.set_cons_zero, List.set_cons_succ, List.length_cons, List.length_nil, Nat.reduceLT, Nat.lt_add_one, ne_eq, Int.reduceEq, not_false_eq_true, Option.map_some, Nat.reduceLeDiff, Nat.zero_lt_succ, List.map_cons, List.map_nil, List.nil_append, List.cons_append, List.append_nil, bytesOf, List.take_succ_cons, List.take_zero, List.drop_zero, and_self, List.append_assoc, List.length_append, Int.reduceLT, Int.reduceLE, Int.toNat_zero, Int.reduceToNat, Int.cast_ofNat_Int, Int.natCast_zero, Int.natCast_one, Int.reduceAdd, List.map_append, rows_src]
    refine ⟨intR_len1 _ _, app_own ho0 (by simp [intR_len]; unfold encI at hl1; omega) (by simp [intR_len]; unfold encI at hl1; omega) fun a1 H1 ho1 hk1 _ => ?_⟩
    have hv1 : H1[0]? = some (.var [.p (.l (inss c.ins)), .p (.l (ints c.starts))]) := kept_var hk1 ho0 hv0
    rw [intR_app] at ho1
    simp only [go_sem, Nat.reduceEqDiff, reduceIte, ↓reduceIte, Nat.reduceAdd, List.replicate_succ, List.replicate_zero, List.set_cons_zero, List.set_cons_succ, List.length_cons, List.length_nil, Nat.reduceLT, Nat.lt_add_one, ne_eq, Int.reduceEq, not_false_eq_true, Option.map_some, Nat.reduceLeDiff, Nat.zero_lt_succ, List.map_cons, List.map_nil, List.nil_append, List.cons_append, List.append_nil, bytesOf, List.take_succ_cons, List.take_zero, List.drop_zero, and_self, List.append_assoc, List.length_append, Int.reduceLT, Int.reduceLE, Int.toNat_zero, Int.reduceToNat, Int.cast_ofNat_Int, Int.natCast_zero, Int.natCast_one, Int.reduceAdd, List.map_append, hv1, inss_len]
    intro _
    refine (putShortI _ (rng_len hok.1.1).1 (rng_len hok.1.1).2).mono ?_
    rintro r H' ⟨rfl, rfl⟩
    simp only [go_sem, Nat.reduceEqDiff, reduceIte, ↓reduceIte, Nat.reduceAdd, List.replicate_succ, List.replicate_zero, List.set_cons_zero, List.set_cons_succ, List.length_cons, List.length_nil, Nat.reduceLT, Nat.lt_add_one, ne_eq, Int.reduceEq, not_false_eq_true, Option.map_some, Nat.reduceLeDiff, Nat.zero_lt_succ, List.map_cons, List.map_nil, List.nil_append, List.cons_append, List.append_nil, bytesOf, List.take_succ_cons, List.take_zero, List.drop_zero, and_self, List.append_assoc, List.length_append, Int.reduceLT, Int.reduceLE, Int.toNat_zero, Int.reduceToNat, Int.cast_ofNat_Int, Int.natCast_zero, Int.natCast_one, Int.reduceAdd, List.map_append, rows_src]
    refine ⟨intR_len1 _ _, app_own ho1 (by simp [intR_len]; unfold encI at hl1 hl2; omega) (by simp [intR_len]; unfold encI at hl1 hl2; omega) fun a2 H2 ho2 hk2 _ => ?_⟩
    have hv2 : H2[0]? = some (.var [.p (.l (inss c.ins)), .p (.l (ints c.starts))]) := kept_var hk2 ho1 hv1
    rw [intR_app] at ho2
    have ho2' : OwnR H2 a2 1 (intR .u8 (headB c)) := ho2
    clear ho2 ho1 hk1 hk2 ho0 hv1 hv0
    simp only [go_sem, Nat.reduceEqDiff, reduceIte, ↓reduceIte, Nat.reduceAdd, List.replicate_succ, List.replicate_zero, List.set_cons_zero, List.set_cons_succ, List.length_cons, List.length_nil, Nat.reduceLT, Nat.lt_add_one, ne_eq, Int.reduceEq, not_false_eq_true, Option.map_some, Nat.reduceLeDiff, Nat.zero_lt_succ, List.map_cons, List.map_nil, List.nil_append, List.cons_append, List.append_nil, bytesOf, List.take_succ_cons, List.take_zero, List.drop_zero, and_self, List.append_assoc, List.length_append, Int.reduceLT, Int.reduceLE, Int.toNat_zero, Int.reduceToNat, Int.cast_ofNat_Int, Int.natCast_zero, Int.natCast_one, Int.reduceAdd, List.map_append, hv2, ints_len]
    intro _
    have hhead := hf.head
    refine ⟨Nat × AV × List AO, [0, 1, 2, 3, 24, 25, 26], fun x st => x.1 ≤ c.starts.length ∧ OwnR x.2.2 x.2.1 1 (intR .u8 (headB c ++ (c.starts.take x.1).flatMap encI)) ∧ x.2.2[0]? = some (.var [.p (.l (inss c.ins)), .p (.l (ints c.starts))]) ∧
      st = ⟨[(0, .st [.p (.l (inss c.ins)), .p (.l (ints c.starts))]), (1, .ptr 0 0), (2, .p .nl), (3, x.2.1), (24, .p (.l (ints c.starts))), (25, .p (.i .i64 c.starts.length)), (26, .p (.i .i64 x.1))], [], x.2.2⟩, fun x => c.starts.length - x.1, ⟨⟨0, a2, H2⟩, ?_⟩, ?_⟩
    · simp only [go_sem, Nat.reduceEqDiff, reduceIte, ↓reduceIte, Nat.reduceAdd, List.replicate_succ, List.replicate_zero, List.set_cons_zero, List.set_cons_succ, List.length_cons, List.length_nil, Nat.reduceLT, Nat.lt_add_one, ne_eq, Int.reduceEq, not_false_eq_true, Option.map_some, Nat.reduceLeDiff, Nat.zero_lt_succ, List.map_cons, List.map_nil, List.nil_append, List.cons_append, List.append_nil, bytesOf, List.take_succ_cons, List.take_zero, List.drop_zero, and_self, List.append_assoc, List.length_append, Int.reduceLT, Int.reduceLE, Int.toNat_zero, Int.reduceToNat, Int.cast_ofNat_Int, Int.natCast_zero, Int.natCast_one, Int.reduceAdd, List.map_append]
      exact ⟨Nat.zero_le _, by simpa using ho2', hv2⟩
    clear hv2 ho2'
    rintro ⟨i, a, H⟩ st ⟨hi, ho, hv, rfl⟩
    simp only at hi ho hv
    simp only [go_sem, Nat.reduceEqDiff, reduceIte, ↓reduceIte, Nat.reduceAdd, List.replicate_succ, List.replicate_zero, List.set_cons_zero, List.set_cons_succ, List.length_cons, List.length_nil, Nat.reduceLT, Nat.lt_add_one, ne_eq, Int.reduceEq, not_false_eq_true, Option.map_some, Nat.reduceLeDiff, Nat.zero_lt_succ, List.map_cons, List.map_nil, List.nil_append, List.cons_append, List.append_nil, bytesOf, List.take_succ_cons, List.take_zero, List.drop_zero, and_self, List.append_assoc, List.length_append, Int.reduceLT, Int.reduceLE, Int.toNat_zero, Int.reduceToNat, Int.cast_ofNat_Int, Int.natCast_zero, Int.natCast_one, Int.reduceAdd, List.map_append]
    refine condK_split _ (fun hd => ?_) (fun hd => ?_)
    · have hil : i < c.starts.length := by simpa using hd
      have hr := hf.rg.1 _ (List.getElem_mem hil)
      simp only [go_sem, Nat.reduceEqDiff, reduceIte, ↓reduceIte, Nat.reduceAdd, List.replicate_succ, List.replicate_zero, List.set_cons_zero, List.set_cons_succ, List.length_cons, List.length_nil, Nat.reduceLT, Nat.lt_add_one, ne_eq, Int.reduceEq, not_false_eq_true, Option.map_some, Nat.reduceLeDiff, Nat.zero_lt_succ, List.map_cons, List.map_nil, List.nil_append, List.cons_append, List.append_nil, bytesOf, List.take_succ_cons, List.take_zero, List.drop_zero, and_self, List.append_assoc, List.length_append, Int.reduceLT, Int.reduceLE, Int.toNat_zero, Int.reduceToNat, Int.cast_ofNat_Int, Int.natCast_zero, Int.natCast_one, Int.reduceAdd, List.map_append, ints_at _ hil]
      refine (putShortI _ hr.1 hr.2).mono ?_
      rintro r H' ⟨rfl, rfl⟩
      have h1 := hf.starts i
      have h2 := encI_len hr
      simp only [go_sem, Nat.reduceEqDiff, reduceIte, ↓reduceIte, Nat.reduceAdd, List.replicate_succ, List.replicate_zero, List.set_cons_zero, List.set_cons_succ, List.length_cons, List.length_nil, Nat.reduceLT, Nat.lt_add_one, ne_eq, Int.reduceEq, not_false_eq_true, Option.map_some, Nat.reduceLeDiff, Nat.zero_lt_succ, List.map_cons, List.map_nil, List.nil_append, List.cons_append, List.append_nil, bytesOf, List.take_succ_cons, List.take_zero, List.drop_zero, and_self, List.append_assoc, List.length_append, Int.reduceLT, Int.reduceLE, Int.toNat_zero, Int.reduceToNat, Int.cast_ofNat_Int, Int.natCast_zero, Int.natCast_one, Int.reduceAdd, List.map_append, rows_src]
      refine ⟨intR_len1 _ _, app_own ho (by simp only [intR_len, List.length_append]; unfold encI at h1 h2; unfold encI; omega) (by simp only [intR_len, List.length_append]; unfold encI at h1 h2; unfold encI; omega) fun a3 H3 ho3 hk3 _ => ?_⟩
      have hv3 : H3[0]? = some (.var [.p (.l (inss c.ins)), .p (.l (ints c.starts))]) := kept_var hk3 ho hv
      simp only [go_sem, Nat.reduceEqDiff, reduceIte, ↓reduceIte, Nat.reduceAdd, List.replicate_succ, List.replicate_zero, List.set_cons_zero, List.set_cons_succ, List.length_cons, List.length_nil, Nat.reduceLT, Nat.lt_add_one, ne_eq, Int.reduceEq, not_false_eq_true, Option.map_some, Nat.reduceLeDiff, Nat.zero_lt_succ, List.map_cons, List.map_nil, List.nil_append, List.cons_append, List.append_nil, bytesOf, List.take_succ_cons, List.take_zero, List.drop_zero, and_self, List.append_assoc, List.length_append, Int.reduceLT, Int.reduceLE, Int.toNat_zero, Int.reduceToNat, Int.cast_ofNat_Int, Int.natCast_zero, Int.natCast_one, Int.reduceAdd, List.map_append]
      refine ⟨(i + 1, a3, H3), ⟨hil, ?_, hv3, ?_⟩, by simp only; omega⟩
      · rw [intR_app] at ho3
        rw [flat_take _ hil, ← List.append_assoc]; exact ho3
      · rw [wr1 hil hok.2]
    have hil : i = c.starts.length := by simp at hd; omega
    subst hil
    rw [List.take_length] at ho
    simp only [go_sem, Nat.reduceEqDiff, reduceIte, ↓reduceIte, Nat.reduceAdd, List.replicate_succ, List.replicate_zero, List.set_cons_zero, List.set_cons_succ, List.length_cons, List.length_nil, Nat.reduceLT, Nat.lt_add_one, ne_eq, Int.reduceEq, not_false_eq_true, Option.map_some, Nat.reduceLeDiff, Nat.zero_lt_succ, List.map_cons, List.map_nil, List.nil_append, List.cons_append, List.append_nil, bytesOf, List.take_succ_cons, List.take_zero, List.drop_zero, and_self, List.append_assoc, List.length_append, Int.reduceLT, Int.reduceLE, Int.toNat_zero, Int.reduceToNat, Int.cast_ofNat_Int, Int.natCast_zero, Int.natCast_one, Int.reduceAdd, List.map_append, hv, inss_len]
    intro _
    refine ⟨Nat × AV × List AO, [0, 1, 2, 3, 36, 37, 38], fun x st => x.1 ≤ c.ins.length ∧ OwnR x.2.2 x.2.1 1 (intR .u8 (headB c ++ c.starts.flatMap encI ++ (c.ins.take x.1).flatMap insB)) ∧ x.2.2[0]? = some (.var [.p (.l (inss c.ins)), .p (.l (ints c.starts))]) ∧
      st = ⟨[(0, .st [.p (.l (inss c.ins)), .p (.l (ints c.starts))]), (1, .ptr 0 0), (2, .p .nl), (3, x.2.1), (36, .p (.l (inss c.ins))), (37, .p (.i .i64 c.ins.length)), (38, .p (.i .i64 x.1))], [], x.2.2⟩, fun x => c.ins.length - x.1, ⟨⟨0, a, H⟩, ?_⟩, ?_⟩
    · simp only [go_sem, Nat.reduceEqDiff, reduceIte, ↓reduceIte, Nat.reduceAdd, List.replicate_succ, List.replicate_zero, List.set_cons_zero, List.set_cons_succ, List.length_cons, List.length_nil, Nat.reduceLT, Nat.lt_add_one, ne_eq, Int.reduceEq, not_false_eq_true, Option.map_some, Nat.reduceLeDiff, Nat.zero_lt_succ, List.map_cons, List.map_nil, List.nil_append, List.cons_append, List.append_nil, bytesOf, List.take_succ_cons, List.take_zero, List.drop_zero, and_self, List.append_assoc, List.length_append, Int.reduceLT, Int.reduceLE, Int.toNat_zero, Int.reduceToNat, Int.cast_ofNat_Int, Int.natCast_zero, Int.natCast_one, Int.reduceAdd, List.map_append]
      exact ⟨Nat.zero_le _, by simpa using ho, hv⟩
    clear ho hv
    rintro ⟨i, a, H⟩ st ⟨hi, ho, hv, rfl⟩
    simp only at hi ho hv
    have hst := hf.starts c.starts.length
    rw [List.take_length] at hst
    simp only [go_sem, Nat.reduceEqDiff, reduceIte, ↓reduceIte, Nat.reduceAdd, List.replicate_succ, List.replicate_zero, List.set_cons_zero, List.set_cons_succ, List.length_cons, List.length_nil, Nat.reduceLT, Nat.lt_add_one, ne_eq, Int.reduceEq, not_false_eq_true, Option.map_some, Nat.reduceLeDiff, Nat.zero_lt_succ, List.map_cons, List.map_nil, List.nil_append, List.cons_append, List.append_nil, bytesOf, List.take_succ_cons, List.take_zero, List.drop_zero, and_self, List.append_assoc, List.length_append, Int.reduceLT, Int.reduceLE, Int.toNat_zero, Int.reduceToNat, Int.cast_ofNat_Int, Int.natCast_zero, Int.natCast_one, Int.reduceAdd, List.map_append]
    refine condK_split _ (fun hd => ?_) (fun hd => ?_)
    · have hil : i < c.ins.length := by simpa using hd
      simp only [go_sem, Nat.reduceEqDiff, reduceIte, ↓reduceIte, Nat.reduceAdd, List.replicate_succ, List.replicate_zero, List.set_cons_zero, List.set_cons_succ, List.length_cons, List.length_nil, Nat.reduceLT, Nat.lt_add_one, ne_eq, Int.reduceEq, not_false_eq_true, Option.map_some, Nat.reduceLeDiff, Nat.zero_lt_succ, List.map_cons, List.map_nil, List.nil_append, List.cons_append, List.append_nil, bytesOf, List.take_succ_cons, List.take_zero, List.drop_zero, and_self, List.append_assoc, List.length_append, Int.reduceLT, Int.reduceLE, Int.toNat_zero, Int.reduceToNat, Int.cast_ofNat_Int, Int.natCast_zero, Int.natCast_one, Int.reduceAdd, List.map_append, inss_at _ hil, ins_clen, ins_take, InsD.cells]
      have hxm := List.getElem_mem hil
      have hr := hf.rg.2 _ hxm
      have ht := hf.text hxm
      have htl : c.ins[i].text.length ≤ maxL := hok.1.2 _ hxm
      have hfi := hf.ins i
      have hn10 := encI_len hr
      have ht10 := encI_len (rng_len htl)
      unfold encI at hn10 ht10
      refine ⟨by simp, app_own ho.ext (by simp only [intR_len, List.length_append, List.length_cons, List.length_nil]; omega) (by simp only [intR_len, List.length_append, List.length_cons, List.length_nil]; omega) fun a3 H3 ho3 hk3 _ => ?_⟩
      have hv3 : H3[0]? = some (.var [.p (.l (inss c.ins)), .p (.l (ints c.starts))]) := kept_var hk3 ho.ext (by rw [List.getElem?_append_left (List.getElem?_eq_some_iff.1 hv).1]; exact hv)
      have hx3 := kept_var (j := H.length) hk3 ho.ext (get_off0 _ _)
      rw [show [[AV.p (.i .u8 (wr .u8 c.ins[i].op))], [AV.p (.i .u8 (wr .u8 (wr .i64 (wr .i64 (16 * c.ins[i].a) + c.ins[i].b))))], [AV.p (.i .u8 (wr .u8 c.ins[i].c))]] = intR .u8 [wr .u8 c.ins[i].op, wr .u8 (wr .i64 (wr .i64 (16 * c.ins[i].a) + c.ins[i].b)), wr .u8 c.ins[i].c] from rfl, intR_app] at ho3
      simp only [go_sem, Nat.reduceEqDiff, reduceIte, ↓reduceIte, Nat.reduceAdd, List.replicate_succ, List.replicate_zero, List.set_cons_zero, List.set_cons_succ, List.length_cons, List.length_nil, Nat.reduceLT, Nat.lt_add_one, ne_eq, Int.reduceEq, not_false_eq_true, Option.map_some, Nat.reduceLeDiff, Nat.zero_lt_succ, List.map_cons, List.map_nil, List.nil_append, List.cons_append, List.append_nil, bytesOf, List.take_succ_cons, List.take_zero, List.drop_zero, and_self, List.append_assoc, List.length_append, Int.reduceLT, Int.reduceLE, Int.toNat_zero, Int.reduceToNat, Int.cast_ofNat_Int, Int.natCast_zero, Int.natCast_one, Int.reduceAdd, List.map_append, hx3]
      refine (putShortI _ hr.1 hr.2).mono ?_
      rintro r H' ⟨rfl, rfl⟩
      simp only [go_sem, Nat.reduceEqDiff, reduceIte, ↓reduceIte, Nat.reduceAdd, List.replicate_succ, List.replicate_zero, List.set_cons_zero, List.set_cons_succ, List.length_cons, List.length_nil, Nat.reduceLT, Nat.lt_add_one, ne_eq, Int.reduceEq, not_false_eq_true, Option.map_some, Nat.reduceLeDiff, Nat.zero_lt_succ, List.map_cons, List.map_nil, List.nil_append, List.cons_append, List.append_nil, bytesOf, List.take_succ_cons, List.take_zero, List.drop_zero, and_self, List.append_assoc, List.length_append, Int.reduceLT, Int.reduceLE, Int.toNat_zero, Int.reduceToNat, Int.cast_ofNat_Int, Int.natCast_zero, Int.natCast_one, Int.reduceAdd, List.map_append, rows_src]
      refine ⟨intR_len1 _ _, app_own ho3 (by simp only [intR_len, List.length_append, List.length_cons, List.length_nil]; omega) (by simp only [intR_len, List.length_append, List.length_cons, List.length_nil]; omega) fun a4 H4 ho4 hk4 _ => ?_⟩
      have hv4 := kept_var hk4 ho3 hv3
      have hx4 := kept_var hk4 ho3 hx3
      rw [intR_app] at ho4
      simp only [go_sem, Nat.reduceEqDiff, reduceIte, ↓reduceIte, Nat.reduceAdd, List.replicate_succ, List.replicate_zero, List.set_cons_zero, List.set_cons_succ, List.length_cons, List.length_nil, Nat.reduceLT, Nat.lt_add_one, ne_eq, Int.reduceEq, not_false_eq_true, Option.map_some, Nat.reduceLeDiff, Nat.zero_lt_succ, List.map_cons, List.map_nil, List.nil_append, List.cons_append, List.append_nil, bytesOf, List.take_succ_cons, List.take_zero, List.drop_zero, and_self, List.append_assoc, List.length_append, Int.reduceLT, Int.reduceLE, Int.toNat_zero, Int.reduceToNat, Int.cast_ofNat_Int, Int.natCast_zero, Int.natCast_one, Int.reduceAdd, List.map_append, hx4]
      intro _
      refine (putShortI _ (rng_len htl).1 (rng_len htl).2).mono ?_
      rintro r H' ⟨rfl, rfl⟩
      simp only [go_sem, Nat.reduceEqDiff, reduceIte, ↓reduceIte, Nat.reduceAdd, List.replicate_succ, List.replicate_zero, List.set_cons_zero, List.set_cons_succ, List.length_cons, List.length_nil, Nat.reduceLT, Nat.lt_add_one, ne_eq, Int.reduceEq, not_false_eq_true, Option.map_some, Nat.reduceLeDiff, Nat.zero_lt_succ, List.map_cons, List.map_nil, List.nil_append, List.cons_append, List.append_nil, bytesOf, List.take_succ_cons, List.take_zero, List.drop_zero, and_self, List.append_assoc, List.length_append, Int.reduceLT, Int.reduceLE, Int.toNat_zero, Int.reduceToNat, Int.cast_ofNat_Int, Int.natCast_zero, Int.natCast_one, Int.reduceAdd, List.map_append, rows_src]
      refine ⟨intR_len1 _ _, app_own ho4 (by simp only [intR_len, List.length_append, List.length_cons, List.length_nil]; omega) (by simp only [intR_len, List.length_append, List.length_cons, List.length_nil]; omega) fun a5 H5 ho5 hk5 _ => ?_⟩
      have hv5 := kept_var hk5 ho4 hv4
      have hx5 := kept_var hk5 ho4 hx4
      rw [intR_app] at ho5
      simp only [go_sem, Nat.reduceEqDiff, reduceIte, ↓reduceIte, Nat.reduceAdd, List.replicate_succ, List.replicate_zero, List.set_cons_zero, List.set_cons_succ, List.length_cons, List.length_nil, Nat.reduceLT, Nat.lt_add_one, ne_eq, Int.reduceEq, not_false_eq_true, Option.map_some, Nat.reduceLeDiff, Nat.zero_lt_succ, List.map_cons, List.map_nil, List.nil_append, List.cons_append, List.append_nil, bytesOf, List.take_succ_cons, List.take_zero, List.drop_zero, and_self, List.append_assoc, List.length_append, Int.reduceLT, Int.reduceLE, Int.toNat_zero, Int.reduceToNat, Int.cast_ofNat_Int, Int.natCast_zero, Int.natCast_one, Int.reduceAdd, List.map_append, hx5, bytes_strI]
      refine ⟨intR_len1 _ _, app_own ho5 (by simp only [intR_len, List.length_append, List.length_cons, List.length_nil, strI, List.length_map]; omega) (by simp only [intR_len, List.length_append, List.length_cons, List.length_nil, strI, List.length_map]; omega) fun a6 H6 ho6 hk6 _ => ?_⟩
      have hv6 := kept_var hk6 ho5 hv5
      rw [intR_app] at ho6
      simp only [go_sem, Nat.reduceEqDiff, reduceIte, ↓reduceIte, Nat.reduceAdd, List.replicate_succ, List.replicate_zero, List.set_cons_zero, List.set_cons_succ, List.length_cons, List.length_nil, Nat.reduceLT, Nat.lt_add_one, ne_eq, Int.reduceEq, not_false_eq_true, Option.map_some, Nat.reduceLeDiff, Nat.zero_lt_succ, List.map_cons, List.map_nil, List.nil_append, List.cons_append, List.append_nil, bytesOf, List.take_succ_cons, List.take_zero, List.drop_zero, and_self, List.append_assoc, List.length_append, Int.reduceLT, Int.reduceLE, Int.toNat_zero, Int.reduceToNat, Int.cast_ofNat_Int, Int.natCast_zero, Int.natCast_one, Int.reduceAdd, List.map_append]
      refine ⟨(i + 1, a6, H6), ⟨hil, ?_, hv6, ?_⟩, by simp only; omega⟩
      · rw [flat_take _ hil]
        simpa [insB, encI] using ho6
      · rw [wr1 hil hok.1.1]
    · have hil : i = c.ins.length := by simp at hd; omega
      subst hil
      have hfi := hf.ins c.ins.length
      rw [List.take_length] at ho hfi
      have hbl : (bodyB c).length ≤ 36000000 := by simp only [bodyB, List.length_append]; omega
      have ho' : OwnR H a 1 (intR .u8 (bodyB c)) := ho
      simp only [go_sem, Nat.reduceEqDiff, reduceIte, ↓reduceIte, Nat.reduceAdd, List.replicate_succ, List.replicate_zero, List.set_cons_zero, List.set_cons_succ, List.length_cons, List.length_nil, Nat.reduceLT, Nat.lt_add_one, ne_eq, Int.reduceEq, not_false_eq_true, Option.map_some, Nat.reduceLeDiff, Nat.zero_lt_succ, List.map_cons, List.map_nil, List.nil_append, List.cons_append, List.append_nil, bytesOf, List.take_succ_cons, List.take_zero, List.drop_zero, and_self, List.append_assoc, List.length_append, Int.reduceLT, Int.reduceLE, Int.toNat_zero, Int.reduceToNat, Int.cast_ofNat_Int, Int.natCast_zero, Int.natCast_one, Int.reduceAdd, List.map_append]
      have hmx : (bodyB c).length ≤ maxL := by unfold maxL; omega
      refine (own_result (sumOf0 (bodyB c) (isB_body c) hmx) (lentAll_cons (own_lent ho') (lentAll_nil _))).mono ?_
      rintro r H' (⟨h, _⟩ | ⟨ver, rfl, rfl⟩)
      · simp [sumB] at h
      simp only [go_sem, Nat.reduceEqDiff, reduceIte, ↓reduceIte, Nat.reduceAdd, List.replicate_succ, List.replicate_zero, List.set_cons_zero, List.set_cons_succ, List.length_cons, List.length_nil, Nat.reduceLT, Nat.lt_add_one, ne_eq, Int.reduceEq, not_false_eq_true, Option.map_some, Nat.reduceLeDiff, Nat.zero_lt_succ, List.map_cons, List.map_nil, List.nil_append, List.cons_append, List.append_nil, bytesOf, List.take_succ_cons, List.take_zero, List.drop_zero, and_self, List.append_assoc, List.length_append, Int.reduceLT, Int.reduceLE, Int.toNat_zero, Int.reduceToNat, Int.cast_ofNat_Int, Int.natCast_zero, Int.natCast_one, Int.reduceAdd, List.map_append, intR_len, intR_take, Nat.le_refl]
      have hs4 : (sumB (bodyB c)).length = 4 := rfl
      refine ⟨intR_len1 _ _, app_own ho'.ext (by simp only [intR_len, hs4]; omega) (by simp only [intR_len, hs4]; omega) fun a7 H7 ho7 _ _ => ?_⟩
      rw [intR_app] at ho7
      have himg : (bodyB c ++ sumB (bodyB c)) = imgB c := rfl
      rw [himg] at ho7
      have hne : (imgB c).length = (bodyB c).length + 4 := by simp [imgB, hs4]
      rcases ho7 with ⟨_, he⟩ | ⟨id, ver, rfl, hid⟩
      · have : (intR .u8 (imgB c)).length = 0 := by rw [he]; rfl
        rw [intR_len] at this; omega
      · simp only [go_sem, Nat.reduceEqDiff, reduceIte, ↓reduceIte, Nat.reduceAdd, List.replicate_succ, List.replicate_zero, List.set_cons_zero, List.set_cons_succ, List.length_cons, List.length_nil, Nat.reduceLT, Nat.lt_add_one, ne_eq, Int.reduceEq, not_false_eq_true, Option.map_some, Nat.reduceLeDiff, Nat.zero_lt_succ, List.map_cons, List.map_nil, List.nil_append, List.cons_append, List.append_nil, bytesOf, List.take_succ_cons, List.take_zero, List.drop_zero, and_self, List.append_assoc, List.length_append, Int.reduceLT, Int.reduceLE, Int.toNat_zero, Int.reduceToNat, Int.cast_ofNat_Int, Int.natCast_zero, Int.natCast_one, Int.reduceAdd, List.map_append, intR_len]
        intro _
        refine condK_split _ (fun h2 => ?_) (fun h2 => ?_)
        · simp only [go_sem, Nat.reduceEqDiff, reduceIte, ↓reduceIte, Nat.reduceAdd, List.replicate_succ, List.replicate_zero, List.set_cons_zero, List.set_cons_succ, List.length_cons, List.length_nil, Nat.reduceLT, Nat.lt_add_one, ne_eq, Int.reduceEq, not_false_eq_true, Option.map_some, Nat.reduceLeDiff, Nat.zero_lt_succ, List.map_cons, List.map_nil, List.nil_append, List.cons_append, List.append_nil, bytesOf, List.take_succ_cons, List.take_zero, List.drop_zero, and_self, List.append_assoc, List.length_append, Int.reduceLT, Int.reduceLE, Int.toNat_zero, Int.reduceToNat, Int.cast_ofNat_Int, Int.natCast_zero, Int.natCast_one, Int.reduceAdd, List.map_append]
          have : ¬ (imgB c).length ≤ 200000 := by simp at h2; omega
          refine .inl ⟨rfl, ?_⟩
          simp [putD, this, intR]
        · simp only [go_sem, Nat.reduceEqDiff, reduceIte, ↓reduceIte, Nat.reduceAdd, List.replicate_succ, List.replicate_zero, List.set_cons_zero, List.set_cons_succ, List.length_cons, List.length_nil, Nat.reduceLT, Nat.lt_add_one, ne_eq, Int.reduceEq, not_false_eq_true, Option.map_some, Nat.reduceLeDiff, Nat.zero_lt_succ, List.map_cons, List.map_nil, List.nil_append, List.cons_append, List.append_nil, bytesOf, List.take_succ_cons, List.take_zero, List.drop_zero, and_self, List.append_assoc, List.length_append, Int.reduceLT, Int.reduceLE, Int.toNat_zero, Int.reduceToNat, Int.cast_ofNat_Int, Int.natCast_zero, Int.natCast_one, Int.reduceAdd, List.map_append]
          have : (imgB c).length ≤ 200000 := by simp at h2; omega
          rw [putD, if_pos ⟨hco', this⟩]
          exact .inr ⟨id, ver, by rw [intR_len], hid⟩
end Go.Proofs.Ytmbggdfceecojaa.Cd

/- Images of codes: by the reference. -/
set_option linter.all false
namespace Go.Proofs.Ytmbggdfceecojaa.Cd
open Go.AM Mc Ho

theorem putShort_all (n : Int) (h : rng n) (Hc : List AO) : ∀ A, ACall Try.prog 71 [.p (.i .i64 n)] (Hc ++ A) (pureQ (.p (.l (rowsK .u8 (enc (zig n))))) (Hc ++ A)) :=
  fun A => (putShort n h.1 h.2).mono fun r H' ⟨h1, h2⟩ => ⟨h2, h1⟩

theorem specPut0 (c : CodeD) (hf : Fits c) : ACall Try.prog 20 [.st (c.cells.map .p)] [] (fun r H' => OwnR H' r 1 (intR .u8 (putD c))) := by
  have hsm := hf.sm
  unfold small at hsm
  have hok : okCode c := hf.ok
  have hr1 := rng_len hok.2
  have hr2 := rng_len hok.1.1
  have hl1 := encI_len hr1
  have hl2 := encI_len hr2
  unfold encI at hl1 hl2
  refine call20 (by simp) ?_
  simp only [go_sem, Nat.reduceEqDiff, reduceIte, ↓reduceIte, Nat.reduceAdd, List.replicate_succ, List.replicate_zero, List.set_cons_zero, List.set_cons_succ, List.length_cons, List.length_nil, Nat.reduceLT, Nat.lt_add_one, ne_eq, Int.reduceEq, not_false_eq_true, Option.map_some, Nat.reduceLeDiff, Nat.zero_lt_succ, List.map_cons, List.map_nil, List.nil_append, List.cons_append, List.append_nil, bytesOf, List.take_succ_cons, List.take_zero, List.drop_zero, and_self, List.append_assoc, List.length_append, Int.reduceLT, Int.reduceLE, Int.toNat_zero, Int.reduceToNat, Int.cast_ofNat_Int, Int.natCast_zero, Int.natCast_one, Int.reduceAdd, List.map_append, mc20, mr20, CodeD.cells]
  rw [code_eta]
  refine (acall_lend (specCodeOk c hf.ok) (fun r H' h => by subst h; exact grnd_b _) (lentAll_cons (code_lent c) (lentAll_nil _))).mono ?_
  rintro r H' ⟨rfl, _, rfl⟩
  simp only [go_sem, Nat.reduceEqDiff, reduceIte, ↓reduceIte, Nat.reduceAdd, List.replicate_succ, List.replicate_zero, List.set_cons_zero, List.set_cons_succ, List.length_cons, List.length_nil, Nat.reduceLT, Nat.lt_add_one, ne_eq, Int.reduceEq, not_false_eq_true, Option.map_some, Nat.reduceLeDiff, Nat.zero_lt_succ, List.map_cons, List.map_nil, List.nil_append, List.cons_append, List.append_nil, bytesOf, List.take_succ_cons, List.take_zero, List.drop_zero, and_self, List.append_assoc, List.length_append, Int.reduceLT, Int.reduceLE, Int.toNat_zero, Int.reduceToNat, Int.cast_ofNat_Int, Int.natCast_zero, Int.natCast_one, Int.reduceAdd, List.map_append]
  refine condK_split _ (fun hco => ?_) (fun hco => ?_)
  · simp only [go_sem, Nat.reduceEqDiff, reduceIte, ↓reduceIte, Nat.reduceAdd, List.replicate_succ, List.replicate_zero, List.set_cons_zero, List.set_cons_succ, List.length_cons, List.length_nil, Nat.reduceLT, Nat.lt_add_one, ne_eq, Int.reduceEq, not_false_eq_true, Option.map_some, Nat.reduceLeDiff, Nat.zero_lt_succ, List.map_cons, List.map_nil, List.nil_append, List.cons_append, List.append_nil, bytesOf, List.take_succ_cons, List.take_zero, List.drop_zero, and_self, List.append_assoc, List.length_append, Int.reduceLT, Int.reduceLE, Int.toNat_zero, Int.reduceToNat, Int.cast_ofNat_Int, Int.natCast_zero, Int.natCast_one, Int.reduceAdd, List.map_append]
    have : codeOk c = false := by simpa using hco
    refine .inr ⟨1, 0, ?_, ?_⟩
    · simp [putD, this, intR]
    · simp [putD, this, intR]
  · have hco' : codeOk c = true := by simpa using hco
    simp only [go_sem, Nat.reduceEqDiff, reduceIte, ↓reduceIte, Nat.reduceAdd, List.replicate_succ, List.replicate_zero, List.set_cons_zero, List.set_cons_succ, List.length_cons, List.length_nil, Nat.reduceLT, Nat.lt_add_one, ne_eq, Int.reduceEq, not_false_eq_true, Option.map_some, Nat.reduceLeDiff, Nat.zero_lt_succ, List.map_cons, List.map_nil, List.nil_append, List.cons_append, List.append_nil, bytesOf, List.take_succ_cons, List.take_zero, List.drop_zero, and_self, List.append_assoc, List.length_append, Int.reduceLT, Int.reduceLE, Int.toNat_zero, Int.reduceToNat, Int.cast_ofNat_Int, Int.natCast_zero, Int.natCast_one, Int.reduceAdd, List.map_append, CodeD.cells]
    have ho0 : OwnR [.var [.p (.l (inss c.ins)), .p (.l (ints c.starts))], .rows 1 0 [[.p (.i .u8 77)], [.p (.i .u8 78)], [.p (.i .u8 1)]]] (.gs 1 0 0 3) 1 (intR .u8 [77, 78, 1]) := .inr ⟨1, 0, rfl, rfl⟩
    have hv0 : [AO.var [.p (.l (inss c.ins)), .p (.l (ints c.starts))], .rows 1 0 [[.p (.i .u8 77)], [.p (.i .u8 78)], [.p (.i .u8 1)]]][0]? = some (.var [.p (.l (inss c.ins)), .p (.l (ints c.starts))]) := rfl
    generalize [AO.var [.p (.l (inss c.ins)), .p (.l (ints c.starts))], .rows 1 0 [[.p (.i .u8 77)], [.p (.i .u8 78)], [.p (.i .u8 1)]]] = H0 at ho0 hv0 ⊢
    generalize AV.gs 1 0 0 3 = a0 at ho0 ⊢
    have hkv := killed_var ho0 hv0
    refine ⟨killed H0 a0, killed_ext _ _, ?_⟩
    simp only [go_sem, Nat.reduceEqDiff, reduceIte, ↓reduceIte, Nat.reduceAdd, List.replicate_succ, List.replicate_zero, List.set_cons_zero, List.set_cons_succ, List.length_cons, List.length_nil, Nat.reduceLT, Nat.lt_add_one, ne_eq, Int.reduceEq, not_false_eq_true, Option.map_some, Nat.reduceLeDiff, Nat.zero_lt_succ, List.map_cons, List.map_nil, List.nil_append, List.cons_append, List.append_nil, bytesOf, List.take_succ_cons, List.take_zero, List.drop_zero, and_self, List.append_assoc, List.length_append, Int.reduceLT, Int.reduceLE, Int.toNat_zero, Int.reduceToNat, Int.cast_ofNat_Int, Int.natCast_zero, Int.natCast_one, Int.reduceAdd, List.map_append, hkv, ints_len]
    refine pcall_pure (putShort_all _ hr1 _) (killed_ext _ _) ?_
    simp only [go_sem, Nat.reduceEqDiff, reduceIte, ↓reduceIte, Nat.reduceAdd, List.replicate_succ, List.replicate_zero, List.set_cons_zero, List.set_cons_succ, List.length_cons, List.length_nil, Nat.reduceLT, Nat.lt_add_one, ne_eq, Int.reduceEq, not_false_eq_true, Option.map_some, Nat.reduceLeDiff, Nat.zero_lt_succ, List.map_cons, List.map_nil, List.nil_append, List.cons_append, List.append_nil, bytesOf, List.take_succ_cons, List.take_zero, List.drop_zero, and_self, List.append_assoc, List.length_append, Int.reduceLT, Int.reduceLE, Int.toNat_zero, Int.reduceToNat, Int.cast_ofNat_Int, Int.natCast_zero, Int.natCast_one, Int.reduceAdd, List.map_append, rows_src]
    refine ⟨intR_len1 _ _, app_drw ho0 (by simp [intR]) (by simp [intR_len]; omega) (by simp [intR_len]; omega) fun a1 H1 ho1 hk1 => ?_⟩
    have hv1 := kept_var hk1 ho0 hv0
    rw [intR_app] at ho1
    simp only [go_sem, Nat.reduceEqDiff, reduceIte, ↓reduceIte, Nat.reduceAdd, List.replicate_succ, List.replicate_zero, List.set_cons_zero, List.set_cons_succ, List.length_cons, List.length_nil, Nat.reduceLT, Nat.lt_add_one, ne_eq, Int.reduceEq, not_false_eq_true, Option.map_some, Nat.reduceLeDiff, Nat.zero_lt_succ, List.map_cons, List.map_nil, List.nil_append, List.cons_append, List.append_nil, bytesOf, List.take_succ_cons, List.take_zero, List.drop_zero, and_self, List.append_assoc, List.length_append, Int.reduceLT, Int.reduceLE, Int.toNat_zero, Int.reduceToNat, Int.cast_ofNat_Int, Int.natCast_zero, Int.natCast_one, Int.reduceAdd, List.map_append, hkv, inss_len]
    refine (putShort _ hr2.1 hr2.2).mono ?_
    rintro r H' ⟨rfl, rfl⟩
    simp only [go_sem, Nat.reduceEqDiff, reduceIte, ↓reduceIte, Nat.reduceAdd, List.replicate_succ, List.replicate_zero, List.set_cons_zero, List.set_cons_succ, List.length_cons, List.length_nil, Nat.reduceLT, Nat.lt_add_one, ne_eq, Int.reduceEq, not_false_eq_true, Option.map_some, Nat.reduceLeDiff, Nat.zero_lt_succ, List.map_cons, List.map_nil, List.nil_append, List.cons_append, List.append_nil, bytesOf, List.take_succ_cons, List.take_zero, List.drop_zero, and_self, List.append_assoc, List.length_append, Int.reduceLT, Int.reduceLE, Int.toNat_zero, Int.reduceToNat, Int.cast_ofNat_Int, Int.natCast_zero, Int.natCast_one, Int.reduceAdd, List.map_append, rows_src]
    refine ⟨intR_len1 _ _, app_own ho1 (by simp [intR_len]; omega) (by simp [intR_len]; omega) fun a2 H2 ho2 hk2 _ => ?_⟩
    have hv2 := kept_var hk2 ho1 hv1
    rw [intR_app] at ho2
    have ho2' : OwnR H2 a2 1 (intR .u8 (headB c)) := ho2
    clear ho2 ho1 hk1 hk2 ho0 hv1 hv0 hkv
    have hhead := hf.head
    simp only [go_sem, Nat.reduceEqDiff, reduceIte, ↓reduceIte, Nat.reduceAdd, List.replicate_succ, List.replicate_zero, List.set_cons_zero, List.set_cons_succ, List.length_cons, List.length_nil, Nat.reduceLT, Nat.lt_add_one, ne_eq, Int.reduceEq, not_false_eq_true, Option.map_some, Nat.reduceLeDiff, Nat.zero_lt_succ, List.map_cons, List.map_nil, List.nil_append, List.cons_append, List.append_nil, bytesOf, List.take_succ_cons, List.take_zero, List.drop_zero, and_self, List.append_assoc, List.length_append, Int.reduceLT, Int.reduceLE, Int.toNat_zero, Int.reduceToNat, Int.cast_ofNat_Int, Int.natCast_zero, Int.natCast_one, Int.reduceAdd, List.map_append]
    refine ⟨Nat × AV × List AO, [0, 1, 2, 3, 4], fun x st => x.1 ≤ c.starts.length ∧ OwnR x.2.2 x.2.1 1 (intR .u8 (headB c ++ (c.starts.take x.1).flatMap encI)) ∧ x.2.2[0]? = some (.var [.p (.l (inss c.ins)), .p (.l (ints c.starts))]) ∧
      st = ⟨[(0, .st [.p (.l (inss c.ins)), .p (.l (ints c.starts))]), (1, .ptr 0 0), (2, .p .nl), (3, x.2.1), (4, .p (.i .i64 x.1))], [], x.2.2⟩, fun x => c.starts.length - x.1, ⟨⟨0, a2, H2⟩, ?_⟩, ?_⟩
    · simp only [go_sem, Nat.reduceEqDiff, reduceIte, ↓reduceIte, Nat.reduceAdd, List.replicate_succ, List.replicate_zero, List.set_cons_zero, List.set_cons_succ, List.length_cons, List.length_nil, Nat.reduceLT, Nat.lt_add_one, ne_eq, Int.reduceEq, not_false_eq_true, Option.map_some, Nat.reduceLeDiff, Nat.zero_lt_succ, List.map_cons, List.map_nil, List.nil_append, List.cons_append, List.append_nil, bytesOf, List.take_succ_cons, List.take_zero, List.drop_zero, and_self, List.append_assoc, List.length_append, Int.reduceLT, Int.reduceLE, Int.toNat_zero, Int.reduceToNat, Int.cast_ofNat_Int, Int.natCast_zero, Int.natCast_one, Int.reduceAdd, List.map_append]
      exact ⟨Nat.zero_le _, by simpa using ho2', hv2⟩
    clear hv2 ho2'
    rintro ⟨i, a, H⟩ st ⟨hi, ho, hv, rfl⟩
    simp only at hi ho hv
    simp only [go_sem, Nat.reduceEqDiff, reduceIte, ↓reduceIte, Nat.reduceAdd, List.replicate_succ, List.replicate_zero, List.set_cons_zero, List.set_cons_succ, List.length_cons, List.length_nil, Nat.reduceLT, Nat.lt_add_one, ne_eq, Int.reduceEq, not_false_eq_true, Option.map_some, Nat.reduceLeDiff, Nat.zero_lt_succ, List.map_cons, List.map_nil, List.nil_append, List.cons_append, List.append_nil, bytesOf, List.take_succ_cons, List.take_zero, List.drop_zero, and_self, List.append_assoc, List.length_append, Int.reduceLT, Int.reduceLE, Int.toNat_zero, Int.reduceToNat, Int.cast_ofNat_Int, Int.natCast_zero, Int.natCast_one, Int.reduceAdd, List.map_append, hv, ints_len]
    intro _
    refine condK_split _ (fun hd => ?_) (fun hd => ?_)
    · have hil : i < c.starts.length := by simpa using hd
      have hr := hf.rg.1 _ (List.getElem_mem hil)
      simp only [go_sem, Nat.reduceEqDiff, reduceIte, ↓reduceIte, Nat.reduceAdd, List.replicate_succ, List.replicate_zero, List.set_cons_zero, List.set_cons_succ, List.length_cons, List.length_nil, Nat.reduceLT, Nat.lt_add_one, ne_eq, Int.reduceEq, not_false_eq_true, Option.map_some, Nat.reduceLeDiff, Nat.zero_lt_succ, List.map_cons, List.map_nil, List.nil_append, List.cons_append, List.append_nil, bytesOf, List.take_succ_cons, List.take_zero, List.drop_zero, and_self, List.append_assoc, List.length_append, Int.reduceLT, Int.reduceLE, Int.toNat_zero, Int.reduceToNat, Int.cast_ofNat_Int, Int.natCast_zero, Int.natCast_one, Int.reduceAdd, List.map_append, ints_at _ hil, hv]
      refine (putShort _ hr.1 hr.2).mono ?_
      rintro r H' ⟨rfl, rfl⟩
      have h1 := hf.starts i
      have h2 := encI_len hr
      unfold encI at h2
      simp only [go_sem, Nat.reduceEqDiff, reduceIte, ↓reduceIte, Nat.reduceAdd, List.replicate_succ, List.replicate_zero, List.set_cons_zero, List.set_cons_succ, List.length_cons, List.length_nil, Nat.reduceLT, Nat.lt_add_one, ne_eq, Int.reduceEq, not_false_eq_true, Option.map_some, Nat.reduceLeDiff, Nat.zero_lt_succ, List.map_cons, List.map_nil, List.nil_append, List.cons_append, List.append_nil, bytesOf, List.take_succ_cons, List.take_zero, List.drop_zero, and_self, List.append_assoc, List.length_append, Int.reduceLT, Int.reduceLE, Int.toNat_zero, Int.reduceToNat, Int.cast_ofNat_Int, Int.natCast_zero, Int.natCast_one, Int.reduceAdd, List.map_append, rows_src]
      refine ⟨intR_len1 _ _, app_own ho (by simp only [intR_len, List.length_append]; omega) (by simp only [intR_len, List.length_append]; omega) fun a3 H3 ho3 hk3 _ => ?_⟩
      have hv3 := kept_var hk3 ho hv
      simp only [go_sem, Nat.reduceEqDiff, reduceIte, ↓reduceIte, Nat.reduceAdd, List.replicate_succ, List.replicate_zero, List.set_cons_zero, List.set_cons_succ, List.length_cons, List.length_nil, Nat.reduceLT, Nat.lt_add_one, ne_eq, Int.reduceEq, not_false_eq_true, Option.map_some, Nat.reduceLeDiff, Nat.zero_lt_succ, List.map_cons, List.map_nil, List.nil_append, List.cons_append, List.append_nil, bytesOf, List.take_succ_cons, List.take_zero, List.drop_zero, and_self, List.append_assoc, List.length_append, Int.reduceLT, Int.reduceLE, Int.toNat_zero, Int.reduceToNat, Int.cast_ofNat_Int, Int.natCast_zero, Int.natCast_one, Int.reduceAdd, List.map_append]
      refine ⟨(i + 1, a3, H3), ⟨hil, ?_, hv3, ?_⟩, by simp only; omega⟩
      · rw [intR_app] at ho3
        rw [flat_take _ hil, ← List.append_assoc]; exact ho3
      · rw [wr1 hil hok.2]
    have hil : i = c.starts.length := by simp at hd; omega
    subst hil
    rw [List.take_length] at ho
    simp only [go_sem, Nat.reduceEqDiff, reduceIte, ↓reduceIte, Nat.reduceAdd, List.replicate_succ, List.replicate_zero, List.set_cons_zero, List.set_cons_succ, List.length_cons, List.length_nil, Nat.reduceLT, Nat.lt_add_one, ne_eq, Int.reduceEq, not_false_eq_true, Option.map_some, Nat.reduceLeDiff, Nat.zero_lt_succ, List.map_cons, List.map_nil, List.nil_append, List.cons_append, List.append_nil, bytesOf, List.take_succ_cons, List.take_zero, List.drop_zero, and_self, List.append_assoc, List.length_append, Int.reduceLT, Int.reduceLE, Int.toNat_zero, Int.reduceToNat, Int.cast_ofNat_Int, Int.natCast_zero, Int.natCast_one, Int.reduceAdd, List.map_append]
    refine ⟨Nat × AV × List AO, [0, 1, 2, 3, 5], fun x st => x.1 ≤ c.ins.length ∧ OwnR x.2.2 x.2.1 1 (intR .u8 (headB c ++ c.starts.flatMap encI ++ (c.ins.take x.1).flatMap insB)) ∧ x.2.2[0]? = some (.var [.p (.l (inss c.ins)), .p (.l (ints c.starts))]) ∧
      st = ⟨[(0, .st [.p (.l (inss c.ins)), .p (.l (ints c.starts))]), (1, .ptr 0 0), (2, .p .nl), (3, x.2.1), (5, .p (.i .i64 x.1))], [], x.2.2⟩, fun x => c.ins.length - x.1, ⟨⟨0, a, H⟩, ?_⟩, ?_⟩
    · simp only [go_sem, Nat.reduceEqDiff, reduceIte, ↓reduceIte, Nat.reduceAdd, List.replicate_succ, List.replicate_zero, List.set_cons_zero, List.set_cons_succ, List.length_cons, List.length_nil, Nat.reduceLT, Nat.lt_add_one, ne_eq, Int.reduceEq, not_false_eq_true, Option.map_some, Nat.reduceLeDiff, Nat.zero_lt_succ, List.map_cons, List.map_nil, List.nil_append, List.cons_append, List.append_nil, bytesOf, List.take_succ_cons, List.take_zero, List.drop_zero, and_self, List.append_assoc, List.length_append, Int.reduceLT, Int.reduceLE, Int.toNat_zero, Int.reduceToNat, Int.cast_ofNat_Int, Int.natCast_zero, Int.natCast_one, Int.reduceAdd, List.map_append]
      exact ⟨Nat.zero_le _, by simpa using ho, hv⟩
    clear ho hv
    rintro ⟨i, a, H⟩ st ⟨hi, ho, hv, rfl⟩
    simp only at hi ho hv
    have hst := hf.starts c.starts.length
    rw [List.take_length] at hst
    have hhd : 3 ≤ (headB c).length := by simp only [headB, List.length_append, List.length_cons, List.length_nil]; omega
    have hs4 : (sumB (bodyB c)).length = 4 := rfl
    simp only [go_sem, Nat.reduceEqDiff, reduceIte, ↓reduceIte, Nat.reduceAdd, List.replicate_succ, List.replicate_zero, List.set_cons_zero, List.set_cons_succ, List.length_cons, List.length_nil, Nat.reduceLT, Nat.lt_add_one, ne_eq, Int.reduceEq, not_false_eq_true, Option.map_some, Nat.reduceLeDiff, Nat.zero_lt_succ, List.map_cons, List.map_nil, List.nil_append, List.cons_append, List.append_nil, bytesOf, List.take_succ_cons, List.take_zero, List.drop_zero, and_self, List.append_assoc, List.length_append, Int.reduceLT, Int.reduceLE, Int.toNat_zero, Int.reduceToNat, Int.cast_ofNat_Int, Int.natCast_zero, Int.natCast_one, Int.reduceAdd, List.map_append, hv, inss_len]
    intro _
    refine condK_split _ (fun hd => ?_) (fun hd => ?_)
    · have hil : i < c.ins.length := by simpa using hd
      simp only [go_sem, Nat.reduceEqDiff, reduceIte, ↓reduceIte, Nat.reduceAdd, List.replicate_succ, List.replicate_zero, List.set_cons_zero, List.set_cons_succ, List.length_cons, List.length_nil, Nat.reduceLT, Nat.lt_add_one, ne_eq, Int.reduceEq, not_false_eq_true, Option.map_some, Nat.reduceLeDiff, Nat.zero_lt_succ, List.map_cons, List.map_nil, List.nil_append, List.cons_append, List.append_nil, bytesOf, List.take_succ_cons, List.take_zero, List.drop_zero, and_self, List.append_assoc, List.length_append, Int.reduceLT, Int.reduceLE, Int.toNat_zero, Int.reduceToNat, Int.cast_ofNat_Int, Int.natCast_zero, Int.natCast_one, Int.reduceAdd, List.map_append, inss_at _ hil, ins_clen, ins_take, InsD.cells, hv]
      have hxm := List.getElem_mem hil
      have hr := hf.rg.2 _ hxm
      have ht := hf.text hxm
      have htl : c.ins[i].text.length ≤ maxL := hok.1.2 _ hxm
      have hrt := rng_len htl
      have hfi := hf.ins i
      have hn10 := encI_len hr
      have ht10 := encI_len hrt
      unfold encI at hn10 ht10
      refine ⟨by simp, app_own ho.ext (by simp only [intR_len, List.length_append, List.length_cons, List.length_nil]; omega) (by simp only [intR_len, List.length_append, List.length_cons, List.length_nil]; omega) fun a3 H3 ho3 hk3 _ => ?_⟩
      have hv3 := kept_var (j := 0) hk3 ho.ext (by rw [List.getElem?_append_left (List.getElem?_eq_some_iff.1 hv).1]; exact hv)
      have hx3 := kept_var (j := H.length) hk3 ho.ext (get_off0 _ _)
      rw [show [[AV.p (.i .u8 (wr .u8 c.ins[i].op))], [AV.p (.i .u8 (wr .u8 (wr .i64 (wr .i64 (16 * c.ins[i].a) + c.ins[i].b))))], [AV.p (.i .u8 (wr .u8 c.ins[i].c))]] = intR .u8 [wr .u8 c.ins[i].op, wr .u8 (wr .i64 (wr .i64 (16 * c.ins[i].a) + c.ins[i].b)), wr .u8 c.ins[i].c] from rfl, intR_app] at ho3
      have hkx := killed_var ho3 hx3
      simp only [go_sem, Nat.reduceEqDiff, reduceIte, ↓reduceIte, Nat.reduceAdd, List.replicate_succ, List.replicate_zero, List.set_cons_zero, List.set_cons_succ, List.length_cons, List.length_nil, Nat.reduceLT, Nat.lt_add_one, ne_eq, Int.reduceEq, not_false_eq_true, Option.map_some, Nat.reduceLeDiff, Nat.zero_lt_succ, List.map_cons, List.map_nil, List.nil_append, List.cons_append, List.append_nil, bytesOf, List.take_succ_cons, List.take_zero, List.drop_zero, and_self, List.append_assoc, List.length_append, Int.reduceLT, Int.reduceLE, Int.toNat_zero, Int.reduceToNat, Int.cast_ofNat_Int, Int.natCast_zero, Int.natCast_one, Int.reduceAdd, List.map_append]
      refine ⟨killed H3 a3, killed_ext _ _, ?_⟩
      simp only [go_sem, Nat.reduceEqDiff, reduceIte, ↓reduceIte, Nat.reduceAdd, List.replicate_succ, List.replicate_zero, List.set_cons_zero, List.set_cons_succ, List.length_cons, List.length_nil, Nat.reduceLT, Nat.lt_add_one, ne_eq, Int.reduceEq, not_false_eq_true, Option.map_some, Nat.reduceLeDiff, Nat.zero_lt_succ, List.map_cons, List.map_nil, List.nil_append, List.cons_append, List.append_nil, bytesOf, List.take_succ_cons, List.take_zero, List.drop_zero, and_self, List.append_assoc, List.length_append, Int.reduceLT, Int.reduceLE, Int.toNat_zero, Int.reduceToNat, Int.cast_ofNat_Int, Int.natCast_zero, Int.natCast_one, Int.reduceAdd, List.map_append, hkx]
      refine pcall_pure (putShort_all _ hr _) (killed_ext _ _) ?_
      simp only [go_sem, Nat.reduceEqDiff, reduceIte, ↓reduceIte, Nat.reduceAdd, List.replicate_succ, List.replicate_zero, List.set_cons_zero, List.set_cons_succ, List.length_cons, List.length_nil, Nat.reduceLT, Nat.lt_add_one, ne_eq, Int.reduceEq, not_false_eq_true, Option.map_some, Nat.reduceLeDiff, Nat.zero_lt_succ, List.map_cons, List.map_nil, List.nil_append, List.cons_append, List.append_nil, bytesOf, List.take_succ_cons, List.take_zero, List.drop_zero, and_self, List.append_assoc, List.length_append, Int.reduceLT, Int.reduceLE, Int.toNat_zero, Int.reduceToNat, Int.cast_ofNat_Int, Int.natCast_zero, Int.natCast_one, Int.reduceAdd, List.map_append, rows_src]
      refine ⟨intR_len1 _ _, app_drw ho3 (by simp [intR]) (by simp only [intR_len, List.length_append, List.length_cons, List.length_nil]; omega) (by simp only [intR_len, List.length_append, List.length_cons, List.length_nil]; omega) fun a4 H4 ho4 hk4 => ?_⟩
      have hv4 := kept_var hk4 ho3 hv3
      have hx4 := kept_var hk4 ho3 hx3
      rw [intR_app] at ho4
      simp only [go_sem, Nat.reduceEqDiff, reduceIte, ↓reduceIte, Nat.reduceAdd, List.replicate_succ, List.replicate_zero, List.set_cons_zero, List.set_cons_succ, List.length_cons, List.length_nil, Nat.reduceLT, Nat.lt_add_one, ne_eq, Int.reduceEq, not_false_eq_true, Option.map_some, Nat.reduceLeDiff, Nat.zero_lt_succ, List.map_cons, List.map_nil, List.nil_append, List.cons_append, List.append_nil, bytesOf, List.take_succ_cons, List.take_zero, List.drop_zero, and_self, List.append_assoc, List.length_append, Int.reduceLT, Int.reduceLE, Int.toNat_zero, Int.reduceToNat, Int.cast_ofNat_Int, Int.natCast_zero, Int.natCast_one, Int.reduceAdd, List.map_append, hkx]
      refine (putShort _ hrt.1 hrt.2).mono ?_
      rintro r H' ⟨rfl, rfl⟩
      simp only [go_sem, Nat.reduceEqDiff, reduceIte, ↓reduceIte, Nat.reduceAdd, List.replicate_succ, List.replicate_zero, List.set_cons_zero, List.set_cons_succ, List.length_cons, List.length_nil, Nat.reduceLT, Nat.lt_add_one, ne_eq, Int.reduceEq, not_false_eq_true, Option.map_some, Nat.reduceLeDiff, Nat.zero_lt_succ, List.map_cons, List.map_nil, List.nil_append, List.cons_append, List.append_nil, bytesOf, List.take_succ_cons, List.take_zero, List.drop_zero, and_self, List.append_assoc, List.length_append, Int.reduceLT, Int.reduceLE, Int.toNat_zero, Int.reduceToNat, Int.cast_ofNat_Int, Int.natCast_zero, Int.natCast_one, Int.reduceAdd, List.map_append, rows_src]
      refine ⟨intR_len1 _ _, app_own ho4 (by simp only [intR_len, List.length_append, List.length_cons, List.length_nil]; omega) (by simp only [intR_len, List.length_append, List.length_cons, List.length_nil]; omega) fun a5 H5 ho5 hk5 _ => ?_⟩
      have hv5 := kept_var hk5 ho4 hv4
      have hx5 := kept_var hk5 ho4 hx4
      rw [intR_app] at ho5
      simp only [go_sem, Nat.reduceEqDiff, reduceIte, ↓reduceIte, Nat.reduceAdd, List.replicate_succ, List.replicate_zero, List.set_cons_zero, List.set_cons_succ, List.length_cons, List.length_nil, Nat.reduceLT, Nat.lt_add_one, ne_eq, Int.reduceEq, not_false_eq_true, Option.map_some, Nat.reduceLeDiff, Nat.zero_lt_succ, List.map_cons, List.map_nil, List.nil_append, List.cons_append, List.append_nil, bytesOf, List.take_succ_cons, List.take_zero, List.drop_zero, and_self, List.append_assoc, List.length_append, Int.reduceLT, Int.reduceLE, Int.toNat_zero, Int.reduceToNat, Int.cast_ofNat_Int, Int.natCast_zero, Int.natCast_one, Int.reduceAdd, List.map_append, hx5, bytes_strI]
      refine ⟨intR_len1 _ _, app_own ho5 (by simp only [intR_len, List.length_append, List.length_cons, List.length_nil, strI, List.length_map]; omega) (by simp only [intR_len, List.length_append, List.length_cons, List.length_nil, strI, List.length_map]; omega) fun a6 H6 ho6 hk6 _ => ?_⟩
      have hv6 := kept_var hk6 ho5 hv5
      rw [intR_app] at ho6
      have ho7 : OwnR H6 a6 1 (intR .u8 (headB c ++ c.starts.flatMap encI ++ (c.ins.take (i + 1)).flatMap insB)) := by
        rw [flat_take _ hil]
        simpa [insB, encI] using ho6
      clear ho6 ho5 ho4 ho3 hk6 hk5 hk4 hk3
      rcases ho7 with ⟨_, he⟩ | ⟨id, ver, rfl, hid⟩
      · have : (intR .u8 (headB c ++ c.starts.flatMap encI ++ (c.ins.take (i + 1)).flatMap insB)).length = 0 := by rw [he]; rfl
        simp only [intR_len, List.length_append] at this; omega
      simp only [go_sem, Nat.reduceEqDiff, reduceIte, ↓reduceIte, Nat.reduceAdd, List.replicate_succ, List.replicate_zero, List.set_cons_zero, List.set_cons_succ, List.length_cons, List.length_nil, Nat.reduceLT, Nat.lt_add_one, ne_eq, Int.reduceEq, not_false_eq_true, Option.map_some, Nat.reduceLeDiff, Nat.zero_lt_succ, List.map_cons, List.map_nil, List.nil_append, List.cons_append, List.append_nil, bytesOf, List.take_succ_cons, List.take_zero, List.drop_zero, and_self, List.append_assoc, List.length_append, Int.reduceLT, Int.reduceLE, Int.toNat_zero, Int.reduceToNat, Int.cast_ofNat_Int, Int.natCast_zero, Int.natCast_one, Int.reduceAdd, List.map_append, intR_len]
      intro _
      refine condK_split _ (fun h2 => ?_) (fun h2 => ?_)
      · simp only [go_sem, Nat.reduceEqDiff, reduceIte, ↓reduceIte, Nat.reduceAdd, List.replicate_succ, List.replicate_zero, List.set_cons_zero, List.set_cons_succ, List.length_cons, List.length_nil, Nat.reduceLT, Nat.lt_add_one, ne_eq, Int.reduceEq, not_false_eq_true, Option.map_some, Nat.reduceLeDiff, Nat.zero_lt_succ, List.map_cons, List.map_nil, List.nil_append, List.cons_append, List.append_nil, bytesOf, List.take_succ_cons, List.take_zero, List.drop_zero, and_self, List.append_assoc, List.length_append, Int.reduceLT, Int.reduceLE, Int.toNat_zero, Int.reduceToNat, Int.cast_ofNat_Int, Int.natCast_zero, Int.natCast_one, Int.reduceAdd, List.map_append]
        have hbig : ¬ (imgB c).length ≤ 200000 := by
          have hsub : ((c.ins.take (i + 1)).flatMap insB).length ≤ (c.ins.flatMap insB).length := by
            have e := List.take_append_drop (i + 1) c.ins
            have : (c.ins.flatMap insB) = (c.ins.take (i + 1)).flatMap insB ++ (c.ins.drop (i + 1)).flatMap insB := by rw [← List.flatMap_append, e]
            rw [this]; simp
          simp only [imgB, bodyB, List.length_append]
          simp only [List.length_append, decide_eq_true_eq] at h2
          omega
        have hpd : putD c = [] := by simp [putD, hbig]
        rw [hpd]
        exact .inr ⟨_, 0, rfl, (get_off0 _ _).trans rfl⟩
      · simp only [go_sem, Nat.reduceEqDiff, reduceIte, ↓reduceIte, Nat.reduceAdd, List.replicate_succ, List.replicate_zero, List.set_cons_zero, List.set_cons_succ, List.length_cons, List.length_nil, Nat.reduceLT, Nat.lt_add_one, ne_eq, Int.reduceEq, not_false_eq_true, Option.map_some, Nat.reduceLeDiff, Nat.zero_lt_succ, List.map_cons, List.map_nil, List.nil_append, List.cons_append, List.append_nil, bytesOf, List.take_succ_cons, List.take_zero, List.drop_zero, and_self, List.append_assoc, List.length_append, Int.reduceLT, Int.reduceLE, Int.toNat_zero, Int.reduceToNat, Int.cast_ofNat_Int, Int.natCast_zero, Int.natCast_one, Int.reduceAdd, List.map_append]
        refine ⟨(i + 1, .gs id ver 0 ((headB c).length + ((c.starts.flatMap encI).length + ((c.ins.take (i + 1)).flatMap insB).length)), H6), ⟨hil, .inr ⟨id, ver, ?_, by simpa only [List.append_assoc] using hid⟩, hv6, ?_⟩, by simp only; omega⟩
        · simp only [intR_len, List.length_append]
        · rw [wr1 hil hok.1.1]
    · have hil : i = c.ins.length := by simp at hd; omega
      subst hil
      have hfi := hf.ins c.ins.length
      rw [List.take_length] at ho hfi
      have hbl : (bodyB c).length ≤ 36000000 := by simp only [bodyB, List.length_append]; omega
      have ho' : OwnR H a 1 (intR .u8 (bodyB c)) := ho
      simp only [go_sem, Nat.reduceEqDiff, reduceIte, ↓reduceIte, Nat.reduceAdd, List.replicate_succ, List.replicate_zero, List.set_cons_zero, List.set_cons_succ, List.length_cons, List.length_nil, Nat.reduceLT, Nat.lt_add_one, ne_eq, Int.reduceEq, not_false_eq_true, Option.map_some, Nat.reduceLeDiff, Nat.zero_lt_succ, List.map_cons, List.map_nil, List.nil_append, List.cons_append, List.append_nil, bytesOf, List.take_succ_cons, List.take_zero, List.drop_zero, and_self, List.append_assoc, List.length_append, Int.reduceLT, Int.reduceLE, Int.toNat_zero, Int.reduceToNat, Int.cast_ofNat_Int, Int.natCast_zero, Int.natCast_one, Int.reduceAdd, List.map_append]
      have hmx : (bodyB c).length ≤ maxL := by unfold maxL; omega
      refine (own_result (l20Sum0 (bodyB c) (isB_body c) hmx) (lentAll_cons (own_lent ho') (lentAll_nil _))).mono ?_
      rintro r H' (⟨h, _⟩ | ⟨ver, rfl, rfl⟩)
      · simp [sumB] at h
      simp only [go_sem, Nat.reduceEqDiff, reduceIte, ↓reduceIte, Nat.reduceAdd, List.replicate_succ, List.replicate_zero, List.set_cons_zero, List.set_cons_succ, List.length_cons, List.length_nil, Nat.reduceLT, Nat.lt_add_one, ne_eq, Int.reduceEq, not_false_eq_true, Option.map_some, Nat.reduceLeDiff, Nat.zero_lt_succ, List.map_cons, List.map_nil, List.nil_append, List.cons_append, List.append_nil, bytesOf, List.take_succ_cons, List.take_zero, List.drop_zero, and_self, List.append_assoc, List.length_append, Int.reduceLT, Int.reduceLE, Int.toNat_zero, Int.reduceToNat, Int.cast_ofNat_Int, Int.natCast_zero, Int.natCast_one, Int.reduceAdd, List.map_append, intR_len, intR_take, Nat.le_refl]
      refine ⟨intR_len1 _ _, app_own ho'.ext (by simp only [intR_len, hs4]; omega) (by simp only [intR_len, hs4]; omega) fun a7 H7 ho7 _ _ => ?_⟩
      rw [intR_app] at ho7
      have himg : (bodyB c ++ sumB (bodyB c)) = imgB c := rfl
      rw [himg] at ho7
      have hne : (imgB c).length = (bodyB c).length + 4 := by simp [imgB, hs4]
      rcases ho7 with ⟨_, he⟩ | ⟨id, ver, rfl, hid⟩
      · have : (intR .u8 (imgB c)).length = 0 := by rw [he]; rfl
        rw [intR_len] at this; omega
      · simp only [go_sem, Nat.reduceEqDiff, reduceIte, ↓reduceIte, Nat.reduceAdd, List.replicate_succ, List.replicate_zero, List.set_cons_zero, List.set_cons_succ, List.length_cons, List.length_nil, Nat.reduceLT, Nat.lt_add_one, ne_eq, Int.reduceEq, not_false_eq_true, Option.map_some, Nat.reduceLeDiff, Nat.zero_lt_succ, List.map_cons, List.map_nil, List.nil_append, List.cons_append, List.append_nil, bytesOf, List.take_succ_cons, List.take_zero, List.drop_zero, and_self, List.append_assoc, List.length_append, Int.reduceLT, Int.reduceLE, Int.toNat_zero, Int.reduceToNat, Int.cast_ofNat_Int, Int.natCast_zero, Int.natCast_one, Int.reduceAdd, List.map_append, intR_len]
        intro _
        refine condK_split _ (fun h2 => ?_) (fun h2 => ?_)
        · simp only [go_sem, Nat.reduceEqDiff, reduceIte, ↓reduceIte, Nat.reduceAdd, List.replicate_succ, List.replicate_zero, List.set_cons_zero, List.set_cons_succ, List.length_cons, List.length_nil, Nat.reduceLT, Nat.lt_add_one, ne_eq, Int.reduceEq, not_false_eq_true, Option.map_some, Nat.reduceLeDiff, Nat.zero_lt_succ, List.map_cons, List.map_nil, List.nil_append, List.cons_append, List.append_nil, bytesOf, List.take_succ_cons, List.take_zero, List.drop_zero, and_self, List.append_assoc, List.length_append, Int.reduceLT, Int.reduceLE, Int.toNat_zero, Int.reduceToNat, Int.cast_ofNat_Int, Int.natCast_zero, Int.natCast_one, Int.reduceAdd, List.map_append]
          have : ¬ (imgB c).length ≤ 200000 := by simp at h2; omega
          have hpd : putD c = [] := by simp [putD, this]
          rw [hpd]
          exact .inr ⟨_, 0, rfl, (get_off0 _ _).trans rfl⟩
        · simp only [go_sem, Nat.reduceEqDiff, reduceIte, ↓reduceIte, Nat.reduceAdd, List.replicate_succ, List.replicate_zero, List.set_cons_zero, List.set_cons_succ, List.length_cons, List.length_nil, Nat.reduceLT, Nat.lt_add_one, ne_eq, Int.reduceEq, not_false_eq_true, Option.map_some, Nat.reduceLeDiff, Nat.zero_lt_succ, List.map_cons, List.map_nil, List.nil_append, List.cons_append, List.append_nil, bytesOf, List.take_succ_cons, List.take_zero, List.drop_zero, and_self, List.append_assoc, List.length_append, Int.reduceLT, Int.reduceLE, Int.toNat_zero, Int.reduceToNat, Int.cast_ofNat_Int, Int.natCast_zero, Int.natCast_one, Int.reduceAdd, List.map_append]
          have : (imgB c).length ≤ 200000 := by simp at h2; omega
          rw [putD, if_pos ⟨hco', this⟩]
          exact .inr ⟨id, ver, by rw [intR_len], hid⟩
end Go.Proofs.Ytmbggdfceecojaa.Cd

/- Slices that are owned, as the laws hold them: where they lie, what keeps them. -/
set_option linter.all false
namespace Go.AM
variable {P : Program}

/-- owned, or nil; its object's number lies from lo on and below hi -/
def OwnAt (H : List AO) (a : AV) (sz : Nat) (rs : List (List AV)) (lo hi : Nat) : Prop :=
  (a = .p .nl ∧ rs = []) ∨ ∃ id ver, lo ≤ id ∧ id < hi ∧ a = .gs id ver 0 rs.length ∧ H[id]? = some (.rows sz ver rs)

theorem OwnAt.own {H : List AO} {a : AV} {sz : Nat} {rs : List (List AV)} {lo hi : Nat} (h : OwnAt H a sz rs lo hi) : OwnR H a sz rs := by
  rcases h with h | ⟨id, ver, _, _, h1, h2⟩
  · exact .inl h
  · exact .inr ⟨id, ver, h1, h2⟩
theorem OwnAt.ext {H : List AO} {a : AV} {sz : Nat} {rs : List (List AV)} {lo hi : Nat} (h : OwnAt H a sz rs lo hi) (A : List AO) : OwnAt (H ++ A) a sz rs lo hi := by
  rcases h with h | ⟨id, ver, h0, h1, h2, h3⟩
  · exact .inl h
  · exact .inr ⟨id, ver, h0, h1, h2, by rw [List.getElem?_append_left (List.getElem?_eq_some_iff.1 h3).1]; exact h3⟩
theorem OwnAt.set {H : List AO} {a : AV} {sz : Nat} {rs : List (List AV)} {lo hi j : Nat} (h : OwnAt H a sz rs lo hi) (o : AO) (hj : j < lo ∨ hi ≤ j) : OwnAt (H.set j o) a sz rs lo hi := by
  rcases h with h | ⟨id, ver, h0, h1, h2, h3⟩
  · exact .inl h
  · exact .inr ⟨id, ver, h0, h1, h2, by rw [List.getElem?_set_ne (by omega)]; exact h3⟩

theorem get_ext {H : List AO} {j : Nat} {o : AO} (h : H[j]? = some o) (A : List AO) : (H ++ A)[j]? = some o := by
  rw [List.getElem?_append_left (List.getElem?_eq_some_iff.1 h).1]; exact h
theorem get_set {H : List AO} {i j : Nat} {o o' : AO} (h : H[j]? = some o) (hne : i ≠ j) : (H.set i o')[j]? = some o := by
  rw [List.getElem?_set_ne hne]; exact h
theorem get_lt {H : List AO} {j : Nat} {o : AO} (h : H[j]? = some o) : j < H.length := (List.getElem?_eq_some_iff.1 h).1

/-- a call whose result is its caller's own, of cells that speak of no memory -/
theorem acall_ownAt {f : Nat} {xs bs : List AV} {H : List AO} {sz : Nat} {rs : List (List AV)} (h : ACall P f bs [] (fun r H' => OwnR H' r sz rs)) (hl : LentAll H xs bs) (hg : ∀ r ∈ rs, ∀ c ∈ r, Grnd c) :
    ACall P f xs H (fun r H' => ∃ A, H' = H ++ A ∧ OwnAt H' r sz rs H.length H'.length) := by
  refine acall_own h hl ?_
  rintro r H0 (⟨rfl, he⟩ | ⟨id, ver, rfl, hid⟩)
  · exact own_g (H := H) (R := fun (r : AV) (H' : List AO) => ∃ A, H' = H ++ A ∧ OwnAt H' r sz rs H.length H'.length) grnd_nl ⟨[], by simp, .inl ⟨rfl, he⟩⟩
  · exact own_gs (H := H) (R := fun (r : AV) (H' : List AO) => ∃ A, H' = H ++ A ∧ OwnAt H' r sz rs H.length H'.length) hid hg ⟨_, rfl, .inr ⟨H.length, ver, Nat.le_refl _, by simp, rfl, get_off0 _ _⟩⟩
end Go.AM

/- PutImage: the law. -/
set_option linter.all false
namespace Go.Proofs.Ytmbggdfceecojaa.Cd
open Go.AM Mc Ho

theorem toCode_fresh (c : CodeD) (hc : okCode c) (hs : small c) {H : List AO} : ACall Try.prog 21 [.st (c.cells.map .p)] H (fun r H' => H' = H ∧ r = .st (c.cells.map .p)) := by
  refine acall_fresh (toCode0 c hc hs) ?_ ?_
  · intro b hb
    simp only [List.mem_singleton] at hb
    subst hb
    refine noid_st _ ?_
    intro a ha
    obtain ⟨q, _, rfl⟩ := List.mem_map.1 ha
    exact noid_p q
  · rintro r H' ⟨rfl, h3, h4⟩
    exact ⟨_, lent_code c (i := 3) h3 h4, rfl⟩

theorem putD_len {c : CodeD} : (putD c).length ≤ 200000 := by
  unfold putD
  split
  · rename_i h; exact h.2
  · simp

theorem specPut (c : CodeD) (hf : Fits c) {H : List AO} {a : AV} (ha : Lent H a (.st (c.cells.map .p))) : ACall Try.prog 20 [a] H (fun r H' => ∃ A, H' = H ++ A ∧ OwnAt H' r 1 (intR .u8 (putD c)) H.length H'.length) :=
  acall_ownAt (specPut0 c hf) (lentAll_cons ha (lentAll_nil _)) (grnd_intR _ _)
theorem implPut (c : CodeD) (hf : Fits c) {H : List AO} {a : AV} (ha : Lent H a (.st (c.cells.map .p))) : ACall Try.prog 22 [a] H (fun r H' => ∃ A, H' = H ++ A ∧ OwnAt H' r 1 (intR .u8 (putD c)) H.length H'.length) :=
  acall_ownAt (implPut0 c hf) (lentAll_cons ha (lentAll_nil _)) (grnd_intR _ _)
theorem szCode_any (c : CodeD) (hc : okCode c) {H : List AO} : ACall Try.prog 19 [.st (c.cells.map .p), .p (.i .i64 1048576)] H (fun r H' => (∃ q : Int, r = .p (.i .i64 q) ∧ (q < 0 ∨ (0 ≤ q ∧ small c))) ∧ H' = H) :=
  (acall_lend (szCode c hc) (fun r H' ⟨q, h, _⟩ => by subst h; exact grnd_i _ _) (lentAll_cons (code_lent c) (lentAll_cons (.pure _) (lentAll_nil _)))).mono fun r H' ⟨h1, _, h2⟩ => ⟨h2, h1⟩
theorem eqCode_any (c d : CodeD) (hc : okCode c) (hd : okCode d) {H : List AO} {a b : AV} (ha : Lent H a (.st (c.cells.map .p))) (hb : Lent H b (.st (d.cells.map .p))) : ACall Try.prog 24 [a, b] H (fun r H' => r = .p (.b (decide (c = d))) ∧ H' = H) :=
  (acall_lend (eqCode c d hc hd) (fun r H' h => by subst h; exact grnd_b _) (lentAll_cons ha (lentAll_cons hb (lentAll_nil _)))).mono fun r H' ⟨h1, _, h2⟩ => ⟨h2, h1⟩

theorem markByteS_own {H : List AO} {a : AV} {zs : List Int} {lo hi : Nat} (h : OwnAt H a 1 (intR .u8 zs) lo hi) (hn : zs.length ≤ 100000000) :
    ACall Try.prog 26 [a, .p (.i .i64 1)] H (fun r H' => r = .p (.i .i64 (1 + zs.length)) ∧ OwnAt H' a 1 (intR .u8 (pat 1 zs.length)) lo hi ∧ H'.length = H.length ∧ ∀ (j : Nat) o, H[j]? = some o → j < lo ∨ hi ≤ j → H'[j]? = some o) := by
  rcases h with ⟨rfl, he⟩ | ⟨id, ver, h0, h1, rfl, h3⟩
  · have hz : zs = [] := by simpa [intR] using he
    subst hz
    refine call26 (by simp) ?_
    simp only [go_sem, Nat.reduceEqDiff, reduceIte, ↓reduceIte, Nat.reduceAdd, List.replicate_succ, List.replicate_zero, List.set_cons_zero, List.set_cons_succ, List.length_cons, List.length_nil, Nat.reduceLT, Nat.lt_add_one, ne_eq, Int.reduceEq, not_false_eq_true, Option.map_some, Nat.reduceLeDiff, Nat.zero_lt_succ, List.map_cons, List.map_nil, List.nil_append, List.cons_append, List.append_nil, bytesOf, List.take_succ_cons, List.take_zero, List.drop_zero, and_self, List.append_assoc, List.length_append, Int.reduceLT, Int.reduceLE, Int.toNat_zero, Int.reduceToNat, Int.cast_ofNat_Int, Int.natCast_zero, Int.natCast_one, Int.reduceAdd, List.map_append, mc26, mr26]
    refine ⟨Unit, [0, 1, 4, 5], fun _ st => st = ⟨[(0, .p .nl), (1, .p (.i .i64 1)), (4, .p (.i .i64 0)), (5, .p (.i .i64 0))], [], H⟩, fun _ => 0, ⟨(), ?_⟩, ?_⟩
    · simp only [go_sem, Nat.reduceEqDiff, reduceIte, ↓reduceIte, Nat.reduceAdd, List.replicate_succ, List.replicate_zero, List.set_cons_zero, List.set_cons_succ, List.length_cons, List.length_nil, Nat.reduceLT, Nat.lt_add_one, ne_eq, Int.reduceEq, not_false_eq_true, Option.map_some, Nat.reduceLeDiff, Nat.zero_lt_succ, List.map_cons, List.map_nil, List.nil_append, List.cons_append, List.append_nil, bytesOf, List.take_succ_cons, List.take_zero, List.drop_zero, and_self, List.append_assoc, List.length_append, Int.reduceLT, Int.reduceLE, Int.toNat_zero, Int.reduceToNat, Int.cast_ofNat_Int, Int.natCast_zero, Int.natCast_one, Int.reduceAdd, List.map_append]
    · rintro _ st rfl
      simp only [go_sem, Nat.reduceEqDiff, reduceIte, ↓reduceIte, Nat.reduceAdd, List.replicate_succ, List.replicate_zero, List.set_cons_zero, List.set_cons_succ, List.length_cons, List.length_nil, Nat.reduceLT, Nat.lt_add_one, ne_eq, Int.reduceEq, not_false_eq_true, Option.map_some, Nat.reduceLeDiff, Nat.zero_lt_succ, List.map_cons, List.map_nil, List.nil_append, List.cons_append, List.append_nil, bytesOf, List.take_succ_cons, List.take_zero, List.drop_zero, and_self, List.append_assoc, List.length_append, Int.reduceLT, Int.reduceLE, Int.toNat_zero, Int.reduceToNat, Int.cast_ofNat_Int, Int.natCast_zero, Int.natCast_one, Int.reduceAdd, List.map_append, Int.reduceLT, decide_false]
      exact ⟨.inl ⟨rfl, by simp [pat, intR]⟩, fun j o h _ => h⟩
  · have hl := intR_len .u8 zs
    have k := markByteS (intR .u8 zs) h3 (intR_len1 _ _) (by rw [hl]; exact hn) 1 (by omega) (by omega)
    rw [hl] at k ⊢
    refine k.mono ?_
    rintro r H' ⟨rfl, rfl⟩
    refine ⟨rfl, .inr ⟨id, ver, h0, h1, by rw [intR_len, pat_len], set_get h3⟩, by simp, fun j o h hj => ?_⟩
    rw [List.getElem?_set_ne (by omega)]; exact h
theorem heldByteS_own {H : List AO} {a : AV} {n : Nat} {lo hi : Nat} (h : OwnAt H a 1 (intR .u8 (pat 1 n)) lo hi) (hn : n ≤ 100000000) :
    ACall Try.prog 27 [a, .p (.i .i64 1)] H (fun r H' => r = .p (.i .i64 (1 + n)) ∧ H' = H) := by
  rcases h with ⟨rfl, he⟩ | ⟨id, ver, h0, h1, rfl, h3⟩
  · have hz : n = 0 := by
      have : (intR .u8 (pat 1 n)).length = 0 := by rw [he]; rfl
      rw [intR_len, pat_len] at this; exact this
    subst hz
    refine call27 (by simp) ?_
    simp only [go_sem, Nat.reduceEqDiff, reduceIte, ↓reduceIte, Nat.reduceAdd, List.replicate_succ, List.replicate_zero, List.set_cons_zero, List.set_cons_succ, List.length_cons, List.length_nil, Nat.reduceLT, Nat.lt_add_one, ne_eq, Int.reduceEq, not_false_eq_true, Option.map_some, Nat.reduceLeDiff, Nat.zero_lt_succ, List.map_cons, List.map_nil, List.nil_append, List.cons_append, List.append_nil, bytesOf, List.take_succ_cons, List.take_zero, List.drop_zero, and_self, List.append_assoc, List.length_append, Int.reduceLT, Int.reduceLE, Int.toNat_zero, Int.reduceToNat, Int.cast_ofNat_Int, Int.natCast_zero, Int.natCast_one, Int.reduceAdd, List.map_append, mc27, mr27]
    refine ⟨Unit, [0, 1, 4, 5], fun _ st => st = ⟨[(0, .p .nl), (1, .p (.i .i64 1)), (4, .p (.i .i64 0)), (5, .p (.i .i64 0))], [], H⟩, fun _ => 0, ⟨(), ?_⟩, ?_⟩
    · simp only [go_sem, Nat.reduceEqDiff, reduceIte, ↓reduceIte, Nat.reduceAdd, List.replicate_succ, List.replicate_zero, List.set_cons_zero, List.set_cons_succ, List.length_cons, List.length_nil, Nat.reduceLT, Nat.lt_add_one, ne_eq, Int.reduceEq, not_false_eq_true, Option.map_some, Nat.reduceLeDiff, Nat.zero_lt_succ, List.map_cons, List.map_nil, List.nil_append, List.cons_append, List.append_nil, bytesOf, List.take_succ_cons, List.take_zero, List.drop_zero, and_self, List.append_assoc, List.length_append, Int.reduceLT, Int.reduceLE, Int.toNat_zero, Int.reduceToNat, Int.cast_ofNat_Int, Int.natCast_zero, Int.natCast_one, Int.reduceAdd, List.map_append]
    · rintro _ st rfl
      simp only [go_sem, Nat.reduceEqDiff, reduceIte, ↓reduceIte, Nat.reduceAdd, List.replicate_succ, List.replicate_zero, List.set_cons_zero, List.set_cons_succ, List.length_cons, List.length_nil, Nat.reduceLT, Nat.lt_add_one, ne_eq, Int.reduceEq, not_false_eq_true, Option.map_some, Nat.reduceLeDiff, Nat.zero_lt_succ, List.map_cons, List.map_nil, List.nil_append, List.cons_append, List.append_nil, bytesOf, List.take_succ_cons, List.take_zero, List.drop_zero, and_self, List.append_assoc, List.length_append, Int.reduceLT, Int.reduceLE, Int.toNat_zero, Int.reduceToNat, Int.cast_ofNat_Int, Int.natCast_zero, Int.natCast_one, Int.reduceAdd, List.map_append, Int.reduceLT, decide_false]
  · have hl : (intR .u8 (pat 1 n)).length = n := by rw [intR_len, pat_len]
    rw [hl]
    exact heldByteS n 1 h3 hn (by omega) (by omega)

theorem codeO_len (c : CodeD) : (codeO c).length = 2 := rfl
theorem codeO_get0 (H : List AO) (c : CodeD) : (H ++ codeO c)[H.length]? = some (.rows 6 0 (insR c.ins)) := by rw [get_off0]; rfl
theorem codeO_get1 (H : List AO) (c : CodeD) : (H ++ codeO c)[H.length + 1]? = some (.rows 1 0 (intR .i64 c.starts)) := by rw [get_off]; rfl

theorem lawPut (c : CodeD) (hok : okCode c) (hrg : rngCode c) : ACall Try.prog 4 [.st (c.cells.map .p)] [] (fun r _ => r = .p (.b true)) := by
  refine call4 (by simp) ?_
  simp only [go_sem, Nat.reduceEqDiff, reduceIte, ↓reduceIte, Nat.reduceAdd, List.replicate_succ, List.replicate_zero, List.set_cons_zero, List.set_cons_succ, List.length_cons, List.length_nil, Nat.reduceLT, Nat.lt_add_one, ne_eq, Int.reduceEq, not_false_eq_true, Option.map_some, Nat.reduceLeDiff, Nat.zero_lt_succ, List.map_cons, List.map_nil, List.nil_append, List.cons_append, List.append_nil, bytesOf, List.take_succ_cons, List.take_zero, List.drop_zero, and_self, List.append_assoc, List.length_append, Int.reduceLT, Int.reduceLE, Int.toNat_zero, Int.reduceToNat, Int.cast_ofNat_Int, Int.natCast_zero, Int.natCast_one, Int.reduceAdd, List.map_append, mc4, mr4, CodeD.cells]
  rw [code_eta]
  refine (szCode_any c hok).mono ?_
  rintro r H' ⟨⟨q, rfl, hq⟩, rfl⟩
  simp only [go_sem, Nat.reduceEqDiff, reduceIte, ↓reduceIte, Nat.reduceAdd, List.replicate_succ, List.replicate_zero, List.set_cons_zero, List.set_cons_succ, List.length_cons, List.length_nil, Nat.reduceLT, Nat.lt_add_one, ne_eq, Int.reduceEq, not_false_eq_true, Option.map_some, Nat.reduceLeDiff, Nat.zero_lt_succ, List.map_cons, List.map_nil, List.nil_append, List.cons_append, List.append_nil, bytesOf, List.take_succ_cons, List.take_zero, List.drop_zero, and_self, List.append_assoc, List.length_append, Int.reduceLT, Int.reduceLE, Int.toNat_zero, Int.reduceToNat, Int.cast_ofNat_Int, Int.natCast_zero, Int.natCast_one, Int.reduceAdd, List.map_append]
  refine condK_split _ (fun hq0 => ?_) (fun hq0 => ?_)
  · simp only [go_sem, Nat.reduceEqDiff, reduceIte, ↓reduceIte, Nat.reduceAdd, List.replicate_succ, List.replicate_zero, List.set_cons_zero, List.set_cons_succ, List.length_cons, List.length_nil, Nat.reduceLT, Nat.lt_add_one, ne_eq, Int.reduceEq, not_false_eq_true, Option.map_some, Nat.reduceLeDiff, Nat.zero_lt_succ, List.map_cons, List.map_nil, List.nil_append, List.cons_append, List.append_nil, bytesOf, List.take_succ_cons, List.take_zero, List.drop_zero, and_self, List.append_assoc, List.length_append, Int.reduceLT, Int.reduceLE, Int.toNat_zero, Int.reduceToNat, Int.cast_ofNat_Int, Int.natCast_zero, Int.natCast_one, Int.reduceAdd, List.map_append]
  have hq1 : ¬ q < 0 := by simpa using hq0
  have hsm : small c := by rcases hq with h | h; exact (hq1 h).elim; exact h.2
  have hf : Fits c := ⟨hok, hsm, hrg⟩
  have hpl := @putD_len c
  have hpm : (putD c).length ≤ maxL := by unfold maxL; omega
  simp only [go_sem, Nat.reduceEqDiff, reduceIte, ↓reduceIte, Nat.reduceAdd, List.replicate_succ, List.replicate_zero, List.set_cons_zero, List.set_cons_succ, List.length_cons, List.length_nil, Nat.reduceLT, Nat.lt_add_one, ne_eq, Int.reduceEq, not_false_eq_true, Option.map_some, Nat.reduceLeDiff, Nat.zero_lt_succ, List.map_cons, List.map_nil, List.nil_append, List.cons_append, List.append_nil, bytesOf, List.take_succ_cons, List.take_zero, List.drop_zero, and_self, List.append_assoc, List.length_append, Int.reduceLT, Int.reduceLE, Int.toNat_zero, Int.reduceToNat, Int.cast_ofNat_Int, Int.natCast_zero, Int.natCast_one, Int.reduceAdd, List.map_append, code_take]
  refine (toCode c hok hsm _).mono ?_
  rintro r H' ⟨rfl, rfl⟩
  simp only [go_sem, Nat.reduceEqDiff, reduceIte, ↓reduceIte, Nat.reduceAdd, List.replicate_succ, List.replicate_zero, List.set_cons_zero, List.set_cons_succ, List.length_cons, List.length_nil, Nat.reduceLT, Nat.lt_add_one, ne_eq, Int.reduceEq, not_false_eq_true, Option.map_some, Nat.reduceLeDiff, Nat.zero_lt_succ, List.map_cons, List.map_nil, List.nil_append, List.cons_append, List.append_nil, bytesOf, List.take_succ_cons, List.take_zero, List.drop_zero, and_self, List.append_assoc, List.length_append, Int.reduceLT, Int.reduceLE, Int.toNat_zero, Int.reduceToNat, Int.cast_ofNat_Int, Int.natCast_zero, Int.natCast_one, Int.reduceAdd, List.map_append]
  have hl0 := lent_code c (H := [AO.var (c.cells.map .p)] ++ codeO c) (i := 1) rfl rfl
  refine (specPut c hf hl0).mono ?_
  rintro w0 H1 ⟨A1, hH1, hw⟩
  have hv1 : H1[0]? = some (.var (c.cells.map .p)) := by rw [hH1]; rfl
  clear hH1 hl0
  simp only [go_sem, Nat.reduceEqDiff, reduceIte, ↓reduceIte, Nat.reduceAdd, List.replicate_succ, List.replicate_zero, List.set_cons_zero, List.set_cons_succ, List.length_cons, List.length_nil, Nat.reduceLT, Nat.lt_add_one, ne_eq, Int.reduceEq, not_false_eq_true, Option.map_some, Nat.reduceLeDiff, Nat.zero_lt_succ, List.map_cons, List.map_nil, List.nil_append, List.cons_append, List.append_nil, bytesOf, List.take_succ_cons, List.take_zero, List.drop_zero, and_self, List.append_assoc, List.length_append, Int.reduceLT, Int.reduceLE, Int.toNat_zero, Int.reduceToNat, Int.cast_ofNat_Int, Int.natCast_zero, Int.natCast_one, Int.reduceAdd, List.map_append, hv1, code_take]
  refine (toCode c hok hsm _).mono ?_
  rintro r H' ⟨rfl, rfl⟩
  simp only [go_sem, Nat.reduceEqDiff, reduceIte, ↓reduceIte, Nat.reduceAdd, List.replicate_succ, List.replicate_zero, List.set_cons_zero, List.set_cons_succ, List.length_cons, List.length_nil, Nat.reduceLT, Nat.lt_add_one, ne_eq, Int.reduceEq, not_false_eq_true, Option.map_some, Nat.reduceLeDiff, Nat.zero_lt_succ, List.map_cons, List.map_nil, List.nil_append, List.cons_append, List.append_nil, bytesOf, List.take_succ_cons, List.take_zero, List.drop_zero, and_self, List.append_assoc, List.length_append, Int.reduceLT, Int.reduceLE, Int.toNat_zero, Int.reduceToNat, Int.cast_ofNat_Int, Int.natCast_zero, Int.natCast_one, Int.reduceAdd, List.map_append, codeAt, codeO]
  have hw0 := hw
  have hi1 : 0 < H1.length := get_lt hv1
  refine (implPut c hf (lent_code c (i := H1.length) ?_ ?_)).mono ?_
  · rw [get_off0]; rfl
  · rw [get_off]; rfl
  rintro g0 H3 ⟨A3, hH3, hg⟩
  have hv3 : H3[0]? = some (.var (c.cells.map .p)) := by rw [hH3]; exact get_ext (get_ext hv1 _) _
  have h60 : H3[H1.length]? = some (.rows 6 0 (insR c.ins)) := by rw [hH3]; refine get_ext ?_ _; rw [get_off0]; rfl
  have h61 : H3[H1.length + 1]? = some (.rows 1 0 (intR .i64 c.starts)) := by rw [hH3]; refine get_ext ?_ _; rw [get_off]; rfl
  have hx3 : H3[H1.length + 2]? = some (.var [.gs H1.length 0 0 c.ins.length, .gs (H1.length + 1) 0 0 c.starts.length]) := by rw [hH3]; refine get_ext ?_ _; rw [get_off]; rfl
  have hw3 : OwnAt H3 w0 1 (intR .u8 (putD c)) 1 H1.length := by
    rw [hH3]
    refine OwnAt.ext (OwnAt.ext ?_ _) _
    rcases hw with h | ⟨id, ver, h0, h1, h2, h3⟩
    · exact .inl h
    · exact .inr ⟨id, ver, by simp at h0; omega, h1, h2, h3⟩
  have hg3 : OwnAt H3 g0 1 (intR .u8 (putD c)) (H1.length + 3) H3.length := by
    rcases hg with h | ⟨id, ver, h0, h1, h2, h3⟩
    · exact .inl h
    · exact .inr ⟨id, ver, by simp [codeO_len] at h0; omega, h1, h2, h3⟩
  clear hg hw0 hw hH3
  simp only [go_sem, Nat.reduceEqDiff, reduceIte, ↓reduceIte, Nat.reduceAdd, List.replicate_succ, List.replicate_zero, List.set_cons_zero, List.set_cons_succ, List.length_cons, List.length_nil, Nat.reduceLT, Nat.lt_add_one, ne_eq, Int.reduceEq, not_false_eq_true, Option.map_some, Nat.reduceLeDiff, Nat.zero_lt_succ, List.map_cons, List.map_nil, List.nil_append, List.cons_append, List.append_nil, bytesOf, List.take_succ_cons, List.take_zero, List.drop_zero, and_self, List.append_assoc, List.length_append, Int.reduceLT, Int.reduceLE, Int.toNat_zero, Int.reduceToNat, Int.cast_ofNat_Int, Int.natCast_zero, Int.natCast_one, Int.reduceAdd, List.map_append]
  refine (eqByteS_any _ _ hpm hpm (own_lent hg3.own) (own_lent hw3.own)).mono ?_
  rintro r H' ⟨rfl, rfl⟩
  simp only [go_sem, Nat.reduceEqDiff, reduceIte, ↓reduceIte, Nat.reduceAdd, List.replicate_succ, List.replicate_zero, List.set_cons_zero, List.set_cons_succ, List.length_cons, List.length_nil, Nat.reduceLT, Nat.lt_add_one, ne_eq, Int.reduceEq, not_false_eq_true, Option.map_some, Nat.reduceLeDiff, Nat.zero_lt_succ, List.map_cons, List.map_nil, List.nil_append, List.cons_append, List.append_nil, bytesOf, List.take_succ_cons, List.take_zero, List.drop_zero, and_self, List.append_assoc, List.length_append, Int.reduceLT, Int.reduceLE, Int.toNat_zero, Int.reduceToNat, Int.cast_ofNat_Int, Int.natCast_zero, Int.natCast_one, Int.reduceAdd, List.map_append]
  refine drw_same ?_
  simp only [go_sem, Nat.reduceEqDiff, reduceIte, ↓reduceIte, Nat.reduceAdd, List.replicate_succ, List.replicate_zero, List.set_cons_zero, List.set_cons_succ, List.length_cons, List.length_nil, Nat.reduceLT, Nat.lt_add_one, ne_eq, Int.reduceEq, not_false_eq_true, Option.map_some, Nat.reduceLeDiff, Nat.zero_lt_succ, List.map_cons, List.map_nil, List.nil_append, List.cons_append, List.append_nil, bytesOf, List.take_succ_cons, List.take_zero, List.drop_zero, and_self, List.append_assoc, List.length_append, Int.reduceLT, Int.reduceLE, Int.toNat_zero, Int.reduceToNat, Int.cast_ofNat_Int, Int.natCast_zero, Int.natCast_one, Int.reduceAdd, List.map_append, hx3, hv3, code_take]
  refine pcall_pure (fun A => (toCode_fresh c hok hsm).mono fun r H' ⟨h1, h2⟩ => ⟨h2, h1⟩) (Hext.refl _) ?_
  simp only [go_sem, Nat.reduceEqDiff, reduceIte, ↓reduceIte, Nat.reduceAdd, List.replicate_succ, List.replicate_zero, List.set_cons_zero, List.set_cons_succ, List.length_cons, List.length_nil, Nat.reduceLT, Nat.lt_add_one, ne_eq, Int.reduceEq, not_false_eq_true, Option.map_some, Nat.reduceLeDiff, Nat.zero_lt_succ, List.map_cons, List.map_nil, List.nil_append, List.cons_append, List.append_nil, bytesOf, List.take_succ_cons, List.take_zero, List.drop_zero, and_self, List.append_assoc, List.length_append, Int.reduceLT, Int.reduceLE, Int.toNat_zero, Int.reduceToNat, Int.cast_ofNat_Int, Int.natCast_zero, Int.natCast_one, Int.reduceAdd, List.map_append]
  refine (eqCode_any c c hok hok (lent_code c h60 h61) (code_lent c)).mono ?_
  rintro r H' ⟨rfl, rfl⟩
  simp only [go_sem, Nat.reduceEqDiff, reduceIte, ↓reduceIte, Nat.reduceAdd, List.replicate_succ, List.replicate_zero, List.set_cons_zero, List.set_cons_succ, List.length_cons, List.length_nil, Nat.reduceLT, Nat.lt_add_one, ne_eq, Int.reduceEq, not_false_eq_true, Option.map_some, Nat.reduceLeDiff, Nat.zero_lt_succ, List.map_cons, List.map_nil, List.nil_append, List.cons_append, List.append_nil, bytesOf, List.take_succ_cons, List.take_zero, List.drop_zero, and_self, List.append_assoc, List.length_append, Int.reduceLT, Int.reduceLE, Int.toNat_zero, Int.reduceToNat, Int.cast_ofNat_Int, Int.natCast_zero, Int.natCast_one, Int.reduceAdd, List.map_append, hx3]
  refine (markCode c hsm h60 h61).mono ?_
  rintro r H4 ⟨⟨k, hk0, rfl⟩, rs, us, o, hH4⟩
  have hkf : decide (k < 0) = false := by simp; exact hk0
  have hv4 : H4[0]? = some (.var (c.cells.map .p)) := by rw [hH4]; exact get_ext (get_set (get_set hv3 (by omega)) (by omega)) _
  have hw4 : OwnAt H4 w0 1 (intR .u8 (putD c)) 1 H1.length := by rw [hH4]; exact ((hw3.set _ (.inr (by omega))).set _ (.inr (by omega))).ext _
  have hg4 : OwnAt H4 g0 1 (intR .u8 (putD c)) (H1.length + 3) H'.length := by rw [hH4]; exact ((hg3.set _ (.inl (by omega))).set _ (.inl (by omega))).ext _
  have hl4 : H'.length ≤ H4.length := by rw [hH4]; simp
  clear hH4 hv3 h60 h61 hx3 hw3 hg3
  simp only [go_sem, Nat.reduceEqDiff, reduceIte, ↓reduceIte, Nat.reduceAdd, List.replicate_succ, List.replicate_zero, List.set_cons_zero, List.set_cons_succ, List.length_cons, List.length_nil, Nat.reduceLT, Nat.lt_add_one, ne_eq, Int.reduceEq, not_false_eq_true, Option.map_some, Nat.reduceLeDiff, Nat.zero_lt_succ, List.map_cons, List.map_nil, List.nil_append, List.cons_append, List.append_nil, bytesOf, List.take_succ_cons, List.take_zero, List.drop_zero, and_self, List.append_assoc, List.length_append, Int.reduceLT, Int.reduceLE, Int.toNat_zero, Int.reduceToNat, Int.cast_ofNat_Int, Int.natCast_zero, Int.natCast_one, Int.reduceAdd, List.map_append, hkf]
  refine (eqByteS_any _ _ hpm hpm (own_lent hg4.own) (own_lent hw4.own)).mono ?_
  rintro r H5 ⟨rfl, rfl⟩
  simp only [go_sem, Nat.reduceEqDiff, reduceIte, ↓reduceIte, Nat.reduceAdd, List.replicate_succ, List.replicate_zero, List.set_cons_zero, List.set_cons_succ, List.length_cons, List.length_nil, Nat.reduceLT, Nat.lt_add_one, ne_eq, Int.reduceEq, not_false_eq_true, Option.map_some, Nat.reduceLeDiff, Nat.zero_lt_succ, List.map_cons, List.map_nil, List.nil_append, List.cons_append, List.append_nil, bytesOf, List.take_succ_cons, List.take_zero, List.drop_zero, and_self, List.append_assoc, List.length_append, Int.reduceLT, Int.reduceLE, Int.toNat_zero, Int.reduceToNat, Int.cast_ofNat_Int, Int.natCast_zero, Int.natCast_one, Int.reduceAdd, List.map_append, hkf]
  refine (markByteS_own hg4 (by omega)).mono ?_
  rintro r H6 ⟨rfl, hg6, hl6, hk6⟩
  have hv6 := hk6 0 _ hv4 (.inl (by omega))
  have hw6 : OwnAt H6 w0 1 (intR .u8 (putD c)) 1 H1.length := by
    rcases hw4 with h | ⟨id, ver, h0, h1, h2, h3⟩
    · exact .inl h
    · exact .inr ⟨id, ver, h0, h1, h2, hk6 _ _ h3 (.inl (by omega))⟩
  simp only [go_sem, Nat.reduceEqDiff, reduceIte, ↓reduceIte, Nat.reduceAdd, List.replicate_succ, List.replicate_zero, List.set_cons_zero, List.set_cons_succ, List.length_cons, List.length_nil, Nat.reduceLT, Nat.lt_add_one, ne_eq, Int.reduceEq, not_false_eq_true, Option.map_some, Nat.reduceLeDiff, Nat.zero_lt_succ, List.map_cons, List.map_nil, List.nil_append, List.cons_append, List.append_nil, bytesOf, List.take_succ_cons, List.take_zero, List.drop_zero, and_self, List.append_assoc, List.length_append, Int.reduceLT, Int.reduceLE, Int.toNat_zero, Int.reduceToNat, Int.cast_ofNat_Int, Int.natCast_zero, Int.natCast_one, Int.reduceAdd, List.map_append]
  refine (heldByteS_own hg6 (by omega)).mono ?_
  rintro r H7 ⟨rfl, rfl⟩
  have hnn : decide (1 + ((putD c).length : Int) < 0) = false := by simp; omega
  simp only [go_sem, Nat.reduceEqDiff, reduceIte, ↓reduceIte, Nat.reduceAdd, List.replicate_succ, List.replicate_zero, List.set_cons_zero, List.set_cons_succ, List.length_cons, List.length_nil, Nat.reduceLT, Nat.lt_add_one, ne_eq, Int.reduceEq, not_false_eq_true, Option.map_some, Nat.reduceLeDiff, Nat.zero_lt_succ, List.map_cons, List.map_nil, List.nil_append, List.cons_append, List.append_nil, bytesOf, List.take_succ_cons, List.take_zero, List.drop_zero, and_self, List.append_assoc, List.length_append, Int.reduceLT, Int.reduceLE, Int.toNat_zero, Int.reduceToNat, Int.cast_ofNat_Int, Int.natCast_zero, Int.natCast_one, Int.reduceAdd, List.map_append, hnn]
  simp only [go_sem, Nat.reduceEqDiff, reduceIte, ↓reduceIte, Nat.reduceAdd, List.replicate_succ, List.replicate_zero, List.set_cons_zero, List.set_cons_succ, List.length_cons, List.length_nil, Nat.reduceLT, Nat.lt_add_one, ne_eq, Int.reduceEq, not_false_eq_true, Option.map_some, Nat.reduceLeDiff, Nat.zero_lt_succ, List.map_cons, List.map_nil, List.nil_append, List.cons_append, List.append_nil, bytesOf, List.take_succ_cons, List.take_zero, List.drop_zero, and_self, List.append_assoc, List.length_append, Int.reduceLT, Int.reduceLE, Int.toNat_zero, Int.reduceToNat, Int.cast_ofNat_Int, Int.natCast_zero, Int.natCast_one, Int.reduceAdd, List.map_append, hv6, code_take]
  refine (toCode c hok hsm _).mono ?_
  rintro r H8 ⟨rfl, rfl⟩
  simp only [go_sem, Nat.reduceEqDiff, reduceIte, ↓reduceIte, Nat.reduceAdd, List.replicate_succ, List.replicate_zero, List.set_cons_zero, List.set_cons_succ, List.length_cons, List.length_nil, Nat.reduceLT, Nat.lt_add_one, ne_eq, Int.reduceEq, not_false_eq_true, Option.map_some, Nat.reduceLeDiff, Nat.zero_lt_succ, List.map_cons, List.map_nil, List.nil_append, List.cons_append, List.append_nil, bytesOf, List.take_succ_cons, List.take_zero, List.drop_zero, and_self, List.append_assoc, List.length_append, Int.reduceLT, Int.reduceLE, Int.toNat_zero, Int.reduceToNat, Int.cast_ofNat_Int, Int.natCast_zero, Int.natCast_one, Int.reduceAdd, List.map_append]
  refine (implPut c hf (lent_code c (codeO_get0 _ _) (codeO_get1 _ _))).mono ?_
  rintro g1 H9 ⟨A9, hH9, hg9⟩
  have hw9 : OwnAt H9 w0 1 (intR .u8 (putD c)) 1 H1.length := by rw [hH9]; exact (hw6.ext _).ext _
  have hp9 : OwnAt H9 g0 1 (intR .u8 (pat 1 (putD c).length)) (H1.length + 3) H'.length := by rw [hH9]; exact (hg6.ext _).ext _
  clear hH9
  simp only [go_sem, Nat.reduceEqDiff, reduceIte, ↓reduceIte, Nat.reduceAdd, List.replicate_succ, List.replicate_zero, List.set_cons_zero, List.set_cons_succ, List.length_cons, List.length_nil, Nat.reduceLT, Nat.lt_add_one, ne_eq, Int.reduceEq, not_false_eq_true, Option.map_some, Nat.reduceLeDiff, Nat.zero_lt_succ, List.map_cons, List.map_nil, List.nil_append, List.cons_append, List.append_nil, bytesOf, List.take_succ_cons, List.take_zero, List.drop_zero, and_self, List.append_assoc, List.length_append, Int.reduceLT, Int.reduceLE, Int.toNat_zero, Int.reduceToNat, Int.cast_ofNat_Int, Int.natCast_zero, Int.natCast_one, Int.reduceAdd, List.map_append]
  refine (eqByteS_any _ _ hpm hpm (own_lent hg9.own) (own_lent hw9.own)).mono ?_
  rintro r H10 ⟨rfl, rfl⟩
  simp only [go_sem, Nat.reduceEqDiff, reduceIte, ↓reduceIte, Nat.reduceAdd, List.replicate_succ, List.replicate_zero, List.set_cons_zero, List.set_cons_succ, List.length_cons, List.length_nil, Nat.reduceLT, Nat.lt_add_one, ne_eq, Int.reduceEq, not_false_eq_true, Option.map_some, Nat.reduceLeDiff, Nat.zero_lt_succ, List.map_cons, List.map_nil, List.nil_append, List.cons_append, List.append_nil, bytesOf, List.take_succ_cons, List.take_zero, List.drop_zero, and_self, List.append_assoc, List.length_append, Int.reduceLT, Int.reduceLE, Int.toNat_zero, Int.reduceToNat, Int.cast_ofNat_Int, Int.natCast_zero, Int.natCast_one, Int.reduceAdd, List.map_append]
  refine (heldByteS_own hp9 (by omega)).mono ?_
  rintro r H11 ⟨rfl, rfl⟩
  simp only [go_sem, Nat.reduceEqDiff, reduceIte, ↓reduceIte, Nat.reduceAdd, List.replicate_succ, List.replicate_zero, List.set_cons_zero, List.set_cons_succ, List.length_cons, List.length_nil, Nat.reduceLT, Nat.lt_add_one, ne_eq, Int.reduceEq, not_false_eq_true, Option.map_some, Nat.reduceLeDiff, Nat.zero_lt_succ, List.map_cons, List.map_nil, List.nil_append, List.cons_append, List.append_nil, bytesOf, List.take_succ_cons, List.take_zero, List.drop_zero, and_self, List.append_assoc, List.length_append, Int.reduceLT, Int.reduceLE, Int.toNat_zero, Int.reduceToNat, Int.cast_ofNat_Int, Int.natCast_zero, Int.natCast_one, Int.reduceAdd, List.map_append, hnn]
end Go.Proofs.Ytmbggdfceecojaa.Cd

/- Hottest: the statement. -/
set_option linter.all false
namespace Go.Proofs.Ytmbggdfceecojaa.Ho
open Go.ChangeShapes Go.WideShapes Go.ChangeAt Go.RowKit Go.AM

theorem own : ownKnob Try.prog.godebug = none := by kernel_rfl
theorem laidOut : laidOutB Try.prog = true := by kernel_rfl

theorem bulk_elems {H : Type} : ∀ (l : List (DataW H)), l.length ≤ Rows.uptoBulkAll l ∧ ∀ d ∈ l, Rows.uptoBulk d ≤ Rows.uptoBulkAll l
  | [] => ⟨Nat.zero_le _, fun d h => by cases h⟩
  | d :: r => by
    obtain ⟨h1, h2⟩ := bulk_elems r
    have hd : 1 ≤ Rows.uptoBulk d := by
      cases d with
      | lit l => cases l <;> simp [Rows.uptoBulk]
      | _ => simp [Rows.uptoBulk]
    refine ⟨by simp only [Rows.uptoBulkAll, List.length_cons]; omega, fun x hx => ?_⟩
    simp only [Rows.uptoBulkAll]
    rcases List.mem_cons.1 hx with rfl | hx
    · omega
    · have := h2 x hx; omega

theorem bkOk : BkOk (fun H d => Rows.uptoBulk (H := H) d) where
  str := fun H l => by simp [Rows.uptoBulk]
  len := fun H es sp => by have := (bulk_elems es).1; simp only [Rows.uptoBulk]; omega
  elem := fun H es sp d hd => by have := (bulk_elems es).2 d hd; simp only [Rows.uptoBulk]; omega
  part := fun H ps d hd => by have := (bulk_elems ps).2 d hd; simp only [Rows.uptoBulk]; omega

theorem cells3 : Try.prog.cellsOf 3 = 1 := by kernel_rfl

set_option maxRecDepth 100000 in
theorem contract (H : Type) (enc : TypeId × Value → H) (W : World) (base : Nat) (args : Array Value) (ds gs : List (DataW H)) (before : List MemPlace)
    (hval : ∀ (j : Nat) t v, Try.f3.params[j]? = some t → args[j]? = some v → Value.okWide Try.prog W .any base t v)
    (hW : DataW.Whole enc Try.prog Try.f3.params.toList Rows.fnExactHottestSpec.vars false W args.toList ds gs before) (hk : Rows.uptoSmall H (ds ++ gs) = true) :
    Calls Try.prog 3 args W fun e W' => ∃ v, e = .returned v ∧ Rows.fnExactHottestSpec.post enc Try.prog Try.f3 false true false false W args v W' := by
  have hW' := hW
  obtain ⟨p, q, hA0, hV, rfl, hfz, hnd⟩ := hW
  have hA : DataW.TrodAll enc Try.prog W 0 (fun _ => true) true Try.f3.params.toList args.toList ds p := hA0
  rw [Try.params3] at hA hval
  obtain ⟨v0, vs0, d0, ds0, p0, q0, hargs, rfl, rfl, h0, r0⟩ := trodAll_cons hA
  obtain ⟨rfl, rfl, rfl⟩ := trodAll_nil r0
  obtain rfl : args = #[v0] := by cases args; simp_all
  obtain ⟨rfl, rfl⟩ := trodVars_none hV
  have hb : Rows.uptoBulk d0 ≤ maxL := by
    have h1 := of_decide_eq_true hk
    simp only [List.append_nil, Rows.uptoBulkAll] at h1
    unfold maxL
    omega
  have hdec : ∀ n, Dec Try.prog (fun H d => Rows.uptoBulk (H := H) d) maxL n 22 (fun l : List Int => [.l (l.map fun z => [.i .i64 z])]) (fun l => (∀ a ∈ l, (Lit.int .i64 a).wf = true) ∧ l.length ≤ maxL) := fun n => by
    cases n with
    | zero => exact dec_zero
    | succ n => exact dec_slice bkOk (Nat.le_refl _) Try.underlying22 (by rw [cells3]; exact Nat.one_pos) (dec_int n Try.underlying3)
  obtain ⟨zs, ⟨_, hz⟩, hp⟩ := arg_slice Try.underlying22 hdec (hval 0 22 v0 rfl rfl) h0 hb
  exact law_post (tb := 4) Try.underlying4 (by kernel_rfl) laidOut (by intro t ht; rw [Try.params3] at ht; simp at ht; subst ht; exact ⟨by kernel_rfl, of_decide_eq_true (by kernel_rfl)⟩) rfl hW' (fun _ => rfl)
    (avs := [.p (.l (ints zs))]) ⟨rfl, fun j a v ha hv => by
      cases j with
      | zero => cases ha; cases hv; exact .p _ _ hp
      | succ j => simp at ha⟩ (law zs hz)

end Go.Proofs.Ytmbggdfceecojaa.Ho
