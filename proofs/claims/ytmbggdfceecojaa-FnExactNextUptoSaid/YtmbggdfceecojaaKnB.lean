/- Texts CoB CoC CoD ShA McC ShB CoE CoF MaA McG MaG MaH MaI MaB MaC MaJ MaD MaE MaF MaK MaL MaM MaN McH BiA PiA PiB PiC PiD PiE PiF RcA RcB McD RcC RcD RcE RcF RcG RcH TrA McE TrB MaO MaP MaQ TrC TrD TrE MaU NxB, merged. -/
import Derived.Test.YtmbggdfceecojaaKnA
import Derived.Test.YtmbggdfceecojaaChecked
import Derived.Shelf.Strings.Search1
import Derived.KernelRfl
import Derived.ChangeKeysEq
/- Right codes: the fields that are not told are zero. -/
set_option linter.all false
namespace Go.Proofs.Ytmbggdfceecojaa.Cd
open Go.AM Mc Ho

theorem l14Reg (x : Int) {H : List AO} : ACall Try.prog 162 [.p (.i .i64 x)] H (fun r H' => r = .p (.b (inD x 0 15)) ∧ H' = H) := by
  refine call162 (by simp) ?_
  simp only [go_sem, Nat.reduceEqDiff, reduceIte, ↓reduceIte, Nat.reduceAdd, mc162, mr162]
  refine (l1In_any _ _ _).mono ?_
  rintro r H' ⟨rfl, rfl⟩
  simp only [go_sem, Nat.reduceEqDiff, reduceIte, ↓reduceIte, Nat.reduceAdd]

def zeroD (w : List UInt8) (x : InsD) : Bool := (w.contains 97 || decide (x.a = 0)) && (w.contains 98 || decide (x.b = 0)) && (w.contains 99 || decide (x.c = 0)) && (w.contains 110 || decide (x.n = 0)) && (w.contains 116 || decide (x.text = []))

/-- of which letters there is a mark: those of s, and the first m of those of t -/
def hasR (s t : List UInt8) (m : Nat) : List (List AV) :=
  [[.p (.b (if 0 < m then t.contains 97 else s.contains 97))], [.p (.b (if 1 < m then t.contains 98 else s.contains 98))], [.p (.b (if 2 < m then t.contains 99 else s.contains 99))], [.p (.b (if 3 < m then t.contains 110 else s.contains 110))], [.p (.b (if 4 < m then t.contains 116 else s.contains 116))]]

theorem hasR_zero (s t) : hasR s t 0 = hasR s s 5 := by simp [hasR]
theorem hasR_five (s t) : hasR s t 5 = hasR t t 5 := by simp [hasR]

theorem tk {w : List UInt8} {i : Nat} (h : i < w.length) (c : UInt8) : c ∈ w.take (i + 1) ↔ (c ∈ w.take i ∨ w[i] = c) := by
  rw [List.take_succ, List.getElem?_eq_getElem h, List.mem_append]
  simp [eq_comm]

set_option maxHeartbeats 4000000 in
theorem l14Zero (x : InsD) (w : List UInt8) (hw : w.length ≤ 100) : ACall Try.prog 163 [.st (x.cells.map .p), .p (.s w)] [] (fun r H => r = .p (.b (zeroD w x))) := by
  refine call163 (by simp) ?_
  simp only [go_sem, Nat.reduceEqDiff, reduceIte, ↓reduceIte, Nat.reduceAdd, Z0, Z1, Z2, Z3, Z4, Z5, Nat.reduceLT, Z6, Z7, Int.reduceEq, Z8, Z9, Nat.reduceLeDiff, Za, Zb, Zc, Zd, Ze, Zf, bytesOf, Zg, Zh, Zi, Zj, Zk, Zl, Int.reduceLT, Int.reduceLE, Zm, Int.reduceToNat, Zn, Zo, Zp, Int.reduceAdd, Zq, Zr, mc163, mr163, InsD.cells]
  refine ⟨Nat, [0, 1, 2, 4, 5, 6], fun i st => i ≤ w.length ∧ st = ⟨[(0, .st (x.cells.map .p)), (1, .p (.s w)), (2, .ptr 0 0), (4, .p (.b false)), (5, .gs 1 0 0 5), (6, .p (.i .i64 i))], [], [.var (x.cells.map .p), .rows 1 0 (hasR (w.take i) (w.take i) 5)]⟩, fun i => w.length - i, ⟨0, ?_⟩, ?_⟩
  · simp only [go_sem, Nat.reduceEqDiff, reduceIte, ↓reduceIte, Nat.reduceAdd]
    exact ⟨Nat.zero_le _, by simp [InsD.cells, hasR]⟩
  · rintro i st ⟨hi, rfl⟩
    simp only [go_sem, Nat.reduceEqDiff, reduceIte, ↓reduceIte, Nat.reduceAdd]
    intro _
    refine condK_split _ (fun hc => ?_) (fun hc => ?_)
    · have hil : i < w.length := by simpa using hc
      have hg : w[i]? = some w[i] := List.getElem?_eq_getElem hil
      simp only [go_sem, Nat.reduceEqDiff, reduceIte, ↓reduceIte, Nat.reduceAdd]
      refine ⟨Nat, [0, 1, 2, 4, 5, 6, 7], fun m st => m ≤ 5 ∧ st = ⟨[(0, .st (x.cells.map .p)), (1, .p (.s w)), (2, .ptr 0 0), (4, .p (.b false)), (5, .gs 1 0 0 5), (6, .p (.i .i64 i)), (7, .p (.i .i64 m))], [], [.var (x.cells.map .p), .rows 1 0 (hasR (w.take i) (w.take (i + 1)) m)]⟩, fun m => 5 - m, ⟨0, ?_⟩, ?_⟩
      · simp only [go_sem, Nat.reduceEqDiff, reduceIte, ↓reduceIte, Nat.reduceAdd]
        exact ⟨by omega, by rw [hasR_zero]; rfl⟩
      · rintro m st ⟨hm, rfl⟩
        simp only [go_sem, Nat.reduceEqDiff, reduceIte, ↓reduceIte, Nat.reduceAdd]
        refine condK_split _ (fun hd => ?_) (fun hd => ?_)
        · have hm5 : m < 5 := by have : (m : Int) < 5 := by simpa using hd
                                 omega
          have e97 : decide ((w[i].toNat : Int) = 97) = decide (w[i] = 97) := u8_eq w[i] 97 (by omega)
          have e98 : decide ((w[i].toNat : Int) = 98) = decide (w[i] = 98) := u8_eq w[i] 98 (by omega)
          have e99 : decide ((w[i].toNat : Int) = 99) = decide (w[i] = 99) := u8_eq w[i] 99 (by omega)
          have e110 : decide ((w[i].toNat : Int) = 110) = decide (w[i] = 110) := u8_eq w[i] 110 (by omega)
          have e116 : decide ((w[i].toNat : Int) = 116) = decide (w[i] = 116) := u8_eq w[i] 116 (by omega)
          obtain rfl | rfl | rfl | rfl | rfl : m = 0 ∨ m = 1 ∨ m = 2 ∨ m = 3 ∨ m = 4 := by omega
          · simp only [go_sem, Nat.reduceEqDiff, reduceIte, ↓reduceIte, Nat.reduceAdd]
            (refine drw_same ?_; simp only [go_sem, Nat.reduceEqDiff, reduceIte, ↓reduceIte, Nat.reduceAdd, hg, Int.toNat_zero, Int.reduceToNat, Int.cast_ofNat_Int, Int.natCast_one, Int.natCast_zero, Int.reduceLE, Int.reduceLT])
            rw [show ((UInt8.toNat 97 : Nat) : Int) = 97 from rfl, e97]
            refine condK_split _ (fun h1 => ?_) (fun h1 => ?_)
            · simp only [go_sem, Nat.reduceEqDiff, reduceIte, ↓reduceIte, Nat.reduceAdd, Z0, Z1, Z2, Z3, Z4, Z5, Nat.reduceLT, Z6, Z7, Int.reduceEq, Z8, Z9, Nat.reduceLeDiff, Za, Zb, Zc, Zd, Ze, Zf, bytesOf, Zg, Zh, Zi, Zj, Zk, Zl, Int.reduceLT, Int.reduceLE, Zm, Int.reduceToNat, Zn, Zo, Zp, Int.reduceAdd, Zq, Zr, hasR]
              rw [stoR_at rfl rfl]
              simp only [go_sem, Nat.reduceEqDiff, reduceIte, ↓reduceIte, Nat.reduceAdd, Z0, Z1, Z2, Z3, Z4, Z5, Nat.reduceLT, Z6, Z7, Int.reduceEq, Z8, Z9, Nat.reduceLeDiff, Za, Zb, Zc, Zd, Ze, Zf, bytesOf, Zg, Zh, Zi, Zj, Zk, Zl, Int.reduceLT, Int.reduceLE, Zm, Int.reduceToNat, Zn, Zo, Zp, Int.reduceAdd, Zq, Zr]
              refine ⟨1, ⟨by omega, ?_⟩, by omega⟩
              rw [wr64 (by omega) (by omega)]
              have h1' := of_decide_eq_true h1
              simp [hasR, tk hil, h1']
            · simp only [go_sem, Nat.reduceEqDiff, reduceIte, ↓reduceIte, Nat.reduceAdd]
              refine ⟨1, ⟨by omega, ?_⟩, by omega⟩
              rw [wr64 (by omega) (by omega)]
              have h1' := of_decide_eq_false h1
              simp [hasR, tk hil, h1']
          · simp only [go_sem, Nat.reduceEqDiff, reduceIte, ↓reduceIte, Nat.reduceAdd]
            (refine drw_same ?_; simp only [go_sem, Nat.reduceEqDiff, reduceIte, ↓reduceIte, Nat.reduceAdd, hg, Int.toNat_zero, Int.reduceToNat, Int.cast_ofNat_Int, Int.natCast_one, Int.natCast_zero, Int.reduceLE, Int.reduceLT])
            rw [show ((UInt8.toNat 98 : Nat) : Int) = 98 from rfl, e98]
            refine condK_split _ (fun h1 => ?_) (fun h1 => ?_)
            · simp only [go_sem, Nat.reduceEqDiff, reduceIte, ↓reduceIte, Nat.reduceAdd, Z0, Z1, Z2, Z3, Z4, Z5, Nat.reduceLT, Z6, Z7, Int.reduceEq, Z8, Z9, Nat.reduceLeDiff, Za, Zb, Zc, Zd, Ze, Zf, bytesOf, Zg, Zh, Zi, Zj, Zk, Zl, Int.reduceLT, Int.reduceLE, Zm, Int.reduceToNat, Zn, Zo, Zp, Int.reduceAdd, Zq, Zr, hasR]
              rw [stoR_at rfl rfl]
              simp only [go_sem, Nat.reduceEqDiff, reduceIte, ↓reduceIte, Nat.reduceAdd, Z0, Z1, Z2, Z3, Z4, Z5, Nat.reduceLT, Z6, Z7, Int.reduceEq, Z8, Z9, Nat.reduceLeDiff, Za, Zb, Zc, Zd, Ze, Zf, bytesOf, Zg, Zh, Zi, Zj, Zk, Zl, Int.reduceLT, Int.reduceLE, Zm, Int.reduceToNat, Zn, Zo, Zp, Int.reduceAdd, Zq, Zr]
              refine ⟨2, ⟨by omega, ?_⟩, by omega⟩
              rw [wr64 (by omega) (by omega)]
              have h1' := of_decide_eq_true h1
              simp [hasR, tk hil, h1']
            · simp only [go_sem, Nat.reduceEqDiff, reduceIte, ↓reduceIte, Nat.reduceAdd]
              refine ⟨2, ⟨by omega, ?_⟩, by omega⟩
              rw [wr64 (by omega) (by omega)]
              have h1' := of_decide_eq_false h1
              simp [hasR, tk hil, h1']
          · simp only [go_sem, Nat.reduceEqDiff, reduceIte, ↓reduceIte, Nat.reduceAdd]
            (refine drw_same ?_; simp only [go_sem, Nat.reduceEqDiff, reduceIte, ↓reduceIte, Nat.reduceAdd, hg, Int.toNat_zero, Int.reduceToNat, Int.cast_ofNat_Int, Int.natCast_one, Int.natCast_zero, Int.reduceLE, Int.reduceLT])
            rw [show ((UInt8.toNat 99 : Nat) : Int) = 99 from rfl, e99]
            refine condK_split _ (fun h1 => ?_) (fun h1 => ?_)
            · simp only [go_sem, Nat.reduceEqDiff, reduceIte, ↓reduceIte, Nat.reduceAdd, Z0, Z1, Z2, Z3, Z4, Z5, Nat.reduceLT, Z6, Z7, Int.reduceEq, Z8, Z9, Nat.reduceLeDiff, Za, Zb, Zc, Zd, Ze, Zf, bytesOf, Zg, Zh, Zi, Zj, Zk, Zl, Int.reduceLT, Int.reduceLE, Zm, Int.reduceToNat, Zn, Zo, Zp, Int.reduceAdd, Zq, Zr, hasR]
              rw [stoR_at rfl rfl]
              simp only [go_sem, Nat.reduceEqDiff, reduceIte, ↓reduceIte, Nat.reduceAdd, Z0, Z1, Z2, Z3, Z4, Z5, Nat.reduceLT, Z6, Z7, Int.reduceEq, Z8, Z9, Nat.reduceLeDiff, Za, Zb, Zc, Zd, Ze, Zf, bytesOf, Zg, Zh, Zi, Zj, Zk, Zl, Int.reduceLT, Int.reduceLE, Zm, Int.reduceToNat, Zn, Zo, Zp, Int.reduceAdd, Zq, Zr]
              refine ⟨3, ⟨by omega, ?_⟩, by omega⟩
              rw [wr64 (by omega) (by omega)]
              have h1' := of_decide_eq_true h1
              simp [hasR, tk hil, h1']
            · simp only [go_sem, Nat.reduceEqDiff, reduceIte, ↓reduceIte, Nat.reduceAdd]
              refine ⟨3, ⟨by omega, ?_⟩, by omega⟩
              rw [wr64 (by omega) (by omega)]
              have h1' := of_decide_eq_false h1
              simp [hasR, tk hil, h1']
          · simp only [go_sem, Nat.reduceEqDiff, reduceIte, ↓reduceIte, Nat.reduceAdd]
            (refine drw_same ?_; simp only [go_sem, Nat.reduceEqDiff, reduceIte, ↓reduceIte, Nat.reduceAdd, hg, Int.toNat_zero, Int.reduceToNat, Int.cast_ofNat_Int, Int.natCast_one, Int.natCast_zero, Int.reduceLE, Int.reduceLT])
            rw [show ((UInt8.toNat 110 : Nat) : Int) = 110 from rfl, e110]
            refine condK_split _ (fun h1 => ?_) (fun h1 => ?_)
            · simp only [go_sem, Nat.reduceEqDiff, reduceIte, ↓reduceIte, Nat.reduceAdd, Z0, Z1, Z2, Z3, Z4, Z5, Nat.reduceLT, Z6, Z7, Int.reduceEq, Z8, Z9, Nat.reduceLeDiff, Za, Zb, Zc, Zd, Ze, Zf, bytesOf, Zg, Zh, Zi, Zj, Zk, Zl, Int.reduceLT, Int.reduceLE, Zm, Int.reduceToNat, Zn, Zo, Zp, Int.reduceAdd, Zq, Zr, hasR]
              rw [stoR_at rfl rfl]
              simp only [go_sem, Nat.reduceEqDiff, reduceIte, ↓reduceIte, Nat.reduceAdd, Z0, Z1, Z2, Z3, Z4, Z5, Nat.reduceLT, Z6, Z7, Int.reduceEq, Z8, Z9, Nat.reduceLeDiff, Za, Zb, Zc, Zd, Ze, Zf, bytesOf, Zg, Zh, Zi, Zj, Zk, Zl, Int.reduceLT, Int.reduceLE, Zm, Int.reduceToNat, Zn, Zo, Zp, Int.reduceAdd, Zq, Zr]
              refine ⟨4, ⟨by omega, ?_⟩, by omega⟩
              rw [wr64 (by omega) (by omega)]
              have h1' := of_decide_eq_true h1
              simp [hasR, tk hil, h1']
            · simp only [go_sem, Nat.reduceEqDiff, reduceIte, ↓reduceIte, Nat.reduceAdd]
              refine ⟨4, ⟨by omega, ?_⟩, by omega⟩
              rw [wr64 (by omega) (by omega)]
              have h1' := of_decide_eq_false h1
              simp [hasR, tk hil, h1']
          · simp only [go_sem, Nat.reduceEqDiff, reduceIte, ↓reduceIte, Nat.reduceAdd]
            (refine drw_same ?_; simp only [go_sem, Nat.reduceEqDiff, reduceIte, ↓reduceIte, Nat.reduceAdd, hg, Int.toNat_zero, Int.reduceToNat, Int.cast_ofNat_Int, Int.natCast_one, Int.natCast_zero, Int.reduceLE, Int.reduceLT])
            rw [show ((UInt8.toNat 116 : Nat) : Int) = 116 from rfl, e116]
            refine condK_split _ (fun h1 => ?_) (fun h1 => ?_)
            · simp only [go_sem, Nat.reduceEqDiff, reduceIte, ↓reduceIte, Nat.reduceAdd, Z0, Z1, Z2, Z3, Z4, Z5, Nat.reduceLT, Z6, Z7, Int.reduceEq, Z8, Z9, Nat.reduceLeDiff, Za, Zb, Zc, Zd, Ze, Zf, bytesOf, Zg, Zh, Zi, Zj, Zk, Zl, Int.reduceLT, Int.reduceLE, Zm, Int.reduceToNat, Zn, Zo, Zp, Int.reduceAdd, Zq, Zr, hasR]
              rw [stoR_at rfl rfl]
              simp only [go_sem, Nat.reduceEqDiff, reduceIte, ↓reduceIte, Nat.reduceAdd, Z0, Z1, Z2, Z3, Z4, Z5, Nat.reduceLT, Z6, Z7, Int.reduceEq, Z8, Z9, Nat.reduceLeDiff, Za, Zb, Zc, Zd, Ze, Zf, bytesOf, Zg, Zh, Zi, Zj, Zk, Zl, Int.reduceLT, Int.reduceLE, Zm, Int.reduceToNat, Zn, Zo, Zp, Int.reduceAdd, Zq, Zr]
              refine ⟨5, ⟨by omega, ?_⟩, by omega⟩
              rw [wr64 (by omega) (by omega)]
              have h1' := of_decide_eq_true h1
              simp [hasR, tk hil, h1']
            · simp only [go_sem, Nat.reduceEqDiff, reduceIte, ↓reduceIte, Nat.reduceAdd]
              refine ⟨5, ⟨by omega, ?_⟩, by omega⟩
              rw [wr64 (by omega) (by omega)]
              have h1' := of_decide_eq_false h1
              simp [hasR, tk hil, h1']
        · have hm5 : m = 5 := by have : ¬ (m : Int) < 5 := by simpa using hd
                                 omega
          subst hm5
          simp only [go_sem, Nat.reduceEqDiff, reduceIte, ↓reduceIte, Nat.reduceAdd]
          refine ⟨i + 1, ⟨hil, ?_⟩, by omega⟩
          rw [wr1 hil (by unfold maxL; omega), hasR_five]
    · have hil : i = w.length := by simp at hc; omega
      subst hil
      rw [List.take_length]
      unfold zeroD
      simp only [hasR]
      generalize w.contains 97 = h0
      generalize w.contains 98 = h1
      generalize w.contains 99 = h2
      generalize w.contains 110 = h3
      generalize w.contains 116 = h4
      cases h0 <;> cases h1 <;> cases h2 <;> cases h3 <;> cases h4
      all_goals simp only [go_sem, Nat.reduceEqDiff, reduceIte, ↓reduceIte, Nat.reduceAdd, Z0, Z1, Z2, Z3, Z4, Z5, Nat.reduceLT, Z6, Z7, Int.reduceEq, Z8, Z9, Nat.reduceLeDiff, Za, Zb, Zc, Zd, Ze, Zf, bytesOf, Zg, Zh, Zi, Zj, Zk, Zl, Int.reduceLT, Int.reduceLE, Zm, Int.reduceToNat, Zn, Zo, Zp, Int.reduceAdd, Zq, Zr, InsD.cells]
      all_goals repeat' (refine condK_split _ (fun hd => ?_) (fun hd => ?_) <;> simp only [go_sem, Nat.reduceEqDiff, reduceIte, ↓reduceIte, Nat.reduceAdd, Z0, Z1, Z2, Z3, Z4, Z5, Nat.reduceLT, Z6, Z7, Int.reduceEq, Z8, Z9, Nat.reduceLeDiff, Za, Zb, Zc, Zd, Ze, Zf, bytesOf, Zg, Zh, Zi, Zj, Zk, Zl, Int.reduceLT, Int.reduceLE, Zm, Int.reduceToNat, Zn, Zo, Zp, Int.reduceAdd, Zq, Zr, hd])
      all_goals simp_all
end Go.Proofs.Ytmbggdfceecojaa.Cd

/- Right codes: one instruction, by the reference. -/
set_option linter.all false
namespace Go.Proofs.Ytmbggdfceecojaa.Cd
open Go.AM Mc Ho

theorem l14Zero_any (x : InsD) (w : List UInt8) (hw : w.length ≤ 100) {H : List AO} : ACall Try.prog 163 [.st (x.cells.map .p), .p (.s w)] H (fun r H' => r = .p (.b (zeroD w x)) ∧ H' = H) :=
  (acall_lend (l14Zero x w hw) (fun r H' h => by subst h; exact grnd_b _) (lentAll_cons (ins_lent x) (lentAll_cons (.pure _) (lentAll_nil _)))).mono fun r H' ⟨h1, _, h2⟩ => ⟨h2, h1⟩
theorem l1Chars_any (s : List UInt8) (hs : s.length ≤ maxL) {H : List AO} : ACall Try.prog 164 [.p (.s s)] H (fun r H' => r = .p (.b (plainD s)) ∧ H' = H) :=
  (acall_lend (l1Chars s hs) (fun r H' h => by subst h; exact grnd_b _) (lentAll_cons (.pure _) (lentAll_nil _))).mono fun r H' ⟨h1, _, h2⟩ => ⟨h2, h1⟩
theorem plain_any (s : List UInt8) (hs : s.length ≤ maxL) {H : List AO} : ACall Try.prog 171 [.p (.s s)] H (fun r H' => r = .p (.b (plainD s)) ∧ H' = H) :=
  (acall_lend (plain s hs) (fun r H' h => by subst h; exact grnd_b _) (lentAll_cons (.pure _) (lentAll_nil _))).mono fun r H' ⟨h1, _, h2⟩ => ⟨h2, h1⟩

/-- what an operation's instruction tells -/
def opW (t : List UInt8) : Option (List UInt8) :=
  if t = [43] then some [97, 98, 99, 116] else if t = [45] then some [97, 98, 99, 116] else if t = [42] then some [97, 98, 99, 116] else if t = [61] then some [97, 98, 99, 116] else if t = [60] then some [97, 98, 99, 116] else if t = [94] then some [97, 98, 99, 116]
  else if t = [115, 105, 122, 101] then some [97, 98, 116] else if t = [114, 101, 97, 100] then some [97, 116] else if t = [112, 114, 105, 110, 116] then some [98, 116] else none
def zeroO (w : Option (List UInt8)) (x : InsD) : Bool := match w with | some w => zeroD w x | none => false

theorem ins_eta (x : InsD) : [AV.p (.i .i64 x.op), .p (.i .i64 x.a), .p (.i .i64 x.b), .p (.i .i64 x.c), .p (.i .i64 x.n), .p (.s x.text)] = x.cells.map .p := rfl

theorem l14Op (x : InsD) : ACall Try.prog 165 [.st (x.cells.map .p)] [] (fun r H' => r = .p (.b (zeroO (opW x.text) x))) := by
  refine call165 (by simp) ?_
  simp only [go_sem, Nat.reduceEqDiff, reduceIte, ↓reduceIte, Nat.reduceAdd, Z0, Z1, Z2, Z3, Z4, Z5, Nat.reduceLT, Z6, Z7, Int.reduceEq, Z8, Z9, Nat.reduceLeDiff, Za, Zb, Zc, Zd, Ze, Zf, bytesOf, Zg, Zh, Zi, Zj, Zk, Zl, Int.reduceLT, Int.reduceLE, Zm, Int.reduceToNat, Zn, Zo, Zp, Int.reduceAdd, Zq, Zr, mc165, mr165, InsD.cells]
  repeat' (refine condK_split _ (fun hd => ?_) (fun hd => ?_) <;> simp only [go_sem, Nat.reduceEqDiff, reduceIte, ↓reduceIte, Nat.reduceAdd, Z0, Z1, Z2, Z3, Z4, Z5, Nat.reduceLT, Z6, Z7, Int.reduceEq, Z8, Z9, Nat.reduceLeDiff, Za, Zb, Zc, Zd, Ze, Zf, bytesOf, Zg, Zh, Zi, Zj, Zk, Zl, Int.reduceLT, Int.reduceLE, Zm, Int.reduceToNat, Zn, Zo, Zp, Int.reduceAdd, Zq, Zr, hd])
  all_goals first
    | (simp_all [opW, zeroO]; done)
    | (rw [ins_eta]
       refine (l14Zero_any x _ (by simp)).mono ?_
       rintro r H' ⟨rfl, rfl⟩
       simp only [go_sem, Nat.reduceEqDiff, reduceIte, ↓reduceIte, Nat.reduceAdd, Z0, Z1, Z2, Z3, Z4, Z5, Nat.reduceLT, Z6, Z7, Int.reduceEq, Z8, Z9, Nat.reduceLeDiff, Za, Zb, Zc, Zd, Ze, Zf, bytesOf, Zg, Zh, Zi, Zj, Zk, Zl, Int.reduceLT, Int.reduceLE, Zm, Int.reduceToNat, Zn, Zo, Zp, Int.reduceAdd, Zq, Zr]
       simp_all [opW, zeroO])

theorem l14Op_any (x : InsD) {H : List AO} : ACall Try.prog 165 [.st (x.cells.map .p)] H (fun r H' => r = .p (.b (zeroO (opW x.text) x)) ∧ H' = H) :=
  (acall_lend (l14Op x) (fun r H' h => by subst h; exact grnd_b _) (lentAll_cons (ins_lent x) (lentAll_nil _))).mono fun r H' ⟨h1, _, h2⟩ => ⟨h2, h1⟩

def extraD (nI nS : Nat) (x : InsD) : Bool :=
  if x.op = 2 then plainD x.text && decide ((x.text.length : Int) ≤ 4000) else if x.op = 3 then inD x.n 0 (nS - 1) else if x.op = 5 then inD x.n 0 63 else if x.op = 6 then inD x.n 0 63 else if x.op = 8 then inD x.n 1 4000
  else if x.op = 9 then decide (0 ≤ x.n) else if x.op = 10 then decide (0 ≤ x.n) else if x.op = 11 then inD x.n 0 (nI - 1) else if x.op = 12 then inD x.n 0 (nI - 1) else if x.op = 15 then inD x.n 1 2 else true
def wantsD (x : InsD) : Option (List UInt8) :=
  if x.op = 1 then some [97, 110] else if x.op = 2 then some [97, 116] else if x.op = 3 then some [97, 110] else if x.op = 4 then some [97, 98] else if x.op = 5 then some [97, 110] else if x.op = 6 then some [97, 110]
  else if x.op = 7 then opW x.text else if x.op = 8 then some [97, 110] else if x.op = 9 then some [97, 98, 110] else if x.op = 10 then some [97, 98, 110] else if x.op = 11 then some [97, 110] else if x.op = 12 then some [110]
  else if x.op = 13 then some [97] else if x.op = 14 then some [97] else if x.op = 15 then some [110] else none
def insOk (nI nS : Nat) (x : InsD) : Bool := inD x.a 0 15 && inD x.b 0 15 && inD x.c 0 15 && zeroO (wantsD x) x && extraD nI nS x

set_option maxHeartbeats 4000000 in
set_option maxRecDepth 100000 in
theorem l14InstrOk (x : InsD) (hx : x.text.length ≤ maxL) (c : CodeD) (hc : okCode c) : ACall Try.prog 128 [.st (x.cells.map .p), .st (c.cells.map .p)] [] (fun r H' => r = .p (.b (insOk c.ins.length c.starts.length x))) := by
  have hl1 : c.ins.length ≤ 9223372036854775807 := by have := hc.1.1; unfold maxL at this; omega
  have hl2 : c.starts.length ≤ 9223372036854775807 := by have := hc.2; unfold maxL at this; omega
  refine call128 (by simp) ?_
  simp only [go_sem, Nat.reduceEqDiff, reduceIte, ↓reduceIte, Nat.reduceAdd, Z0, Z1, Z2, Z3, Z4, Z5, Nat.reduceLT, Z6, Z7, Int.reduceEq, Z8, Z9, Nat.reduceLeDiff, Za, Zb, Zc, Zd, Ze, Zf, bytesOf, Zg, Zh, Zi, Zj, Zk, Zl, Int.reduceLT, Int.reduceLE, Zm, Int.reduceToNat, Zn, Zo, Zp, Int.reduceAdd, Zq, Zr, mc128, mr128, InsD.cells, CodeD.cells]
  repeat' first
    | (refine condK_split _ (fun hd => ?_) (fun hd => ?_) <;> simp only [go_sem, Nat.reduceEqDiff, reduceIte, ↓reduceIte, Nat.reduceAdd, Z0, Z1, Z2, Z3, Z4, Z5, Nat.reduceLT, Z6, Z7, Int.reduceEq, Z8, Z9, Nat.reduceLeDiff, Za, Zb, Zc, Zd, Ze, Zf, bytesOf, Zg, Zh, Zi, Zj, Zk, Zl, Int.reduceLT, Int.reduceLE, Zm, Int.reduceToNat, Zn, Zo, Zp, Int.reduceAdd, Zq, Zr, hd, inss_len, ints_len])
    | (rw [ins_eta]; refine (l14Zero_any x _ (by simp)).mono ?_; rintro r H' ⟨rfl, rfl⟩; simp only [go_sem, Nat.reduceEqDiff, reduceIte, ↓reduceIte, Nat.reduceAdd, Z0, Z1, Z2, Z3, Z4, Z5, Nat.reduceLT, Z6, Z7, Int.reduceEq, Z8, Z9, Nat.reduceLeDiff, Za, Zb, Zc, Zd, Ze, Zf, bytesOf, Zg, Zh, Zi, Zj, Zk, Zl, Int.reduceLT, Int.reduceLE, Zm, Int.reduceToNat, Zn, Zo, Zp, Int.reduceAdd, Zq, Zr, InsD.cells, inss_len, ints_len])
    | (rw [ins_eta]; refine (l14Op_any x).mono ?_; rintro r H' ⟨rfl, rfl⟩; simp only [go_sem, Nat.reduceEqDiff, reduceIte, ↓reduceIte, Nat.reduceAdd, Z0, Z1, Z2, Z3, Z4, Z5, Nat.reduceLT, Z6, Z7, Int.reduceEq, Z8, Z9, Nat.reduceLeDiff, Za, Zb, Zc, Zd, Ze, Zf, bytesOf, Zg, Zh, Zi, Zj, Zk, Zl, Int.reduceLT, Int.reduceLE, Zm, Int.reduceToNat, Zn, Zo, Zp, Int.reduceAdd, Zq, Zr, InsD.cells, inss_len, ints_len])
    | (refine (l1In_any _ _ _).mono ?_; rintro r H' ⟨rfl, rfl⟩; simp only [go_sem, Nat.reduceEqDiff, reduceIte, ↓reduceIte, Nat.reduceAdd, Z0, Z1, Z2, Z3, Z4, Z5, Nat.reduceLT, Z6, Z7, Int.reduceEq, Z8, Z9, Nat.reduceLeDiff, Za, Zb, Zc, Zd, Ze, Zf, bytesOf, Zg, Zh, Zi, Zj, Zk, Zl, Int.reduceLT, Int.reduceLE, Zm, Int.reduceToNat, Zn, Zo, Zp, Int.reduceAdd, Zq, Zr, inss_len, ints_len])
    | (refine (l14Reg _).mono ?_; rintro r H' ⟨rfl, rfl⟩; simp only [go_sem, Nat.reduceEqDiff, reduceIte, ↓reduceIte, Nat.reduceAdd, Z0, Z1, Z2, Z3, Z4, Z5, Nat.reduceLT, Z6, Z7, Int.reduceEq, Z8, Z9, Nat.reduceLeDiff, Za, Zb, Zc, Zd, Ze, Zf, bytesOf, Zg, Zh, Zi, Zj, Zk, Zl, Int.reduceLT, Int.reduceLE, Zm, Int.reduceToNat, Zn, Zo, Zp, Int.reduceAdd, Zq, Zr, inss_len, ints_len])
    | (refine (l1Chars_any _ hx).mono ?_; rintro r H' ⟨rfl, rfl⟩; simp only [go_sem, Nat.reduceEqDiff, reduceIte, ↓reduceIte, Nat.reduceAdd, Z0, Z1, Z2, Z3, Z4, Z5, Nat.reduceLT, Z6, Z7, Int.reduceEq, Z8, Z9, Nat.reduceLeDiff, Za, Zb, Zc, Zd, Ze, Zf, bytesOf, Zg, Zh, Zi, Zj, Zk, Zl, Int.reduceLT, Int.reduceLE, Zm, Int.reduceToNat, Zn, Zo, Zp, Int.reduceAdd, Zq, Zr, inss_len, ints_len])
    | (intro _; rw [wr64 (by omega) (by omega)])
    | intro _
  all_goals simp only [decide_eq_false_iff_not, decide_eq_true_eq, Bool.not_eq_true', Bool.not_eq_false', Bool.not_eq_true, Bool.not_eq_false] at *
  all_goals (congr 2; simp [insOk, wantsD, extraD, zeroO, *])
end Go.Proofs.Ytmbggdfceecojaa.Cd

/- Right codes: a whole code, by the reference. -/
set_option linter.all false
namespace Go.Proofs.Ytmbggdfceecojaa.Cd
open Go.AM Mc Ho

def lastOk (c : CodeD) : Bool := match c.ins[c.ins.length - 1]? with
  | some x => decide (x.op = 12) || decide (x.op = 13) || decide (x.op = 14) || decide (x.op = 15)
  | none => false
def placeOk (c : CodeD) (n : Int) : Bool := inD n 0 (c.ins.length - 1)
def codeOk (c : CodeD) : Bool := inD c.ins.length 1 40000 && decide ((c.starts.length : Int) ≤ 400) && c.ins.all (insOk c.ins.length c.starts.length) && c.starts.all (placeOk c) && lastOk c

theorem code_eta (c : CodeD) : [AV.p (.l (inss c.ins)), .p (.l (ints c.starts))] = c.cells.map .p := rfl
theorem code_lent {H : List AO} (c : CodeD) : Lent H (.st (c.cells.map .p)) (.st (c.cells.map .p)) :=
  .st _ _ rfl fun j a b ha hb => by
    rw [ha] at hb; cases hb
    rw [List.getElem?_map] at ha
    cases hq : c.cells[j]? with
    | none => rw [hq] at ha; cases ha
    | some q => rw [hq] at ha; cases ha; exact .pure _
theorem l14InstrOk_any (x : InsD) (hx : x.text.length ≤ maxL) (c : CodeD) (hc : okCode c) {H : List AO} : ACall Try.prog 128 [.st (x.cells.map .p), .st (c.cells.map .p)] H (fun r H' => r = .p (.b (insOk c.ins.length c.starts.length x)) ∧ H' = H) :=
  (acall_lend (l14InstrOk x hx c hc) (fun r H' h => by subst h; exact grnd_b _) (lentAll_cons (ins_lent x) (lentAll_cons (code_lent c) (lentAll_nil _)))).mono fun r H' ⟨h1, _, h2⟩ => ⟨h2, h1⟩

theorem specCodeOk (c : CodeD) (hc : okCode c) : ACall Try.prog 70 [.st (c.cells.map .p)] [] (fun r H' => r = .p (.b (codeOk c))) := by
  have hl1 : c.ins.length ≤ 9223372036854775807 := by have := hc.1.1; unfold maxL at this; omega
  have hl2 : c.starts.length ≤ 9223372036854775807 := by have := hc.2; unfold maxL at this; omega
  refine call70 (by simp) ?_
  simp only [go_sem, Nat.reduceEqDiff, reduceIte, ↓reduceIte, Nat.reduceAdd, Z0, Z1, Z2, Z3, Z4, Z5, Nat.reduceLT, Z6, Z7, Int.reduceEq, Z8, Z9, Nat.reduceLeDiff, Za, Zb, Zc, Zd, Ze, Zf, bytesOf, Zg, Zh, Zi, Zj, Zk, Zl, Int.reduceLT, Int.reduceLE, Zm, Int.reduceToNat, Zn, Zo, Zp, Int.reduceAdd, Zq, Zr, mc70, mr70, CodeD.cells, inss_len, ints_len]
  intro _
  refine (l1In_any _ _ _).mono ?_
  rintro r H' ⟨rfl, rfl⟩
  simp only [go_sem, Nat.reduceEqDiff, reduceIte, ↓reduceIte, Nat.reduceAdd, Z0, Z1, Z2, Z3, Z4, Z5, Nat.reduceLT, Z6, Z7, Int.reduceEq, Z8, Z9, Nat.reduceLeDiff, Za, Zb, Zc, Zd, Ze, Zf, bytesOf, Zg, Zh, Zi, Zj, Zk, Zl, Int.reduceLT, Int.reduceLE, Zm, Int.reduceToNat, Zn, Zo, Zp, Int.reduceAdd, Zq, Zr]
  have hbad : inD c.ins.length 1 40000 = false ∨ decide ((400 : Int) < c.starts.length) = true → codeOk c = false := by
    intro h
    unfold codeOk
    rcases h with h | h
    · simp [h]
    · have : ¬ (c.starts.length : Int) ≤ 400 := by simp at h; omega
      simp [this]
  refine condK_split _ (fun h1 => ?_) (fun h1 => ?_)
  · simp only [go_sem, Nat.reduceEqDiff, reduceIte, ↓reduceIte, Nat.reduceAdd, Z0, Z1, Z2, Z3, Z4, Z5, Nat.reduceLT, Z6, Z7, Int.reduceEq, Z8, Z9, Nat.reduceLeDiff, Za, Zb, Zc, Zd, Ze, Zf, bytesOf, Zg, Zh, Zi, Zj, Zk, Zl, Int.reduceLT, Int.reduceLE, Zm, Int.reduceToNat, Zn, Zo, Zp, Int.reduceAdd, Zq, Zr, h1]
    rw [hbad (.inl (by simpa using h1))]
  · simp only [go_sem, Nat.reduceEqDiff, reduceIte, ↓reduceIte, Nat.reduceAdd, Z0, Z1, Z2, Z3, Z4, Z5, Nat.reduceLT, Z6, Z7, Int.reduceEq, Z8, Z9, Nat.reduceLeDiff, Za, Zb, Zc, Zd, Ze, Zf, bytesOf, Zg, Zh, Zi, Zj, Zk, Zl, Int.reduceLT, Int.reduceLE, Zm, Int.reduceToNat, Zn, Zo, Zp, Int.reduceAdd, Zq, Zr, h1, ints_len]
    intro _
    refine condK_split _ (fun h2 => ?_) (fun h2 => ?_)
    · simp only [go_sem, Nat.reduceEqDiff, reduceIte, ↓reduceIte, Nat.reduceAdd, Z0, Z1, Z2, Z3, Z4, Z5, Nat.reduceLT, Z6, Z7, Int.reduceEq, Z8, Z9, Nat.reduceLeDiff, Za, Zb, Zc, Zd, Ze, Zf, bytesOf, Zg, Zh, Zi, Zj, Zk, Zl, Int.reduceLT, Int.reduceLE, Zm, Int.reduceToNat, Zn, Zo, Zp, Int.reduceAdd, Zq, Zr]
      rw [hbad (.inr h2)]
    · simp only [go_sem, Nat.reduceEqDiff, reduceIte, ↓reduceIte, Nat.reduceAdd, Z0, Z1, Z2, Z3, Z4, Z5, Nat.reduceLT, Z6, Z7, Int.reduceEq, Z8, Z9, Nat.reduceLeDiff, Za, Zb, Zc, Zd, Ze, Zf, bytesOf, Zg, Zh, Zi, Zj, Zk, Zl, Int.reduceLT, Int.reduceLE, Zm, Int.reduceToNat, Zn, Zo, Zp, Int.reduceAdd, Zq, Zr]
      have hpos : 0 < c.ins.length := by simp [inD] at h1; omega
      have h40 : c.ins.length ≤ 40000 := by simp [inD] at h1; omega
      refine ⟨Nat, [0, 1, 2, 3], fun i st => i ≤ c.ins.length ∧ (c.ins.take i).all (insOk c.ins.length c.starts.length) = true ∧ st = ⟨[(0, .st (c.cells.map .p)), (1, .ptr 0 0), (2, .p (.b false)), (3, .p (.i .i64 i))], [], [.var (c.cells.map .p)]⟩, fun i => c.ins.length - i, ⟨0, ?_⟩, ?_⟩
      · simp only [go_sem, Nat.reduceEqDiff, reduceIte, ↓reduceIte, Nat.reduceAdd, Z0, Z1, Z2, Z3, Z4, Z5, Nat.reduceLT, Z6, Z7, Int.reduceEq, Z8, Z9, Nat.reduceLeDiff, Za, Zb, Zc, Zd, Ze, Zf, bytesOf, Zg, Zh, Zi, Zj, Zk, Zl, Int.reduceLT, Int.reduceLE, Zm, Int.reduceToNat, Zn, Zo, Zp, Int.reduceAdd, Zq, Zr]
        exact ⟨Nat.zero_le _, by simp, by simp [CodeD.cells]⟩
      · rintro i st ⟨hi, ht, rfl⟩
        simp only [go_sem, Nat.reduceEqDiff, reduceIte, ↓reduceIte, Nat.reduceAdd, Z0, Z1, Z2, Z3, Z4, Z5, Nat.reduceLT, Z6, Z7, Int.reduceEq, Z8, Z9, Nat.reduceLeDiff, Za, Zb, Zc, Zd, Ze, Zf, bytesOf, Zg, Zh, Zi, Zj, Zk, Zl, Int.reduceLT, Int.reduceLE, Zm, Int.reduceToNat, Zn, Zo, Zp, Int.reduceAdd, Zq, Zr, CodeD.cells, inss_len]
        intro _
        refine condK_split _ (fun hd => ?_) (fun hd => ?_)
        · have hil : i < c.ins.length := by simpa using hd
          simp only [go_sem, Nat.reduceEqDiff, reduceIte, ↓reduceIte, Nat.reduceAdd, Z0, Z1, Z2, Z3, Z4, Z5, Nat.reduceLT, Z6, Z7, Int.reduceEq, Z8, Z9, Nat.reduceLeDiff, Za, Zb, Zc, Zd, Ze, Zf, bytesOf, Zg, Zh, Zi, Zj, Zk, Zl, Int.reduceLT, Int.reduceLE, Zm, Int.reduceToNat, Zn, Zo, Zp, Int.reduceAdd, Zq, Zr]
          refine drw_same ?_
          simp only [go_sem, Nat.reduceEqDiff, reduceIte, ↓reduceIte, Nat.reduceAdd, Z0, Z1, Z2, Z3, Z4, Z5, Nat.reduceLT, Z6, Z7, Int.reduceEq, Z8, Z9, Nat.reduceLeDiff, Za, Zb, Zc, Zd, Ze, Zf, bytesOf, Zg, Zh, Zi, Zj, Zk, Zl, Int.reduceLT, Int.reduceLE, Zm, Int.reduceToNat, Zn, Zo, Zp, Int.reduceAdd, Zq, Zr, inss_at _ hil, ins_clen, ins_take, CodeD.cells]
          rw [code_eta]
          refine (l14InstrOk_any _ (hc.1.2 _ (List.getElem_mem hil)) c hc).mono ?_
          rintro r H' ⟨rfl, rfl⟩
          simp only [go_sem, Nat.reduceEqDiff, reduceIte, ↓reduceIte, Nat.reduceAdd, Z0, Z1, Z2, Z3, Z4, Z5, Nat.reduceLT, Z6, Z7, Int.reduceEq, Z8, Z9, Nat.reduceLeDiff, Za, Zb, Zc, Zd, Ze, Zf, bytesOf, Zg, Zh, Zi, Zj, Zk, Zl, Int.reduceLT, Int.reduceLE, Zm, Int.reduceToNat, Zn, Zo, Zp, Int.reduceAdd, Zq, Zr]
          refine condK_split _ (fun he => ?_) (fun he => ?_)
          · simp only [go_sem, Nat.reduceEqDiff, reduceIte, ↓reduceIte, Nat.reduceAdd, Z0, Z1, Z2, Z3, Z4, Z5, Nat.reduceLT, Z6, Z7, Int.reduceEq, Z8, Z9, Nat.reduceLeDiff, Za, Zb, Zc, Zd, Ze, Zf, bytesOf, Zg, Zh, Zi, Zj, Zk, Zl, Int.reduceLT, Int.reduceLE, Zm, Int.reduceToNat, Zn, Zo, Zp, Int.reduceAdd, Zq, Zr]
            have : codeOk c = false := by
              unfold codeOk
              rw [all_false hil (by simpa using he)]; simp
            rw [this]
          · simp only [go_sem, Nat.reduceEqDiff, reduceIte, ↓reduceIte, Nat.reduceAdd, Z0, Z1, Z2, Z3, Z4, Z5, Nat.reduceLT, Z6, Z7, Int.reduceEq, Z8, Z9, Nat.reduceLeDiff, Za, Zb, Zc, Zd, Ze, Zf, bytesOf, Zg, Zh, Zi, Zj, Zk, Zl, Int.reduceLT, Int.reduceLE, Zm, Int.reduceToNat, Zn, Zo, Zp, Int.reduceAdd, Zq, Zr]
            refine ⟨i + 1, ⟨hil, all_take hil ht (by simpa using he), ?_⟩, by omega⟩
            rw [wr1 hil hc.1.1]
        · have hil : i = c.ins.length := by simp at hd; omega
          subst hil
          rw [List.take_length] at ht
          simp only [go_sem, Nat.reduceEqDiff, reduceIte, ↓reduceIte, Nat.reduceAdd, Z0, Z1, Z2, Z3, Z4, Z5, Nat.reduceLT, Z6, Z7, Int.reduceEq, Z8, Z9, Nat.reduceLeDiff, Za, Zb, Zc, Zd, Ze, Zf, bytesOf, Zg, Zh, Zi, Zj, Zk, Zl, Int.reduceLT, Int.reduceLE, Zm, Int.reduceToNat, Zn, Zo, Zp, Int.reduceAdd, Zq, Zr]
          refine ⟨Nat, [0, 1, 2, 4], fun i st => i ≤ c.starts.length ∧ (c.starts.take i).all (placeOk c) = true ∧ st = ⟨[(0, .st (c.cells.map .p)), (1, .ptr 0 0), (2, .p (.b false)), (4, .p (.i .i64 i))], [], [.var (c.cells.map .p)]⟩, fun i => c.starts.length - i, ⟨0, ?_⟩, ?_⟩
          · simp only [go_sem, Nat.reduceEqDiff, reduceIte, ↓reduceIte, Nat.reduceAdd, Z0, Z1, Z2, Z3, Z4, Z5, Nat.reduceLT, Z6, Z7, Int.reduceEq, Z8, Z9, Nat.reduceLeDiff, Za, Zb, Zc, Zd, Ze, Zf, bytesOf, Zg, Zh, Zi, Zj, Zk, Zl, Int.reduceLT, Int.reduceLE, Zm, Int.reduceToNat, Zn, Zo, Zp, Int.reduceAdd, Zq, Zr]
            exact ⟨Nat.zero_le _, by simp, by simp [CodeD.cells]⟩
          · rintro i st ⟨hi, hu, rfl⟩
            simp only [go_sem, Nat.reduceEqDiff, reduceIte, ↓reduceIte, Nat.reduceAdd, Z0, Z1, Z2, Z3, Z4, Z5, Nat.reduceLT, Z6, Z7, Int.reduceEq, Z8, Z9, Nat.reduceLeDiff, Za, Zb, Zc, Zd, Ze, Zf, bytesOf, Zg, Zh, Zi, Zj, Zk, Zl, Int.reduceLT, Int.reduceLE, Zm, Int.reduceToNat, Zn, Zo, Zp, Int.reduceAdd, Zq, Zr, CodeD.cells, ints_len]
            intro _
            refine condK_split _ (fun hd => ?_) (fun hd => ?_)
            · have hil : i < c.starts.length := by simpa using hd
              simp only [go_sem, Nat.reduceEqDiff, reduceIte, ↓reduceIte, Nat.reduceAdd, Z0, Z1, Z2, Z3, Z4, Z5, Nat.reduceLT, Z6, Z7, Int.reduceEq, Z8, Z9, Nat.reduceLeDiff, Za, Zb, Zc, Zd, Ze, Zf, bytesOf, Zg, Zh, Zi, Zj, Zk, Zl, Int.reduceLT, Int.reduceLE, Zm, Int.reduceToNat, Zn, Zo, Zp, Int.reduceAdd, Zq, Zr]
              refine drw_same ?_
              simp only [go_sem, Nat.reduceEqDiff, reduceIte, ↓reduceIte, Nat.reduceAdd, Z0, Z1, Z2, Z3, Z4, Z5, Nat.reduceLT, Z6, Z7, Int.reduceEq, Z8, Z9, Nat.reduceLeDiff, Za, Zb, Zc, Zd, Ze, Zf, bytesOf, Zg, Zh, Zi, Zj, Zk, Zl, Int.reduceLT, Int.reduceLE, Zm, Int.reduceToNat, Zn, Zo, Zp, Int.reduceAdd, Zq, Zr, ints_at _ hil, inss_len, CodeD.cells]
              rw [wr64 (by omega) (by omega)]
              refine (l1In_any _ _ _).mono ?_
              rintro r H' ⟨rfl, rfl⟩
              simp only [go_sem, Nat.reduceEqDiff, reduceIte, ↓reduceIte, Nat.reduceAdd, Z0, Z1, Z2, Z3, Z4, Z5, Nat.reduceLT, Z6, Z7, Int.reduceEq, Z8, Z9, Nat.reduceLeDiff, Za, Zb, Zc, Zd, Ze, Zf, bytesOf, Zg, Zh, Zi, Zj, Zk, Zl, Int.reduceLT, Int.reduceLE, Zm, Int.reduceToNat, Zn, Zo, Zp, Int.reduceAdd, Zq, Zr]
              refine condK_split _ (fun he => ?_) (fun he => ?_)
              · simp only [go_sem, Nat.reduceEqDiff, reduceIte, ↓reduceIte, Nat.reduceAdd, Z0, Z1, Z2, Z3, Z4, Z5, Nat.reduceLT, Z6, Z7, Int.reduceEq, Z8, Z9, Nat.reduceLeDiff, Za, Zb, Zc, Zd, Ze, Zf, bytesOf, Zg, Zh, Zi, Zj, Zk, Zl, Int.reduceLT, Int.reduceLE, Zm, Int.reduceToNat, Zn, Zo, Zp, Int.reduceAdd, Zq, Zr]
                have : codeOk c = false := by
                  unfold codeOk
                  rw [all_false (p := placeOk c) hil (by simpa [placeOk] using he)]; simp
                rw [this]
              · simp only [go_sem, Nat.reduceEqDiff, reduceIte, ↓reduceIte, Nat.reduceAdd, Z0, Z1, Z2, Z3, Z4, Z5, Nat.reduceLT, Z6, Z7, Int.reduceEq, Z8, Z9, Nat.reduceLeDiff, Za, Zb, Zc, Zd, Ze, Zf, bytesOf, Zg, Zh, Zi, Zj, Zk, Zl, Int.reduceLT, Int.reduceLE, Zm, Int.reduceToNat, Zn, Zo, Zp, Int.reduceAdd, Zq, Zr]
                refine ⟨i + 1, ⟨hil, all_take hil hu (by simpa [placeOk] using he), ?_⟩, by omega⟩
                rw [wr1 hil hc.2]
            · have hil : i = c.starts.length := by simp at hd; omega
              subst hil
              rw [List.take_length] at hu
              simp only [go_sem, Nat.reduceEqDiff, reduceIte, ↓reduceIte, Nat.reduceAdd, Z0, Z1, Z2, Z3, Z4, Z5, Nat.reduceLT, Z6, Z7, Int.reduceEq, Z8, Z9, Nat.reduceLeDiff, Za, Zb, Zc, Zd, Ze, Zf, bytesOf, Zg, Zh, Zi, Zj, Zk, Zl, Int.reduceLT, Int.reduceLE, Zm, Int.reduceToNat, Zn, Zo, Zp, Int.reduceAdd, Zq, Zr, inss_len]
              intro _
              rw [wr64 (by omega) (by omega)]
              have hlast : c.ins.length - 1 < c.ins.length := by omega
              have e1 : ((c.ins.length : Int) - 1) = ((c.ins.length - 1 : Nat) : Int) := by omega
              rw [e1]
              simp only [go_sem, Nat.reduceEqDiff, reduceIte, ↓reduceIte, Nat.reduceAdd, Z0, Z1, Z2, Z3, Z4, Z5, Nat.reduceLT, Z6, Z7, Int.reduceEq, Z8, Z9, Nat.reduceLeDiff, Za, Zb, Zc, Zd, Ze, Zf, bytesOf, Zg, Zh, Zi, Zj, Zk, Zl, Int.reduceLT, Int.reduceLE, Zm, Int.reduceToNat, Zn, Zo, Zp, Int.reduceAdd, Zq, Zr, inss_at _ hlast, InsD.cells]
              have hco : codeOk c = (decide (c.ins[c.ins.length - 1].op = 12) || decide (c.ins[c.ins.length - 1].op = 13) || decide (c.ins[c.ins.length - 1].op = 14) || decide (c.ins[c.ins.length - 1].op = 15)) := by
                have h1' : inD c.ins.length 1 40000 = true := by simpa using h1
                have h2' : (c.starts.length : Int) ≤ 400 := by simpa using h2
                unfold codeOk lastOk
                rw [ht, hu, h1', List.getElem?_eq_getElem hlast]
                simp [h2']
              rw [hco]
              repeat' (refine condK_split _ (fun hd => ?_) (fun hd => ?_) <;> simp only [go_sem, Nat.reduceEqDiff, reduceIte, ↓reduceIte, Nat.reduceAdd, Z0, Z1, Z2, Z3, Z4, Z5, Nat.reduceLT, Z6, Z7, Int.reduceEq, Z8, Z9, Nat.reduceLeDiff, Za, Zb, Zc, Zd, Ze, Zf, bytesOf, Zg, Zh, Zi, Zj, Zk, Zl, Int.reduceLT, Int.reduceLE, Zm, Int.reduceToNat, Zn, Zo, Zp, Int.reduceAdd, Zq, Zr, hd])
              all_goals simp_all
end Go.Proofs.Ytmbggdfceecojaa.Cd

/- The search for a byte in a text: the kit's contract, at this program. -/
set_option linter.all false
namespace Go.Proofs.Ytmbggdfceecojaa.Cd
open Go.AM Go.Shelf Mc

def rhoS : Ren := ⟨fun n => if n = 217 then 240 else if n = 266 then 245 else n, fun n => n, fun n => n⟩
theorem run_zero {P : Program} {t : TypeId} {i : TypeInfo} {v : Value} (h : P.info? t = some i) (hz : i.zero = some v) (w : World) : (zeroValue t).run P w = .ok v w := by simp [zeroValue, typeInfo, h, hz]
theorem run_size {P : Program} {t : TypeId} {i : TypeInfo} (h : P.info? t = some i) (hs : i.size = 1) (w : World) : (Go.sizeOf t).run P w = .ok 1 w := by simp [Go.sizeOf, typeInfo, h, hs]
theorem info3 : (Try.prog.info? 3).map (fun i => (i.size, i.zero)) = some (1, some (.int .i64 0)) := by kernel_rfl
theorem sz3 (w : World) : (Go.sizeOf 3).run Try.prog w = .ok 1 w := by
  obtain ⟨i, h1, h2⟩ := Option.map_eq_some_iff.1 info3
  exact run_size h1 (congrArg Prod.fst h2) w
theorem zv3 (w : World) : (zeroValue 3).run Try.prog w = .ok (.int .i64 0) w := by
  obtain ⟨i, h1, h2⟩ := Option.map_eq_some_iff.1 info3
  exact run_zero h1 (congrArg Prod.snd h2) w
theorem info5 : (Try.prog.info? 5).map (fun i => (i.size, i.zero)) = some (1, some (.int .u8 0)) := by kernel_rfl
theorem sz5 (w : World) : (Go.sizeOf 5).run Try.prog w = .ok 1 w := by
  obtain ⟨i, h1, h2⟩ := Option.map_eq_some_iff.1 info5
  exact run_size h1 (congrArg Prod.fst h2) w
theorem zv5 (w : World) : (zeroValue 5).run Try.prog w = .ok (.int .u8 0) w := by
  obtain ⟨i, h1, h2⟩ := Option.map_eq_some_iff.1 info5
  exact run_zero h1 (congrArg Prod.snd h2) w
theorem info9 : (Try.prog.info? 9).map (fun i => (i.size, i.zero)) = some (1, some (.string ⟨#[]⟩)) := by kernel_rfl
theorem sz9 (w : World) : (Go.sizeOf 9).run Try.prog w = .ok 1 w := by
  obtain ⟨i, h1, h2⟩ := Option.map_eq_some_iff.1 info9
  exact run_size h1 (congrArg Prod.fst h2) w
theorem zv9 (w : World) : (zeroValue 9).run Try.prog w = .ok (.string ⟨#[]⟩) w := by
  obtain ⟨i, h1, h2⟩ := Option.map_eq_some_iff.1 info9
  exact run_zero h1 (congrArg Prod.snd h2) w
theorem laysIB : Lays.n217 Try.prog rhoS where
  mixed := by kernel_rfl
  f217 := by kernel_rfl
  f266 := by kernel_rfl
  t3 := by kernel_rfl
  a3 := run_isAgg_plain (t := 3) (show Try.prog.underlying 3 = some (TypeDesc.int IntKind.i64) from by kernel_rfl) rfl
  z3 := sz3
  v3 := zv3
  t5 := by kernel_rfl
  a5 := run_isAgg_plain (t := 5) (show Try.prog.underlying 5 = some (TypeDesc.int IntKind.u8) from by kernel_rfl) rfl
  z5 := sz5
  v5 := zv5
  t9 := by kernel_rfl
  a9 := run_isAgg_plain (t := 9) (show Try.prog.underlying 9 = some (TypeDesc.string) from by kernel_rfl) rfl
  z9 := sz9
  v9 := zv9

theorem acall_kept {P : Program} {f : Nat} {args : List AV} {H : List AO} {Q : AV → List AO → Prop} (hb : HasBody P f)
    (h : ∀ (w : World) (θ : Th) (W : Im) (vs : Array Value), Rels θ W args vs → ∃ v r, Calls P f vs w (fun e w' => e = .returned v ∧ w' = w) ∧ Q r H ∧ ARel θ W r v) : ACall P f args H Q := by
  refine ⟨hb, fun w θ W vs hSR hr => ?_⟩
  obtain ⟨v, r, h1, h2, h3⟩ := h w θ W vs hr
  refine h1.mono ?_
  rintro e w' ⟨rfl, rfl⟩
  exact ⟨v, r, H, θ, W, rfl, h2, hSR, h3, Stp.refl _ _ _⟩

theorem indexByte (s : List UInt8) (c : UInt8) {H : List AO} : ACall Try.prog 240 [.p (.s s), .p (.i .u8 c.toNat)] H (fun r H' => r = .p (.i .i64 (Lib.indexByte s c)) ∧ H' = H) := by
  refine acall_kept ⟨Try.f240, Try.func240, by kernel_rfl, by kernel_rfl⟩ ?_
  intro w θ W vs hr
  obtain ⟨h1, h2⟩ := hr
  have hvs : vs = #[.string ⟨s.toArray⟩, .int .u8 c.toNat] := by
    apply Array.ext'
    have hs : vs.toList.length = 2 := by simpa using h1
    match hl : vs.toList, hs with
    | [a, b], _ =>
      have ha := h2 0 _ a rfl (by rw [← Array.getElem?_toList, hl]; rfl)
      have hb := h2 1 _ b rfl (by rw [← Array.getElem?_toList, hl]; rfl)
      obtain ⟨e1, _⟩ := ha.s_inv
      have e2 := hb.i_inv
      rw [e1, e2]
  subst hvs
  have key := Any.stringslite_IndexByte laysIB ⟨s.toArray⟩ c.toNat w
  refine ⟨_, _, key, ⟨rfl, rfl⟩, ?_⟩
  simp
  exact .p _ _ (.i _ _)
end Go.Proofs.Ytmbggdfceecojaa.Cd

/- THE SMALL CODES of functions 235, and their ties to the program (printed by wip/tools/mkties.sh). -/
set_option linter.all false
namespace Go.Proofs.Ytmbggdfceecojaa.Mc
open Go.AM
def lv235 : List Nat := [0, 1, 4, 5, 6, 7, 8, 9, 10, 11, 12, 13, 16, 24, 31, 36, 59, 64, 73, 93, 107, 114, 132, 139]
def mc235 : MC :=
.seq (.reg [
    ⟨.l 4, .mv (.c (.p (.i .i64 0))), none⟩]) (
  .seq (.reg [
    ⟨.t 14, .mv (.l 1), none⟩,
    ⟨.t 15, .len true (.t 14), none⟩,
    ⟨.l 5, .mv (.t 15), none⟩]) (
  .seq (.blk 0 (
    .seq (.reg [
      ⟨.t 17, .mv (.l 5), none⟩,
      ⟨.t 18, .bin .eql (.t 17) (.c (.p (.i .i64 0))), none⟩,
      ⟨.t 19, .mv (.t 18), none⟩,
      ⟨.t 20, .mv (.l 1), some ((.t 19), false)⟩,
      ⟨.t 21, .mv (.l 0), some ((.t 19), false)⟩,
      ⟨.t 22, .bin .eql (.t 20) (.t 21), some ((.t 19), false)⟩,
      ⟨.t 23, .pick (.t 19) (.c (.p (.b true))) (.t 22), none⟩,
      ⟨.l 16, .mv (.t 23), none⟩]) (
    .cond (.l 16) (
      .seq (.reg [
        ⟨.l 4, .mv (.c (.p (.i .i64 0))), none⟩]) (
      .ret)) (
      .seq (.reg [
        ⟨.t 25, .mv (.l 5), none⟩,
        ⟨.t 26, .bin .eql (.t 25) (.c (.p (.i .i64 1))), none⟩,
        ⟨.l 24, .mv (.t 26), none⟩]) (
      .cond (.l 24) (
        .seq (.reg [
          ⟨.t 27, .mv (.l 0), none⟩,
          ⟨.t 28, .mv (.l 1), none⟩,
          ⟨.t 29, .ixt (.t 28) (.c (.p (.i .i64 0))), none⟩,
          ⟨.t 30, .call 240 [.t 27, .t 29], none⟩,
          ⟨.l 4, .mv (.t 30), none⟩]) (
        .ret)) (
        .seq (.reg [
          ⟨.t 32, .mv (.l 5), none⟩,
          ⟨.t 33, .mv (.l 0), none⟩,
          ⟨.t 34, .len true (.t 33), none⟩,
          ⟨.t 35, .bin .geq (.t 32) (.t 34), none⟩,
          ⟨.l 31, .mv (.t 35), none⟩]) (
        .cond (.l 31) (
          .seq (.reg [
            ⟨.l 4, .mv (.c (.p (.i .i64 (-1)))), none⟩]) (
          .ret)) (
          .seq (.reg [
            ⟨.t 37, .mv (.l 5), none⟩,
            ⟨.no, .stop, none⟩,
            ⟨.t 39, .bin .leq (.t 37) (.t 38), none⟩,
            ⟨.t 40, .mv (.t 39), none⟩,
            ⟨.t 41, .mv (.l 0), some ((.t 40), true)⟩,
            ⟨.t 42, .len true (.t 41), some ((.t 40), true)⟩,
            ⟨.t 43, .bin .leq (.t 42) (.c (.p (.i .i64 64))), some ((.t 40), true)⟩,
            ⟨.t 44, .pick (.t 40) (.t 43) (.c (.p (.b false))), none⟩,
            ⟨.l 36, .mv (.t 44), none⟩]) (
          .cond (.l 36) (
            .seq (.reg [
              ⟨.t 45, .mv (.l 0), none⟩,
              ⟨.t 46, .mv (.l 1), none⟩,
              ⟨.no, .stop, none⟩,
              ⟨.l 4, .mv (.t 47), none⟩]) (
            .ret)) (
            .skip)))))))))) (
  .seq (.reg [
    ⟨.t 48, .mv (.l 1), none⟩,
    ⟨.t 49, .ixt (.t 48) (.c (.p (.i .i64 0))), none⟩,
    ⟨.l 6, .mv (.t 49), none⟩]) (
  .seq (.reg [
    ⟨.t 50, .mv (.l 1), none⟩,
    ⟨.t 51, .ixt (.t 50) (.c (.p (.i .i64 1))), none⟩,
    ⟨.l 7, .mv (.t 51), none⟩]) (
  .seq (.reg [
    ⟨.l 8, .mv (.c (.p (.i .i64 0))), none⟩]) (
  .seq (.reg [
    ⟨.t 52, .mv (.l 0), none⟩,
    ⟨.t 53, .len true (.t 52), none⟩,
    ⟨.t 54, .mv (.l 5), none⟩,
    ⟨.t 55, .bin .sub (.t 53) (.t 54), none⟩,
    ⟨.t 56, .bin .add (.t 55) (.c (.p (.i .i64 1))), none⟩,
    ⟨.l 9, .mv (.t 56), none⟩]) (
  .seq (.reg [
    ⟨.l 10, .mv (.c (.p (.i .i64 0))), none⟩]) (
  .seq (.blk 1 (
    .loop (
      .seq (.seq (.reg [
        ⟨.t 57, .mv (.l 8), none⟩,
        ⟨.t 58, .mv (.l 9), none⟩,
        ⟨.l 59, .bin .lss (.t 57) (.t 58), none⟩]) (
      .cond (.l 59) (
        .skip) (
        .exit 1))) (
      .blk 2 (
        .seq (.seq (.reg [
          ⟨.t 60, .mv (.l 0), none⟩,
          ⟨.t 61, .mv (.l 8), none⟩,
          ⟨.t 62, .ixt (.t 60) (.t 61), none⟩,
          ⟨.t 63, .mv (.l 6), none⟩,
          ⟨.l 64, .bin .neq (.t 62) (.t 63), none⟩]) (
        .cond (.l 64) (
          .seq (.reg [
            ⟨.t 65, .mv (.l 0), none⟩,
            ⟨.t 66, .mv (.l 8), none⟩,
            ⟨.t 67, .bin .add (.t 66) (.c (.p (.i .i64 1))), none⟩,
            ⟨.t 68, .mv (.l 9), none⟩,
            ⟨.t 69, .slc none (.t 65) (some (.t 67)) (some (.t 68)), none⟩,
            ⟨.t 70, .mv (.l 6), none⟩,
            ⟨.t 71, .call 240 [.t 69, .t 70], none⟩,
            ⟨.l 11, .mv (.t 71), none⟩]) (
          .seq (.seq (.reg [
            ⟨.t 72, .mv (.l 11), none⟩,
            ⟨.l 73, .bin .lss (.t 72) (.c (.p (.i .i64 0))), none⟩]) (
          .cond (.l 73) (
            .seq (.reg [
              ⟨.l 4, .mv (.c (.p (.i .i64 (-1)))), none⟩]) (
            .ret)) (
            .skip))) (
          .reg [
            ⟨.t 74, .mv (.l 8), none⟩,
            ⟨.t 75, .mv (.l 11), none⟩,
            ⟨.t 76, .bin .add (.t 75) (.c (.p (.i .i64 1))), none⟩,
            ⟨.t 77, .bin .add (.t 74) (.t 76), none⟩,
            ⟨.l 8, .mv (.t 77), none⟩]))) (
          .skip))) (
        .seq (.seq (.reg [
          ⟨.t 78, .mv (.l 0), none⟩,
          ⟨.t 79, .mv (.l 8), none⟩,
          ⟨.t 80, .bin .add (.t 79) (.c (.p (.i .i64 1))), none⟩,
          ⟨.t 81, .ixt (.t 78) (.t 80), none⟩,
          ⟨.t 82, .mv (.l 7), none⟩,
          ⟨.t 83, .bin .eql (.t 81) (.t 82), none⟩,
          ⟨.t 84, .mv (.t 83), none⟩,
          ⟨.t 85, .mv (.l 0), some ((.t 84), true)⟩,
          ⟨.t 86, .mv (.l 8), some ((.t 84), true)⟩,
          ⟨.t 87, .mv (.l 8), some ((.t 84), true)⟩,
          ⟨.t 88, .mv (.l 5), some ((.t 84), true)⟩,
          ⟨.t 89, .bin .add (.t 87) (.t 88), some ((.t 84), true)⟩,
          ⟨.t 90, .slc none (.t 85) (some (.t 86)) (some (.t 89)), some ((.t 84), true)⟩,
          ⟨.t 91, .mv (.l 1), some ((.t 84), true)⟩,
          ⟨.t 92, .bin .eql (.t 90) (.t 91), some ((.t 84), true)⟩,
          ⟨.l 93, .pick (.t 84) (.t 92) (.c (.p (.b false))), none⟩]) (
        .cond (.l 93) (
          .seq (.reg [
            ⟨.t 94, .mv (.l 8), none⟩,
            ⟨.l 4, .mv (.t 94), none⟩]) (
          .ret)) (
          .skip))) (
        .seq (.reg [
          ⟨.t 95, .mv (.l 8), none⟩,
          ⟨.t 96, .bin .add (.t 95) (.c (.p (.i .i64 1))), none⟩,
          ⟨.l 8, .mv (.t 96), none⟩]) (
        .seq (.reg [
          ⟨.t 97, .mv (.l 10), none⟩,
          ⟨.t 98, .bin .add (.t 97) (.c (.p (.i .i64 1))), none⟩,
          ⟨.l 10, .mv (.t 98), none⟩]) (
        .seq (.reg [
          ⟨.t 99, .mv (.l 5), none⟩,
          ⟨.no, .stop, none⟩,
          ⟨.t 101, .bin .leq (.t 99) (.t 100), none⟩,
          ⟨.t 102, .mv (.t 101), none⟩,
          ⟨.t 103, .mv (.l 10), some ((.t 102), true)⟩,
          ⟨.t 104, .mv (.l 8), some ((.t 102), true)⟩,
          ⟨.t 105, .call 242 [.t 104], some ((.t 102), true)⟩,
          ⟨.t 106, .bin .gtr (.t 103) (.t 105), some ((.t 102), true)⟩,
          ⟨.l 107, .pick (.t 102) (.t 106) (.c (.p (.b false))), none⟩]) (
        .cond (.l 107) (
          .seq (.reg [
            ⟨.t 108, .mv (.l 0), none⟩,
            ⟨.t 109, .mv (.l 8), none⟩,
            ⟨.t 110, .slc none (.t 108) (some (.t 109)) none, none⟩,
            ⟨.t 111, .mv (.l 1), none⟩,
            ⟨.no, .stop, none⟩,
            ⟨.l 12, .mv (.t 112), none⟩]) (
          .seq (.seq (.reg [
            ⟨.t 113, .mv (.l 12), none⟩,
            ⟨.l 114, .bin .geq (.t 113) (.c (.p (.i .i64 0))), none⟩]) (
          .cond (.l 114) (
            .seq (.reg [
              ⟨.t 115, .mv (.l 12), none⟩,
              ⟨.t 116, .mv (.l 8), none⟩,
              ⟨.t 117, .bin .add (.t 115) (.t 116), none⟩,
              ⟨.l 4, .mv (.t 117), none⟩]) (
            .ret)) (
            .skip))) (
          .seq (.reg [
            ⟨.l 4, .mv (.c (.p (.i .i64 (-1)))), none⟩]) (
          .ret)))) (
          .seq (.reg [
            ⟨.t 118, .mv (.l 5), none⟩,
            ⟨.no, .stop, none⟩,
            ⟨.t 120, .bin .gtr (.t 118) (.t 119), none⟩,
            ⟨.t 121, .mv (.t 120), none⟩,
            ⟨.t 122, .mv (.l 10), some ((.t 121), true)⟩,
            ⟨.t 123, .mv (.l 8), some ((.t 121), true)⟩,
            ⟨.t 124, .bin .shr (.t 123) (.c (.p (.i .u64 4))), some ((.t 121), true)⟩,
            ⟨.t 125, .bin .add (.c (.p (.i .i64 4))) (.t 124), some ((.t 121), true)⟩,
            ⟨.t 126, .bin .geq (.t 122) (.t 125), some ((.t 121), true)⟩,
            ⟨.t 127, .pick (.t 121) (.t 126) (.c (.p (.b false))), none⟩,
            ⟨.t 128, .mv (.t 127), none⟩,
            ⟨.t 129, .mv (.l 8), some ((.t 128), true)⟩,
            ⟨.t 130, .mv (.l 9), some ((.t 128), true)⟩,
            ⟨.t 131, .bin .lss (.t 129) (.t 130), some ((.t 128), true)⟩,
            ⟨.l 132, .pick (.t 128) (.t 131) (.c (.p (.b false))), none⟩]) (
          .cond (.l 132) (
            .seq (.reg [
              ⟨.t 133, .mv (.l 0), none⟩,
              ⟨.t 134, .mv (.l 8), none⟩,
              ⟨.t 135, .slc none (.t 133) (some (.t 134)) none, none⟩,
              ⟨.t 136, .mv (.l 1), none⟩,
              ⟨.t 137, .call 243 [.t 135, .t 136], none⟩,
              ⟨.l 13, .mv (.t 137), none⟩]) (
            .seq (.seq (.reg [
              ⟨.t 138, .mv (.l 13), none⟩,
              ⟨.l 139, .bin .lss (.t 138) (.c (.p (.i .i64 0))), none⟩]) (
            .cond (.l 139) (
              .seq (.reg [
                ⟨.l 4, .mv (.c (.p (.i .i64 (-1)))), none⟩]) (
              .ret)) (
              .skip))) (
            .seq (.reg [
              ⟨.t 140, .mv (.l 8), none⟩,
              ⟨.t 141, .mv (.l 13), none⟩,
              ⟨.t 142, .bin .add (.t 140) (.t 141), none⟩,
              ⟨.l 4, .mv (.t 142), none⟩]) (
            .ret)))) (
            .skip))))))))))))) (
  .seq (.reg [
    ⟨.l 4, .mv (.c (.p (.i .i64 (-1)))), none⟩]) (
  .ret))))))))))
theorem mc235_eq : (Try.f235.body.map (compile lv235 Try.prog 143)) = some mc235 := by kernel_rfl
def mr235 : List MR := [.t 4]
theorem mr235_eq : cRess lv235 Try.prog Try.f235.results.toList = some mr235 := by kernel_rfl
theorem call235 {args : List AV} {H : List AO} {Q : AV → List AO → Prop} (hla : args.length ≤ 143) (h : wpm (ACall Try.prog) mc235 (finK mr235 Q) ⟨argEnv 0 args, [], H⟩) : ACall Try.prog 235 args H Q :=
  acall_mc (by kernel_rfl) Try.func235 mc235_eq Try.ntmps235 (by kernel_rfl) mr235_eq hla h
end Go.Proofs.Ytmbggdfceecojaa.Mc

/- Whether a text has a byte. -/
set_option linter.all false
namespace Go.Proofs.Ytmbggdfceecojaa.Cd
open Go.AM Mc

theorem has_index (s : List UInt8) (c : UInt8) : decide (0 ≤ Go.Lib.indexByte s c) = s.contains c := by
  induction s with
  | nil => rfl
  | cons b l ih =>
    unfold Go.Lib.indexByte
    by_cases h : b = c
    · subst h; simp
    · have h' : ¬ c = b := fun e => h e.symm
      have hb : (b == c) = false := by simp [h]
      have hg := Go.Lib.indexByte_ge l c
      rw [hb]
      simp only [Bool.false_eq_true, if_false]
      rw [List.contains_cons, ← ih]
      have hcb : (c == b) = false := by simp [h']
      rw [hcb, Bool.false_or, decide_eq_decide]
      split
      · rename_i e; simp at e; omega
      · rename_i e; simp at e; omega

theorem index1 (s : List UInt8) (hs : s.length ≤ maxL) (c : UInt8) : ACall Try.prog 235 [.p (.s s), .p (.s [c])] [] (fun r H' => ∃ z : Int, r = .p (.i .i64 z) ∧ decide (0 ≤ z) = s.contains c) := by
  refine call235 (by simp) ?_
  simp only [go_sem, Nat.reduceEqDiff, reduceIte, ↓reduceIte, Nat.reduceAdd, Z0, Z1, Z2, Z3, Z4, Z5, Nat.reduceLT, Z6, Z7, Int.reduceEq, Z8, Z9, Nat.reduceLeDiff, Za, Zb, Zc, Zd, Ze, Zf, bytesOf, Zg, Zh, Zi, Zj, Zk, Zl, Int.reduceLT, Int.reduceLE, Zm, Int.reduceToNat, Zn, Zo, Zp, Int.reduceAdd, Zq, Zr, mc235, mr235]
  intro _
  refine condK_split _ (fun h1 => ?_) (fun h1 => ?_)
  · simp only [go_sem, Nat.reduceEqDiff, reduceIte, ↓reduceIte, Nat.reduceAdd, Z0, Z1, Z2, Z3, Z4, Z5, Nat.reduceLT, Z6, Z7, Int.reduceEq, Z8, Z9, Nat.reduceLeDiff, Za, Zb, Zc, Zd, Ze, Zf, bytesOf, Zg, Zh, Zi, Zj, Zk, Zl, Int.reduceLT, Int.reduceLE, Zm, Int.reduceToNat, Zn, Zo, Zp, Int.reduceAdd, Zq, Zr, h1]
    have : [c] = s := by simpa using h1
    subst this
    exact ⟨0, rfl, by simp⟩
  · simp only [go_sem, Nat.reduceEqDiff, reduceIte, ↓reduceIte, Nat.reduceAdd, Z0, Z1, Z2, Z3, Z4, Z5, Nat.reduceLT, Z6, Z7, Int.reduceEq, Z8, Z9, Nat.reduceLeDiff, Za, Zb, Zc, Zd, Ze, Zf, bytesOf, Zg, Zh, Zi, Zj, Zk, Zl, Int.reduceLT, Int.reduceLE, Zm, Int.reduceToNat, Zn, Zo, Zp, Int.reduceAdd, Zq, Zr, h1]
    refine (indexByte s c).mono ?_
    rintro r H' ⟨rfl, rfl⟩
    simp only [go_sem, Nat.reduceEqDiff, reduceIte, ↓reduceIte, Nat.reduceAdd, Z0, Z1, Z2, Z3, Z4, Z5, Nat.reduceLT, Z6, Z7, Int.reduceEq, Z8, Z9, Nat.reduceLeDiff, Za, Zb, Zc, Zd, Ze, Zf, bytesOf, Zg, Zh, Zi, Zj, Zk, Zl, Int.reduceLT, Int.reduceLE, Zm, Int.reduceToNat, Zn, Zo, Zp, Int.reduceAdd, Zq, Zr]
    exact ⟨_, rfl, has_index s c⟩

theorem index (s : List UInt8) (hs : s.length ≤ maxL) (c : UInt8) : ACall Try.prog 214 [.p (.s s), .p (.s [c])] [] (fun r H' => ∃ z : Int, r = .p (.i .i64 z) ∧ decide (0 ≤ z) = s.contains c) := by
  refine call214 (by simp) ?_
  simp only [go_sem, Nat.reduceEqDiff, reduceIte, ↓reduceIte, Nat.reduceAdd, Z0, Z1, Z2, Z3, Z4, Z5, Nat.reduceLT, Z6, Z7, Int.reduceEq, Z8, Z9, Nat.reduceLeDiff, Za, Zb, Zc, Zd, Ze, Zf, bytesOf, Zg, Zh, Zi, Zj, Zk, Zl, Int.reduceLT, Int.reduceLE, Zm, Int.reduceToNat, Zn, Zo, Zp, Int.reduceAdd, Zq, Zr, mc214, mr214]
  refine (index1 s hs c).mono ?_
  rintro r H' ⟨z, rfl, hz⟩
  simp only [go_sem, Nat.reduceEqDiff, reduceIte, ↓reduceIte, Nat.reduceAdd, Z0, Z1, Z2, Z3, Z4, Z5, Nat.reduceLT, Z6, Z7, Int.reduceEq, Z8, Z9, Nat.reduceLeDiff, Za, Zb, Zc, Zd, Ze, Zf, bytesOf, Zg, Zh, Zi, Zj, Zk, Zl, Int.reduceLT, Int.reduceLE, Zm, Int.reduceToNat, Zn, Zo, Zp, Int.reduceAdd, Zq, Zr]
  exact ⟨z, rfl, hz⟩

theorem contains1 (s : List UInt8) (hs : s.length ≤ maxL) (c : UInt8) : ACall Try.prog 169 [.p (.s s), .p (.s [c])] [] (fun r H' => r = .p (.b (s.contains c))) := by
  refine call169 (by simp) ?_
  simp only [go_sem, Nat.reduceEqDiff, reduceIte, ↓reduceIte, Nat.reduceAdd, Z0, Z1, Z2, Z3, Z4, Z5, Nat.reduceLT, Z6, Z7, Int.reduceEq, Z8, Z9, Nat.reduceLeDiff, Za, Zb, Zc, Zd, Ze, Zf, bytesOf, Zg, Zh, Zi, Zj, Zk, Zl, Int.reduceLT, Int.reduceLE, Zm, Int.reduceToNat, Zn, Zo, Zp, Int.reduceAdd, Zq, Zr, mc169, mr169]
  refine (index s hs c).mono ?_
  rintro r H' ⟨z, rfl, hz⟩
  simp only [go_sem, Nat.reduceEqDiff, reduceIte, ↓reduceIte, Nat.reduceAdd, Z0, Z1, Z2, Z3, Z4, Z5, Nat.reduceLT, Z6, Z7, Int.reduceEq, Z8, Z9, Nat.reduceLeDiff, Za, Zb, Zc, Zd, Ze, Zf, bytesOf, Zg, Zh, Zi, Zj, Zk, Zl, Int.reduceLT, Int.reduceLE, Zm, Int.reduceToNat, Zn, Zo, Zp, Int.reduceAdd, Zq, Zr, hz]
theorem contains_any (s : List UInt8) (hs : s.length ≤ maxL) (c : UInt8) {H : List AO} : ACall Try.prog 169 [.p (.s s), .p (.s [c])] H (fun r H' => r = .p (.b (s.contains c)) ∧ H' = H) :=
  (acall_lend (contains1 s hs c) (fun r H' h => by subst h; exact grnd_b _) (lentAll_cons (.pure _) (lentAll_cons (.pure _) (lentAll_nil _)))).mono fun r H' ⟨h1, _, h2⟩ => ⟨h2, h1⟩
end Go.Proofs.Ytmbggdfceecojaa.Cd

/- Right codes: one instruction, by the program. -/
set_option linter.all false
namespace Go.Proofs.Ytmbggdfceecojaa.Cd
open Go.AM Mc Ho

def wantsR (w : Option (List UInt8)) : AV := match w with | some w => .tup [.p (.s w), .p (.b true)] | none => .tup [.p (.s []), .p (.b false)]

set_option maxHeartbeats 4000000 in
set_option maxRecDepth 100000 in
theorem wants (x : InsD) : ACall Try.prog 167 [.st (x.cells.map .p)] [] (fun r H' => r = wantsR (wantsD x)) := by
  refine call167 (by simp) ?_
  simp only [go_sem, Nat.reduceEqDiff, reduceIte, ↓reduceIte, Nat.reduceAdd, Z0, Z1, Z2, Z3, Z4, Z5, Nat.reduceLT, Z6, Z7, Int.reduceEq, Z8, Z9, Nat.reduceLeDiff, Za, Zb, Zc, Zd, Ze, Zf, bytesOf, Zg, Zh, Zi, Zj, Zk, Zl, Int.reduceLT, Int.reduceLE, Zm, Int.reduceToNat, Zn, Zo, Zp, Int.reduceAdd, Zq, Zr, mc167, mr167, InsD.cells]
  repeat' (refine condK_split _ (fun hd => ?_) (fun hd => ?_) <;> simp only [go_sem, Nat.reduceEqDiff, reduceIte, ↓reduceIte, Nat.reduceAdd, Z0, Z1, Z2, Z3, Z4, Z5, Nat.reduceLT, Z6, Z7, Int.reduceEq, Z8, Z9, Nat.reduceLeDiff, Za, Zb, Zc, Zd, Ze, Zf, bytesOf, Zg, Zh, Zi, Zj, Zk, Zl, Int.reduceLT, Int.reduceLE, Zm, Int.reduceToNat, Zn, Zo, Zp, Int.reduceAdd, Zq, Zr, hd])
  all_goals simp only [decide_eq_false_iff_not, decide_eq_true_eq, Bool.not_eq_true', Bool.not_eq_false', Bool.not_eq_true, Bool.not_eq_false] at *
  all_goals simp [wantsD, wantsR, opW, *]

theorem wantsR_grnd (w) : Grnd (wantsR w) := by
  cases w with
  | none => exact grnd_tup _ (by simp; exact ⟨grnd_s _, grnd_b _⟩)
  | some w => exact grnd_tup _ (by simp; exact ⟨grnd_s _, grnd_b _⟩)
theorem wants_any (x : InsD) {H : List AO} : ACall Try.prog 167 [.st (x.cells.map .p)] H (fun r H' => r = wantsR (wantsD x) ∧ H' = H) :=
  (acall_lend (wants x) (fun r H' h => by subst h; exact wantsR_grnd _) (lentAll_cons (ins_lent x) (lentAll_nil _))).mono fun r H' ⟨h1, _, h2⟩ => ⟨h2, h1⟩

theorem hasC {w : List UInt8} (hw : w.length ≤ maxL) (c : UInt8) {H : List AO} {j : Nat} (hj : H[j]? = some (.var [.p (.s w)])) : ACall Try.prog 168 [.p (.s [c]), .ptr j 0] H (fun r H' => r = .p (.b (w.contains c)) ∧ H' = H) := by
  refine call168 (by simp) ?_
  simp only [go_sem, Nat.reduceEqDiff, reduceIte, ↓reduceIte, Nat.reduceAdd, Z0, Z1, Z2, Z3, Z4, Z5, Nat.reduceLT, Z6, Z7, Int.reduceEq, Z8, Z9, Nat.reduceLeDiff, Za, Zb, Zc, Zd, Ze, Zf, bytesOf, Zg, Zh, Zi, Zj, Zk, Zl, Int.reduceLT, Int.reduceLE, Zm, Int.reduceToNat, Zn, Zo, Zp, Int.reduceAdd, Zq, Zr, mc168, mr168, hj]
  refine (contains_any w hw c).mono ?_
  rintro r H' ⟨rfl, rfl⟩
  simp only [go_sem, Nat.reduceEqDiff, reduceIte, ↓reduceIte, Nat.reduceAdd, Z0, Z1, Z2, Z3, Z4, Z5, Nat.reduceLT, Z6, Z7, Int.reduceEq, Z8, Z9, Nat.reduceLeDiff, Za, Zb, Zc, Zd, Ze, Zf, bytesOf, Zg, Zh, Zi, Zj, Zk, Zl, Int.reduceLT, Int.reduceLE, Zm, Int.reduceToNat, Zn, Zo, Zp, Int.reduceAdd, Zq, Zr]

def regD (h : Bool) (v : Int) : Bool := (h && inD v 0 15) || decide (v = 0)

theorem regC {w : List UInt8} (hw : w.length ≤ maxL) (c : UInt8) (v : Int) {H : List AO} {j k : Nat} (hj : H[j]? = some (.var [.p (.s w)])) (hk : H[k]? = some (.var [.clo 168 [.ptr j 0]])) :
    ACall Try.prog 170 [.p (.s [c]), .p (.i .i64 v), .ptr k 0] H (fun r H' => r = .p (.b (regD (w.contains c) v)) ∧ H' = H) := by
  refine call170 (by simp) ?_
  simp only [go_sem, Nat.reduceEqDiff, reduceIte, ↓reduceIte, Nat.reduceAdd, Z0, Z1, Z2, Z3, Z4, Z5, Nat.reduceLT, Z6, Z7, Int.reduceEq, Z8, Z9, Nat.reduceLeDiff, Za, Zb, Zc, Zd, Ze, Zf, bytesOf, Zg, Zh, Zi, Zj, Zk, Zl, Int.reduceLT, Int.reduceLE, Zm, Int.reduceToNat, Zn, Zo, Zp, Int.reduceAdd, Zq, Zr, mc170, mr170, hk]
  refine (hasC hw c hj).mono ?_
  rintro r H' ⟨rfl, rfl⟩
  simp only [go_sem, Nat.reduceEqDiff, reduceIte, ↓reduceIte, Nat.reduceAdd, Z0, Z1, Z2, Z3, Z4, Z5, Nat.reduceLT, Z6, Z7, Int.reduceEq, Z8, Z9, Nat.reduceLeDiff, Za, Zb, Zc, Zd, Ze, Zf, bytesOf, Zg, Zh, Zi, Zj, Zk, Zl, Int.reduceLT, Int.reduceLE, Zm, Int.reduceToNat, Zn, Zo, Zp, Int.reduceAdd, Zq, Zr]
  refine condK_split _ (fun h1 => ?_) (fun h1 => ?_)
  · simp only [go_sem, Nat.reduceEqDiff, reduceIte, ↓reduceIte, Nat.reduceAdd, Z0, Z1, Z2, Z3, Z4, Z5, Nat.reduceLT, Z6, Z7, Int.reduceEq, Z8, Z9, Nat.reduceLeDiff, Za, Zb, Zc, Zd, Ze, Zf, bytesOf, Zg, Zh, Zi, Zj, Zk, Zl, Int.reduceLT, Int.reduceLE, Zm, Int.reduceToNat, Zn, Zo, Zp, Int.reduceAdd, Zq, Zr, h1]
    refine (within_any _ _ _).mono ?_
    rintro r H' ⟨rfl, rfl⟩
    simp only [go_sem, Nat.reduceEqDiff, reduceIte, ↓reduceIte, Nat.reduceAdd, Z0, Z1, Z2, Z3, Z4, Z5, Nat.reduceLT, Z6, Z7, Int.reduceEq, Z8, Z9, Nat.reduceLeDiff, Za, Zb, Zc, Zd, Ze, Zf, bytesOf, Zg, Zh, Zi, Zj, Zk, Zl, Int.reduceLT, Int.reduceLE, Zm, Int.reduceToNat, Zn, Zo, Zp, Int.reduceAdd, Zq, Zr, h1]
    refine condK_split _ (fun h2 => ?_) (fun h2 => ?_)
    · simp only [go_sem, Nat.reduceEqDiff, reduceIte, ↓reduceIte, Nat.reduceAdd, Z0, Z1, Z2, Z3, Z4, Z5, Nat.reduceLT, Z6, Z7, Int.reduceEq, Z8, Z9, Nat.reduceLeDiff, Za, Zb, Zc, Zd, Ze, Zf, bytesOf, Zg, Zh, Zi, Zj, Zk, Zl, Int.reduceLT, Int.reduceLE, Zm, Int.reduceToNat, Zn, Zo, Zp, Int.reduceAdd, Zq, Zr, h2]
      simp [regD, h1, h2]
    · simp only [go_sem, Nat.reduceEqDiff, reduceIte, ↓reduceIte, Nat.reduceAdd, Z0, Z1, Z2, Z3, Z4, Z5, Nat.reduceLT, Z6, Z7, Int.reduceEq, Z8, Z9, Nat.reduceLeDiff, Za, Zb, Zc, Zd, Ze, Zf, bytesOf, Zg, Zh, Zi, Zj, Zk, Zl, Int.reduceLT, Int.reduceLE, Zm, Int.reduceToNat, Zn, Zo, Zp, Int.reduceAdd, Zq, Zr, h2]
      simp [regD, h1, h2]
  · simp only [go_sem, Nat.reduceEqDiff, reduceIte, ↓reduceIte, Nat.reduceAdd, Z0, Z1, Z2, Z3, Z4, Z5, Nat.reduceLT, Z6, Z7, Int.reduceEq, Z8, Z9, Nat.reduceLeDiff, Za, Zb, Zc, Zd, Ze, Zf, bytesOf, Zg, Zh, Zi, Zj, Zk, Zl, Int.reduceLT, Int.reduceLE, Zm, Int.reduceToNat, Zn, Zo, Zp, Int.reduceAdd, Zq, Zr, h1]
    simp [regD, h1]

theorem insOk_some {nI nS : Nat} {x : InsD} {w : List UInt8} (h : wantsD x = some w) : insOk nI nS x = (regD (w.contains 97) x.a && regD (w.contains 98) x.b && regD (w.contains 99) x.c && (w.contains 110 || decide (x.n = 0)) && (w.contains 116 || decide (x.text = [])) && extraD nI nS x) := by
  unfold insOk
  rw [h]
  simp only [zeroO, zeroD, regD]
  have key : ∀ (b : Bool) (v : Int), ((b && inD v 0 15) || decide (v = 0)) = (inD v 0 15 && (b || decide (v = 0))) := by
    intro b v
    by_cases hv : v = 0
    · subst hv; cases b <;> simp [inD]
    · cases b <;> simp [hv]
  rw [key, key, key]
  generalize inD x.a 0 15 = p1
  generalize inD x.b 0 15 = p2
  generalize inD x.c 0 15 = p3
  generalize (w.contains 97 || decide (x.a = 0)) = q1
  generalize (w.contains 98 || decide (x.b = 0)) = q2
  generalize (w.contains 99 || decide (x.c = 0)) = q3
  cases p1 <;> cases p2 <;> cases p3 <;> cases q1 <;> cases q2 <;> cases q3 <;> simp

def len4 : Option (List UInt8) → Prop
  | some w => w.length ≤ 4
  | none => True
theorem len4_ite {c : Prop} [Decidable c] {a b : Option (List UInt8)} (ha : len4 a) (hb : len4 b) : len4 (if c then a else b) := by
  by_cases h : c
  · rw [if_pos h]; exact ha
  · rw [if_neg h]; exact hb
theorem wants_len4 (x : InsD) : len4 (wantsD x) := by
  unfold wantsD opW
  repeat' (refine len4_ite ?_ ?_)
  all_goals first | exact trivial | (show List.length _ ≤ 4; simp)
theorem wants_len {x : InsD} {w : List UInt8} (h : wantsD x = some w) : w.length ≤ maxL := by
  have := wants_len4 x
  rw [h] at this
  unfold len4 at this
  unfold maxL; omega

set_option maxHeartbeats 4000000 in
set_option maxRecDepth 100000 in
theorem instrOk (x : InsD) (hx : x.text.length ≤ maxL) (c : CodeD) (hc : okCode c) : ACall Try.prog 132 [.st (c.cells.map .p), .st (x.cells.map .p)] [] (fun r H' => r = .p (.b (insOk c.ins.length c.starts.length x))) := by
  have hl1 : c.ins.length ≤ 9223372036854775807 := by have := hc.1.1; unfold maxL at this; omega
  have hl2 : c.starts.length ≤ 9223372036854775807 := by have := hc.2; unfold maxL at this; omega
  refine call132 (by simp) ?_
  simp only [go_sem, Nat.reduceEqDiff, reduceIte, ↓reduceIte, Nat.reduceAdd, Z0, Z1, Z2, Z3, Z4, Z5, Nat.reduceLT, Z6, Z7, Int.reduceEq, Z8, Z9, Nat.reduceLeDiff, Za, Zb, Zc, Zd, Ze, Zf, bytesOf, Zg, Zh, Zi, Zj, Zk, Zl, Int.reduceLT, Int.reduceLE, Zm, Int.reduceToNat, Zn, Zo, Zp, Int.reduceAdd, Zq, Zr, mc132, mr132, InsD.cells, CodeD.cells]
  rw [ins_eta]
  refine (wants_any x).mono ?_
  rintro r H' ⟨rfl, rfl⟩
  cases hw : wantsD x with
  | none =>
    simp only [go_sem, Nat.reduceEqDiff, reduceIte, ↓reduceIte, Nat.reduceAdd, Z0, Z1, Z2, Z3, Z4, Z5, Nat.reduceLT, Z6, Z7, Int.reduceEq, Z8, Z9, Nat.reduceLeDiff, Za, Zb, Zc, Zd, Ze, Zf, bytesOf, Zg, Zh, Zi, Zj, Zk, Zl, Int.reduceLT, Int.reduceLE, Zm, Int.reduceToNat, Zn, Zo, Zp, Int.reduceAdd, Zq, Zr, wantsR]
    simp [insOk, hw, zeroO]
  | some w =>
    have hwl := wants_len hw
    rw [insOk_some hw]
    simp only [go_sem, Nat.reduceEqDiff, reduceIte, ↓reduceIte, Nat.reduceAdd, Z0, Z1, Z2, Z3, Z4, Z5, Nat.reduceLT, Z6, Z7, Int.reduceEq, Z8, Z9, Nat.reduceLeDiff, Za, Zb, Zc, Zd, Ze, Zf, bytesOf, Zg, Zh, Zi, Zj, Zk, Zl, Int.reduceLT, Int.reduceLE, Zm, Int.reduceToNat, Zn, Zo, Zp, Int.reduceAdd, Zq, Zr, wantsR, InsD.cells]
    repeat' first
      | (refine condK_split _ (fun hd => ?_) (fun hd => ?_) <;> simp only [go_sem, Nat.reduceEqDiff, reduceIte, ↓reduceIte, Nat.reduceAdd, Z0, Z1, Z2, Z3, Z4, Z5, Nat.reduceLT, Z6, Z7, Int.reduceEq, Z8, Z9, Nat.reduceLeDiff, Za, Zb, Zc, Zd, Ze, Zf, bytesOf, Zg, Zh, Zi, Zj, Zk, Zl, Int.reduceLT, Int.reduceLE, Zm, Int.reduceToNat, Zn, Zo, Zp, Int.reduceAdd, Zq, Zr, hd, inss_len, ints_len])
      | (refine (regC hwl _ _ (j := 2) (k := 3) rfl rfl).mono ?_; rintro r H' ⟨rfl, rfl⟩; simp only [go_sem, Nat.reduceEqDiff, reduceIte, ↓reduceIte, Nat.reduceAdd, Z0, Z1, Z2, Z3, Z4, Z5, Nat.reduceLT, Z6, Z7, Int.reduceEq, Z8, Z9, Nat.reduceLeDiff, Za, Zb, Zc, Zd, Ze, Zf, bytesOf, Zg, Zh, Zi, Zj, Zk, Zl, Int.reduceLT, Int.reduceLE, Zm, Int.reduceToNat, Zn, Zo, Zp, Int.reduceAdd, Zq, Zr])
      | (refine (hasC hwl _ (j := 2) rfl).mono ?_; rintro r H' ⟨rfl, rfl⟩; simp only [go_sem, Nat.reduceEqDiff, reduceIte, ↓reduceIte, Nat.reduceAdd, Z0, Z1, Z2, Z3, Z4, Z5, Nat.reduceLT, Z6, Z7, Int.reduceEq, Z8, Z9, Nat.reduceLeDiff, Za, Zb, Zc, Zd, Ze, Zf, bytesOf, Zg, Zh, Zi, Zj, Zk, Zl, Int.reduceLT, Int.reduceLE, Zm, Int.reduceToNat, Zn, Zo, Zp, Int.reduceAdd, Zq, Zr])
      | (refine (within_any _ _ _).mono ?_; rintro r H' ⟨rfl, rfl⟩; simp only [go_sem, Nat.reduceEqDiff, reduceIte, ↓reduceIte, Nat.reduceAdd, Z0, Z1, Z2, Z3, Z4, Z5, Nat.reduceLT, Z6, Z7, Int.reduceEq, Z8, Z9, Nat.reduceLeDiff, Za, Zb, Zc, Zd, Ze, Zf, bytesOf, Zg, Zh, Zi, Zj, Zk, Zl, Int.reduceLT, Int.reduceLE, Zm, Int.reduceToNat, Zn, Zo, Zp, Int.reduceAdd, Zq, Zr, inss_len, ints_len])
      | (refine (plain_any _ hx).mono ?_; rintro r H' ⟨rfl, rfl⟩; simp only [go_sem, Nat.reduceEqDiff, reduceIte, ↓reduceIte, Nat.reduceAdd, Z0, Z1, Z2, Z3, Z4, Z5, Nat.reduceLT, Z6, Z7, Int.reduceEq, Z8, Z9, Nat.reduceLeDiff, Za, Zb, Zc, Zd, Ze, Zf, bytesOf, Zg, Zh, Zi, Zj, Zk, Zl, Int.reduceLT, Int.reduceLE, Zm, Int.reduceToNat, Zn, Zo, Zp, Int.reduceAdd, Zq, Zr])
      | (intro _; rw [wr64 (by omega) (by omega)])
      | intro _
    all_goals simp only [decide_eq_false_iff_not, decide_eq_true_eq, Bool.not_eq_true', Bool.not_eq_false', Bool.not_eq_true, Bool.not_eq_false] at *
    all_goals congr 2
    all_goals first | (simp [extraD, -List.contains_eq_mem, *]; done) | (simp_all [extraD]; done)
end Go.Proofs.Ytmbggdfceecojaa.Cd

/- Right codes: a whole code, by the program. -/
set_option linter.all false
namespace Go.Proofs.Ytmbggdfceecojaa.Cd
open Go.AM Mc Ho

theorem instrOk_any (x : InsD) (hx : x.text.length ≤ maxL) (c : CodeD) (hc : okCode c) {H : List AO} : ACall Try.prog 132 [.st (c.cells.map .p), .st (x.cells.map .p)] H (fun r H' => r = .p (.b (insOk c.ins.length c.starts.length x)) ∧ H' = H) :=
  (acall_lend (instrOk x hx c hc) (fun r H' h => by subst h; exact grnd_b _) (lentAll_cons (code_lent c) (lentAll_cons (ins_lent x) (lentAll_nil _)))).mono fun r H' ⟨h1, _, h2⟩ => ⟨h2, h1⟩

theorem code_take (c : CodeD) : takeN 2 (c.cells.map .p) = some (c.cells.map .p) := rfl
theorem fn131 (x : InsD) (hx : x.text.length ≤ maxL) (c : CodeD) (hc : okCode c) {H : List AO} {j : Nat} (hj : H[j]? = some (.var (c.cells.map .p))) :
    ACall Try.prog 131 [.st (x.cells.map .p), .ptr j 0] H (fun r H' => r = .p (.b (!insOk c.ins.length c.starts.length x)) ∧ ∃ G, H' = H ++ G) := by
  have hjl := (List.getElem?_eq_some_iff.1 hj).1
  refine call131 (by simp) ?_
  simp only [go_sem, Nat.reduceEqDiff, reduceIte, ↓reduceIte, Nat.reduceAdd, Z0, Z1, Z2, Z3, Z4, Z5, Nat.reduceLT, Z6, Z7, Int.reduceEq, Z8, Z9, Nat.reduceLeDiff, Za, Zb, Zc, Zd, Ze, Zf, bytesOf, Zg, Zh, Zi, Zj, Zk, Zl, Int.reduceLT, Int.reduceLE, Zm, Int.reduceToNat, Zn, Zo, Zp, Int.reduceAdd, Zq, Zr, mc131, mr131, InsD.cells, List.getElem?_append_left hjl, hj, code_take]
  rw [ins_eta]
  refine (instrOk_any x hx c hc).mono ?_
  rintro r H' ⟨rfl, rfl⟩
  simp only [go_sem, Nat.reduceEqDiff, reduceIte, ↓reduceIte, Nat.reduceAdd, Z0, Z1, Z2, Z3, Z4, Z5, Nat.reduceLT, Z6, Z7, Int.reduceEq, Z8, Z9, Nat.reduceLeDiff, Za, Zb, Zc, Zd, Ze, Zf, bytesOf, Zg, Zh, Zi, Zj, Zk, Zl, Int.reduceLT, Int.reduceLE, Zm, Int.reduceToNat, Zn, Zo, Zp, Int.reduceAdd, Zq, Zr]
  exact ⟨_, rfl⟩
theorem fn134 (x : Int) (c : CodeD) (hc : okCode c) {H : List AO} {j : Nat} (hj : H[j]? = some (.var (c.cells.map .p))) :
    ACall Try.prog 134 [.p (.i .i64 x), .ptr j 0] H (fun r H' => r = .p (.b (!placeOk c x)) ∧ ∃ G, H' = H ++ G) := by
  have hl1 : c.ins.length ≤ 9223372036854775807 := by have := hc.1.1; unfold maxL at this; omega
  refine call134 (by simp) ?_
  simp only [go_sem, Nat.reduceEqDiff, reduceIte, ↓reduceIte, Nat.reduceAdd, Z0, Z1, Z2, Z3, Z4, Z5, Nat.reduceLT, Z6, Z7, Int.reduceEq, Z8, Z9, Nat.reduceLeDiff, Za, Zb, Zc, Zd, Ze, Zf, bytesOf, Zg, Zh, Zi, Zj, Zk, Zl, Int.reduceLT, Int.reduceLE, Zm, Int.reduceToNat, Zn, Zo, Zp, Int.reduceAdd, Zq, Zr, mc134, mr134, hj, CodeD.cells, inss_len]
  intro _
  rw [wr64 (by omega) (by omega)]
  refine (within_any _ _ _).mono ?_
  rintro r H' ⟨rfl, rfl⟩
  simp only [go_sem, Nat.reduceEqDiff, reduceIte, ↓reduceIte, Nat.reduceAdd, Z0, Z1, Z2, Z3, Z4, Z5, Nat.reduceLT, Z6, Z7, Int.reduceEq, Z8, Z9, Nat.reduceLeDiff, Za, Zb, Zc, Zd, Ze, Zf, bytesOf, Zg, Zh, Zi, Zj, Zk, Zl, Int.reduceLT, Int.reduceLE, Zm, Int.reduceToNat, Zn, Zo, Zp, Int.reduceAdd, Zq, Zr]
  exact ⟨rfl, [], by simp⟩

/-- the first that passes a test, of instructions -/
theorem indexFn (l : List InsD) (hl : okIns l) (p : InsD → Bool) (f : Nat) (caps : List AV) (H : List AO)
    (hp : ∀ x ∈ l, ∀ G, ACall Try.prog f ([.st (x.cells.map .p)] ++ caps) (H ++ G) (fun r H' => r = .p (.b (p x)) ∧ ∃ G', H' = H ++ G ++ G')) :
    ACall Try.prog 166 [.p (.l (inss l)), .clo f caps] H (fun r H' => (∃ z : Int, r = .p (.i .i64 z) ∧ decide (0 ≤ z) = l.any p) ∧ ∃ G, H' = H ++ G) := by
  refine call166 (by simp) ?_
  simp only [go_sem, Nat.reduceEqDiff, reduceIte, ↓reduceIte, Nat.reduceAdd, Z0, Z1, Z2, Z3, Z4, Z5, Nat.reduceLT, Z6, Z7, Int.reduceEq, Z8, Z9, Nat.reduceLeDiff, Za, Zb, Zc, Zd, Ze, Zf, bytesOf, Zg, Zh, Zi, Zj, Zk, Zl, Int.reduceLT, Int.reduceLE, Zm, Int.reduceToNat, Zn, Zo, Zp, Int.reduceAdd, Zq, Zr, mc166, mr166, inss_len]
  intro _
  refine ⟨Nat × List AO, [0, 1, 4, 7, 8], fun x st => x.1 ≤ l.length ∧ (l.take x.1).all (fun y => !p y) = true ∧ st = ⟨[(0, .p (.l (inss l))), (1, .clo f caps), (4, .p (.i .i64 0)), (7, .p (.i .i64 l.length)), (8, .p (.i .i64 x.1))], [], H ++ x.2⟩, fun x => l.length - x.1, ⟨(0, []), ?_⟩, ?_⟩
  · simp only [go_sem, Nat.reduceEqDiff, reduceIte, ↓reduceIte, Nat.reduceAdd, Z0, Z1, Z2, Z3, Z4, Z5, Nat.reduceLT, Z6, Z7, Int.reduceEq, Z8, Z9, Nat.reduceLeDiff, Za, Zb, Zc, Zd, Ze, Zf, bytesOf, Zg, Zh, Zi, Zj, Zk, Zl, Int.reduceLT, Int.reduceLE, Zm, Int.reduceToNat, Zn, Zo, Zp, Int.reduceAdd, Zq, Zr]
    exact ⟨Nat.zero_le _, by simp⟩
  · rintro ⟨i, G⟩ st ⟨hi, ht, rfl⟩
    simp only at hi ht
    simp only [go_sem, Nat.reduceEqDiff, reduceIte, ↓reduceIte, Nat.reduceAdd, Z0, Z1, Z2, Z3, Z4, Z5, Nat.reduceLT, Z6, Z7, Int.reduceEq, Z8, Z9, Nat.reduceLeDiff, Za, Zb, Zc, Zd, Ze, Zf, bytesOf, Zg, Zh, Zi, Zj, Zk, Zl, Int.reduceLT, Int.reduceLE, Zm, Int.reduceToNat, Zn, Zo, Zp, Int.reduceAdd, Zq, Zr]
    refine condK_split _ (fun hc => ?_) (fun hc => ?_)
    · have hil : i < l.length := by simpa using hc
      simp only [go_sem, Nat.reduceEqDiff, reduceIte, ↓reduceIte, Nat.reduceAdd, Z0, Z1, Z2, Z3, Z4, Z5, Nat.reduceLT, Z6, Z7, Int.reduceEq, Z8, Z9, Nat.reduceLeDiff, Za, Zb, Zc, Zd, Ze, Zf, bytesOf, Zg, Zh, Zi, Zj, Zk, Zl, Int.reduceLT, Int.reduceLE, Zm, Int.reduceToNat, Zn, Zo, Zp, Int.reduceAdd, Zq, Zr, inss_at _ hil, ins_clen, ins_take]
      refine (hp _ (List.getElem_mem hil) G).mono ?_
      rintro r H' ⟨rfl, G', rfl⟩
      simp only [go_sem, Nat.reduceEqDiff, reduceIte, ↓reduceIte, Nat.reduceAdd, Z0, Z1, Z2, Z3, Z4, Z5, Nat.reduceLT, Z6, Z7, Int.reduceEq, Z8, Z9, Nat.reduceLeDiff, Za, Zb, Zc, Zd, Ze, Zf, bytesOf, Zg, Zh, Zi, Zj, Zk, Zl, Int.reduceLT, Int.reduceLE, Zm, Int.reduceToNat, Zn, Zo, Zp, Int.reduceAdd, Zq, Zr]
      refine condK_split _ (fun hd => ?_) (fun hd => ?_)
      · simp only [go_sem, Nat.reduceEqDiff, reduceIte, ↓reduceIte, Nat.reduceAdd, Z0, Z1, Z2, Z3, Z4, Z5, Nat.reduceLT, Z6, Z7, Int.reduceEq, Z8, Z9, Nat.reduceLeDiff, Za, Zb, Zc, Zd, Ze, Zf, bytesOf, Zg, Zh, Zi, Zj, Zk, Zl, Int.reduceLT, Int.reduceLE, Zm, Int.reduceToNat, Zn, Zo, Zp, Int.reduceAdd, Zq, Zr]
        refine ⟨⟨i, rfl, ?_⟩, G ++ G', rfl⟩
        have : l.any p = true := List.any_eq_true.2 ⟨_, List.getElem_mem hil, hd⟩
        rw [this]; simp
      · simp only [go_sem, Nat.reduceEqDiff, reduceIte, ↓reduceIte, Nat.reduceAdd, Z0, Z1, Z2, Z3, Z4, Z5, Nat.reduceLT, Z6, Z7, Int.reduceEq, Z8, Z9, Nat.reduceLeDiff, Za, Zb, Zc, Zd, Ze, Zf, bytesOf, Zg, Zh, Zi, Zj, Zk, Zl, Int.reduceLT, Int.reduceLE, Zm, Int.reduceToNat, Zn, Zo, Zp, Int.reduceAdd, Zq, Zr]
        refine ⟨(i + 1, G ++ G'), ⟨hil, all_take (p := fun y => !p y) hil ht (by simp [hd]), ?_⟩, by simp; omega⟩
        rw [wr1 hil hl.1]
    · have hil : i = l.length := by simp at hc; omega
      subst hil
      rw [List.take_length] at ht
      simp only [go_sem, Nat.reduceEqDiff, reduceIte, ↓reduceIte, Nat.reduceAdd, Z0, Z1, Z2, Z3, Z4, Z5, Nat.reduceLT, Z6, Z7, Int.reduceEq, Z8, Z9, Nat.reduceLeDiff, Za, Zb, Zc, Zd, Ze, Zf, bytesOf, Zg, Zh, Zi, Zj, Zk, Zl, Int.reduceLT, Int.reduceLE, Zm, Int.reduceToNat, Zn, Zo, Zp, Int.reduceAdd, Zq, Zr]
      refine ⟨⟨-1, rfl, ?_⟩, G, rfl⟩
      have : l.any p = false := by
        rw [List.any_eq_false]; intro y hy
        have := List.all_eq_true.1 ht y hy
        simpa using this
      rw [this]; rfl

theorem indexFnI (l : List Int) (hl : l.length ≤ maxL) (p : Int → Bool) (f : Nat) (caps : List AV) (H : List AO)
    (hp : ∀ x ∈ l, ∀ G, ACall Try.prog f ([.p (.i .i64 x)] ++ caps) (H ++ G) (fun r H' => r = .p (.b (p x)) ∧ ∃ G', H' = H ++ G ++ G')) :
    ACall Try.prog 172 [.p (.l (ints l)), .clo f caps] H (fun r H' => (∃ z : Int, r = .p (.i .i64 z) ∧ decide (0 ≤ z) = l.any p) ∧ ∃ G, H' = H ++ G) := by
  refine call172 (by simp) ?_
  simp only [go_sem, Nat.reduceEqDiff, reduceIte, ↓reduceIte, Nat.reduceAdd, Z0, Z1, Z2, Z3, Z4, Z5, Nat.reduceLT, Z6, Z7, Int.reduceEq, Z8, Z9, Nat.reduceLeDiff, Za, Zb, Zc, Zd, Ze, Zf, bytesOf, Zg, Zh, Zi, Zj, Zk, Zl, Int.reduceLT, Int.reduceLE, Zm, Int.reduceToNat, Zn, Zo, Zp, Int.reduceAdd, Zq, Zr, mc172, mr172, ints_len]
  intro _
  refine ⟨Nat × List AO, [0, 1, 4, 7, 8], fun x st => x.1 ≤ l.length ∧ (l.take x.1).all (fun y => !p y) = true ∧ st = ⟨[(0, .p (.l (ints l))), (1, .clo f caps), (4, .p (.i .i64 0)), (7, .p (.i .i64 l.length)), (8, .p (.i .i64 x.1))], [], H ++ x.2⟩, fun x => l.length - x.1, ⟨(0, []), ?_⟩, ?_⟩
  · simp only [go_sem, Nat.reduceEqDiff, reduceIte, ↓reduceIte, Nat.reduceAdd, Z0, Z1, Z2, Z3, Z4, Z5, Nat.reduceLT, Z6, Z7, Int.reduceEq, Z8, Z9, Nat.reduceLeDiff, Za, Zb, Zc, Zd, Ze, Zf, bytesOf, Zg, Zh, Zi, Zj, Zk, Zl, Int.reduceLT, Int.reduceLE, Zm, Int.reduceToNat, Zn, Zo, Zp, Int.reduceAdd, Zq, Zr]
    exact ⟨Nat.zero_le _, by simp⟩
  · rintro ⟨i, G⟩ st ⟨hi, ht, rfl⟩
    simp only at hi ht
    simp only [go_sem, Nat.reduceEqDiff, reduceIte, ↓reduceIte, Nat.reduceAdd, Z0, Z1, Z2, Z3, Z4, Z5, Nat.reduceLT, Z6, Z7, Int.reduceEq, Z8, Z9, Nat.reduceLeDiff, Za, Zb, Zc, Zd, Ze, Zf, bytesOf, Zg, Zh, Zi, Zj, Zk, Zl, Int.reduceLT, Int.reduceLE, Zm, Int.reduceToNat, Zn, Zo, Zp, Int.reduceAdd, Zq, Zr]
    refine condK_split _ (fun hc => ?_) (fun hc => ?_)
    · have hil : i < l.length := by simpa using hc
      simp only [go_sem, Nat.reduceEqDiff, reduceIte, ↓reduceIte, Nat.reduceAdd, Z0, Z1, Z2, Z3, Z4, Z5, Nat.reduceLT, Z6, Z7, Int.reduceEq, Z8, Z9, Nat.reduceLeDiff, Za, Zb, Zc, Zd, Ze, Zf, bytesOf, Zg, Zh, Zi, Zj, Zk, Zl, Int.reduceLT, Int.reduceLE, Zm, Int.reduceToNat, Zn, Zo, Zp, Int.reduceAdd, Zq, Zr, ints_at _ hil]
      refine (hp _ (List.getElem_mem hil) G).mono ?_
      rintro r H' ⟨rfl, G', rfl⟩
      simp only [go_sem, Nat.reduceEqDiff, reduceIte, ↓reduceIte, Nat.reduceAdd, Z0, Z1, Z2, Z3, Z4, Z5, Nat.reduceLT, Z6, Z7, Int.reduceEq, Z8, Z9, Nat.reduceLeDiff, Za, Zb, Zc, Zd, Ze, Zf, bytesOf, Zg, Zh, Zi, Zj, Zk, Zl, Int.reduceLT, Int.reduceLE, Zm, Int.reduceToNat, Zn, Zo, Zp, Int.reduceAdd, Zq, Zr]
      refine condK_split _ (fun hd => ?_) (fun hd => ?_)
      · simp only [go_sem, Nat.reduceEqDiff, reduceIte, ↓reduceIte, Nat.reduceAdd, Z0, Z1, Z2, Z3, Z4, Z5, Nat.reduceLT, Z6, Z7, Int.reduceEq, Z8, Z9, Nat.reduceLeDiff, Za, Zb, Zc, Zd, Ze, Zf, bytesOf, Zg, Zh, Zi, Zj, Zk, Zl, Int.reduceLT, Int.reduceLE, Zm, Int.reduceToNat, Zn, Zo, Zp, Int.reduceAdd, Zq, Zr]
        refine ⟨⟨i, rfl, ?_⟩, G ++ G', rfl⟩
        have : l.any p = true := List.any_eq_true.2 ⟨_, List.getElem_mem hil, hd⟩
        rw [this]; simp
      · simp only [go_sem, Nat.reduceEqDiff, reduceIte, ↓reduceIte, Nat.reduceAdd, Z0, Z1, Z2, Z3, Z4, Z5, Nat.reduceLT, Z6, Z7, Int.reduceEq, Z8, Z9, Nat.reduceLeDiff, Za, Zb, Zc, Zd, Ze, Zf, bytesOf, Zg, Zh, Zi, Zj, Zk, Zl, Int.reduceLT, Int.reduceLE, Zm, Int.reduceToNat, Zn, Zo, Zp, Int.reduceAdd, Zq, Zr]
        refine ⟨(i + 1, G ++ G'), ⟨hil, all_take (p := fun y => !p y) hil ht (by simp [hd]), ?_⟩, by simp; omega⟩
        rw [wr1 hil hl]
    · have hil : i = l.length := by simp at hc; omega
      subst hil
      rw [List.take_length] at ht
      simp only [go_sem, Nat.reduceEqDiff, reduceIte, ↓reduceIte, Nat.reduceAdd, Z0, Z1, Z2, Z3, Z4, Z5, Nat.reduceLT, Z6, Z7, Int.reduceEq, Z8, Z9, Nat.reduceLeDiff, Za, Zb, Zc, Zd, Ze, Zf, bytesOf, Zg, Zh, Zi, Zj, Zk, Zl, Int.reduceLT, Int.reduceLE, Zm, Int.reduceToNat, Zn, Zo, Zp, Int.reduceAdd, Zq, Zr]
      refine ⟨⟨-1, rfl, ?_⟩, G, rfl⟩
      have : l.any p = false := by
        rw [List.any_eq_false]; intro y hy
        have := List.all_eq_true.1 ht y hy
        simpa using this
      rw [this]; rfl

theorem any_not {α : Type} (l : List α) (p : α → Bool) : (l.any fun y => !p y) = !l.all p := by
  induction l with
  | nil => rfl
  | cons a l ih => simp only [List.any_cons, List.all_cons, ih, Bool.not_and]

theorem containsFn (c : CodeD) (hc : okCode c) (H : List AO) {j : Nat} (hj : H[j]? = some (.var (c.cells.map .p))) :
    ACall Try.prog 130 [.p (.l (inss c.ins)), .clo 131 [.ptr j 0]] H (fun r H' => r = .p (.b (!c.ins.all (insOk c.ins.length c.starts.length))) ∧ ∃ G, H' = H ++ G) := by
  have hjl := (List.getElem?_eq_some_iff.1 hj).1
  refine call130 (by simp) ?_
  simp only [go_sem, Nat.reduceEqDiff, reduceIte, ↓reduceIte, Nat.reduceAdd, Z0, Z1, Z2, Z3, Z4, Z5, Nat.reduceLT, Z6, Z7, Int.reduceEq, Z8, Z9, Nat.reduceLeDiff, Za, Zb, Zc, Zd, Ze, Zf, bytesOf, Zg, Zh, Zi, Zj, Zk, Zl, Int.reduceLT, Int.reduceLE, Zm, Int.reduceToNat, Zn, Zo, Zp, Int.reduceAdd, Zq, Zr, mc130, mr130]
  refine (indexFn c.ins hc.1 (fun x => !insOk c.ins.length c.starts.length x) 131 [.ptr j 0] H (fun x hx G => fn131 x (hc.1.2 x hx) c hc (by rw [List.getElem?_append_left hjl]; exact hj))).mono ?_
  rintro r H' ⟨⟨z, rfl, hz⟩, G, rfl⟩
  simp only [go_sem, Nat.reduceEqDiff, reduceIte, ↓reduceIte, Nat.reduceAdd, Z0, Z1, Z2, Z3, Z4, Z5, Nat.reduceLT, Z6, Z7, Int.reduceEq, Z8, Z9, Nat.reduceLeDiff, Za, Zb, Zc, Zd, Ze, Zf, bytesOf, Zg, Zh, Zi, Zj, Zk, Zl, Int.reduceLT, Int.reduceLE, Zm, Int.reduceToNat, Zn, Zo, Zp, Int.reduceAdd, Zq, Zr, hz]
  exact ⟨by rw [any_not], G, rfl⟩
theorem containsFnI (c : CodeD) (hc : okCode c) (H : List AO) {j : Nat} (hj : H[j]? = some (.var (c.cells.map .p))) :
    ACall Try.prog 133 [.p (.l (ints c.starts)), .clo 134 [.ptr j 0]] H (fun r H' => r = .p (.b (!c.starts.all (placeOk c))) ∧ ∃ G, H' = H ++ G) := by
  have hjl := (List.getElem?_eq_some_iff.1 hj).1
  refine call133 (by simp) ?_
  simp only [go_sem, Nat.reduceEqDiff, reduceIte, ↓reduceIte, Nat.reduceAdd, Z0, Z1, Z2, Z3, Z4, Z5, Nat.reduceLT, Z6, Z7, Int.reduceEq, Z8, Z9, Nat.reduceLeDiff, Za, Zb, Zc, Zd, Ze, Zf, bytesOf, Zg, Zh, Zi, Zj, Zk, Zl, Int.reduceLT, Int.reduceLE, Zm, Int.reduceToNat, Zn, Zo, Zp, Int.reduceAdd, Zq, Zr, mc133, mr133]
  refine (indexFnI c.starts hc.2 (fun x => !placeOk c x) 134 [.ptr j 0] H (fun x hx G => fn134 x c hc (by rw [List.getElem?_append_left hjl]; exact hj))).mono ?_
  rintro r H' ⟨⟨z, rfl, hz⟩, G, rfl⟩
  simp only [go_sem, Nat.reduceEqDiff, reduceIte, ↓reduceIte, Nat.reduceAdd, Z0, Z1, Z2, Z3, Z4, Z5, Nat.reduceLT, Z6, Z7, Int.reduceEq, Z8, Z9, Nat.reduceLeDiff, Za, Zb, Zc, Zd, Ze, Zf, bytesOf, Zg, Zh, Zi, Zj, Zk, Zl, Int.reduceLT, Int.reduceLE, Zm, Int.reduceToNat, Zn, Zo, Zp, Int.reduceAdd, Zq, Zr, hz]
  exact ⟨by rw [any_not], G, rfl⟩

theorem implCodeOk (c : CodeD) (hc : okCode c) : ACall Try.prog 74 [.st (c.cells.map .p)] [] (fun r H' => r = .p (.b (codeOk c))) := by
  have hl1 : c.ins.length ≤ 9223372036854775807 := by have := hc.1.1; unfold maxL at this; omega
  have hl2 : c.starts.length ≤ 9223372036854775807 := by have := hc.2; unfold maxL at this; omega
  refine call74 (by simp) ?_
  simp only [go_sem, Nat.reduceEqDiff, reduceIte, ↓reduceIte, Nat.reduceAdd, Z0, Z1, Z2, Z3, Z4, Z5, Nat.reduceLT, Z6, Z7, Int.reduceEq, Z8, Z9, Nat.reduceLeDiff, Za, Zb, Zc, Zd, Ze, Zf, bytesOf, Zg, Zh, Zi, Zj, Zk, Zl, Int.reduceLT, Int.reduceLE, Zm, Int.reduceToNat, Zn, Zo, Zp, Int.reduceAdd, Zq, Zr, mc74, mr74, CodeD.cells, inss_len, ints_len]
  intro _
  refine (within_any _ _ _).mono ?_
  rintro r H' ⟨rfl, rfl⟩
  simp only [go_sem, Nat.reduceEqDiff, reduceIte, ↓reduceIte, Nat.reduceAdd, Z0, Z1, Z2, Z3, Z4, Z5, Nat.reduceLT, Z6, Z7, Int.reduceEq, Z8, Z9, Nat.reduceLeDiff, Za, Zb, Zc, Zd, Ze, Zf, bytesOf, Zg, Zh, Zi, Zj, Zk, Zl, Int.reduceLT, Int.reduceLE, Zm, Int.reduceToNat, Zn, Zo, Zp, Int.reduceAdd, Zq, Zr]
  have hbad : inD c.ins.length 1 40000 = false ∨ decide ((400 : Int) < c.starts.length) = true → codeOk c = false := by
    intro h
    unfold codeOk
    rcases h with h | h
    · simp [h]
    · have : ¬ (c.starts.length : Int) ≤ 400 := by simp at h; omega
      simp [this]
  refine condK_split _ (fun h1 => ?_) (fun h1 => ?_)
  · simp only [go_sem, Nat.reduceEqDiff, reduceIte, ↓reduceIte, Nat.reduceAdd, Z0, Z1, Z2, Z3, Z4, Z5, Nat.reduceLT, Z6, Z7, Int.reduceEq, Z8, Z9, Nat.reduceLeDiff, Za, Zb, Zc, Zd, Ze, Zf, bytesOf, Zg, Zh, Zi, Zj, Zk, Zl, Int.reduceLT, Int.reduceLE, Zm, Int.reduceToNat, Zn, Zo, Zp, Int.reduceAdd, Zq, Zr, h1]
    rw [hbad (.inl (by simpa using h1))]
  · simp only [go_sem, Nat.reduceEqDiff, reduceIte, ↓reduceIte, Nat.reduceAdd, Z0, Z1, Z2, Z3, Z4, Z5, Nat.reduceLT, Z6, Z7, Int.reduceEq, Z8, Z9, Nat.reduceLeDiff, Za, Zb, Zc, Zd, Ze, Zf, bytesOf, Zg, Zh, Zi, Zj, Zk, Zl, Int.reduceLT, Int.reduceLE, Zm, Int.reduceToNat, Zn, Zo, Zp, Int.reduceAdd, Zq, Zr, h1, ints_len]
    intro _
    refine condK_split _ (fun h2 => ?_) (fun h2 => ?_)
    · simp only [go_sem, Nat.reduceEqDiff, reduceIte, ↓reduceIte, Nat.reduceAdd, Z0, Z1, Z2, Z3, Z4, Z5, Nat.reduceLT, Z6, Z7, Int.reduceEq, Z8, Z9, Nat.reduceLeDiff, Za, Zb, Zc, Zd, Ze, Zf, bytesOf, Zg, Zh, Zi, Zj, Zk, Zl, Int.reduceLT, Int.reduceLE, Zm, Int.reduceToNat, Zn, Zo, Zp, Int.reduceAdd, Zq, Zr]
      rw [hbad (.inr h2)]
    · simp only [go_sem, Nat.reduceEqDiff, reduceIte, ↓reduceIte, Nat.reduceAdd, Z0, Z1, Z2, Z3, Z4, Z5, Nat.reduceLT, Z6, Z7, Int.reduceEq, Z8, Z9, Nat.reduceLeDiff, Za, Zb, Zc, Zd, Ze, Zf, bytesOf, Zg, Zh, Zi, Zj, Zk, Zl, Int.reduceLT, Int.reduceLE, Zm, Int.reduceToNat, Zn, Zo, Zp, Int.reduceAdd, Zq, Zr]
      have hpos : 0 < c.ins.length := by simp [inD] at h1; omega
      have h1' : inD c.ins.length 1 40000 = true := by simpa using h1
      have h2' : (c.starts.length : Int) ≤ 400 := by simpa using h2
      refine (containsFn c hc _ (j := 0) rfl).mono ?_
      rintro r H' ⟨rfl, G, rfl⟩
      simp only [go_sem, Nat.reduceEqDiff, reduceIte, ↓reduceIte, Nat.reduceAdd, Z0, Z1, Z2, Z3, Z4, Z5, Nat.reduceLT, Z6, Z7, Int.reduceEq, Z8, Z9, Nat.reduceLeDiff, Za, Zb, Zc, Zd, Ze, Zf, bytesOf, Zg, Zh, Zi, Zj, Zk, Zl, Int.reduceLT, Int.reduceLE, Zm, Int.reduceToNat, Zn, Zo, Zp, Int.reduceAdd, Zq, Zr]
      refine condK_split _ (fun h3 => ?_) (fun h3 => ?_)
      · simp only [go_sem, Nat.reduceEqDiff, reduceIte, ↓reduceIte, Nat.reduceAdd, Z0, Z1, Z2, Z3, Z4, Z5, Nat.reduceLT, Z6, Z7, Int.reduceEq, Z8, Z9, Nat.reduceLeDiff, Za, Zb, Zc, Zd, Ze, Zf, bytesOf, Zg, Zh, Zi, Zj, Zk, Zl, Int.reduceLT, Int.reduceLE, Zm, Int.reduceToNat, Zn, Zo, Zp, Int.reduceAdd, Zq, Zr, h3]
        have h3' : c.ins.all (insOk c.ins.length c.starts.length) = false := by simpa using h3
        unfold codeOk
        rw [h3']; simp
      · simp only [go_sem, Nat.reduceEqDiff, reduceIte, ↓reduceIte, Nat.reduceAdd, Z0, Z1, Z2, Z3, Z4, Z5, Nat.reduceLT, Z6, Z7, Int.reduceEq, Z8, Z9, Nat.reduceLeDiff, Za, Zb, Zc, Zd, Ze, Zf, bytesOf, Zg, Zh, Zi, Zj, Zk, Zl, Int.reduceLT, Int.reduceLE, Zm, Int.reduceToNat, Zn, Zo, Zp, Int.reduceAdd, Zq, Zr, h3]
        have h3' : c.ins.all (insOk c.ins.length c.starts.length) = true := by simpa using h3
        refine (containsFnI c hc _ (j := 0) rfl).mono ?_
        rintro r H' ⟨rfl, G', rfl⟩
        simp only [go_sem, Nat.reduceEqDiff, reduceIte, ↓reduceIte, Nat.reduceAdd, Z0, Z1, Z2, Z3, Z4, Z5, Nat.reduceLT, Z6, Z7, Int.reduceEq, Z8, Z9, Nat.reduceLeDiff, Za, Zb, Zc, Zd, Ze, Zf, bytesOf, Zg, Zh, Zi, Zj, Zk, Zl, Int.reduceLT, Int.reduceLE, Zm, Int.reduceToNat, Zn, Zo, Zp, Int.reduceAdd, Zq, Zr, h3]
        refine condK_split _ (fun h4 => ?_) (fun h4 => ?_)
        · simp only [go_sem, Nat.reduceEqDiff, reduceIte, ↓reduceIte, Nat.reduceAdd, Z0, Z1, Z2, Z3, Z4, Z5, Nat.reduceLT, Z6, Z7, Int.reduceEq, Z8, Z9, Nat.reduceLeDiff, Za, Zb, Zc, Zd, Ze, Zf, bytesOf, Zg, Zh, Zi, Zj, Zk, Zl, Int.reduceLT, Int.reduceLE, Zm, Int.reduceToNat, Zn, Zo, Zp, Int.reduceAdd, Zq, Zr, h4]
          have h4' : c.starts.all (placeOk c) = false := by simpa using h4
          unfold codeOk
          rw [h4']; simp
        · simp only [go_sem, Nat.reduceEqDiff, reduceIte, ↓reduceIte, Nat.reduceAdd, Z0, Z1, Z2, Z3, Z4, Z5, Nat.reduceLT, Z6, Z7, Int.reduceEq, Z8, Z9, Nat.reduceLeDiff, Za, Zb, Zc, Zd, Ze, Zf, bytesOf, Zg, Zh, Zi, Zj, Zk, Zl, Int.reduceLT, Int.reduceLE, Zm, Int.reduceToNat, Zn, Zo, Zp, Int.reduceAdd, Zq, Zr, h4, inss_len]
          have h4' : c.starts.all (placeOk c) = true := by simpa using h4
          intro _
          rw [wr64 (by omega) (by omega)]
          have hlast : c.ins.length - 1 < c.ins.length := by omega
          have e1 : ((c.ins.length : Int) - 1) = ((c.ins.length - 1 : Nat) : Int) := by omega
          rw [e1]
          simp only [go_sem, Nat.reduceEqDiff, reduceIte, ↓reduceIte, Nat.reduceAdd, Z0, Z1, Z2, Z3, Z4, Z5, Nat.reduceLT, Z6, Z7, Int.reduceEq, Z8, Z9, Nat.reduceLeDiff, Za, Zb, Zc, Zd, Ze, Zf, bytesOf, Zg, Zh, Zi, Zj, Zk, Zl, Int.reduceLT, Int.reduceLE, Zm, Int.reduceToNat, Zn, Zo, Zp, Int.reduceAdd, Zq, Zr, inss_at _ hlast, InsD.cells]
          have hco : codeOk c = (decide (c.ins[c.ins.length - 1].op = 12) || decide (c.ins[c.ins.length - 1].op = 13) || decide (c.ins[c.ins.length - 1].op = 14) || decide (c.ins[c.ins.length - 1].op = 15)) := by
            unfold codeOk lastOk
            rw [h3', h4', h1', List.getElem?_eq_getElem hlast]
            simp [h2']
          rw [hco]
          repeat' (refine condK_split _ (fun hd => ?_) (fun hd => ?_) <;> simp only [go_sem, Nat.reduceEqDiff, reduceIte, ↓reduceIte, Nat.reduceAdd, Z0, Z1, Z2, Z3, Z4, Z5, Nat.reduceLT, Z6, Z7, Int.reduceEq, Z8, Z9, Nat.reduceLeDiff, Za, Zb, Zc, Zd, Ze, Zf, bytesOf, Zg, Zh, Zi, Zj, Zk, Zl, Int.reduceLT, Int.reduceLE, Zm, Int.reduceToNat, Zn, Zo, Zp, Int.reduceAdd, Zq, Zr, hd])
          all_goals simp_all
end Go.Proofs.Ytmbggdfceecojaa.Cd

/- The machine: what it does, in plain Lean. -/
set_option linter.all false
namespace Go.Proofs.Ytmbggdfceecojaa.Cd
open Go.AM Mc Ho

/-- words: a number, a string, a record, a block -/
inductive WD where
  | n (z : Int)
  | s (t : List UInt8)
  | r (k : Nat)
  | b (z : Int)
structure MD where
  regs : List WD
  slots : List WD
  heap : List (List WD)
  room : Int
  pc : Int
  inp : List Int
  out : List Int
  fin : Option (Int × Int)

def MD.g (m : MD) (i : Int) : WD := m.regs.getD i.toNat (.n 0)
def MD.p (m : MD) (i : Int) (w : WD) : MD := { m with regs := m.regs.set i.toNat w }
def MD.e (m : MD) (a b : Int) : MD := { m with fin := some (a, b) }

def rowD (m : MD) (k : Nat) : List WD := m.heap.getD k []

def insAt (c : CodeD) (i : Int) : InsD := c.ins.getD i.toNat ⟨0, 0, 0, 0, 0, []⟩
/-- words that are right where there are so many records and blocks -/
def wOk (nh nb : Nat) : WD → Prop
  | .n _ => True
  | .s t => t.length ≤ 4000
  | .r k => k < nh
  | .b z => 0 ≤ z ∧ z < nb
theorem wOk.mono {nh nh' nb : Nat} (h : nh ≤ nh') {w : WD} (hw : wOk nh nb w) : wOk nh' nb w := by
  cases w <;> simp only [wOk] at hw ⊢ <;> omega

structure MOk (c : CodeD) (m : MD) : Prop where
  regs : m.regs.length = 16
  slots : m.slots.length = 64
  room0 : 0 ≤ m.room
  room : m.room + m.heap.length ≤ 100000
  wr : ∀ w ∈ m.regs, wOk m.heap.length c.starts.length w
  ws : ∀ w ∈ m.slots, wOk m.heap.length c.starts.length w
  wh : ∀ r ∈ m.heap, r.length ≤ 4000 ∧ ∀ w ∈ r, wOk m.heap.length c.starts.length w

structure InsOk (c : CodeD) (x : InsD) : Prop where
  ra : 0 ≤ x.a ∧ x.a < 16
  rb : 0 ≤ x.b ∧ x.b < 16
  rc : 0 ≤ x.c ∧ x.c < 16
  op : 1 ≤ x.op ∧ x.op ≤ 15
  str : x.op = 2 → x.text.length ≤ 4000
  lab : x.op = 3 → 0 ≤ x.n ∧ x.n < c.starts.length
  slot : x.op = 5 ∨ x.op = 6 → 0 ≤ x.n ∧ x.n < 64
  new : x.op = 8 → 1 ≤ x.n ∧ x.n ≤ 4000
  mem : x.op = 9 ∨ x.op = 10 → 0 ≤ x.n
  go : x.op = 11 ∨ x.op = 12 → 0 ≤ x.n ∧ x.n < c.ins.length
  text : x.op = 7 → x.text = [43] ∨ x.text = [45] ∨ x.text = [42] ∨ x.text = [61] ∨ x.text = [60] ∨ x.text = [94] ∨ x.text = [115, 105, 122, 101] ∨ x.text = [114, 101, 97, 100] ∨ x.text = [112, 114, 105, 110, 116]

theorem wantsD_none {x : InsD} (h : x.op < 1 ∨ 15 < x.op) : wantsD x = none := by
  unfold wantsD
  simp only [show ¬ x.op = 1 by omega, show ¬ x.op = 2 by omega, show ¬ x.op = 3 by omega, show ¬ x.op = 4 by omega, show ¬ x.op = 5 by omega, show ¬ x.op = 6 by omega, show ¬ x.op = 7 by omega, show ¬ x.op = 8 by omega, show ¬ x.op = 9 by omega, show ¬ x.op = 10 by omega, show ¬ x.op = 11 by omega, show ¬ x.op = 12 by omega, show ¬ x.op = 13 by omega, show ¬ x.op = 14 by omega, show ¬ x.op = 15 by omega, if_false]
theorem insOk_facts {c : CodeD} {x : InsD} (h : insOk c.ins.length c.starts.length x = true) : InsOk c x := by
  unfold insOk at h
  simp only [Bool.and_eq_true] at h
  obtain ⟨⟨⟨⟨h1, h2⟩, h3⟩, h4⟩, h5⟩ := h
  simp only [inD, Bool.and_eq_true, decide_eq_true_eq] at h1 h2 h3
  have hw : wantsD x ≠ none := by
    intro e
    rw [e] at h4
    simp [zeroO] at h4
  have hop : 1 ≤ x.op ∧ x.op ≤ 15 := by
    by_cases h : x.op < 1 ∨ 15 < x.op
    · exact absurd (wantsD_none h) hw
    · omega
  refine ⟨by omega, by omega, by omega, hop, ?_, ?_, ?_, ?_, ?_, ?_, ?_⟩
  · intro e; unfold extraD at h5; simp [e] at h5; omega
  · intro e; unfold extraD at h5; simp [e, inD] at h5; omega
  · rintro (e | e) <;> (unfold extraD at h5; simp [e, inD] at h5; omega)
  · intro e; unfold extraD at h5; simp [e, inD] at h5; omega
  · rintro (e | e) <;> (unfold extraD at h5; simp [e, inD] at h5; omega)
  · rintro (e | e) <;> (unfold extraD at h5; simp [e, inD] at h5; omega)
  · intro e
    unfold wantsD at hw
    simp only [e, Int.reduceEq, if_false, if_true] at hw
    by_cases e1 : x.text = [43]; · simp [e1]
    by_cases e2 : x.text = [45]; · simp [e2]
    by_cases e3 : x.text = [42]; · simp [e3]
    by_cases e4 : x.text = [61]; · simp [e4]
    by_cases e5 : x.text = [60]; · simp [e5]
    by_cases e6 : x.text = [94]; · simp [e6]
    by_cases e7 : x.text = [115, 105, 122, 101]; · simp [e7]
    by_cases e8 : x.text = [114, 101, 97, 100]; · simp [e8]
    by_cases e9 : x.text = [112, 114, 105, 110, 116]; · simp [e9]
    exfalso
    unfold opW at hw
    simp only [e1, e2, e3, e4, e5, e6, e7, e8, e9, if_false] at hw
    exact hw rfl

structure CFacts (c : CodeD) : Prop where
  len : 1 ≤ c.ins.length ∧ c.ins.length ≤ 40000
  slen : c.starts.length ≤ 400
  ins : ∀ x ∈ c.ins, InsOk c x
  st : ∀ z ∈ c.starts, 0 ≤ z ∧ z < c.ins.length
  last : ∀ x, c.ins[c.ins.length - 1]? = some x → x.op = 12 ∨ x.op = 13 ∨ x.op = 14 ∨ x.op = 15

theorem codeOk_facts {c : CodeD} (h : codeOk c = true) : CFacts c := by
  unfold codeOk at h
  simp only [Bool.and_eq_true] at h
  obtain ⟨⟨⟨⟨h1, h2⟩, h3⟩, h4⟩, h5⟩ := h
  simp only [inD, Bool.and_eq_true, decide_eq_true_eq] at h1 h2
  refine ⟨by omega, by omega, fun x hx => insOk_facts (List.all_eq_true.1 h3 x hx), fun z hz => ?_, fun x hx => ?_⟩
  · have := List.all_eq_true.1 h4 z hz
    simp only [placeOk, inD, Bool.and_eq_true, decide_eq_true_eq] at this
    omega
  · unfold lastOk at h5
    rw [hx] at h5
    simp at h5
    omega

theorem getD_mem {α : Type} {l : List α} {i : Nat} (d : α) (h : i < l.length) : l.getD i d ∈ l := by
  simp [List.getD_eq_getElem?_getD, List.getElem?_eq_getElem h]

theorem rowD_mem {m : MD} {k : Nat} (h : k < m.heap.length) : rowD m k ∈ m.heap := getD_mem _ h

theorem insAt_mem {c : CodeD} {i : Int} (h0 : 0 ≤ i) (h1 : i < c.ins.length) : insAt c i ∈ c.ins := getD_mem _ (by omega)
theorem insAt_get {c : CodeD} {i : Int} (h0 : 0 ≤ i) (h1 : i < c.ins.length) : c.ins[i.toNat]? = some (insAt c i) := by
  unfold insAt
  rw [List.getD_eq_getElem?_getD, List.getElem?_eq_getElem (by omega)]; rfl

def runOk (c : CodeD) (inp : List Int) (room steps : Int) : Bool := codeOk c && decide (inp.length ≤ 200) && inD room 0 100000 && inD steps 0 300000
end Go.Proofs.Ytmbggdfceecojaa.Cd

/- THE SMALL CODES of functions 45 44 109 110 111 112 114 115 152 153 154 155 156 157 158 196 197 198 199 200 201 202 226 227 228, and their ties to the program (printed by wip/tools/mkties2.py). -/
set_option linter.all false
namespace Go.Proofs.Ytmbggdfceecojaa.Mc
open Go.AM
/- impl.Step1 -/
/- spec.Step1 -/
/- spec.l15Run -/
/- impl.runOk -/
/- impl.ran -/
/- impl.Step1$1 -/
/- spec.l12Spends -/
/- spec.l15Does -/
/- (*impl.machine).step -/
/- (*impl.machine).end -/
/- spec.l8Ends -/
/- spec.l15Op -/
/- spec.l15Room -/
/- spec.l15Member -/
/- spec.l15Is -/
/- impl.num -/
/- (*impl.machine).op -/
/- (*impl.machine).takeRoom -/
/- (*impl.machine).member -/
/- (*impl.machine).goes -/
/- spec.l8Prim -/
/- spec.l8Op -/
/- (*impl.machine).texts -/
/- (*impl.machine).want -/
/- spec.l8Bool -/
end Go.Proofs.Ytmbggdfceecojaa.Mc

/- The machine of the reference: its state, as it lies in memory; its smaller functions. -/
set_option linter.all false
namespace Go.Proofs.Ytmbggdfceecojaa.Cd
open Go.AM Mc Ho

def wKd : WD → Int | .n _ => 0 | .s _ => 1 | .r _ => 2 | .b _ => 3
def wSn : WD → Int | .n z => z | .s _ => 0 | .r k => k | .b z => z
def wSt : WD → List UInt8 | .s t => t | _ => []
def wS (w : WD) : List AV := [.p (.i .i64 (wKd w)), .p (.i .i64 (wSn w)), .p (.s (wSt w))]

/-- where the machine lies -/
structure SG where
  im : Nat
  iw : Nat
  ir : Nat
  isl : Nat
  rs : List Nat
  hp : AV
  ou : AV
  ip : AV
def SG.ids (g : SG) : List Nat := g.ir :: g.isl :: g.rs
def gid : AV → Option Nat | .gs i _ _ _ => some i | _ => none
def finE' (m : MD) : Int := (m.fin.getD (0, 0)).1
def finC' (m : MD) : Int := (m.fin.getD (0, 0)).2
def mCl (g : SG) (m : MD) : List AV := [.ptr g.iw 0, .gs g.ir 0 0 16, .gs g.isl 0 0 64, g.hp, .p (.i .i64 m.room), .p (.i .i64 m.pc)]
def wCl (g : SG) (f : Int) (m : MD) : List AV := [.p (.i .i64 f), g.ip, .p .nl, .p (.i .i64 (finE' m)), .p (.i .i64 (finC' m)), g.ou, .p (.b m.fin.isSome)]
def hpR (rs : List Nat) (heap : List (List WD)) : List (List AV) := List.zipWith (fun id r => [AV.gs id 0 0 r.length]) rs heap

structure SM (g : SG) (f : Int) (H : List AO) (m : MD) : Prop where
  mv : H[g.im]? = some (.var (mCl g m))
  wv : H[g.iw]? = some (.var (wCl g f m))
  nd : g.ids.Nodup
  len : g.rs.length = m.heap.length
  rg : H[g.ir]? = some (.rows 3 0 (m.regs.map wS))
  sl : H[g.isl]? = some (.rows 3 0 (m.slots.map wS))
  rc : ∀ (k : Nat) id, g.rs[k]? = some id → H[id]? = some (.rows 3 0 ((rowD m k).map wS))
  hpo : OwnR H g.hp 1 (hpR g.rs m.heap)
  out : OwnR H g.ou 1 (intR .i64 m.out)
  inp : ∃ ii ver off all, g.ip = .gs ii ver off m.inp.length ∧ H[ii]? = some (.rows 1 ver (intR .i64 all)) ∧ all.drop off = m.inp
  d1 : ∀ j, gid g.hp = some j → gid g.ou ≠ some j
  d2 : ∀ j, gid g.hp = some j → gid g.ip ≠ some j
  d3 : ∀ j, gid g.ou = some j → gid g.ip ≠ some j
def smP (g : SG) (j : Nat) : Prop := j = g.im ∨ j = g.iw ∨ j ∈ g.ids ∨ gid g.hp = some j ∨ gid g.ou = some j ∨ gid g.ip = some j

theorem own_gid {H : List AO} {a : AV} {sz : Nat} {rs : List (List AV)} (h : OwnR H a sz rs) {j : Nat} (hj : gid a = some j) : ∃ ver, H[j]? = some (.rows sz ver rs) := by
  rcases h with ⟨rfl, _⟩ | ⟨id, ver, rfl, h⟩
  · cases hj
  · cases hj; exact ⟨ver, h⟩
theorem own_keep {H H' : List AO} {a : AV} {sz : Nat} {rs : List (List AV)} (h : OwnR H a sz rs) (k : ∀ j o, gid a = some j → H[j]? = some o → H'[j]? = some o) : OwnR H' a sz rs := by
  rcases h with h | ⟨id, ver, rfl, h⟩
  · exact .inl h
  · exact .inr ⟨id, ver, rfl, k _ _ rfl h⟩
/-- another object than the one that is written -/
theorem set_ne' {H : List AO} {i j : Nat} {a b o : AO} (hi : H[i]? = some a) (hj : H[j]? = some b) (hne : a ≠ b) : (H.set i o)[j]? = some b :=
  get_set hj (by rintro rfl; rw [hi] at hj; cases hj; exact hne rfl)

theorem SM.keep {g f H H' m} (h : SM g f H m) (k : ∀ (j : Nat) o, H[j]? = some o → smP g j → H'[j]? = some o) : SM g f H' m where
  mv := k _ _ h.mv (.inl rfl)
  wv := k _ _ h.wv (.inr (.inl rfl))
  nd := h.nd
  len := h.len
  rg := k _ _ h.rg (.inr (.inr (.inl (by simp [SG.ids]))))
  sl := k _ _ h.sl (.inr (.inr (.inl (by simp [SG.ids]))))
  rc := fun i id hi => k _ _ (h.rc i id hi) (.inr (.inr (.inl (by simp only [SG.ids, List.mem_cons]; exact .inr (.inr (List.mem_of_getElem? hi))))))
  hpo := own_keep h.hpo fun j o hj ho => k j o ho (.inr (.inr (.inr (.inl hj))))
  out := own_keep h.out fun j o hj ho => k j o ho (.inr (.inr (.inr (.inr (.inl hj)))))
  inp := by
    obtain ⟨ii, ver, off, all, e1, e2, e3⟩ := h.inp
    exact ⟨ii, ver, off, all, e1, k _ _ e2 (.inr (.inr (.inr (.inr (.inr (by rw [e1]; rfl)))))), e3⟩
  d1 := h.d1
  d2 := h.d2
  d3 := h.d3
theorem SM.ext {g f H m} (h : SM g f H m) (A : List AO) : SM g f (H ++ A) m := h.keep fun j o hj _ => get_ext hj A

/-- rows are written: registers, slots, a record -/
theorem SM.putRow {g f H m} (h : SM g f H m) {id : Nat} (hid : id ∈ g.ids) (l : List WD) (m' : MD) (e1 : m'.room = m.room) (e2 : m'.pc = m.pc) (e3 : m'.inp = m.inp) (e4 : m'.out = m.out) (e5 : m'.fin = m.fin) (e6 : m'.heap.length = m.heap.length)
    (e7 : hpR g.rs m'.heap = hpR g.rs m.heap)
    (k1 : m'.regs = if id = g.ir then l else m.regs) (k2 : m'.slots = if id = g.isl then l else m.slots) (k3 : ∀ (k : Nat) j, g.rs[k]? = some j → rowD m' k = if id = j then l else rowD m k) :
    SM g f (H.set id (.rows 3 0 (l.map wS))) m' ∧ Fr (smP g) (smP g) H (H.set id (.rows 3 0 (l.map wS))) := by
  have hrow : ∃ rs, H[id]? = some (.rows 3 0 rs) := by
    simp only [SG.ids, List.mem_cons] at hid
    rcases hid with rfl | rfl | hid
    · exact ⟨_, h.rg⟩
    · exact ⟨_, h.sl⟩
    · obtain ⟨k, hk⟩ := List.getElem?_of_mem hid
      exact ⟨_, h.rc k id hk⟩
  obtain ⟨rs, hr⟩ := hrow
  have em : mCl g m' = mCl g m := by simp [mCl, e1, e2]
  have ew : wCl g f m' = wCl g f m := by simp [wCl, e5, finE', finC']
  refine ⟨⟨?_, ?_, h.nd, by rw [e6]; exact h.len, ?_, ?_, ?_, ?_, ?_, ?_, h.d1, h.d2, h.d3⟩, Fr.set _ (.inr (.inr (.inl hid)))⟩
  · rw [em]; exact set_ne' hr h.mv (by intro e; cases e)
  · rw [ew]; exact set_ne' hr h.wv (by intro e; cases e)
  · rw [k1]
    split
    · rename_i e; subst e; exact set_get hr
    · rename_i e; exact get_set h.rg e
  · rw [k2]
    split
    · rename_i e; subst e; exact set_get hr
    · rename_i e; exact get_set h.sl e
  · intro k j hj
    rw [k3 k j hj]
    split
    · rename_i e; subst e; exact set_get hr
    · rename_i e; exact get_set (h.rc k j hj) e
  · rw [e7]
    exact own_keep h.hpo fun j o hj ho => by obtain ⟨v, e⟩ := own_gid h.hpo hj; rw [e] at ho; cases ho; exact set_ne' hr e (by intro e; cases e)
  · rw [e4]
    exact own_keep h.out fun j o hj ho => by obtain ⟨v, e⟩ := own_gid h.out hj; rw [e] at ho; cases ho; exact set_ne' hr e (by intro e; cases e)
  · obtain ⟨ii, ver, off, all, e1, e2, e3'⟩ := h.inp
    exact ⟨ii, ver, off, all, by rw [e3]; exact e1, set_ne' hr e2 (by intro e; cases e), by rw [e3]; exact e3'⟩

theorem SM.ne {g f H m} (h : SM g f H m) : g.ir ≠ g.isl ∧ (∀ j ∈ g.rs, g.ir ≠ j ∧ g.isl ≠ j) := by
  have := h.nd
  simp only [SG.ids, List.nodup_cons, List.mem_cons, not_or] at this
  exact ⟨this.1.1, fun j hj => ⟨fun e => this.1.2 (e ▸ hj), fun e => this.2.1 (e ▸ hj)⟩⟩
/-! the smaller functions -/
end Go.Proofs.Ytmbggdfceecojaa.Cd

/- The machine of the reference: what is put, read and new; its operations. -/
set_option linter.all false
namespace Go.Proofs.Ytmbggdfceecojaa.Cd
open Go.AM Mc Ho

end Go.Proofs.Ytmbggdfceecojaa.Cd

/- The machine of the reference: what is put; its operations. -/
set_option linter.all false
namespace Go.Proofs.Ytmbggdfceecojaa.Cd
open Go.AM Mc Ho

theorem SM.setV {g f H m} (h : SM g f H m) {b : Nat} {cs : List AV} (hb : H[b]? = some (.var cs)) (h6 : cs.length ≠ 6) (h7 : cs.length ≠ 7) (o : AO) : SM g f (H.set b o) m :=
  h.keep fun j o' hj hp => by
    refine get_set hj ?_
    rintro rfl
    rw [hb] at hj; cases hj
    rcases hp with rfl | rfl | e | e | e | e
    · rw [h.mv] at hb; cases hb; simp [mCl] at h6
    · rw [h.wv] at hb; cases hb; simp [wCl] at h7
    · simp only [SG.ids, List.mem_cons] at e
      rcases e with rfl | rfl | e
      · rw [h.rg] at hb; cases hb
      · rw [h.sl] at hb; cases hb
      · obtain ⟨i, hi⟩ := List.getElem?_of_mem e; rw [h.rc i _ hi] at hb; cases hb
    · obtain ⟨v, e⟩ := own_gid h.hpo e; rw [e] at hb; cases hb
    · obtain ⟨v, e⟩ := own_gid h.out e; rw [e] at hb; cases hb
    · obtain ⟨ii, ver, off, all, e1, e2, e3⟩ := h.inp
      rw [e1] at e; cases e; rw [e2] at hb; cases hb

end Go.Proofs.Ytmbggdfceecojaa.Cd

/- The machine of the program: its state, as it lies in memory. -/
set_option linter.all false
namespace Go.Proofs.Ytmbggdfceecojaa.Cd
open Go.AM Mc Ho

def wI (ids : List (Nat × Nat)) : WD → List AV
  | .n z => [.p (.i .i64 0), .p (.i .i64 z), .p (.s []), .p .nl]
  | .s t => [.p (.i .i64 1), .p (.i .i64 0), .p (.s t), .p .nl]
  | .r k => [.p (.i .i64 2), .p (.i .i64 0), .p (.s []), .gs (ids.getD k (0, 0)).1 0 0 (ids.getD k (0, 0)).2]
  | .b z => [.p (.i .i64 3), .p (.i .i64 z), .p (.s []), .p .nl]
/-- the cells of the machine -/
def imR (a b inp room pc : AV) (R S : List AV) (e cd ou fl : AV) : List AV := [a, b, inp, room, pc] ++ (R ++ (S ++ [e, cd, ou, fl]))
section
variable {a b inp room pc e cd ou fl v : AV} {R S : List AV}
end

def finE (m : MD) : Int := (m.fin.getD (0, 0)).1
def finC (m : MD) : Int := (m.fin.getD (0, 0)).2
def imC (c : CodeD) (ids : List (Nat × Nat)) (ou : AV) (m : MD) : List AV :=
  imR (.p (.l (inss c.ins))) (.p (.l (ints c.starts))) (.p (.l (ints m.inp))) (.p (.i .i64 m.room)) (.p (.i .i64 m.pc)) (m.regs.flatMap (wI ids)) (m.slots.flatMap (wI ids)) (.p (.i .i64 (finE m))) (.p (.i .i64 (finC m))) ou (.p (.b m.fin.isSome))

/-- the machine in memory: its cells at im, its records at ids, what it has put behind ou -/
structure IM (c : CodeD) (im : Nat) (ids : List (Nat × Nat)) (ou : AV) (H : List AO) (m : MD) : Prop where
  var : H[im]? = some (.var (imC c ids ou m))
  nd : (ids.map (·.1)).Nodup
  len : ids.length = m.heap.length
  rcs : ∀ (k : Nat) id n, ids[k]? = some (id, n) → n = (rowD m k).length ∧ H[id]? = some (.rows 4 0 ((rowD m k).map (wI ids)))
  out : OwnR H ou 1 (intR .i64 m.out)
/-- the objects that it owns -/
def imP (im : Nat) (ids : List (Nat × Nat)) (ou : AV) (j : Nat) : Prop := j = im ∨ (∃ n, (j, n) ∈ ids) ∨ ∃ v o n, ou = .gs j v o n

theorem IM.keep {c im ids ou H H' m} (h : IM c im ids ou H m) (k : ∀ (j : Nat) o, H[j]? = some o → imP im ids ou j → H'[j]? = some o) : IM c im ids ou H' m where
  var := k _ _ h.var (.inl rfl)
  nd := h.nd
  len := h.len
  rcs := fun i id n hi => ⟨(h.rcs i id n hi).1, k _ _ (h.rcs i id n hi).2 (.inr (.inl ⟨n, List.mem_of_getElem? hi⟩))⟩
  out := by
    rcases h.out with ⟨e1, e2⟩ | ⟨id, ver, e1, e2⟩
    · exact .inl ⟨e1, e2⟩
    · exact .inr ⟨id, ver, e1, k _ _ e2 (.inr (.inr ⟨_, _, _, e1⟩))⟩
theorem IM.ext {c im ids ou H m} (h : IM c im ids ou H m) (A : List AO) : IM c im ids ou (H ++ A) m := h.keep fun j o hj _ => get_ext hj A
/-- the machine's cells are written -/
theorem IM.put {c im ids ou H m} (h : IM c im ids ou H m) (m' : MD) (e1 : m'.heap = m.heap) (e2 : m'.out = m.out) : IM c im ids ou (H.set im (.var (imC c ids ou m'))) m' where
  var := set_get h.var
  nd := h.nd
  len := by rw [e1]; exact h.len
  rcs := fun i id n hi => by
    have e : rowD m' i = rowD m i := by unfold rowD; rw [e1]
    rw [e]
    refine ⟨(h.rcs i id n hi).1, get_set (h.rcs i id n hi).2 ?_⟩
    rintro rfl
    have := (h.rcs i _ n hi).2
    rw [h.var] at this; cases this
  out := by
    rw [e2]
    rcases h.out with ⟨e1, e2⟩ | ⟨id, ver, e1, e2⟩
    · exact .inl ⟨e1, e2⟩
    · refine .inr ⟨id, ver, e1, get_set e2 ?_⟩
      rintro rfl
      rw [h.var] at e2; cases e2
theorem fr_var {im ids ou} {H : List AO} (o : AO) : Fr (imP im ids ou) (imP im ids ou) H (H.set im o) := Fr.set o (.inl rfl)

/-! what the machine's cells read as, and how they are written -/
section
variable {c : CodeD} {m : MD} {ids : List (Nat × Nat)} {ou : AV}
end

end Go.Proofs.Ytmbggdfceecojaa.Cd

/- The machine of the program: its smaller methods. -/
set_option linter.all false
namespace Go.Proofs.Ytmbggdfceecojaa.Cd
open Go.AM Mc Ho

/-- an instruction's copy, and the machine -/
structure IX (c : CodeD) (im : Nat) (ids : List (Nat × Nat)) (ou : AV) (H0 H : List AO) (m : MD) (b : Nat) (x : InsD) : Prop where
  mm : IM c im ids ou H m
  bx : H[b]? = some (.var [.p (.i .i64 x.op), .p (.i .i64 x.a), .p (.i .i64 x.b), .p (.i .i64 x.c), .p (.i .i64 x.n), .p (.s x.text)])
  ne : im ≠ b
  fr : Fr (imP im ids ou) (imP im ids ou) H0 H
theorem IX.new {c im ids ou H m} (h : IM c im ids ou H m) (x : InsD) : IX c im ids ou H (H ++ [.var [.p (.i .i64 x.op), .p (.i .i64 x.a), .p (.i .i64 x.b), .p (.i .i64 x.c), .p (.i .i64 x.n), .p (.s x.text)]]) m H.length x :=
  ⟨h.ext _, get_off0 _ _, by have := get_lt h.var; omega, Fr.ext _ _ _⟩
theorem IX.put {c im ids ou H0 H m b x} (h : IX c im ids ou H0 H m b x) (m' : MD) (e1 : m'.heap = m.heap) (e2 : m'.out = m.out) : IX c im ids ou H0 (H.set im (.var (imC c ids ou m'))) m' b x :=
  ⟨h.mm.put m' e1 e2, get_set h.bx h.ne, h.ne, h.fr.trans (fr_var _)⟩
end Go.Proofs.Ytmbggdfceecojaa.Cd

/- The machine of the reference: its operations. -/
set_option linter.all false
namespace Go.Proofs.Ytmbggdfceecojaa.Cd
open Go.AM Mc Ho

def xC (x : InsD) : List AV := [.p (.i .i64 x.op), .p (.i .i64 x.a), .p (.i .i64 x.b), .p (.i .i64 x.c), .p (.i .i64 x.n), .p (.s x.text)]
theorem SM.notin {g f H m} (h : SM g f H m) {b : Nat} {cs : List AV} (hb : H[b]? = some (.var cs)) (h6 : cs ≠ mCl g m) (h7 : cs.length ≠ 7) : ¬ smP g b := by
  intro hp
  rcases hp with rfl | rfl | e | e | e | e
  · rw [h.mv] at hb; cases hb; exact h6 rfl
  · rw [h.wv] at hb; cases hb; simp [wCl] at h7
  · simp only [SG.ids, List.mem_cons] at e
    rcases e with rfl | rfl | e
    · rw [h.rg] at hb; cases hb
    · rw [h.sl] at hb; cases hb
    · obtain ⟨i, hi⟩ := List.getElem?_of_mem e; rw [h.rc i _ hi] at hb; cases hb
  · obtain ⟨v, e⟩ := own_gid h.hpo e; rw [e] at hb; cases hb
  · obtain ⟨v, e⟩ := own_gid h.out e; rw [e] at hb; cases hb
  · obtain ⟨ii, ver, off, all, e1, e2, e3⟩ := h.inp
    rw [e1] at e; cases e; rw [e2] at hb; cases hb
theorem ne_m {g : SG} {m : MD} {k : IntKind} {z : Int} {l : List AV} : (AV.p (.i k z) :: l) ≠ mCl g m := by
  intro e; simp [mCl] at e

/-- the machine, and an operation's own variables -/
structure OS (g0 : SG) (H0 : List AO) (g : SG) (f : Int) (H : List AO) (m : MD) (x : InsD) (v4 v5 v6 : List AV) (b3 b4 b5 b6 : Nat) : Prop where
  mm : SM g f H m
  x3 : H[b3]? = some (.var (xC x))
  x4 : H[b4]? = some (.var v4)
  x5 : H[b5]? = some (.var v5)
  x6 : H[b6]? = some (.var v6)
  l4 : ∃ k z t, v4 = [.p (.i .i64 k), .p (.i .i64 z), .p (.s t)]
  l5 : ∃ k z t, v5 = [.p (.i .i64 k), .p (.i .i64 z), .p (.s t)]
  l6 : ∃ k z t, v6 = [.p (.i .i64 k), .p (.i .i64 z), .p (.s t)]
  n3 : b3 ≠ b6
  n4 : b4 ≠ b6
  n5 : b5 ≠ b6
  h6 : H0.length ≤ b6
  fr : Fr (smP g0) (smP g) H0 H
theorem OS.step {g0 H0 g f H m x v4 v5 v6 b3 b4 b5 b6} (h : OS g0 H0 g f H m x v4 v5 v6 b3 b4 b5 b6) {g' f' H' m'} (hm : SM g' f' H' m') (k : Fr (smP g) (smP g') H H') : OS g0 H0 g' f' H' m' x v4 v5 v6 b3 b4 b5 b6 where
  mm := hm
  x3 := k.keep _ _ h.x3 (h.mm.notin h.x3 ne_m (by simp [xC]))
  x4 := by obtain ⟨a, b, c, e⟩ := h.l4; exact k.keep _ _ h.x4 (h.mm.notin h.x4 (by rw [e]; exact ne_m) (by rw [e]; simp))
  x5 := by obtain ⟨a, b, c, e⟩ := h.l5; exact k.keep _ _ h.x5 (h.mm.notin h.x5 (by rw [e]; exact ne_m) (by rw [e]; simp))
  x6 := by obtain ⟨a, b, c, e⟩ := h.l6; exact k.keep _ _ h.x6 (h.mm.notin h.x6 (by rw [e]; exact ne_m) (by rw [e]; simp))
  l4 := h.l4
  l5 := h.l5
  l6 := h.l6
  n3 := h.n3
  n4 := h.n4
  n5 := h.n5
  h6 := h.h6
  fr := h.fr.trans k
theorem OS.ext {g0 H0 g f H m x v4 v5 v6 b3 b4 b5 b6} (h : OS g0 H0 g f H m x v4 v5 v6 b3 b4 b5 b6) (A : List AO) : OS g0 H0 g f (H ++ A) m x v4 v5 v6 b3 b4 b5 b6 := h.step (h.mm.ext A) (Fr.ext _ _ _)
/-- what an operation gives is written -/
theorem OS.wr {g0 H0 g f H m x v4 v5 v6 b3 b4 b5 b6} (h : OS g0 H0 g f H m x v4 v5 v6 b3 b4 b5 b6) (k z : Int) (t : List UInt8) :
    OS g0 H0 g f (H.set b6 (.var [.p (.i .i64 k), .p (.i .i64 z), .p (.s t)])) m x v4 v5 [.p (.i .i64 k), .p (.i .i64 z), .p (.s t)] b3 b4 b5 b6 where
  mm := by obtain ⟨a, b, c, e⟩ := h.l6; exact h.mm.setV h.x6 (by rw [e]; simp) (by rw [e]; simp) _
  x3 := get_set h.x3 (Ne.symm h.n3)
  x4 := get_set h.x4 (Ne.symm h.n4)
  x5 := get_set h.x5 (Ne.symm h.n5)
  x6 := set_get h.x6
  l4 := h.l4
  l5 := h.l5
  l6 := ⟨_, _, _, rfl⟩
  n3 := h.n3
  n4 := h.n4
  n5 := h.n5
  h6 := h.h6
  fr := h.fr.setNew h.h6 _

end Go.Proofs.Ytmbggdfceecojaa.Cd

/- The machine of the program: operations, and what goes elsewhere. -/
set_option linter.all false
namespace Go.Proofs.Ytmbggdfceecojaa.Cd
open Go.AM Mc Ho

end Go.Proofs.Ytmbggdfceecojaa.Cd

/- The machine of the program: what goes elsewhere; a step. -/
set_option linter.all false
namespace Go.Proofs.Ytmbggdfceecojaa.Cd
open Go.AM Mc Ho

/-! records -/
theorem wI_ext {ids ids' : List (Nat × Nat)} {nb : Nat} {w : WD} (hw : wOk ids.length nb w) : wI (ids ++ ids') w = wI ids w := by
  cases w with
  | r k =>
    have hk : k < ids.length := hw
    simp only [wI, List.getD_eq_getElem?_getD, List.getElem?_append_left hk]
  | _ => rfl
/-- a new record -/
theorem IM.new {c im ids ou H m} (h : IM c im ids ou H m) (hm : MOk c m) (a : Int) (n : Nat) :
    IM c im (ids ++ [(H.length, n)]) ou ((H ++ [AO.rows 4 0 (List.replicate n [.p (.i .i64 0), .p (.i .i64 0), .p (.s []), .p .nl])]).set im (.var (imC c (ids ++ [(H.length, n)]) ou (m.p a (.r m.heap.length)))))
      { m with heap := m.heap ++ [List.replicate n (.n 0)], regs := m.regs.set a.toNat (.r m.heap.length) } ∧
    Fr (imP im ids ou) (imP im (ids ++ [(H.length, n)]) ou) H ((H ++ [AO.rows 4 0 (List.replicate n [.p (.i .i64 0), .p (.i .i64 0), .p (.s []), .p .nl])]).set im (.var (imC c (ids ++ [(H.length, n)]) ou (m.p a (.r m.heap.length))))) := by
  have hE := h.ext [AO.rows 4 0 (List.replicate n [.p (.i .i64 0), .p (.i .i64 0), .p (.s []), .p .nl])]
  have hlt := get_lt h.var
  refine ⟨⟨set_get hE.var, ?_, by simp [h.len], ?_, ?_⟩, ?_⟩
  · rw [List.map_append]
    refine List.nodup_append.2 ⟨h.nd, by simp, fun i hi j hj => ?_⟩
    simp at hj
    obtain ⟨⟨i', n'⟩, hm', rfl⟩ := List.mem_map.1 hi
    obtain ⟨k, hk⟩ := List.getElem?_of_mem hm'
    have := get_lt (h.rcs k _ _ hk).2
    simp only; omega
  · intro k id n' hk
    by_cases hkl : k < ids.length
    · rw [List.getElem?_append_left hkl] at hk
      have e : rowD { m with heap := m.heap ++ [List.replicate n (WD.n 0)], regs := m.regs.set a.toNat (.r m.heap.length) } k = rowD m k := by
        unfold rowD
        simp only [List.getD_eq_getElem?_getD]
        rw [List.getElem?_append_left (by rw [← h.len]; exact hkl)]
      rw [e]
      obtain ⟨e1, e2⟩ := h.rcs k id n' hk
      refine ⟨e1, ?_⟩
      have ek : (rowD m k).map (wI (ids ++ [(H.length, n)])) = (rowD m k).map (wI ids) := by
        refine List.map_congr_left fun w hw => wI_ext (nb := c.starts.length) ?_
        rw [h.len]; exact (hm.wh _ (rowD_mem (by rw [← h.len]; exact hkl))).2 w hw
      rw [ek]
      refine get_set (get_ext e2 _) ?_
      rintro rfl
      rw [h.var] at e2; cases e2
    · have hke : k = ids.length := by
        have := (List.getElem?_eq_some_iff.1 hk).1
        simp at this; omega
      subst hke
      simp at hk
      obtain ⟨rfl, rfl⟩ := hk
      have e : rowD { m with heap := m.heap ++ [List.replicate n (WD.n 0)], regs := m.regs.set a.toNat (.r m.heap.length) } ids.length = List.replicate n (.n 0) := by
        unfold rowD
        simp [List.getD_eq_getElem?_getD, h.len]
      rw [e]
      refine ⟨by simp, ?_⟩
      rw [List.map_replicate]
      exact get_set (get_off0 _ _) (by omega)
  · rcases h.out with ⟨e1, e2⟩ | ⟨i, ver, e1, e2⟩
    · exact .inl ⟨e1, e2⟩
    · refine .inr ⟨i, ver, e1, get_set (get_ext e2 _) ?_⟩
      rintro rfl; rw [h.var] at e2; cases e2
  · refine ⟨fun j o hj hp => get_set (get_ext hj _) (fun e => hp (.inl e.symm)), fun j hj => ?_, by simp⟩
    rcases hj with h' | ⟨n', h'⟩ | h'
    · exact .inl (.inl h')
    · rcases List.mem_append.1 h' with h2 | h2
      · exact .inl (.inr (.inl ⟨n', h2⟩))
      · simp at h2
        exact .inr (by omega)
    · exact .inl (.inr (.inr h'))
end Go.Proofs.Ytmbggdfceecojaa.Cd

/- The machine of the program: a step. -/
set_option linter.all false
namespace Go.Proofs.Ytmbggdfceecojaa.Cd
open Go.AM Mc Ho

end Go.Proofs.Ytmbggdfceecojaa.Cd

/- The machine of the reference: a step. -/
set_option linter.all false
namespace Go.Proofs.Ytmbggdfceecojaa.Cd
open Go.AM Mc Ho

end Go.Proofs.Ytmbggdfceecojaa.Cd

/- The machine of the program: it runs. -/
set_option linter.all false
namespace Go.Proofs.Ytmbggdfceecojaa.Cd
open Go.AM Mc Ho

theorem implCodeOk_any (c : CodeD) (hc : okCode c) (H : List AO) : ACall Try.prog 74 [.st (c.cells.map .p)] H (pureQ (.p (.b (codeOk c))) H) :=
  (acall_lend (implCodeOk c hc) (fun r H' h => by subst h; exact grnd_b _) (lentAll_cons (code_lent c) (lentAll_nil _))).mono fun r H' ⟨h1, _, h2⟩ => ⟨h2, h1⟩
theorem within_p (x a b : Int) (H : List AO) : ACall Try.prog 124 [.p (.i .i64 x), .p (.i .i64 a), .p (.i .i64 b)] H (pureQ (.p (.b (inD x a b))) H) := (within_any x a b).mono fun r H' h => h

end Go.Proofs.Ytmbggdfceecojaa.Cd

/- The machine of the reference: it runs; Step1 of both. -/
set_option linter.all false
namespace Go.Proofs.Ytmbggdfceecojaa.Cd
open Go.AM Mc Ho

theorem specCodeOk_any (c : CodeD) (hc : okCode c) (H : List AO) : ACall Try.prog 70 [.st (c.cells.map .p)] H (pureQ (.p (.b (codeOk c))) H) :=
  (acall_lend (specCodeOk c hc) (fun r H' h => by subst h; exact grnd_b _) (lentAll_cons (code_lent c) (lentAll_nil _))).mono fun r H' ⟨h1, _, h2⟩ => ⟨h2, h1⟩
theorem l1In_p (x a b : Int) (H : List AO) : ACall Try.prog 122 [.p (.i .i64 x), .p (.i .i64 a), .p (.i .i64 b)] H (pureQ (.p (.b (inD x a b))) H) := (l1In_any x a b).mono fun r H' h => h

def hS (L n : Nat) (inp : List Int) (room f : Int) : List AO :=
  [.rows 1 1 (intR .i64 inp), .var [.p (.i .i64 f), .gs L 1 0 n, .p .nl, .p (.i .i64 0), .p (.i .i64 0), .p .nl, .p (.b false)], .rows 3 0 (List.replicate 16 [.p (.i .i64 0), .p (.i .i64 0), .p (.s [])]), .rows 3 0 (List.replicate 64 [.p (.i .i64 0), .p (.i .i64 0), .p (.s [])]),
    .var [.ptr (L + 1) 0, .gs (L + 2) 0 0 16, .gs (L + 3) 0 0 64, .p .nl, .p (.i .i64 room), .p (.i .i64 0)]]
theorem ints_map (l : List Int) : List.map (fun x => List.map AV.p x) (ints l) = intR .i64 l := by simp [ints, intR]

end Go.Proofs.Ytmbggdfceecojaa.Cd

/- Step1, of both. -/
set_option linter.all false
namespace Go.Proofs.Ytmbggdfceecojaa.Cd
open Go.AM Mc Ho

end Go.Proofs.Ytmbggdfceecojaa.Cd

/- THE SMALL CODES of functions 9 10 11 13 46 47 50 51 52 53 54 59 60 61 62 63 113 116 117 120 121, and their ties to the program (printed by wip/tools/mkties2.py). -/
set_option linter.all false
namespace Go.Proofs.Ytmbggdfceecojaa.Mc
open Go.AM
/- laws.FnExactStep1 -/
/- laws.FnExactProfile -/
/- laws.FnExactRunCode -/
/- laws.FnExactTrace -/
/- spec.Profile -/
/- impl.Profile -/
/- spec.RunCode -/
/- impl.RunCode -/
/- laws.eqOutcome -/
/- laws.markOutcome -/
/- laws.heldOutcome -/
/- laws.eqEventS -/
/- spec.Trace -/
/- impl.Trace -/
/- laws.markEventS -/
/- laws.heldEventS -/
/- spec.l21Start -/
/- impl.Profile$1 -/
/- impl.RunCode$1 -/
/- laws.eqEvent -/
/- impl.Trace$1 -/
end Go.Proofs.Ytmbggdfceecojaa.Mc

/- Numbers as bytes: bits. -/
set_option linter.all false
namespace Go.Proofs.Ytmbggdfceecojaa.Cd
open Go.AM

/-- a number as one from 0 on -/
def zig (n : Int) : Nat := if 0 ≤ n then 2 * n.toNat else (-2 * n - 1).toNat
/-- seven bits a byte, the lowest first -/
def enc (z : Nat) : List Int := if h : z < 128 then [(z : Int)] else ((z % 128 + 128 : Nat) : Int) :: enc (z / 128)
termination_by z
decreasing_by omega
theorem enc_lt {z : Nat} (h : z < 128) : enc z = [(z : Int)] := by rw [enc, dif_pos h]
theorem enc_ge {z : Nat} (h : ¬ z < 128) : enc z = ((z % 128 + 128 : Nat) : Int) :: enc (z / 128) := by rw [enc, dif_neg h]
theorem enc_len (k : Nat) : ∀ z : Nat, z < 128 ^ (k + 1) → (enc z).length ≤ k + 1 := by
  induction k with
  | zero => intro z hz; rw [enc_lt (by simpa using hz)]; simp
  | succ k ih =>
    intro z hz
    by_cases h : z < 128
    · rw [enc_lt h]; simp
    · rw [enc_ge h]
      have := ih (z / 128) (by rw [Nat.div_lt_iff_lt_mul (by omega)]; rw [Nat.pow_succ] at hz; exact hz)
      simp; omega
theorem zig_lt {n : Int} (h1 : -9223372036854775808 ≤ n) (h2 : n ≤ 9223372036854775807) : zig n < 18446744073709551616 := by
  unfold zig; split <;> omega
theorem enc10 {n : Int} (h1 : -9223372036854775808 ≤ n) (h2 : n ≤ 9223372036854775807) : (enc (zig n)).length ≤ 10 := by
  have := zig_lt h1 h2
  exact enc_len 9 _ (by omega)
end Go.Proofs.Ytmbggdfceecojaa.Cd

/- Images of codes: short numbers. -/
set_option linter.all false
namespace Go.Proofs.Ytmbggdfceecojaa.Cd
open Go.AM Mc Ho

theorem intR_len (k : IntKind) (a : List Int) : (intR k a).length = a.length := by simp [intR]

end Go.Proofs.Ytmbggdfceecojaa.Cd

/- Images of codes: short numbers and sums, by both. -/
set_option linter.all false
namespace Go.Proofs.Ytmbggdfceecojaa.Cd
open Go.AM Mc Ho

end Go.Proofs.Ytmbggdfceecojaa.Cd

/- Images of codes: bytes compared and marked; what an image is. -/
set_option linter.all false
namespace Go.Proofs.Ytmbggdfceecojaa.Cd
open Go.AM Mc Ho

end Go.Proofs.Ytmbggdfceecojaa.Cd

/- Images of codes: what an image is; by the program. -/
set_option linter.all false
namespace Go.Proofs.Ytmbggdfceecojaa.Cd
open Go.AM Mc Ho

def strI (s : List UInt8) : List Int := s.map fun c => (c.toNat : Int)
def encI (n : Int) : List Int := enc (zig n)
def insB (x : InsD) : List Int := [wr .u8 x.op, wr .u8 (wr .i64 (wr .i64 (16 * x.a) + x.b)), wr .u8 x.c] ++ encI x.n ++ encI x.text.length ++ strI x.text
def rng (n : Int) : Prop := -9223372036854775808 ≤ n ∧ n ≤ 9223372036854775807
def rngCode (c : CodeD) : Prop := (∀ n ∈ c.starts, rng n) ∧ ∀ x ∈ c.ins, rng x.n

theorem rng_len {n : Nat} (h : n ≤ maxL) : rng n := by unfold maxL at h; unfold rng; omega
theorem encI_len {n : Int} (h : rng n) : (encI n).length ≤ 10 := enc10 h.1 h.2
theorem flat_enc_len (l : List Int) (h : ∀ n ∈ l, rng n) : (l.flatMap encI).length ≤ 10 * l.length := by
  induction l with
  | nil => simp
  | cons n l ih =>
    have h1 := encI_len (h n (by simp))
    have h2 := ih (fun m hm => h m (List.mem_cons_of_mem _ hm))
    simp only [List.flatMap_cons, List.length_append, List.length_cons]; omega
theorem insB_len (x : InsD) (h : rng x.n) (ht : x.text.length ≤ maxL) : (insB x).length ≤ 23 + x.text.length := by
  have h1 := encI_len h
  have h2 := encI_len (rng_len ht)
  simp [insB, strI]; omega
theorem flat_ins_len (l : List InsD) (h : ∀ x ∈ l, rng x.n ∧ x.text.length ≤ maxL) : (l.flatMap insB).length ≤ 23 * l.length + texts l := by
  induction l with
  | nil => simp [texts]
  | cons x l ih =>
    have h1 := insB_len x (h x (by simp)).1 (h x (by simp)).2
    have h2 := ih (fun m hm => h m (List.mem_cons_of_mem _ hm))
    simp only [List.flatMap_cons, List.length_append, List.length_cons, texts]; omega
theorem texts_take_le (l : List InsD) (i : Nat) : texts (l.take i) ≤ texts l := by
  induction l generalizing i with
  | nil => simp
  | cons x l ih =>
    cases i with
    | zero => simp [texts]
    | succ i => simp [texts]; exact ih i

/-- how much room is wanted at most -/
structure Fits (c : CodeD) : Prop where
  ok : okCode c
  sm : small c
  rg : rngCode c
theorem Fits.starts {c : CodeD} (h : Fits c) (i : Nat) : ((c.starts.take i).flatMap encI).length ≤ 10485760 := by
  have h1 := flat_enc_len (c.starts.take i) (fun n hn => h.rg.1 n (List.mem_of_mem_take hn))
  have h2 := h.sm
  unfold small at h2
  have : (c.starts.take i).length ≤ c.starts.length := by simp; omega
  omega
theorem Fits.ins {c : CodeD} (h : Fits c) (i : Nat) : ((c.ins.take i).flatMap insB).length ≤ 25165824 := by
  have h1 := flat_ins_len (c.ins.take i) (fun x hx => ⟨h.rg.2 x (List.mem_of_mem_take hx), h.ok.1.2 x (List.mem_of_mem_take hx)⟩)
  have h2 := h.sm
  unfold small at h2
  have h3 : (c.ins.take i).length ≤ c.ins.length := by simp; omega
  have h4 := texts_take_le c.ins i
  omega
theorem Fits.text {c : CodeD} (h : Fits c) {x : InsD} (hx : x ∈ c.ins) : x.text.length ≤ 1048576 := by
  have key : ∀ l : List InsD, x ∈ l → x.text.length ≤ texts l := by
    intro l
    induction l with
    | nil => intro h; cases h
    | cons y l ih =>
      intro hx
      rcases List.mem_cons.1 hx with rfl | hx
      · simp [texts]
      · have := ih hx; simp [texts]; omega
  have h1 := key _ hx
  have h2 := h.sm
  unfold small at h2
  omega

end Go.Proofs.Ytmbggdfceecojaa.Cd

/- Images of codes: by the reference. -/
set_option linter.all false
namespace Go.Proofs.Ytmbggdfceecojaa.Cd
open Go.AM Mc Ho

end Go.Proofs.Ytmbggdfceecojaa.Cd

/- PutImage: the law. -/
set_option linter.all false
namespace Go.Proofs.Ytmbggdfceecojaa.Cd
open Go.AM Mc Ho

theorem toCode_fresh (c : CodeD) (hc : okCode c) (hs : small c) {H : List AO} : ACall Try.prog 21 [.st (c.cells.map .p)] H (fun r H' => H' = H ∧ r = .st (c.cells.map .p)) := by
  refine acall_fresh (toCode0 c hc hs) ?_ ?_
  · intro b hb
    simp only [List.mem_singleton] at hb
    subst hb
    refine noid_st _ ?_
    intro a ha
    obtain ⟨q, _, rfl⟩ := List.mem_map.1 ha
    exact noid_p q
  · rintro r H' ⟨rfl, h3, h4⟩
    exact ⟨_, lent_code c (i := 3) h3 h4, rfl⟩

theorem szCode_any (c : CodeD) (hc : okCode c) {H : List AO} : ACall Try.prog 19 [.st (c.cells.map .p), .p (.i .i64 1048576)] H (fun r H' => (∃ q : Int, r = .p (.i .i64 q) ∧ (q < 0 ∨ (0 ≤ q ∧ small c))) ∧ H' = H) :=
  (acall_lend (szCode c hc) (fun r H' ⟨q, h, _⟩ => by subst h; exact grnd_i _ _) (lentAll_cons (code_lent c) (lentAll_cons (.pure _) (lentAll_nil _)))).mono fun r H' ⟨h1, _, h2⟩ => ⟨h2, h1⟩
theorem eqCode_any (c d : CodeD) (hc : okCode c) (hd : okCode d) {H : List AO} {a b : AV} (ha : Lent H a (.st (c.cells.map .p))) (hb : Lent H b (.st (d.cells.map .p))) : ACall Try.prog 24 [a, b] H (fun r H' => r = .p (.b (decide (c = d))) ∧ H' = H) :=
  (acall_lend (eqCode c d hc hd) (fun r H' h => by subst h; exact grnd_b _) (lentAll_cons ha (lentAll_cons hb (lentAll_nil _)))).mono fun r H' ⟨h1, _, h2⟩ => ⟨h2, h1⟩

end Go.Proofs.Ytmbggdfceecojaa.Cd

/- What is reached in a code: the plain law. -/
set_option linter.all false
namespace Go.Proofs.Ytmbggdfceecojaa.Cd
open Go.AM Mc Ho

def falls (op : Int) : Prop := op ≠ 12 ∧ op ≠ 13 ∧ op ≠ 14 ∧ op ≠ 15

inductive Rch (c : CodeD) : Nat → Prop
  | zero : Rch c 0
  | jump (i : Nat) (x : InsD) (h : Rch c i) (hx : c.ins[i]? = some x) (ho : x.op = 12 ∨ x.op = 11) : Rch c x.n.toNat
  | next (i : Nat) (x : InsD) (h : Rch c i) (hx : c.ins[i]? = some x) (ho : falls x.op) : Rch c (i + 1)
  | go (i : Nat) (x : InsD) (j : Nat) (y : InsD) (s : Int) (h : Rch c i) (hx : c.ins[i]? = some x) (ho : x.op = 13) (k : Rch c j) (hy : c.ins[j]? = some y) (hq : y.op = 3) (hs : c.starts[y.n.toNat]? = some s) : Rch c s.toNat

def Done (c : CodeD) (seen named : List Bool) (g : Bool) (i : Nat) : Prop := ∀ x : InsD, c.ins[i]? = some x →
  ((x.op = 12 ∨ x.op = 11) → seen[x.n.toNat]? = some true) ∧ (falls x.op → seen[i + 1]? = some true) ∧ (x.op = 13 → g = true) ∧ (x.op = 3 → named[x.n.toNat]? = some true)

/-- the state of a search; E: where what follows is not yet looked at -/
structure Inv (c : CodeD) (E : Nat → Prop) (seen named : List Bool) (todo : List Nat) (g : Bool) : Prop where
  ls : seen.length = c.ins.length
  ln : named.length = c.starts.length
  z : seen[0]? = some true
  ss : ∀ i : Nat, seen[i]? = some true → Rch c i
  sn : ∀ k : Nat, named[k]? = some true → ∃ (i : Nat) (x : InsD), Rch c i ∧ c.ins[i]? = some x ∧ x.op = 3 ∧ x.n.toNat = k
  sg : g = true → ∃ (i : Nat) (x : InsD), Rch c i ∧ c.ins[i]? = some x ∧ x.op = 13
  st : ∀ i ∈ todo, seen[i]? = some true
  cc : ∀ i : Nat, seen[i]? = some true → i ∉ todo → ¬ E i → Done c seen named g i
/-- of the blocks below n -/
def Gd (c : CodeD) (seen named : List Bool) (g : Bool) (n : Nat) : Prop := ∀ k : Nat, k < n → named[k]? = some true → g = true → ∀ s : Int, c.starts[k]? = some s → seen[s.toNat]? = some true

theorem set_true {l : List Bool} {i j : Nat} (h : l[j]? = some true) : (l.set i true)[j]? = some true := by
  have hj := (List.getElem?_eq_some_iff.1 h).1
  rw [List.getElem?_set]
  split
  · rename_i e; subst e; simp [hj]
  · exact h
theorem set_inv {l : List Bool} {i j : Nat} (h : (l.set i true)[j]? = some true) : l[j]? = some true ∨ j = i := by
  rw [List.getElem?_set] at h
  split at h
  · rename_i e; exact .inr e.symm
  · exact .inl h
theorem set_at {l : List Bool} {i : Nat} (h : i < l.length) : (l.set i true)[i]? = some true := by simp [h]

theorem Done.mono {c : CodeD} {seen named : List Bool} {g : Bool} {i j k : Nat} (h : Done c seen named g i) : Done c (seen.set j true) named g i :=
  fun x hx => ⟨fun ho => set_true ((h x hx).1 ho), fun ho => set_true ((h x hx).2.1 ho), (h x hx).2.2.1, (h x hx).2.2.2⟩

theorem Inv.mark {c : CodeD} {E : Nat → Prop} {seen named : List Bool} {todo : List Nat} {g : Bool} (h : Inv c E seen named todo g) {i : Nat} (hi : i < c.ins.length) (hr : Rch c i) (hn : seen[i]? = some false) : Inv c E (seen.set i true) named (todo ++ [i]) g where
  ls := by simp [h.ls]
  ln := h.ln
  z := set_true h.z
  ss := fun j hj => (set_inv hj).elim (h.ss j) (fun e => e ▸ hr)
  sn := h.sn
  sg := h.sg
  st := fun j hj => by
    rcases List.mem_append.1 hj with hj | hj
    · exact set_true (h.st j hj)
    · simp at hj; subst hj; exact set_at (by rw [h.ls]; exact hi)
  cc := fun j hj hm he => by
    rcases set_inv hj with hj' | rfl
    · exact Done.mono (k := 0) (h.cc j hj' (fun hm' => hm (List.mem_append.2 (.inl hm'))) he)
    · exact (hm (List.mem_append.2 (.inr (by simp)))).elim
theorem Gd.mark {c : CodeD} {seen named : List Bool} {g : Bool} {n i : Nat} (h : Gd c seen named g n) : Gd c (seen.set i true) named g n :=
  fun k hk hn hg s hs => set_true (h k hk hn hg s hs)

end Go.Proofs.Ytmbggdfceecojaa.Cd

/- What is reached in a code: lists of bools and of places, as slices that are owned. -/
set_option linter.all false
namespace Go.Proofs.Ytmbggdfceecojaa.Cd
open Go.AM Mc Ho

def boolR (bs : List Bool) : List (List AV) := bs.map fun b => [.p (.b b)]
def natI (l : List Nat) : List Int := l.map Int.ofNat
theorem set_true_same {l : List Bool} {i : Nat} (h : l[i]? = some true) : l.set i true = l := by
  obtain ⟨hlt, he⟩ := List.getElem?_eq_some_iff.1 h
  rw [← he]; exact List.set_getElem_self hlt

/-- places that are owned, or nil; behind them there may be more -/
def OwnP (H : List AO) (a : AV) (zs : List Int) (lo : Nat) : Prop :=
  (a = .p .nl ∧ zs = []) ∨ ∃ id ver rs, lo ≤ id ∧ a = .gs id ver 0 zs.length ∧ H[id]? = some (.rows 1 ver rs) ∧ rs.take zs.length = intR .i64 zs ∧ zs.length ≤ rs.length

/-- what is kept: variables and what lies below lo, but for X -/
def SK (lo : Nat) (X : Nat → Prop) (H H' : List AO) : Prop :=
  (∀ (k : Nat) cs, H[k]? = some (.var cs) → ¬ X k → H'[k]? = some (.var cs)) ∧ (∀ k, k < lo → ¬ X k → H'[k]? = H[k]?) ∧ H.length ≤ H'.length
theorem SK.refl (lo X H) : SK lo X H H := ⟨fun _ _ h _ => h, fun _ _ _ => rfl, Nat.le_refl _⟩
theorem SK.trans {lo : Nat} {X : Nat → Prop} {A B C : List AO} (h : SK lo X A B) (k : SK lo X B C) : SK lo X A C :=
  ⟨fun i cs hi hx => k.1 i cs (h.1 i cs hi hx) hx, fun i hi hx => (k.2.1 i hi hx).trans (h.2.1 i hi hx), Nat.le_trans h.2.2 k.2.2⟩
theorem SK.app {lo : Nat} {X : Nat → Prop} {A B : List AO} (hl : lo ≤ A.length) : SK lo X A (A ++ B) :=
  ⟨fun i cs hi _ => by rw [List.getElem?_append_left (List.getElem?_eq_some_iff.1 hi).1]; exact hi, fun i hi _ => List.getElem?_append_left (by omega), by simp⟩
theorem SK.set {lo : Nat} {X : Nat → Prop} {A : List AO} {i : Nat} {o : AO} (hx : X i) : SK lo X A (A.set i o) :=
  ⟨fun k cs hk hn => by rw [List.getElem?_set_ne (fun (e : i = k) => hn (e ▸ hx))]; exact hk, fun k hk hn => List.getElem?_set_ne (fun (e : i = k) => hn (e ▸ hx)), by simp⟩

theorem OwnP.keep {lo : Nat} {X : Nat → Prop} {A B : List AO} {a : AV} {zs : List Int} (h : OwnP A a zs lo) (hk : ∀ (k : Nat) sz ver rs, A[k]? = some (.rows sz ver rs) → lo ≤ k → B[k]? = some (.rows sz ver rs)) : OwnP B a zs lo := by
  rcases h with h | ⟨id, ver, rs, h1, h2, h3, h4⟩
  · exact .inl h
  · exact .inr ⟨id, ver, rs, h1, h2, hk _ _ _ _ h3 h1, h4⟩

/-- how much is left to do -/
def cnt (seen : List Bool) (todo : List Nat) : Nat := 2 * seen.count false + todo.length
theorem count_set {l : List Bool} {i : Nat} (h : l[i]? = some false) : (l.set i true).count false + 1 = l.count false := by
  induction l generalizing i with
  | nil => simp at h
  | cons b l ih =>
    cases i with
    | zero => simp at h; subst h; simp
    | succ i =>
      have := ih (i := i) (by simpa using h)
      rw [List.set_cons_succ, List.count_cons, List.count_cons]
      omega

theorem Inv.named {c : CodeD} {E : Nat → Prop} {seen named : List Bool} {todo : List Nat} {g : Bool} (h : Inv c E seen named todo g) {i : Nat} {x : InsD} (hr : Rch c i) (hx : c.ins[i]? = some x) (ho : x.op = 3) : Inv c E seen (named.set x.n.toNat true) todo g where
  ls := h.ls
  ln := by simp [h.ln]
  z := h.z
  ss := h.ss
  sn := fun k hk => (set_inv hk).elim (h.sn k) (fun e => ⟨i, x, hr, hx, ho, e.symm⟩)
  sg := h.sg
  st := h.st
  cc := fun j hj hm he y hy => ⟨(h.cc j hj hm he y hy).1, (h.cc j hj hm he y hy).2.1, (h.cc j hj hm he y hy).2.2.1, fun ho => set_true ((h.cc j hj hm he y hy).2.2.2 ho)⟩
theorem Inv.goes {c : CodeD} {E : Nat → Prop} {seen named : List Bool} {todo : List Nat} {g : Bool} (h : Inv c E seen named todo g) {i : Nat} {x : InsD} (hr : Rch c i) (hx : c.ins[i]? = some x) (ho : x.op = 13) : Inv c E seen named todo true where
  ls := h.ls
  ln := h.ln
  z := h.z
  ss := h.ss
  sn := h.sn
  sg := fun _ => ⟨i, x, hr, hx, ho⟩
  st := h.st
  cc := fun j hj hm he y hy => ⟨(h.cc j hj hm he y hy).1, (h.cc j hj hm he y hy).2.1, fun _ => rfl, (h.cc j hj hm he y hy).2.2.2⟩
theorem Inv.done {c : CodeD} {i : Nat} {seen named : List Bool} {todo : List Nat} {g : Bool} (h : Inv c (fun k => k = i) seen named todo g) (hd : Done c seen named g i) : Inv c (fun _ => False) seen named todo g where
  ls := h.ls
  ln := h.ln
  z := h.z
  ss := h.ss
  sn := h.sn
  sg := h.sg
  st := h.st
  cc := fun j hj hm _ => by
    by_cases e : j = i
    · subst e; exact hd
    · exact h.cc j hj hm e
/-- one mark: the state behind it -/
structure Marked (c : CodeD) (E : Nat → Prop) (seen named : List Bool) (todo : List Nat) (g : Bool) (i : Nat) (seen' : List Bool) (todo' : List Nat) : Prop where
  inv : Inv c E seen' named todo' g
  at' : seen'[i]? = some true
  mono : ∀ k : Nat, seen[k]? = some true → seen'[k]? = some true
  cnt : cnt seen' todo' ≤ cnt seen todo
theorem marked {c : CodeD} {E : Nat → Prop} {seen named : List Bool} {todo : List Nat} {g : Bool} (h : Inv c E seen named todo g) {i : Nat} (hi : i < c.ins.length) (hr : Rch c i) :
    Marked c E seen named todo g i (seen.set i true) (if seen[i]? = some true then todo else todo ++ [i]) := by
  have hil : i < seen.length := by rw [h.ls]; exact hi
  by_cases hs : seen[i]? = some true
  · rw [if_pos hs, set_true_same hs]
    exact ⟨h, hs, fun _ h => h, Nat.le_refl _⟩
  · rw [if_neg hs]
    have hf : seen[i]? = some false := by
      rw [List.getElem?_eq_getElem hil] at hs ⊢
      cases hb : seen[i] with
      | true => rw [hb] at hs; exact (hs rfl).elim
      | false => rfl
    refine ⟨h.mark hi hr hf, set_at hil, fun _ h => set_true h, ?_⟩
    have := count_set hf
    unfold Cd.cnt
    simp; omega
end Go.Proofs.Ytmbggdfceecojaa.Cd

/- THE SMALL CODES of functions 5 28 29 30 31 32 80 81 82 83, and their ties to the program (printed by wip/tools/mkties.sh). -/
set_option linter.all false
namespace Go.Proofs.Ytmbggdfceecojaa.Mc
open Go.AM
end Go.Proofs.Ytmbggdfceecojaa.Mc

/- What is reached in a code: by the reference: a mark, a look. -/
set_option linter.all false
namespace Go.Proofs.Ytmbggdfceecojaa.Cd
open Go.AM Mc Ho

/-- the reference's state: at j; its lists at ids, idn; its places from lo on -/
structure WS (H : List AO) (j ids vs idn vn lo : Nat) (seen named : List Bool) (todo : List Nat) (g : Bool) : Prop where
  hj : ∃ t, H[j]? = some (.var [.gs ids vs 0 seen.length, t, .gs idn vn 0 named.length, .p (.b g)]) ∧ OwnP H t (natI todo) lo
  hs : H[ids]? = some (.rows 1 vs (boolR seen))
  hn : H[idn]? = some (.rows 1 vn (boolR named))
  ne : ids ≠ idn
  l1 : ids < lo
  l2 : idn < lo
  l3 : j < lo
  l4 : lo ≤ H.length

theorem WS.ext {H : List AO} {j ids vs idn vn lo : Nat} {seen named : List Bool} {todo : List Nat} {g : Bool} (h : WS H j ids vs idn vn lo seen named todo g) (A : List AO) : WS (H ++ A) j ids vs idn vn lo seen named todo g := by
  obtain ⟨t, h1, h2⟩ := h.hj
  exact ⟨⟨t, get_ext h1 _, h2.keep (X := fun _ => False) (fun k sz ver rs hk _ => get_ext hk _)⟩, get_ext h.hs _, get_ext h.hn _, h.ne, h.l1, h.l2, h.l3, by have := h.l4; simp; omega⟩
theorem WS.jn {H : List AO} {j ids vs idn vn lo : Nat} {seen named : List Bool} {todo : List Nat} {g : Bool} (h : WS H j ids vs idn vn lo seen named todo g) : ids ≠ j ∧ idn ≠ j := by
  obtain ⟨t, h1, _⟩ := h.hj
  exact ⟨fun e => (by have := h.hs; rw [e, h1] at this; cases this), fun e => (by have := h.hn; rw [e, h1] at this; cases this)⟩

end Go.Proofs.Ytmbggdfceecojaa.Cd

/- What is reached in a code: by the reference: a look. -/
set_option linter.all false
namespace Go.Proofs.Ytmbggdfceecojaa.Cd
open Go.AM Mc Ho

theorem WS.named {H : List AO} {j ids vs idn vn lo : Nat} {seen named : List Bool} {todo : List Nat} {g : Bool} (h : WS H j ids vs idn vn lo seen named todo g) (i : Nat) : WS (H.set idn (.rows 1 vn (boolR (named.set i true)))) j ids vs idn vn lo seen (named.set i true) todo g := by
  obtain ⟨t, h1, h2⟩ := h.hj
  obtain ⟨n1, n2⟩ := h.jn
  exact ⟨⟨t, by rw [List.length_set]; exact get_set h1 n2, h2.keep (X := fun _ => False) (fun k sz ver rs hk hlo => get_set hk (by have := h.l2; omega))⟩, get_set h.hs (fun e => h.ne e.symm), set_get h.hn, h.ne, h.l1, h.l2, h.l3, by have := h.l4; simp; omega⟩

theorem Gd.mono {c : CodeD} {seen seen' named : List Bool} {g : Bool} {n : Nat} (h : Gd c seen named g n) (hm : ∀ k : Nat, seen[k]? = some true → seen'[k]? = some true) : Gd c seen' named g n :=
  fun k hk hn hg s hs => hm _ (h k hk hn hg s hs)
theorem WS.goes {H : List AO} {j ids vs idn vn lo : Nat} {seen named : List Bool} {todo : List Nat} {g : Bool} (h : WS H j ids vs idn vn lo seen named todo g) {t : AV} (h1 : H[j]? = some (.var [.gs ids vs 0 seen.length, t, .gs idn vn 0 named.length, .p (.b g)])) (g' : Bool) :
    WS (H.set j (.var [.gs ids vs 0 seen.length, t, .gs idn vn 0 named.length, .p (.b g')])) j ids vs idn vn lo seen named todo g' := by
  obtain ⟨t', h1', h2⟩ := h.hj
  rw [h1] at h1'
  cases h1'
  obtain ⟨n1, n2⟩ := h.jn
  exact ⟨⟨t, set_get h1, h2.keep (X := fun _ => False) (fun k sz ver rs hk hlo => get_set hk (by have := h.l3; omega))⟩, get_set h.hs (fun e => n1 e.symm), get_set h.hn (fun e => n2 e.symm), h.ne, h.l1, h.l2, h.l3, by have := h.l4; simp; omega⟩

end Go.Proofs.Ytmbggdfceecojaa.Cd

/- What is reached in a code: by the reference. -/
set_option linter.all false
namespace Go.Proofs.Ytmbggdfceecojaa.Cd
open Go.AM Mc Ho

end Go.Proofs.Ytmbggdfceecojaa.Cd

/- What is reached in a code: by the program: a mark, the starts. -/
set_option linter.all false
namespace Go.Proofs.Ytmbggdfceecojaa.Cd
open Go.AM Mc Ho

/-- the program's state -/
structure IS (c : CodeD) (H : List AO) (seen named : List Bool) (todo : List Nat) (g : Bool) : Prop where
  c0 : H[0]? = some (.var [.p (.l (inss c.ins)), .p (.l (ints c.starts))])
  s1 : H[1]? = some (.rows 1 0 (boolR seen))
  o2 : H[2]? = some (.var [.gs 1 0 0 seen.length])
  n3 : H[3]? = some (.rows 1 0 (boolR named))
  n4 : H[4]? = some (.var [.gs 3 0 0 named.length])
  g5 : H[5]? = some (.var [.p (.b g)])
  l6 : ∃ t, H[6]? = some (.var [t]) ∧ OwnP H t (natI todo) 8
  r7 : H[7]? = some (.var [.clo 82 [.ptr 2 0, .ptr 6 0]])
  ln : 8 ≤ H.length

theorem IS.ext {c : CodeD} {H : List AO} {seen named : List Bool} {todo : List Nat} {g : Bool} (h : IS c H seen named todo g) (A : List AO) : IS c (H ++ A) seen named todo g := by
  obtain ⟨t, h1, h2⟩ := h.l6
  exact ⟨get_ext h.c0 _, get_ext h.s1 _, get_ext h.o2 _, get_ext h.n3 _, get_ext h.n4 _, get_ext h.g5 _, ⟨t, get_ext h1 _, h2.keep (X := fun _ => False) (fun k sz ver rs hk _ => get_ext hk _)⟩, get_ext h.r7 _, by have := h.ln; simp; omega⟩

end Go.Proofs.Ytmbggdfceecojaa.Cd

/- What is reached in a code: by the program. -/
set_option linter.all false
namespace Go.Proofs.Ytmbggdfceecojaa.Cd
open Go.AM Mc Ho

theorem IS.named {c : CodeD} {H : List AO} {seen named : List Bool} {todo : List Nat} {g : Bool} (h : IS c H seen named todo g) (i : Nat) : IS c (H.set 3 (.rows 1 0 (boolR (named.set i true)))) seen (named.set i true) todo g := by
  obtain ⟨t, h1, h2⟩ := h.l6
  exact ⟨get_set h.c0 (by omega), get_set h.s1 (by omega), get_set h.o2 (by omega), set_get h.n3, by rw [List.length_set]; exact get_set h.n4 (by omega), get_set h.g5 (by omega), ⟨t, get_set h1 (by omega), h2.keep (X := fun _ => False) (fun k sz ver rs hk hlo => get_set hk (by omega))⟩, get_set h.r7 (by omega), by have := h.ln; simp; exact this⟩
theorem IS.goes {c : CodeD} {H : List AO} {seen named : List Bool} {todo : List Nat} {g : Bool} (h : IS c H seen named todo g) (g' : Bool) : IS c (H.set 5 (.var [.p (.b g')])) seen named todo g' := by
  obtain ⟨t, h1, h2⟩ := h.l6
  exact ⟨get_set h.c0 (by omega), get_set h.s1 (by omega), get_set h.o2 (by omega), get_set h.n3 (by omega), get_set h.n4 (by omega), set_get h.g5, ⟨t, get_set h1 (by omega), h2.keep (X := fun _ => False) (fun k sz ver rs hk hlo => get_set hk (by omega))⟩, get_set h.r7 (by omega), by have := h.ln; simp; exact this⟩

end Go.Proofs.Ytmbggdfceecojaa.Cd

/- Reached: the law. -/
set_option linter.all false
namespace Go.Proofs.Ytmbggdfceecojaa.Cd
open Go.AM Mc Ho

end Go.Proofs.Ytmbggdfceecojaa.Cd

/- Trim: the plain law; marks that are still held. -/
set_option linter.all false
namespace Go.Proofs.Ytmbggdfceecojaa.Cd
open Go.AM Mc Ho

/-- how many are reached ahead of a place -/
def pos (B : List Bool) : Nat → Nat
  | 0 => 0
  | i + 1 => pos B i + (if B[i]? = some true then 1 else 0)
def kept (B : List Bool) (l : List InsD) : Nat → List InsD
  | 0 => []
  | i + 1 => kept B l i ++ (match l[i]? with | some x => if B[i]? = some true then [x] else [] | none => [])
/-! a code whose slices are owned -/
def OwnCAt (H : List AO) (r : AV) (t : CodeD) (lo hi : Nat) : Prop := ∃ a b, r = .st [a, b] ∧ OwnAt H a 6 (insR t.ins) lo hi ∧ OwnAt H b 1 (intR .i64 t.starts) lo hi

theorem lent_insv (l : List InsD) {H : List AO} {id ver : Nat} (hid : H[id]? = some (.rows 6 ver (insR l))) : Lent H (.gs id ver 0 l.length) (.p (.l (inss l))) := by
  refine .gs id ver 0 _ 6 _ (inss l) hid (by simp [insR]) (inss_len l) (fun y hy => by obtain ⟨z, _, rfl⟩ := List.mem_map.1 hy; rfl) ?_
  intro i r y j c q hr hy hc hq
  rw [Nat.zero_add, insR, List.getElem?_map] at hr
  rw [inss, List.getElem?_map] at hy
  cases hz : l[i]? with
  | none => rw [hz] at hr; cases hr
  | some z =>
    rw [hz] at hr hy
    cases hr; cases hy
    rw [List.getElem?_map, hq] at hc
    cases hc
    exact .pure _
theorem insR_len (l : List InsD) : (insR l).length = l.length := by simp [insR]
theorem intR_len' (k) (l : List Int) : (intR k l).length = l.length := by simp [intR]
theorem ownI_lent {H : List AO} {a : AV} {l : List InsD} (h : OwnR H a 6 (insR l)) : Lent H a (.p (.l (inss l))) := by
  rcases h with ⟨rfl, h⟩ | ⟨id, ver, rfl, h⟩
  · have : l = [] := by simpa [insR] using h
    subst this
    exact .nl
  · rw [insR_len]
    exact lent_insv l h
theorem ownZ_lent {H : List AO} {a : AV} {l : List Int} (h : OwnR H a 1 (intR .i64 l)) : Lent H a (.p (.l (ints l))) := by
  rcases h with ⟨rfl, h⟩ | ⟨id, ver, rfl, h⟩
  · have : l = [] := by simpa [intR] using h
    subst this
    exact .nl
  · rw [intR_len']
    exact lent_k .i64 l h
end Go.Proofs.Ytmbggdfceecojaa.Cd

/- THE SMALL CODES of functions 6 33 34 35 49 84, and their ties to the program (printed by wip/tools/mkties.sh). -/
set_option linter.all false
namespace Go.Proofs.Ytmbggdfceecojaa.Mc
open Go.AM
def lv49 : List Nat := [0, 1, 4, 5, 9, 17]
def mc49 : MC :=
.seq (.reg [
    ⟨.l 4, .mv (.c (.p (.i .i64 0))), none⟩]) (
  .seq (.seq (.reg [
    ⟨.l 5, .mv (.c (.p (.i .i64 0))), none⟩]) (
  .blk 0 (
    .loop (
      .seq (.seq (.reg [
        ⟨.t 6, .mv (.l 5), none⟩,
        ⟨.t 7, .mv (.l 0), none⟩,
        ⟨.t 8, .len false (.t 7), none⟩,
        ⟨.l 9, .bin .lss (.t 6) (.t 8), none⟩]) (
      .cond (.l 9) (
        .skip) (
        .exit 0))) (
      .seq (.blk 1 (
        .seq (.seq (.reg [
          ⟨.t 12, .mv (.l 0), none⟩,
          ⟨.t 13, .mv (.l 5), none⟩,
          ⟨.t 14, .ixs 1 (.t 12) (.t 13), none⟩,
          ⟨.t 15, .ld false 1 (.t 14), none⟩,
          ⟨.t 16, .mv (.l 1), none⟩,
          ⟨.l 17, .bin .neq (.t 15) (.t 16), none⟩]) (
        .cond (.l 17) (
          .seq (.reg [
            ⟨.l 4, .mv (.c (.p (.i .i64 (-1)))), none⟩]) (
          .ret)) (
          .skip))) (
        .reg [
          ⟨.t 18, .mv (.l 1), none⟩,
          ⟨.t 19, .bin .add (.t 18) (.c (.p (.i .i64 1))), none⟩,
          ⟨.l 1, .mv (.t 19), none⟩]))) (
      .reg [
        ⟨.t 10, .mv (.l 5), none⟩,
        ⟨.t 11, .bin .add (.t 10) (.c (.p (.i .i64 1))), none⟩,
        ⟨.l 5, .mv (.t 11), none⟩])))))) (
  .seq (.reg [
    ⟨.t 20, .mv (.l 1), none⟩,
    ⟨.l 4, .mv (.t 20), none⟩]) (
  .ret)))
theorem mc49_eq : (Try.f49.body.map (compile lv49 Try.prog 21)) = some mc49 := by kernel_rfl
def mr49 : List MR := [.t 4]
theorem mr49_eq : cRess lv49 Try.prog Try.f49.results.toList = some mr49 := by kernel_rfl
theorem call49 {args : List AV} {H : List AO} {Q : AV → List AO → Prop} (hla : args.length ≤ 21) (h : wpm (ACall Try.prog) mc49 (finK mr49 Q) ⟨argEnv 0 args, [], H⟩) : ACall Try.prog 49 args H Q :=
  acall_mc (by kernel_rfl) Try.func49 mc49_eq Try.ntmps49 (by kernel_rfl) mr49_eq hla h
end Go.Proofs.Ytmbggdfceecojaa.Mc

/- Trim: marks by which a code is known, and that they are still held. -/
set_option linter.all false
namespace Go.Proofs.Ytmbggdfceecojaa.Cd
open Go.AM Mc Ho

theorem patIR_len (k n) : (patIR k n).length = n := by simp [patIR]
def patZ (k : Int) (n : Nat) : List Int := (List.range n).map fun j => k + (j : Nat)
theorem patZ_len (k n) : (patZ k n).length = n := by simp [patZ]
theorem patZ_get (k : Int) (n : Nat) {i : Nat} (h : i < n) : (intR .i64 (patZ k n))[i]? = some [.p (.i .i64 (k + i))] := by simp [intR, patZ, h]
theorem heldIntS {H : List AO} {id ver : Nat} (n : Nat) (k : Int) (hid : H[id]? = some (.rows 1 ver (intR .i64 (patZ k n)))) (hn : n ≤ 100000000) (hk0 : 0 ≤ k) (hk : k ≤ 100000000) :
    ACall Try.prog 49 [.gs id ver 0 n, .p (.i .i64 k)] H (fun r H' => r = .p (.i .i64 (k + n)) ∧ H' = H) := by
  have hm : n ≤ maxL := by unfold maxL; omega
  refine call49 (by simp) ?_
  simp only [go_sem, Nat.reduceEqDiff, reduceIte, ↓reduceIte, Nat.reduceAdd, mc49, mr49]
  refine ⟨Nat, [0, 1, 4, 5], fun i st => i ≤ n ∧ st = ⟨[(0, .gs id ver 0 n), (1, .p (.i .i64 (k + i))), (4, .p (.i .i64 0)), (5, .p (.i .i64 i))], [], H⟩, fun i => n - i, ⟨0, ?_⟩, ?_⟩
  · simp only [go_sem, Nat.reduceEqDiff, reduceIte, ↓reduceIte, Nat.reduceAdd]
    exact ⟨Nat.zero_le _, by simp⟩
  · rintro i st ⟨hi, rfl⟩
    simp only [go_sem, Nat.reduceEqDiff, reduceIte, ↓reduceIte, Nat.reduceAdd]
    intro _
    refine condK_split _ (fun hc => ?_) (fun hc => ?_)
    · have hil : i < n := by simpa using hc
      have hci : (i : Int) < (n : Int) := by omega
      simp only [go_sem, Nat.reduceEqDiff, reduceIte, ↓reduceIte, Nat.reduceAdd, Z0, Z1, Z2, Z3, Z4, Z5, Nat.reduceLT, Z6, Z7, Int.reduceEq, Z8, Z9, Nat.reduceLeDiff, Za, Zb, Zc, Zd, Ze, Zf, bytesOf, Zg, Zh, Zi, Zj, Zk, Zl, Int.reduceLT, Int.reduceLE, Zm, Int.reduceToNat, Zn, Zo, Zp, Int.reduceAdd, Zq, Zr, hid, patZ_get k n hil, hci]
      refine ⟨i + 1, ⟨hil, ?_⟩, by omega⟩
      rw [wr1 hil hm, wr64 (by omega) (by omega)]
      simp only [Int.natCast_add, Int.natCast_one, Int.add_assoc]
    · have hil : i = n := by simp at hc; omega
      simp only [go_sem, Nat.reduceEqDiff, reduceIte, ↓reduceIte, Nat.reduceAdd]
      subst hil
      rfl

/-! the same, of slices that are owned -/
/-- what a call keeps that writes into one slice -/
def KeptO (a : AV) (H H' : List AO) : Prop := H'.length = H.length ∧ ∀ (j : Nat) o, H[j]? = some o → (∀ ver off n, a ≠ .gs j ver off n) → H'[j]? = some o
theorem KeptO.refl (a : AV) (H : List AO) : KeptO a H H := ⟨rfl, fun j o h _ => h⟩
theorem KeptO.at {a : AV} {H H' : List AO} (h : KeptO a H H') {sz : Nat} {rs : List (List AV)} (ha : OwnR H a sz rs) {j : Nat} {o : AO} (hj : H[j]? = some o) (hne : ∀ ver rs', o ≠ .rows sz ver rs') : H'[j]? = some o := by
  refine h.2 j o hj fun ver off n e => ?_
  rcases ha with ⟨rfl, _⟩ | ⟨id, v, rfl, h2⟩
  · cases e
  · cases e
    rw [hj] at h2; cases h2
    exact hne _ _ rfl
theorem KeptO.out {a : AV} {H H' : List AO} (h : KeptO a H H') {sz : Nat} {rs : List (List AV)} {lo hi : Nat} (ha : OwnAt H a sz rs lo hi) {j : Nat} {o : AO} (hj : H[j]? = some o) (hlt : j < lo ∨ hi ≤ j) : H'[j]? = some o := by
  refine h.2 j o hj fun ver off n e => ?_
  rcases ha with ⟨rfl, _⟩ | ⟨id, v, h0, h1, rfl, h2⟩
  · cases e
  · cases e; omega
theorem KeptO.own {a : AV} {H H' : List AO} (h : KeptO a H H') {sz sz' : Nat} {rs rs' : List (List AV)} {lo hi lo' hi' : Nat} (ha : OwnAt H a sz rs lo hi) {b : AV} (hb : OwnAt H b sz' rs' lo' hi') (hne : sz ≠ sz') : OwnAt H' b sz' rs' lo' hi' := by
  rcases hb with hb | ⟨id, v, h0, h1, e, h2⟩
  · exact .inl hb
  · exact .inr ⟨id, v, h0, h1, e, h.at ha.own h2 (fun ver rs' e => by cases e; exact hne rfl)⟩

theorem markInstrS_own {H : List AO} {a : AV} {rs : List (List AV)} {lo hi : Nat} (h : OwnAt H a 6 rs lo hi) (h6 : ∀ r ∈ rs, r.length = 6) (hn : rs.length ≤ 1048576) (k : Int) (hk0 : 0 ≤ k) (hk : k ≤ 100000000) :
    ACall Try.prog 79 [a, .p (.i .i64 k)] H (fun r H' => r = .p (.i .i64 (k + 6 * rs.length)) ∧ OwnAt H' a 6 (patIR k rs.length) lo hi ∧ KeptO a H H') := by
  rcases h with ⟨rfl, rfl⟩ | ⟨id, ver, h0, h1, rfl, h3⟩
  · refine call79 (by simp) ?_
    simp only [go_sem, Nat.reduceEqDiff, reduceIte, ↓reduceIte, Nat.reduceAdd, Z0, Z1, Z2, Z3, Z4, Z5, Nat.reduceLT, Z6, Z7, Int.reduceEq, Z8, Z9, Nat.reduceLeDiff, Za, Zb, Zc, Zd, Ze, Zf, bytesOf, Zg, Zh, Zi, Zj, Zk, Zl, Int.reduceLT, Int.reduceLE, Zm, Int.reduceToNat, Zn, Zo, Zp, Int.reduceAdd, Zq, Zr, mc79, mr79]
    refine ⟨Unit, [0, 1, 4, 5], fun _ st => st = ⟨[(0, .p .nl), (1, .p (.i .i64 k)), (4, .p (.i .i64 0)), (5, .p (.i .i64 0))], [], H⟩, fun _ => 0, ⟨(), ?_⟩, ?_⟩
    · simp only [go_sem, Nat.reduceEqDiff, reduceIte, ↓reduceIte, Nat.reduceAdd, Z0, Z1, Z2, Z3, Z4, Z5, Nat.reduceLT, Z6, Z7, Int.reduceEq, Z8, Z9, Nat.reduceLeDiff, Za, Zb, Zc, Zd, Ze, Zf, bytesOf, Zg, Zh, Zi, Zj, Zk, Zl, Int.reduceLT, Int.reduceLE, Zm, Int.reduceToNat, Zn, Zo, Zp, Int.reduceAdd, Zq, Zr]
    · rintro _ st rfl
      simp only [go_sem, Nat.reduceEqDiff, reduceIte, ↓reduceIte, Nat.reduceAdd, Z0, Z1, Z2, Z3, Z4, Z5, Nat.reduceLT, Z6, Z7, Int.reduceEq, Z8, Z9, Nat.reduceLeDiff, Za, Zb, Zc, Zd, Ze, Zf, bytesOf, Zg, Zh, Zi, Zj, Zk, Zl, Int.reduceLT, Int.reduceLE, Zm, Int.reduceToNat, Zn, Zo, Zp, Int.reduceAdd, Zq, Zr, Int.reduceLT, decide_false]
      exact ⟨by simp, .inl ⟨rfl, rfl⟩, KeptO.refl _ _⟩
  · refine (markInstrS rs h3 h6 hn k hk0 hk).mono ?_
    rintro r H' ⟨rfl, rfl⟩
    refine ⟨rfl, .inr ⟨id, ver, h0, h1, by rw [patIR_len], set_get h3⟩, by simp, fun j o h hj => ?_⟩
    rw [List.getElem?_set_ne (by rintro rfl; exact hj _ _ _ rfl)]; exact h
theorem markIntS_own {H : List AO} {a : AV} {rs : List (List AV)} {lo hi : Nat} (h : OwnAt H a 1 rs lo hi) (h6 : ∀ r ∈ rs, r.length = 1) (hn : rs.length ≤ 100000000) (k : Int) (hk0 : 0 ≤ k) (hk : k ≤ 100000000) :
    ACall Try.prog 48 [a, .p (.i .i64 k)] H (fun r H' => r = .p (.i .i64 (k + rs.length)) ∧ OwnAt H' a 1 (intR .i64 (patZ k rs.length)) lo hi ∧ KeptO a H H') := by
  rcases h with ⟨rfl, rfl⟩ | ⟨id, ver, h0, h1, rfl, h3⟩
  · refine call48 (by simp) ?_
    simp only [go_sem, Nat.reduceEqDiff, reduceIte, ↓reduceIte, Nat.reduceAdd, Z0, Z1, Z2, Z3, Z4, Z5, Nat.reduceLT, Z6, Z7, Int.reduceEq, Z8, Z9, Nat.reduceLeDiff, Za, Zb, Zc, Zd, Ze, Zf, bytesOf, Zg, Zh, Zi, Zj, Zk, Zl, Int.reduceLT, Int.reduceLE, Zm, Int.reduceToNat, Zn, Zo, Zp, Int.reduceAdd, Zq, Zr, mc48, mr48]
    refine ⟨Unit, [0, 1, 4, 5], fun _ st => st = ⟨[(0, .p .nl), (1, .p (.i .i64 k)), (4, .p (.i .i64 0)), (5, .p (.i .i64 0))], [], H⟩, fun _ => 0, ⟨(), ?_⟩, ?_⟩
    · simp only [go_sem, Nat.reduceEqDiff, reduceIte, ↓reduceIte, Nat.reduceAdd, Z0, Z1, Z2, Z3, Z4, Z5, Nat.reduceLT, Z6, Z7, Int.reduceEq, Z8, Z9, Nat.reduceLeDiff, Za, Zb, Zc, Zd, Ze, Zf, bytesOf, Zg, Zh, Zi, Zj, Zk, Zl, Int.reduceLT, Int.reduceLE, Zm, Int.reduceToNat, Zn, Zo, Zp, Int.reduceAdd, Zq, Zr]
    · rintro _ st rfl
      simp only [go_sem, Nat.reduceEqDiff, reduceIte, ↓reduceIte, Nat.reduceAdd, Z0, Z1, Z2, Z3, Z4, Z5, Nat.reduceLT, Z6, Z7, Int.reduceEq, Z8, Z9, Nat.reduceLeDiff, Za, Zb, Zc, Zd, Ze, Zf, bytesOf, Zg, Zh, Zi, Zj, Zk, Zl, Int.reduceLT, Int.reduceLE, Zm, Int.reduceToNat, Zn, Zo, Zp, Int.reduceAdd, Zq, Zr, Int.reduceLT, decide_false]
      exact ⟨by simp, .inl ⟨rfl, rfl⟩, KeptO.refl _ _⟩
  · refine (markIntS rs h3 h6 hn k hk0 hk).mono ?_
    rintro r H' ⟨rfl, rfl⟩
    refine ⟨rfl, .inr ⟨id, ver, h0, h1, by rw [intR_len', patZ_len], set_get h3⟩, by simp, fun j o h hj => ?_⟩
    rw [List.getElem?_set_ne (by rintro rfl; exact hj _ _ _ rfl)]; exact h
theorem heldIntS_own {H : List AO} {a : AV} {n : Nat} {lo hi : Nat} (k : Int) (h : OwnAt H a 1 (intR .i64 (patZ k n)) lo hi) (hn : n ≤ 100000000) (hk0 : 0 ≤ k) (hk : k ≤ 100000000) :
    ACall Try.prog 49 [a, .p (.i .i64 k)] H (fun r H' => r = .p (.i .i64 (k + n)) ∧ H' = H) := by
  rcases h with ⟨rfl, he⟩ | ⟨id, ver, h0, h1, rfl, h3⟩
  · have hz : n = 0 := by
      have : (intR .i64 (patZ k n)).length = 0 := by rw [he]; rfl
      rw [intR_len', patZ_len] at this; exact this
    subst hz
    refine call49 (by simp) ?_
    simp only [go_sem, Nat.reduceEqDiff, reduceIte, ↓reduceIte, Nat.reduceAdd, Z0, Z1, Z2, Z3, Z4, Z5, Nat.reduceLT, Z6, Z7, Int.reduceEq, Z8, Z9, Nat.reduceLeDiff, Za, Zb, Zc, Zd, Ze, Zf, bytesOf, Zg, Zh, Zi, Zj, Zk, Zl, Int.reduceLT, Int.reduceLE, Zm, Int.reduceToNat, Zn, Zo, Zp, Int.reduceAdd, Zq, Zr, mc49, mr49]
    refine ⟨Unit, [0, 1, 4, 5], fun _ st => st = ⟨[(0, .p .nl), (1, .p (.i .i64 k)), (4, .p (.i .i64 0)), (5, .p (.i .i64 0))], [], H⟩, fun _ => 0, ⟨(), ?_⟩, ?_⟩
    · simp only [go_sem, Nat.reduceEqDiff, reduceIte, ↓reduceIte, Nat.reduceAdd, Z0, Z1, Z2, Z3, Z4, Z5, Nat.reduceLT, Z6, Z7, Int.reduceEq, Z8, Z9, Nat.reduceLeDiff, Za, Zb, Zc, Zd, Ze, Zf, bytesOf, Zg, Zh, Zi, Zj, Zk, Zl, Int.reduceLT, Int.reduceLE, Zm, Int.reduceToNat, Zn, Zo, Zp, Int.reduceAdd, Zq, Zr]
    · rintro _ st rfl
      simp only [go_sem, Nat.reduceEqDiff, reduceIte, ↓reduceIte, Nat.reduceAdd, Z0, Z1, Z2, Z3, Z4, Z5, Nat.reduceLT, Z6, Z7, Int.reduceEq, Z8, Z9, Nat.reduceLeDiff, Za, Zb, Zc, Zd, Ze, Zf, bytesOf, Zg, Zh, Zi, Zj, Zk, Zl, Int.reduceLT, Int.reduceLE, Zm, Int.reduceToNat, Zn, Zo, Zp, Int.reduceAdd, Zq, Zr, Int.reduceLT, decide_false]
      simp
  · rw [intR_len', patZ_len]
    exact heldIntS n k h3 hn hk0 hk

/-- a code that is marked -/
def PatAt (H : List AO) (r : AV) (m n : Nat) (lo hi : Nat) : Prop := ∃ a b, r = .st [a, b] ∧ OwnAt H a 6 (patIR 1 m) lo hi ∧ OwnAt H b 1 (intR .i64 (patZ (1 + 6 * m) n)) lo hi

theorem markCodeO {t : CodeD} (hs : small t) {H : List AO} {r : AV} {lo hi : Nat} (hh : hi ≤ H.length) (h : OwnCAt H r t lo hi) :
    ACall Try.prog 25 [r, .p (.i .i64 1)] H (fun q H' => q = .p (.i .i64 (1 + 6 * t.ins.length + t.starts.length)) ∧ PatAt H' r t.ins.length t.starts.length lo hi ∧ H.length ≤ H'.length ∧ ∀ (j : Nat) o, H[j]? = some o → j < lo ∨ hi ≤ j → H'[j]? = some o) := by
  unfold small at hs
  obtain ⟨a, b, rfl, ha, hb⟩ := h
  refine call25 (by simp) ?_
  simp only [go_sem, Nat.reduceEqDiff, reduceIte, ↓reduceIte, Nat.reduceAdd, Z0, Z1, Z2, Z3, Z4, Z5, Nat.reduceLT, Z6, Z7, Int.reduceEq, Z8, Z9, Nat.reduceLeDiff, Za, Zb, Zc, Zd, Ze, Zf, bytesOf, Zg, Zh, Zi, Zj, Zk, Zl, Int.reduceLT, Int.reduceLE, Zm, Int.reduceToNat, Zn, Zo, Zp, Int.reduceAdd, Zq, Zr, mc25, mr25]
  have ha1 := ha.ext [AO.var [a, b]]
  have hb1 := hb.ext [AO.var [a, b]]
  have hv1 : (H ++ [AO.var [a, b]])[H.length]? = some (.var [a, b]) := get_off0 _ _
  have hk1 : ∀ (j : Nat) o, H[j]? = some o → (H ++ [AO.var [a, b]])[j]? = some o := fun j o h => get_ext h _
  have hl1 : (H ++ [AO.var [a, b]]).length = H.length + 1 := by simp
  generalize H ++ [AO.var [a, b]] = H1 at ha1 hb1 hv1 hk1 hl1 ⊢
  refine (markInstrS_own ha1 (insR_len6 _) (by rw [insR_len]; omega) 1 (by omega) (by omega)).mono ?_
  rintro r H2 ⟨rfl, ha2, hk2⟩
  have hv2 := hk2.at ha1.own hv1 (fun _ _ e => by cases e)
  have hb2 := hk2.own ha1 hb1 (by omega)
  rw [insR_len] at ha2 ⊢
  simp only [go_sem, Nat.reduceEqDiff, reduceIte, ↓reduceIte, Nat.reduceAdd, Z0, Z1, Z2, Z3, Z4, Z5, Nat.reduceLT, Z6, Z7, Int.reduceEq, Z8, Z9, Nat.reduceLeDiff, Za, Zb, Zc, Zd, Ze, Zf, bytesOf, Zg, Zh, Zi, Zj, Zk, Zl, Int.reduceLT, Int.reduceLE, Zm, Int.reduceToNat, Zn, Zo, Zp, Int.reduceAdd, Zq, Zr, hv2]
  refine (markIntS_own hb2 (intR_len1 _ _) (by rw [intR_len']; omega) (1 + 6 * (t.ins.length : Int)) (by omega) (by omega)).mono ?_
  rintro r H3 ⟨rfl, hb3, hk3⟩
  have ha3 := hk3.own hb2 ha2 (by omega)
  rw [intR_len'] at hb3 ⊢
  simp only [go_sem, Nat.reduceEqDiff, reduceIte, ↓reduceIte, Nat.reduceAdd, Z0, Z1, Z2, Z3, Z4, Z5, Nat.reduceLT, Z6, Z7, Int.reduceEq, Z8, Z9, Nat.reduceLeDiff, Za, Zb, Zc, Zd, Ze, Zf, bytesOf, Zg, Zh, Zi, Zj, Zk, Zl, Int.reduceLT, Int.reduceLE, Zm, Int.reduceToNat, Zn, Zo, Zp, Int.reduceAdd, Zq, Zr]
  refine ⟨⟨a, b, rfl, ha3, hb3⟩, by rw [hk3.1, hk2.1, hl1]; omega, fun j o hj hlt => ?_⟩
  exact hk3.out hb2 (hk2.out ha1 (hk1 j o hj) hlt) hlt

end Go.Proofs.Ytmbggdfceecojaa.Cd

/- Profile, of both. -/
set_option linter.all false
namespace Go.Proofs.Ytmbggdfceecojaa.Cd
open Go.AM Mc Ho

theorem intR_getD (l : List Int) {i : Nat} (h : i < l.length) : (intR .i64 l)[i]? = some [.p (.i .i64 (l.getD i 0))] := by
  rw [intR, List.getElem?_map, List.getElem?_eq_getElem h, List.getD_eq_getElem?_getD, List.getElem?_eq_getElem h]; rfl
theorem intR_set (l : List Int) (i : Nat) (v : Int) : (intR .i64 l).set i [.p (.i .i64 v)] = intR .i64 (l.set i v) := by
  rw [intR, intR, List.map_set]

end Go.Proofs.Ytmbggdfceecojaa.Cd

/- Trace, of both. -/
set_option linter.all false
namespace Go.Proofs.Ytmbggdfceecojaa.Cd
open Go.AM Mc Ho

end Go.Proofs.Ytmbggdfceecojaa.Cd

/- Step1: the law. -/
set_option linter.all false
namespace Go.Proofs.Ytmbggdfceecojaa.Cd
open Go.AM Mc Ho

theorem eqIntS_any (xs ys : List Int) (hx : xs.length ≤ maxL) (hy : ys.length ≤ maxL) {H : List AO} {a b : AV} (ha : Lent H a (.p (.l (ints xs)))) (hb : Lent H b (.p (.l (ints ys)))) :
    ACall Try.prog 18 [a, b] H (pureQ (.p (.b (decide (xs = ys)))) H) :=
  (acall_lend (eqIntS xs ys hx hy) (fun r H' h => by subst h; exact grnd_b _) (lentAll_cons ha (lentAll_cons hb (lentAll_nil _)))).mono fun r H' ⟨h1, _, h2⟩ => ⟨h2, h1⟩
theorem toCode' (c : CodeD) (hc : okCode c) (hs : small c) (H : List AO) : ACall Try.prog 21 [.st (c.cells.map .p)] H (pureQ (.st [.gs H.length 0 0 c.ins.length, .gs (H.length + 1) 0 0 c.starts.length]) (H ++ [.rows 6 0 (insR c.ins), .rows 1 0 (intR .i64 c.starts)])) := toCode c hc hs H
theorem lent_code' (c : CodeD) {H : List AO} {i j : Nat} (h0 : H[i]? = some (.rows 6 0 (insR c.ins))) (h1 : H[j]? = some (.rows 1 0 (intR .i64 c.starts))) (e : j = i + 1) : Lent H (.st [.gs i 0 0 c.ins.length, .gs j 0 0 c.starts.length]) (.st (c.cells.map .p)) := by subst e; exact lent_code c h0 h1

end Go.Proofs.Ytmbggdfceecojaa.Cd

/- Trim: by the reference. -/
set_option linter.all false
namespace Go.Proofs.Ytmbggdfceecojaa.Cd
open Go.AM Mc Ho

def posL (B : List Bool) (i : Nat) : List Int := (List.range i).map fun j => ((pos B j : Nat) : Int)
/-- what stands while the new code is made -/
structure TB (c : CodeD) (B : List Bool) (sid sver tid tver P : Nat) (H : List AO) : Prop where
  v0 : H[0]? = some (.var [.p (.l (inss c.ins)), .p (.l (ints c.starts))])
  v1 : H[1]? = some (.var [.p .nl, .p .nl])
  sn : H[sid]? = some (.rows 1 sver (boolR B))
  to : H[tid]? = some (.rows 1 tver (intR .i64 (posL B c.ins.length)))
  l1 : 1 < P
  ls : sid < P
  lt : tid < P
  le : P < H.length
theorem TB.sk {c B sid sver tid tver P} {H H' : List AO} (h : TB c B sid sver tid tver P H) (k : SK P (fun _ => False) H H') : TB c B sid sver tid tver P H' where
  v0 := k.1 _ _ h.v0 (fun f => f)
  v1 := k.1 _ _ h.v1 (fun f => f)
  sn := by rw [k.2.1 _ h.ls (fun f => f)]; exact h.sn
  to := by rw [k.2.1 _ h.lt (fun f => f)]; exact h.to
  l1 := h.l1
  ls := h.ls
  lt := h.lt
  le := Nat.lt_of_lt_of_le h.le k.2.2
theorem TB.ext {c B sid sver tid tver P} {H : List AO} (h : TB c B sid sver tid tver P H) (A : List AO) : TB c B sid sver tid tver P (H ++ A) := h.sk (SK.app (Nat.le_of_lt h.le))
theorem TB.set {c B sid sver tid tver P} {H : List AO} (h : TB c B sid sver tid tver P H) {j : Nat} (o : AO) (hj : P ≤ j) : TB c B sid sver tid tver P (H.set j o) where
  v0 := get_set h.v0 (by have := h.l1; omega)
  v1 := get_set h.v1 (by have := h.l1; omega)
  sn := get_set h.sn (by have := h.ls; omega)
  to := get_set h.to (by have := h.lt; omega)
  l1 := h.l1
  ls := h.ls
  lt := h.lt
  le := by simpa using h.le
theorem _root_.Go.AM.OwnAt.put {H : List AO} {a : AV} {sz : Nat} {rs : List (List AV)} {lo hi j : Nat} {cs : List AV} (h : OwnAt H a sz rs lo hi) (hj : H[j]? = some (.var cs)) (o : AO) : OwnAt (H.set j o) a sz rs lo hi := by
  rcases h with h | ⟨id, ver, h0, h1, h2, h3⟩
  · exact .inl h
  · exact .inr ⟨id, ver, h0, h1, h2, get_set h3 (by rintro rfl; rw [hj] at h3; cases h3)⟩
end Go.Proofs.Ytmbggdfceecojaa.Cd

/- Trim: by the program. -/
set_option linter.all false
namespace Go.Proofs.Ytmbggdfceecojaa.Cd
open Go.AM Mc Ho

/-- what stands while the new code is made -/
structure TI (c : CodeD) (B : List Bool) (sid sver tid P : Nat) (pl : List (List AV)) (H : List AO) : Prop where
  v0 : H[0]? = some (.var [.p (.l (inss c.ins)), .p (.l (ints c.starts))])
  v1 : H[1]? = some (.var [.p .nl, .p .nl])
  sn : H[sid]? = some (.rows 1 sver (boolR B))
  to : H[tid]? = some (.rows 1 0 pl)
  l1 : 1 < P
  ls : sid < tid
  lt : tid < P
  le : P < H.length
theorem TI.sk {c B sid sver tid P pl} {H H' : List AO} (h : TI c B sid sver tid P pl H) (k : SK P (fun _ => False) H H') : TI c B sid sver tid P pl H' where
  v0 := k.1 _ _ h.v0 (fun f => f)
  v1 := k.1 _ _ h.v1 (fun f => f)
  sn := by rw [k.2.1 _ (Nat.lt_trans h.ls h.lt) (fun f => f)]; exact h.sn
  to := by rw [k.2.1 _ h.lt (fun f => f)]; exact h.to
  l1 := h.l1
  ls := h.ls
  lt := h.lt
  le := Nat.lt_of_lt_of_le h.le k.2.2
theorem TI.ext {c B sid sver tid P pl} {H : List AO} (h : TI c B sid sver tid P pl H) (A : List AO) : TI c B sid sver tid P pl (H ++ A) := h.sk (SK.app (Nat.le_of_lt h.le))
theorem TI.set {c B sid sver tid P pl} {H : List AO} (h : TI c B sid sver tid P pl H) {j : Nat} (o : AO) (hj : P ≤ j) : TI c B sid sver tid P pl (H.set j o) where
  v0 := get_set h.v0 (by have := h.l1; omega)
  v1 := get_set h.v1 (by have := h.l1; omega)
  sn := get_set h.sn (by have := h.ls; have := h.lt; omega)
  to := get_set h.to (by have := h.lt; omega)
  l1 := h.l1
  ls := h.ls
  lt := h.lt
  le := by simpa using h.le
theorem TI.put {c B sid sver tid P pl} {H : List AO} (h : TI c B sid sver tid P pl H) (pl' : List (List AV)) (ht : 1 < tid) : TI c B sid sver tid P pl' (H.set tid (.rows 1 0 pl')) where
  v0 := get_set h.v0 (by omega)
  v1 := get_set h.v1 (by omega)
  sn := get_set h.sn (by have := h.ls; omega)
  to := set_get h.to
  l1 := h.l1
  ls := h.ls
  lt := h.lt
  le := by simpa using h.le
end Go.Proofs.Ytmbggdfceecojaa.Cd

/- Trim: the law. -/
set_option linter.all false
namespace Go.Proofs.Ytmbggdfceecojaa.Cd
open Go.AM Mc Ho

theorem OwnCAt.keep {H H' : List AO} {r : AV} {t : CodeD} {lo hi : Nat} (h : OwnCAt H r t lo hi) (k : ∀ (j : Nat) o, H[j]? = some o → lo ≤ j → j < hi → H'[j]? = some o) : OwnCAt H' r t lo hi := by
  obtain ⟨a, b, rfl, ha, hb⟩ := h
  refine ⟨a, b, rfl, ?_, ?_⟩
  · rcases ha with h | ⟨id, ver, h0, h1, h2, h3⟩
    · exact .inl h
    · exact .inr ⟨id, ver, h0, h1, h2, k _ _ h3 h0 h1⟩
  · rcases hb with h | ⟨id, ver, h0, h1, h2, h3⟩
    · exact .inl h
    · exact .inr ⟨id, ver, h0, h1, h2, k _ _ h3 h0 h1⟩
theorem OwnCAt.ext {H : List AO} {r : AV} {t : CodeD} {lo hi : Nat} (h : OwnCAt H r t lo hi) (A : List AO) : OwnCAt (H ++ A) r t lo hi := h.keep fun j o hj _ _ => get_ext hj A
theorem PatAt.ext {H : List AO} {r : AV} {m n : Nat} {lo hi : Nat} (h : PatAt H r m n lo hi) (A : List AO) : PatAt (H ++ A) r m n lo hi := by
  obtain ⟨a, b, rfl, ha, hb⟩ := h
  exact ⟨a, b, rfl, ha.ext A, hb.ext A⟩
theorem OwnCAt.lent {H : List AO} {r : AV} {t : CodeD} {lo hi : Nat} (h : OwnCAt H r t lo hi) : Lent H r (.st (t.cells.map .p)) := by
  obtain ⟨a, b, rfl, ha, hb⟩ := h
  refine .st _ _ rfl fun j x y hx hy => ?_
  match j with
  | 0 => cases hx; cases hy; exact ownI_lent ha.own
  | 1 => cases hx; cases hy; exact ownZ_lent hb.own
  | j + 2 => simp [CodeD.cells] at hy

/-- what the law keeps: the argument, the reference's answer -/
structure LS (c t : CodeD) (wa wb : AV) (iw : Nat) (H : List AO) : Prop where
  v : H[0]? = some (.var (c.cells.map .p))
  wv : H[iw]? = some (.var [wa, wb])
  w : OwnCAt H (.st [wa, wb]) t 1 iw
theorem LS.keep {c t : CodeD} {wa wb : AV} {iw : Nat} {H H' : List AO} (h : LS c t wa wb iw H) (k : ∀ (j : Nat) o, H[j]? = some o → j ≤ iw → H'[j]? = some o) : LS c t wa wb iw H' :=
  ⟨k _ _ h.v (Nat.zero_le _), k _ _ h.wv (Nat.le_refl _), h.w.keep fun j o hj _ h1 => k j o hj (Nat.le_of_lt h1)⟩
theorem LS.ext {c t : CodeD} {wa wb : AV} {iw : Nat} {H : List AO} (h : LS c t wa wb iw H) (A : List AO) : LS c t wa wb iw (H ++ A) := h.keep fun j o hj _ => get_ext hj A

end Go.Proofs.Ytmbggdfceecojaa.Cd

/- Profile: the law. -/
set_option linter.all false
namespace Go.Proofs.Ytmbggdfceecojaa.Cd
open Go.AM Mc Ho

theorem own_kp {H H' : List AO} {a : AV} {sz : Nat} {rs : List (List AV)} {lo hi : Nat} (h : OwnAt H a sz rs lo hi) (k : ∀ (j : Nat) o, H[j]? = some o → lo ≤ j → j < hi → H'[j]? = some o) : OwnAt H' a sz rs lo hi := by
  rcases h with h | ⟨id, ver, h0, h1, h2, h3⟩
  · exact .inl h
  · exact .inr ⟨id, ver, h0, h1, h2, k _ _ h3 h0 h1⟩
theorem own_lo {H : List AO} {a : AV} {sz : Nat} {rs : List (List AV)} {lo lo' hi : Nat} (h : OwnAt H a sz rs lo hi) (hl : lo' ≤ lo) : OwnAt H a sz rs lo' hi := by
  rcases h with h | ⟨id, ver, h0, h1, h2, h3⟩
  · exact .inl h
  · exact .inr ⟨id, ver, by omega, h1, h2, h3⟩
theorem codeC_at {c : CodeD} {H : List AO} {i j lo hi : Nat} (h0 : H[i]? = some (.rows 6 0 (insR c.ins))) (h1 : H[j]? = some (.rows 1 0 (intR .i64 c.starts))) (e0 : lo ≤ i) (e1 : lo ≤ j) (e2 : i < hi) (e3 : j < hi) :
    OwnCAt H (.st [.gs i 0 0 c.ins.length, .gs j 0 0 c.starts.length]) c lo hi :=
  ⟨_, _, rfl, .inr ⟨i, 0, e0, e2, by simp [insR], h0⟩, .inr ⟨j, 0, e1, e3, by rw [intR_len], h1⟩⟩

end Go.Proofs.Ytmbggdfceecojaa.Cd

/- Next, by the reference. -/
set_option linter.all false
namespace Go.Proofs.Ytmbggdfceecojaa.Cd
open Go.AM Mc Ho

theorem has0 (zs : List Int) (hz : zs.length ≤ maxL) (x : Int) : ACall Try.prog 159 [.p (.l (ints zs)), .p (.i .i64 x)] [] (fun r H => r = .p (.b (decide (x ∈ zs)))) := by
  refine call159 (by simp) ?_
  simp only [go_sem, Nat.reduceEqDiff, reduceIte, ↓reduceIte, Nat.reduceAdd, Z0, Z1, Z2, Z3, Z4, Z5, Nat.reduceLT, Z6, Z7, Int.reduceEq, Z8, Z9, Nat.reduceLeDiff, Za, Zb, Zc, Zd, Ze, Zf, bytesOf, Zg, Zh, Zi, Zj, Zk, Zl, Int.reduceLT, Int.reduceLE, Zm, Int.reduceToNat, Zn, Zo, Zp, Int.reduceAdd, Zq, Zr, mc159, mr159]
  refine ⟨Nat, [0, 1, 4, 5], fun i st => i ≤ zs.length ∧ (∀ j, j < i → j < zs.length → zs.getD j 0 ≠ x) ∧ st = ⟨[(0, .p (.l (ints zs))), (1, .p (.i .i64 x)), (4, .p (.b false)), (5, .p (.i .i64 i))], [], []⟩, fun i => zs.length - i, ⟨0, ?_⟩, ?_⟩
  · simp only [go_sem, Nat.reduceEqDiff, reduceIte, ↓reduceIte, Nat.reduceAdd, Z0, Z1, Z2, Z3, Z4, Z5, Nat.reduceLT, Z6, Z7, Int.reduceEq, Z8, Z9, Nat.reduceLeDiff, Za, Zb, Zc, Zd, Ze, Zf, bytesOf, Zg, Zh, Zi, Zj, Zk, Zl, Int.reduceLT, Int.reduceLE, Zm, Int.reduceToNat, Zn, Zo, Zp, Int.reduceAdd, Zq, Zr]
    exact ⟨Nat.zero_le _, fun j hj => by omega⟩
  · rintro i st ⟨hi, hn, rfl⟩
    simp only [go_sem, Nat.reduceEqDiff, reduceIte, ↓reduceIte, Nat.reduceAdd, Z0, Z1, Z2, Z3, Z4, Z5, Nat.reduceLT, Z6, Z7, Int.reduceEq, Z8, Z9, Nat.reduceLeDiff, Za, Zb, Zc, Zd, Ze, Zf, bytesOf, Zg, Zh, Zi, Zj, Zk, Zl, Int.reduceLT, Int.reduceLE, Zm, Int.reduceToNat, Zn, Zo, Zp, Int.reduceAdd, Zq, Zr, ints_len]
    intro _
    by_cases hil : i < zs.length
    · have d : decide ((i : Int) < (zs.length : Int)) = true := by simp; exact hil
      have hci : (i : Int) < (zs.length : Int) := by omega
      have eg : (ints zs)[i]? = some [.i .i64 (zs.getD i 0)] := by rw [ints_at zs hil, List.getD_eq_getElem?_getD, List.getElem?_eq_getElem hil]; rfl
      simp only [go_sem, Nat.reduceEqDiff, reduceIte, ↓reduceIte, Nat.reduceAdd, Z0, Z1, Z2, Z3, Z4, Z5, Nat.reduceLT, Z6, Z7, Int.reduceEq, Z8, Z9, Nat.reduceLeDiff, Za, Zb, Zc, Zd, Ze, Zf, bytesOf, Zg, Zh, Zi, Zj, Zk, Zl, Int.reduceLT, Int.reduceLE, Zm, Int.reduceToNat, Zn, Zo, Zp, Int.reduceAdd, Zq, Zr, d, eg, hci]
      by_cases hx : zs.getD i 0 = x
      · have d2 : decide (zs.getD i 0 = x) = true := by simp only [decide_eq_true_eq]; exact hx
        have hm : x ∈ zs := by rw [← hx, List.getD_eq_getElem?_getD, List.getElem?_eq_getElem hil]; exact List.getElem_mem hil
        simp only [go_sem, Nat.reduceEqDiff, reduceIte, ↓reduceIte, Nat.reduceAdd, Z0, Z1, Z2, Z3, Z4, Z5, Nat.reduceLT, Z6, Z7, Int.reduceEq, Z8, Z9, Nat.reduceLeDiff, Za, Zb, Zc, Zd, Ze, Zf, bytesOf, Zg, Zh, Zi, Zj, Zk, Zl, Int.reduceLT, Int.reduceLE, Zm, Int.reduceToNat, Zn, Zo, Zp, Int.reduceAdd, Zq, Zr, d2]
        simp [hm]
      · have d2 : decide (zs.getD i 0 = x) = false := by simp only [decide_eq_false_iff_not]; exact hx
        simp only [go_sem, Nat.reduceEqDiff, reduceIte, ↓reduceIte, Nat.reduceAdd, Z0, Z1, Z2, Z3, Z4, Z5, Nat.reduceLT, Z6, Z7, Int.reduceEq, Z8, Z9, Nat.reduceLeDiff, Za, Zb, Zc, Zd, Ze, Zf, bytesOf, Zg, Zh, Zi, Zj, Zk, Zl, Int.reduceLT, Int.reduceLE, Zm, Int.reduceToNat, Zn, Zo, Zp, Int.reduceAdd, Zq, Zr, d2]
        refine ⟨i + 1, ⟨hil, fun j hj hj2 => ?_, ?_⟩, by omega⟩
        · by_cases e : j = i
          · subst e; exact hx
          · exact hn j (by omega) hj2
        · rw [wr1 hil hz]
    · have d : decide ((i : Int) < (zs.length : Int)) = false := by simp; omega
      have hm : ¬ x ∈ zs := by
        intro h
        obtain ⟨j, hj, e⟩ := List.mem_iff_getElem.1 h
        refine hn j (by omega) hj ?_
        rw [List.getD_eq_getElem?_getD, List.getElem?_eq_getElem hj]; exact e
      simp only [go_sem, Nat.reduceEqDiff, reduceIte, ↓reduceIte, Nat.reduceAdd, Z0, Z1, Z2, Z3, Z4, Z5, Nat.reduceLT, Z6, Z7, Int.reduceEq, Z8, Z9, Nat.reduceLeDiff, Za, Zb, Zc, Zd, Ze, Zf, bytesOf, Zg, Zh, Zi, Zj, Zk, Zl, Int.reduceLT, Int.reduceLE, Zm, Int.reduceToNat, Zn, Zo, Zp, Int.reduceAdd, Zq, Zr, d]
      simp [hm]
theorem hasI (zs : List Int) (hz : zs.length ≤ maxL) (x : Int) {H : List AO} {a : AV} (ha : Lent H a (.p (.l (ints zs)))) : ACall Try.prog 159 [a, .p (.i .i64 x)] H (pureQ (.p (.b (decide (x ∈ zs)))) H) :=
  (acall_lend (has0 zs hz x) (fun r H' h => by subst h; exact grnd_b _) (lentAll_cons ha (lentAll_cons (.pure _) (lentAll_nil _)))).mono fun r H' ⟨h1, _, h2⟩ => ⟨h2, h1⟩

set_option maxHeartbeats 4000000 in
theorem sSorted0 (zs : List Int) (hz : zs.length ≤ 1000000) : ACall Try.prog 123 [.p (.l (ints zs))] [] (fun r H => OwnR H r 1 (intR .i64 (canonD zs))) := by
  have hzm : zs.length ≤ maxL := by unfold maxL; omega
  refine call123 (by simp) ?_
  simp only [go_sem, Nat.reduceEqDiff, reduceIte, ↓reduceIte, Nat.reduceAdd, Z0, Z1, Z2, Z3, Z4, Z5, Nat.reduceLT, Z6, Z7, Int.reduceEq, Z8, Z9, Nat.reduceLeDiff, Za, Zb, Zc, Zd, Ze, Zf, bytesOf, Zg, Zh, Zi, Zj, Zk, Zl, Int.reduceLT, Int.reduceLE, Zm, Int.reduceToNat, Zn, Zo, Zp, Int.reduceAdd, Zq, Zr, mc123, mr123]
  refine ⟨Nat × List Int × AV × List AO, [0, 2, 3, 4], fun x st => x.1 ≤ zs.length ∧ Up x.2.1 ∧ (∀ y, y ∈ x.2.1 ↔ y ∈ zs.take x.1) ∧ x.2.1.length ≤ x.1 ∧ OwnR x.2.2.2 x.2.2.1 1 (intR .i64 x.2.1) ∧ st = ⟨[(0, .p (.l (ints zs))), (2, .p .nl), (3, x.2.2.1), (4, .p (.i .i64 x.1))], [], x.2.2.2⟩, fun x => zs.length - x.1, ⟨(0, [], .gs 0 0 0 0, [.rows 1 0 []]), ?_⟩, ?_⟩
  · simp only [go_sem, Nat.reduceEqDiff, reduceIte, ↓reduceIte, Nat.reduceAdd, Z0, Z1, Z2, Z3, Z4, Z5, Nat.reduceLT, Z6, Z7, Int.reduceEq, Z8, Z9, Nat.reduceLeDiff, Za, Zb, Zc, Zd, Ze, Zf, bytesOf, Zg, Zh, Zi, Zj, Zk, Zl, Int.reduceLT, Int.reduceLE, Zm, Int.reduceToNat, Zn, Zo, Zp, Int.reduceAdd, Zq, Zr]
    exact ⟨Nat.zero_le _, by simp [Up], fun y => trivial, .inr ⟨0, 0, rfl, rfl⟩⟩
  · rintro ⟨i, S, a, H⟩ st ⟨hi, hS, hmem, hSl, ha, rfl⟩
    simp only at hi hS hmem hSl ha
    simp only [go_sem, Nat.reduceEqDiff, reduceIte, ↓reduceIte, Nat.reduceAdd, Z0, Z1, Z2, Z3, Z4, Z5, Nat.reduceLT, Z6, Z7, Int.reduceEq, Z8, Z9, Nat.reduceLeDiff, Za, Zb, Zc, Zd, Ze, Zf, bytesOf, Zg, Zh, Zi, Zj, Zk, Zl, Int.reduceLT, Int.reduceLE, Zm, Int.reduceToNat, Zn, Zo, Zp, Int.reduceAdd, Zq, Zr, ints_len]
    intro _
    by_cases hil : i < zs.length
    case neg =>
      have d : decide ((i : Int) < (zs.length : Int)) = false := by simp; omega
      have e : S = canonD zs := canon_eq hS fun y => by rw [hmem, List.take_of_length_le (by omega)]
      simp only [go_sem, Nat.reduceEqDiff, reduceIte, ↓reduceIte, Nat.reduceAdd, Z0, Z1, Z2, Z3, Z4, Z5, Nat.reduceLT, Z6, Z7, Int.reduceEq, Z8, Z9, Nat.reduceLeDiff, Za, Zb, Zc, Zd, Ze, Zf, bytesOf, Zg, Zh, Zi, Zj, Zk, Zl, Int.reduceLT, Int.reduceLE, Zm, Int.reduceToNat, Zn, Zo, Zp, Int.reduceAdd, Zq, Zr, d]
      rw [← e]; exact ha
    have d : decide ((i : Int) < (zs.length : Int)) = true := by simp; exact hil
    have hci : (i : Int) < (zs.length : Int) := by omega
    have eg : (ints zs)[i]? = some [.i .i64 (zs.getD i 0)] := by rw [ints_at zs hil, List.getD_eq_getElem?_getD, List.getElem?_eq_getElem hil]; rfl
    have eti : zs.take (i + 1) = zs.take i ++ [zs.getD i 0] := by rw [List.take_succ, List.getElem?_eq_getElem hil, List.getD_eq_getElem?_getD, List.getElem?_eq_getElem hil]; rfl
    generalize hx : zs.getD i 0 = x at eg eti
    have hSm : S.length ≤ maxL := by omega
    simp only [go_sem, Nat.reduceEqDiff, reduceIte, ↓reduceIte, Nat.reduceAdd, Z0, Z1, Z2, Z3, Z4, Z5, Nat.reduceLT, Z6, Z7, Int.reduceEq, Z8, Z9, Nat.reduceLeDiff, Za, Zb, Zc, Zd, Ze, Zf, bytesOf, Zg, Zh, Zi, Zj, Zk, Zl, Int.reduceLT, Int.reduceLE, Zm, Int.reduceToNat, Zn, Zo, Zp, Int.reduceAdd, Zq, Zr, d, eg, hci]
    refine acall_pure (hasI S hSm x (ownZ_lent ha)) ?_
    by_cases hxS : x ∈ S
    · have d2 : decide (x ∈ S) = true := by simp [hxS]
      simp only [go_sem, Nat.reduceEqDiff, reduceIte, ↓reduceIte, Nat.reduceAdd, Z0, Z1, Z2, Z3, Z4, Z5, Nat.reduceLT, Z6, Z7, Int.reduceEq, Z8, Z9, Nat.reduceLeDiff, Za, Zb, Zc, Zd, Ze, Zf, bytesOf, Zg, Zh, Zi, Zj, Zk, Zl, Int.reduceLT, Int.reduceLE, Zm, Int.reduceToNat, Zn, Zo, Zp, Int.reduceAdd, Zq, Zr, d2]
      refine ⟨(i + 1, S, a, H), ⟨hil, hS, fun y => ?_, by simp only; omega, ha, ?_⟩, by simp only; omega⟩
      · simp only
        rw [eti, List.mem_append, List.mem_singleton, ← hmem]
        constructor
        · exact fun h => .inl h
        · rintro (h | h)
          · exact h
          · rw [h]; exact hxS
      · rw [wr1 hil hzm]
    have d2 : decide (x ∈ S) = false := by simp [hxS]
    have hlenK : ∀ {K : St → Prop} {st : St} {d : Go.AM.MD}, K (st.put d (.p (.i .i64 S.length))) → lenK false a d K st := by
      intro K st d k
      rw [← intR_len .i64 S] at k
      rcases ha with ⟨rfl, e⟩ | ⟨id, ver, rfl, _⟩
      · rw [e] at k; exact k
      · exact fun _ => k
    simp only [go_sem, Nat.reduceEqDiff, reduceIte, ↓reduceIte, Nat.reduceAdd, Z0, Z1, Z2, Z3, Z4, Z5, Nat.reduceLT, Z6, Z7, Int.reduceEq, Z8, Z9, Nat.reduceLeDiff, Za, Zb, Zc, Zd, Ze, Zf, bytesOf, Zg, Zh, Zi, Zj, Zk, Zl, Int.reduceLT, Int.reduceLE, Zm, Int.reduceToNat, Zn, Zo, Zp, Int.reduceAdd, Zq, Zr, d2]
    refine hlenK ?_
    simp only [go_sem, Nat.reduceEqDiff, reduceIte, ↓reduceIte, Nat.reduceAdd, Z0, Z1, Z2, Z3, Z4, Z5, Nat.reduceLT, Z6, Z7, Int.reduceEq, Z8, Z9, Nat.reduceLeDiff, Za, Zb, Zc, Zd, Ze, Zf, bytesOf, Zg, Zh, Zi, Zj, Zk, Zl, Int.reduceLT, Int.reduceLE, Zm, Int.reduceToNat, Zn, Zo, Zp, Int.reduceAdd, Zq, Zr, eg, hci]
    have hax := OwnR.ext (A := [AO.rows 1 0 [[.p (.i .i64 x)]]]) ha
    have hrx : (H ++ [AO.rows 1 0 [[.p (.i .i64 x)]]])[H.length]? = some (.rows 1 0 [[.p (.i .i64 x)]]) := get_off0 _ _
    generalize H ++ [AO.rows 1 0 [[.p (.i .i64 x)]]] = H1 at hax hrx ⊢
    refine ⟨by simp, ?_⟩
    refine app_fr hax (by simp [intR]; omega) (by simp [intR]; omega) ?_
    intro id ver H2 hg hn hk hl2
    have eL : (intR .i64 S).length + 1 = S.length + 1 := by rw [intR_len]
    have hg' : H2[id]? = some (.rows 1 ver (intR .i64 (RK S S.length x))) := by
      rw [RK_end]; rw [hg]; simp [intR]
    simp only [go_sem, Nat.reduceEqDiff, reduceIte, ↓reduceIte, Nat.reduceAdd, Z0, Z1, Z2, Z3, Z4, Z5, Nat.reduceLT, Z6, Z7, Int.reduceEq, Z8, Z9, Nat.reduceLeDiff, Za, Zb, Zc, Zd, Ze, Zf, bytesOf, Zg, Zh, Zi, Zj, Zk, Zl, Int.reduceLT, Int.reduceLE, Zm, Int.reduceToNat, Zn, Zo, Zp, Int.reduceAdd, Zq, Zr]
    refine ⟨Nat × Int, [0, 2, 3, 4, 5], fun q st => q.1 ≤ S.length ∧ (∀ j, q.1 ≤ j → j < S.length → x < S.getD j 0) ∧ st = ⟨[(0, .p (.l (ints zs))), (2, .p .nl), (3, .gs id ver 0 ((intR .i64 S).length + 1)), (4, .p (.i .i64 i)), (5, .p (.i .i64 q.1))], [], H2.set id (.rows 1 ver (intR .i64 (RK S q.1 q.2)))⟩, fun q => q.1, ⟨(S.length, x), ?_⟩, ?_⟩
    · simp only [go_sem, Nat.reduceEqDiff, reduceIte, ↓reduceIte, Nat.reduceAdd, Z0, Z1, Z2, Z3, Z4, Z5, Nat.reduceLT, Z6, Z7, Int.reduceEq, Z8, Z9, Nat.reduceLeDiff, Za, Zb, Zc, Zd, Ze, Zf, bytesOf, Zg, Zh, Zi, Zj, Zk, Zl, Int.reduceLT, Int.reduceLE, Zm, Int.reduceToNat, Zn, Zo, Zp, Int.reduceAdd, Zq, Zr]
      refine ⟨Nat.le_refl _, fun j h1 h2 => by omega, ?_⟩
      rw [set_same hg']
    · rintro ⟨k, g⟩ st ⟨hkl, hgt, rfl⟩
      simp only at hkl hgt
      have hgs : (H2.set id (.rows 1 ver (intR .i64 (RK S k g))))[id]? = some (.rows 1 ver (intR .i64 (RK S k g))) := set_get hg'
      have fin : (∀ j, j < k → j < S.length → S.getD j 0 ≤ x) → ∀ (v : Go.AM.AV), ∃ x_1 : Nat × List Int × AV × List AO, (x_1.1 ≤ zs.length ∧ Up x_1.2.1 ∧ (∀ y, y ∈ x_1.2.1 ↔ y ∈ zs.take x_1.1) ∧ x_1.2.1.length ≤ x_1.1 ∧ OwnR x_1.2.2.2 x_1.2.2.1 1 (intR .i64 x_1.2.1) ∧
          (⟨[(0, .p (.l (ints zs))), (2, .p .nl), (3, .gs id ver 0 ((intR .i64 S).length + 1)), (4, .p (.i .i64 ((i + 1 : Nat) : Int)))], [], (H2.set id (.rows 1 ver (intR .i64 (RK S k g)))).set id (.rows 1 ver (intR .i64 (RK S k x)))⟩ : St) = ⟨[(0, .p (.l (ints zs))), (2, .p .nl), (3, x_1.2.2.1), (4, .p (.i .i64 x_1.1))], [], x_1.2.2.2⟩) ∧ zs.length - x_1.1 < zs.length - i := by
        intro hle _
        refine ⟨(i + 1, RK S k x, .gs id ver 0 ((intR .i64 S).length + 1), (H2.set id (.rows 1 ver (intR .i64 (RK S k g)))).set id (.rows 1 ver (intR .i64 (RK S k x)))), ⟨hil, ?_, fun y => ?_, ?_, ?_, rfl⟩, by simp only; omega⟩
        · refine RK_up hS (fun j h1 h2 => ?_) hgt
          have := hle j h1 h2
          have hne : S.getD j 0 ≠ x := by
            intro e
            refine hxS ?_
            rw [← e, List.getD_eq_getElem?_getD, List.getElem?_eq_getElem h2]
            exact List.getElem_mem h2
          omega
        · simp only
          rw [RK_mem, eti, List.mem_append, List.mem_singleton, ← hmem]
          exact Or.comm
        · simp only; rw [RK_len hkl]; omega
        · simp only
          refine .inr ⟨id, ver, ?_, set_get hgs⟩
          rw [intR_len, intR_len, RK_len hkl]
      have hRl : (RK S k g).length = S.length + 1 := RK_len hkl g
      have hkk : k < (RK S k g).length := by omega
      have h1i : wr .i64 ((i : Int) + 1) = ((i + 1 : Nat) : Int) := wr1 hil hzm
      have hkI : (k : Int) < (((intR .i64 S).length + 1 : Nat) : Int) := by rw [intR_len]; omega
      by_cases hk0 : 0 < k
      case neg =>
        have dk : decide ((0 : Int) < (k : Int)) = false := by simp; omega
        simp only [go_sem, Nat.reduceEqDiff, reduceIte, ↓reduceIte, Nat.reduceAdd, Z0, Z1, Z2, Z3, Z4, Z5, Nat.reduceLT, Z6, Z7, Int.reduceEq, Z8, Z9, Nat.reduceLeDiff, Za, Zb, Zc, Zd, Ze, Zf, bytesOf, Zg, Zh, Zi, Zj, Zk, Zl, Int.reduceLT, Int.reduceLE, Zm, Int.reduceToNat, Zn, Zo, Zp, Int.reduceAdd, Zq, Zr]
        refine drw_same ?_
        simp only [go_sem, Nat.reduceEqDiff, reduceIte, ↓reduceIte, Nat.reduceAdd, Z0, Z1, Z2, Z3, Z4, Z5, Nat.reduceLT, Z6, Z7, Int.reduceEq, Z8, Z9, Nat.reduceLeDiff, Za, Zb, Zc, Zd, Ze, Zf, bytesOf, Zg, Zh, Zi, Zj, Zk, Zl, Int.reduceLT, Int.reduceLE, Zm, Int.reduceToNat, Zn, Zo, Zp, Int.reduceAdd, Zq, Zr, dk]
        simp only [go_sem, Nat.reduceEqDiff, reduceIte, ↓reduceIte, Nat.reduceAdd, Z0, Z1, Z2, Z3, Z4, Z5, Nat.reduceLT, Z6, Z7, Int.reduceEq, Z8, Z9, Nat.reduceLeDiff, Za, Zb, Zc, Zd, Ze, Zf, bytesOf, Zg, Zh, Zi, Zj, Zk, Zl, Int.reduceLT, Int.reduceLE, Zm, Int.reduceToNat, Zn, Zo, Zp, Int.reduceAdd, Zq, Zr, eg, hci, hgs, hkI]
        rw [stoR_at (intR_getD (RK S k g) hkk) (splice_one rfl _), intR_set, RK_put g x hkl]
        simp only [go_sem, Nat.reduceEqDiff, reduceIte, ↓reduceIte, Nat.reduceAdd, Z0, Z1, Z2, Z3, Z4, Z5, Nat.reduceLT, Z6, Z7, Int.reduceEq, Z8, Z9, Nat.reduceLeDiff, Za, Zb, Zc, Zd, Ze, Zf, bytesOf, Zg, Zh, Zi, Zj, Zk, Zl, Int.reduceLT, Int.reduceLE, Zm, Int.reduceToNat, Zn, Zo, Zp, Int.reduceAdd, Zq, Zr, h1i]
        exact fin (fun j h => by omega) (.p .nl)
      have dk : decide ((0 : Int) < (k : Int)) = true := by simp; exact hk0
      obtain ⟨k', rfl⟩ : ∃ k', k = k' + 1 := ⟨k - 1, by omega⟩
      have ek : wr .i64 (((k' + 1 : Nat) : Int) - 1) = (k' : Int) := by rw [wr64 (by omega) (by omega)]; omega
      have hk'I : (k' : Int) < (((intR .i64 S).length + 1 : Nat) : Int) := by rw [intR_len]; omega
      have eRk : (intR .i64 (RK S (k' + 1) g))[k']? = some [.p (.i .i64 (S.getD k' 0))] := by
        rw [intR, List.getElem?_map, RK_lt g hkl (Nat.lt_succ_self _)]; rfl
      simp only [go_sem, Nat.reduceEqDiff, reduceIte, ↓reduceIte, Nat.reduceAdd, Z0, Z1, Z2, Z3, Z4, Z5, Nat.reduceLT, Z6, Z7, Int.reduceEq, Z8, Z9, Nat.reduceLeDiff, Za, Zb, Zc, Zd, Ze, Zf, bytesOf, Zg, Zh, Zi, Zj, Zk, Zl, Int.reduceLT, Int.reduceLE, Zm, Int.reduceToNat, Zn, Zo, Zp, Int.reduceAdd, Zq, Zr]
      refine drw_same ?_
      by_cases hcmp : x < S.getD k' 0
      · have dc : decide (x < S.getD k' 0) = true := by simp only [decide_eq_true_eq]; exact hcmp
        simp only [go_sem, Nat.reduceEqDiff, reduceIte, ↓reduceIte, Nat.reduceAdd, Z0, Z1, Z2, Z3, Z4, Z5, Nat.reduceLT, Z6, Z7, Int.reduceEq, Z8, Z9, Nat.reduceLeDiff, Za, Zb, Zc, Zd, Ze, Zf, bytesOf, Zg, Zh, Zi, Zj, Zk, Zl, Int.reduceLT, Int.reduceLE, Zm, Int.reduceToNat, Zn, Zo, Zp, Int.reduceAdd, Zq, Zr, dk, ek, eg, hci, hgs, hk'I, hkI, eRk, dc]
        rw [stoR_at (intR_getD (RK S (k' + 1) g) hkk) (splice_one rfl _), intR_set, RK_step g (by omega)]
        simp only [go_sem, Nat.reduceEqDiff, reduceIte, ↓reduceIte, Nat.reduceAdd, Z0, Z1, Z2, Z3, Z4, Z5, Nat.reduceLT, Z6, Z7, Int.reduceEq, Z8, Z9, Nat.reduceLeDiff, Za, Zb, Zc, Zd, Ze, Zf, bytesOf, Zg, Zh, Zi, Zj, Zk, Zl, Int.reduceLT, Int.reduceLE, Zm, Int.reduceToNat, Zn, Zo, Zp, Int.reduceAdd, Zq, Zr, ek, List.set_set]
        refine ⟨(k', S.getD k' 0), ⟨by simp only; omega, fun j h1 h2 => ?_, rfl⟩, by simp only; omega⟩
        simp only at h1
        by_cases e : j = k'
        · subst e; exact hcmp
        · exact hgt j (by omega) h2
      · have dc : decide (x < S.getD k' 0) = false := by simp only [decide_eq_false_iff_not]; exact hcmp
        simp only [go_sem, Nat.reduceEqDiff, reduceIte, ↓reduceIte, Nat.reduceAdd, Z0, Z1, Z2, Z3, Z4, Z5, Nat.reduceLT, Z6, Z7, Int.reduceEq, Z8, Z9, Nat.reduceLeDiff, Za, Zb, Zc, Zd, Ze, Zf, bytesOf, Zg, Zh, Zi, Zj, Zk, Zl, Int.reduceLT, Int.reduceLE, Zm, Int.reduceToNat, Zn, Zo, Zp, Int.reduceAdd, Zq, Zr, dk, ek, eg, hci, hgs, hk'I, eRk, dc]
        simp only [go_sem, Nat.reduceEqDiff, reduceIte, ↓reduceIte, Nat.reduceAdd, Z0, Z1, Z2, Z3, Z4, Z5, Nat.reduceLT, Z6, Z7, Int.reduceEq, Z8, Z9, Nat.reduceLeDiff, Za, Zb, Zc, Zd, Ze, Zf, bytesOf, Zg, Zh, Zi, Zj, Zk, Zl, Int.reduceLT, Int.reduceLE, Zm, Int.reduceToNat, Zn, Zo, Zp, Int.reduceAdd, Zq, Zr, eg, hci, hgs, hkI]
        rw [stoR_at (intR_getD (RK S (k' + 1) g) hkk) (splice_one rfl _), intR_set, RK_put g x hkl]
        simp only [go_sem, Nat.reduceEqDiff, reduceIte, ↓reduceIte, Nat.reduceAdd, Z0, Z1, Z2, Z3, Z4, Z5, Nat.reduceLT, Z6, Z7, Int.reduceEq, Z8, Z9, Nat.reduceLeDiff, Za, Zb, Zc, Zd, Ze, Zf, bytesOf, Zg, Zh, Zi, Zj, Zk, Zl, Int.reduceLT, Int.reduceLE, Zm, Int.reduceToNat, Zn, Zo, Zp, Int.reduceAdd, Zq, Zr, h1i]
        refine fin (fun j h1 h2 => ?_) (.p .nl)
        by_cases e : j = k'
        · subst e; omega
        · have h3 := (List.pairwise_iff_getElem.1 hS) j k' (by omega) (by omega) (by omega)
          rw [List.getD_eq_getElem?_getD, List.getElem?_eq_getElem (by omega : k' < S.length)] at hcmp
          rw [List.getD_eq_getElem?_getD, List.getElem?_eq_getElem h2]
          simp only [Option.getD_some] at hcmp ⊢
          omega
end Go.Proofs.Ytmbggdfceecojaa.Cd
