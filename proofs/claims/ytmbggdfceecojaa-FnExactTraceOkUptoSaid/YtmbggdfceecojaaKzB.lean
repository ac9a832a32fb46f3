/- Texts McC ShB CoE CoF MaA McG MaG MaH, merged. -/
import Derived.Test.YtmbggdfceecojaaKzA
import Derived.Test.YtmbggdfceecojaaChecked
import Derived.KernelRfl
/- THE SMALL CODES of functions 235, and their ties to the program (printed by wip/tools/mkties.sh). -/
set_option linter.all false
namespace Go.Proofs.Ytmbggdfceecojaa.Mc
open Go.AM
def lv235 : List Nat := [0, 1, 4, 5, 6, 7, 8, 9, 10, 11, 12, 13, 16, 24, 31, 36, 59, 64, 73, 93, 107, 114, 132, 139]
def mc235 : MC :=
.seq (.reg [
    ⟨.l 4, .mv (.c (.p (.i .i64 0))), none⟩]) (
  .seq (.reg [
    ⟨.t 14, .mv (.l 1), none⟩,
    ⟨.t 15, .len true (.t 14), none⟩,
    ⟨.l 5, .mv (.t 15), none⟩]) (
  .seq (.blk 0 (
    .seq (.reg [
      ⟨.t 17, .mv (.l 5), none⟩,
      ⟨.t 18, .bin .eql (.t 17) (.c (.p (.i .i64 0))), none⟩,
      ⟨.t 19, .mv (.t 18), none⟩,
      ⟨.t 20, .mv (.l 1), some ((.t 19), false)⟩,
      ⟨.t 21, .mv (.l 0), some ((.t 19), false)⟩,
      ⟨.t 22, .bin .eql (.t 20) (.t 21), some ((.t 19), false)⟩,
      ⟨.t 23, .pick (.t 19) (.c (.p (.b true))) (.t 22), none⟩,
      ⟨.l 16, .mv (.t 23), none⟩]) (
    .cond (.l 16) (
      .seq (.reg [
        ⟨.l 4, .mv (.c (.p (.i .i64 0))), none⟩]) (
      .ret)) (
      .seq (.reg [
        ⟨.t 25, .mv (.l 5), none⟩,
        ⟨.t 26, .bin .eql (.t 25) (.c (.p (.i .i64 1))), none⟩,
        ⟨.l 24, .mv (.t 26), none⟩]) (
      .cond (.l 24) (
        .seq (.reg [
          ⟨.t 27, .mv (.l 0), none⟩,
          ⟨.t 28, .mv (.l 1), none⟩,
          ⟨.t 29, .ixt (.t 28) (.c (.p (.i .i64 0))), none⟩,
          ⟨.t 30, .call 240 [.t 27, .t 29], none⟩,
          ⟨.l 4, .mv (.t 30), none⟩]) (
        .ret)) (
        .seq (.reg [
          ⟨.t 32, .mv (.l 5), none⟩,
          ⟨.t 33, .mv (.l 0), none⟩,
          ⟨.t 34, .len true (.t 33), none⟩,
          ⟨.t 35, .bin .geq (.t 32) (.t 34), none⟩,
          ⟨.l 31, .mv (.t 35), none⟩]) (
        .cond (.l 31) (
          .seq (.reg [
            ⟨.l 4, .mv (.c (.p (.i .i64 (-1)))), none⟩]) (
          .ret)) (
          .seq (.reg [
            ⟨.t 37, .mv (.l 5), none⟩,
            ⟨.no, .stop, none⟩,
            ⟨.t 39, .bin .leq (.t 37) (.t 38), none⟩,
            ⟨.t 40, .mv (.t 39), none⟩,
            ⟨.t 41, .mv (.l 0), some ((.t 40), true)⟩,
            ⟨.t 42, .len true (.t 41), some ((.t 40), true)⟩,
            ⟨.t 43, .bin .leq (.t 42) (.c (.p (.i .i64 64))), some ((.t 40), true)⟩,
            ⟨.t 44, .pick (.t 40) (.t 43) (.c (.p (.b false))), none⟩,
            ⟨.l 36, .mv (.t 44), none⟩]) (
          .cond (.l 36) (
            .seq (.reg [
              ⟨.t 45, .mv (.l 0), none⟩,
              ⟨.t 46, .mv (.l 1), none⟩,
              ⟨.no, .stop, none⟩,
              ⟨.l 4, .mv (.t 47), none⟩]) (
            .ret)) (
            .skip)))))))))) (
  .seq (.reg [
    ⟨.t 48, .mv (.l 1), none⟩,
    ⟨.t 49, .ixt (.t 48) (.c (.p (.i .i64 0))), none⟩,
    ⟨.l 6, .mv (.t 49), none⟩]) (
  .seq (.reg [
    ⟨.t 50, .mv (.l 1), none⟩,
    ⟨.t 51, .ixt (.t 50) (.c (.p (.i .i64 1))), none⟩,
    ⟨.l 7, .mv (.t 51), none⟩]) (
  .seq (.reg [
    ⟨.l 8, .mv (.c (.p (.i .i64 0))), none⟩]) (
  .seq (.reg [
    ⟨.t 52, .mv (.l 0), none⟩,
    ⟨.t 53, .len true (.t 52), none⟩,
    ⟨.t 54, .mv (.l 5), none⟩,
    ⟨.t 55, .bin .sub (.t 53) (.t 54), none⟩,
    ⟨.t 56, .bin .add (.t 55) (.c (.p (.i .i64 1))), none⟩,
    ⟨.l 9, .mv (.t 56), none⟩]) (
  .seq (.reg [
    ⟨.l 10, .mv (.c (.p (.i .i64 0))), none⟩]) (
  .seq (.blk 1 (
    .loop (
      .seq (.seq (.reg [
        ⟨.t 57, .mv (.l 8), none⟩,
        ⟨.t 58, .mv (.l 9), none⟩,
        ⟨.l 59, .bin .lss (.t 57) (.t 58), none⟩]) (
      .cond (.l 59) (
        .skip) (
        .exit 1))) (
      .blk 2 (
        .seq (.seq (.reg [
          ⟨.t 60, .mv (.l 0), none⟩,
          ⟨.t 61, .mv (.l 8), none⟩,
          ⟨.t 62, .ixt (.t 60) (.t 61), none⟩,
          ⟨.t 63, .mv (.l 6), none⟩,
          ⟨.l 64, .bin .neq (.t 62) (.t 63), none⟩]) (
        .cond (.l 64) (
          .seq (.reg [
            ⟨.t 65, .mv (.l 0), none⟩,
            ⟨.t 66, .mv (.l 8), none⟩,
            ⟨.t 67, .bin .add (.t 66) (.c (.p (.i .i64 1))), none⟩,
            ⟨.t 68, .mv (.l 9), none⟩,
            ⟨.t 69, .slc none (.t 65) (some (.t 67)) (some (.t 68)), none⟩,
            ⟨.t 70, .mv (.l 6), none⟩,
            ⟨.t 71, .call 240 [.t 69, .t 70], none⟩,
            ⟨.l 11, .mv (.t 71), none⟩]) (
          .seq (.seq (.reg [
            ⟨.t 72, .mv (.l 11), none⟩,
            ⟨.l 73, .bin .lss (.t 72) (.c (.p (.i .i64 0))), none⟩]) (
          .cond (.l 73) (
            .seq (.reg [
              ⟨.l 4, .mv (.c (.p (.i .i64 (-1)))), none⟩]) (
            .ret)) (
            .skip))) (
          .reg [
            ⟨.t 74, .mv (.l 8), none⟩,
            ⟨.t 75, .mv (.l 11), none⟩,
            ⟨.t 76, .bin .add (.t 75) (.c (.p (.i .i64 1))), none⟩,
            ⟨.t 77, .bin .add (.t 74) (.t 76), none⟩,
            ⟨.l 8, .mv (.t 77), none⟩]))) (
          .skip))) (
        .seq (.seq (.reg [
          ⟨.t 78, .mv (.l 0), none⟩,
          ⟨.t 79, .mv (.l 8), none⟩,
          ⟨.t 80, .bin .add (.t 79) (.c (.p (.i .i64 1))), none⟩,
          ⟨.t 81, .ixt (.t 78) (.t 80), none⟩,
          ⟨.t 82, .mv (.l 7), none⟩,
          ⟨.t 83, .bin .eql (.t 81) (.t 82), none⟩,
          ⟨.t 84, .mv (.t 83), none⟩,
          ⟨.t 85, .mv (.l 0), some ((.t 84), true)⟩,
          ⟨.t 86, .mv (.l 8), some ((.t 84), true)⟩,
          ⟨.t 87, .mv (.l 8), some ((.t 84), true)⟩,
          ⟨.t 88, .mv (.l 5), some ((.t 84), true)⟩,
          ⟨.t 89, .bin .add (.t 87) (.t 88), some ((.t 84), true)⟩,
          ⟨.t 90, .slc none (.t 85) (some (.t 86)) (some (.t 89)), some ((.t 84), true)⟩,
          ⟨.t 91, .mv (.l 1), some ((.t 84), true)⟩,
          ⟨.t 92, .bin .eql (.t 90) (.t 91), some ((.t 84), true)⟩,
          ⟨.l 93, .pick (.t 84) (.t 92) (.c (.p (.b false))), none⟩]) (
        .cond (.l 93) (
          .seq (.reg [
            ⟨.t 94, .mv (.l 8), none⟩,
            ⟨.l 4, .mv (.t 94), none⟩]) (
          .ret)) (
          .skip))) (
        .seq (.reg [
          ⟨.t 95, .mv (.l 8), none⟩,
          ⟨.t 96, .bin .add (.t 95) (.c (.p (.i .i64 1))), none⟩,
          ⟨.l 8, .mv (.t 96), none⟩]) (
        .seq (.reg [
          ⟨.t 97, .mv (.l 10), none⟩,
          ⟨.t 98, .bin .add (.t 97) (.c (.p (.i .i64 1))), none⟩,
          ⟨.l 10, .mv (.t 98), none⟩]) (
        .seq (.reg [
          ⟨.t 99, .mv (.l 5), none⟩,
          ⟨.no, .stop, none⟩,
          ⟨.t 101, .bin .leq (.t 99) (.t 100), none⟩,
          ⟨.t 102, .mv (.t 101), none⟩,
          ⟨.t 103, .mv (.l 10), some ((.t 102), true)⟩,
          ⟨.t 104, .mv (.l 8), some ((.t 102), true)⟩,
          ⟨.t 105, .call 242 [.t 104], some ((.t 102), true)⟩,
          ⟨.t 106, .bin .gtr (.t 103) (.t 105), some ((.t 102), true)⟩,
          ⟨.l 107, .pick (.t 102) (.t 106) (.c (.p (.b false))), none⟩]) (
        .cond (.l 107) (
          .seq (.reg [
            ⟨.t 108, .mv (.l 0), none⟩,
            ⟨.t 109, .mv (.l 8), none⟩,
            ⟨.t 110, .slc none (.t 108) (some (.t 109)) none, none⟩,
            ⟨.t 111, .mv (.l 1), none⟩,
            ⟨.no, .stop, none⟩,
            ⟨.l 12, .mv (.t 112), none⟩]) (
          .seq (.seq (.reg [
            ⟨.t 113, .mv (.l 12), none⟩,
            ⟨.l 114, .bin .geq (.t 113) (.c (.p (.i .i64 0))), none⟩]) (
          .cond (.l 114) (
            .seq (.reg [
              ⟨.t 115, .mv (.l 12), none⟩,
              ⟨.t 116, .mv (.l 8), none⟩,
              ⟨.t 117, .bin .add (.t 115) (.t 116), none⟩,
              ⟨.l 4, .mv (.t 117), none⟩]) (
            .ret)) (
            .skip))) (
          .seq (.reg [
            ⟨.l 4, .mv (.c (.p (.i .i64 (-1)))), none⟩]) (
          .ret)))) (
          .seq (.reg [
            ⟨.t 118, .mv (.l 5), none⟩,
            ⟨.no, .stop, none⟩,
            ⟨.t 120, .bin .gtr (.t 118) (.t 119), none⟩,
            ⟨.t 121, .mv (.t 120), none⟩,
            ⟨.t 122, .mv (.l 10), some ((.t 121), true)⟩,
            ⟨.t 123, .mv (.l 8), some ((.t 121), true)⟩,
            ⟨.t 124, .bin .shr (.t 123) (.c (.p (.i .u64 4))), some ((.t 121), true)⟩,
            ⟨.t 125, .bin .add (.c (.p (.i .i64 4))) (.t 124), some ((.t 121), true)⟩,
            ⟨.t 126, .bin .geq (.t 122) (.t 125), some ((.t 121), true)⟩,
            ⟨.t 127, .pick (.t 121) (.t 126) (.c (.p (.b false))), none⟩,
            ⟨.t 128, .mv (.t 127), none⟩,
            ⟨.t 129, .mv (.l 8), some ((.t 128), true)⟩,
            ⟨.t 130, .mv (.l 9), some ((.t 128), true)⟩,
            ⟨.t 131, .bin .lss (.t 129) (.t 130), some ((.t 128), true)⟩,
            ⟨.l 132, .pick (.t 128) (.t 131) (.c (.p (.b false))), none⟩]) (
          .cond (.l 132) (
            .seq (.reg [
              ⟨.t 133, .mv (.l 0), none⟩,
              ⟨.t 134, .mv (.l 8), none⟩,
              ⟨.t 135, .slc none (.t 133) (some (.t 134)) none, none⟩,
              ⟨.t 136, .mv (.l 1), none⟩,
              ⟨.t 137, .call 243 [.t 135, .t 136], none⟩,
              ⟨.l 13, .mv (.t 137), none⟩]) (
            .seq (.seq (.reg [
              ⟨.t 138, .mv (.l 13), none⟩,
              ⟨.l 139, .bin .lss (.t 138) (.c (.p (.i .i64 0))), none⟩]) (
            .cond (.l 139) (
              .seq (.reg [
                ⟨.l 4, .mv (.c (.p (.i .i64 (-1)))), none⟩]) (
              .ret)) (
              .skip))) (
            .seq (.reg [
              ⟨.t 140, .mv (.l 8), none⟩,
              ⟨.t 141, .mv (.l 13), none⟩,
              ⟨.t 142, .bin .add (.t 140) (.t 141), none⟩,
              ⟨.l 4, .mv (.t 142), none⟩]) (
            .ret)))) (
            .skip))))))))))))) (
  .seq (.reg [
    ⟨.l 4, .mv (.c (.p (.i .i64 (-1)))), none⟩]) (
  .ret))))))))))
theorem mc235_eq : (Try.f235.body.map (compile lv235 Try.prog 143)) = some mc235 := by kernel_rfl
def mr235 : List MR := [.t 4]
theorem mr235_eq : cRess lv235 Try.prog Try.f235.results.toList = some mr235 := by kernel_rfl
theorem call235 {args : List AV} {H : List AO} {Q : AV → List AO → Prop} (hla : args.length ≤ 143) (h : wpm (ACall Try.prog) mc235 (finK mr235 Q) ⟨argEnv 0 args, [], H⟩) : ACall Try.prog 235 args H Q :=
  acall_mc (by kernel_rfl) Try.func235 mc235_eq Try.ntmps235 (by kernel_rfl) mr235_eq hla h
end Go.Proofs.Ytmbggdfceecojaa.Mc

/- Whether a text has a byte. -/
set_option linter.all false
namespace Go.Proofs.Ytmbggdfceecojaa.Cd
open Go.AM Mc

theorem has_index (s : List UInt8) (c : UInt8) : decide (0 ≤ Go.Lib.indexByte s c) = s.contains c := by
  induction s with
  | nil => rfl
  | cons b l ih =>
    unfold Go.Lib.indexByte
    by_cases h : b = c
    · subst h; simp
    · have h' : ¬ c = b := fun e => h e.symm
      have hb : (b == c) = false := by simp [h]
      have hg := Go.Lib.indexByte_ge l c
      rw [hb]
      simp only [Bool.false_eq_true, if_false]
      rw [List.contains_cons, ← ih]
      have hcb : (c == b) = false := by simp [h']
      rw [hcb, Bool.false_or, decide_eq_decide]
      split
      · rename_i e; simp at e; omega
      · rename_i e; simp at e; omega

theorem index1 (s : List UInt8) (hs : s.length ≤ maxL) (c : UInt8) : ACall Try.prog 235 [.p (.s s), .p (.s [c])] [] (fun r H' => ∃ z : Int, r = .p (.i .i64 z) ∧ decide (0 ≤ z) = s.contains c) := by
  refine call235 (by simp) ?_
  simp only [go_sem, Nat.reduceEqDiff, reduceIte, ↓reduceIte, Nat.reduceAdd, Z0, Z1, Z2, Z3, Z4, Z5, Nat.reduceLT, Z6, Z7, Int.reduceEq, Z8, Z9, Nat.reduceLeDiff, Za, Zb, Zc, Zd, Ze, Zf, bytesOf, Zg, Zh, Zi, Zj, Zk, Zl, Int.reduceLT, Int.reduceLE, Zm, Int.reduceToNat, Zn, Zo, Zp, Int.reduceAdd, Zq, Zr, mc235, mr235]
  intro _
  refine condK_split _ (fun h1 => ?_) (fun h1 => ?_)
  · simp only [go_sem, Nat.reduceEqDiff, reduceIte, ↓reduceIte, Nat.reduceAdd, Z0, Z1, Z2, Z3, Z4, Z5, Nat.reduceLT, Z6, Z7, Int.reduceEq, Z8, Z9, Nat.reduceLeDiff, Za, Zb, Zc, Zd, Ze, Zf, bytesOf, Zg, Zh, Zi, Zj, Zk, Zl, Int.reduceLT, Int.reduceLE, Zm, Int.reduceToNat, Zn, Zo, Zp, Int.reduceAdd, Zq, Zr, h1]
    have : [c] = s := by simpa using h1
    subst this
    exact ⟨0, rfl, by simp⟩
  · simp only [go_sem, Nat.reduceEqDiff, reduceIte, ↓reduceIte, Nat.reduceAdd, Z0, Z1, Z2, Z3, Z4, Z5, Nat.reduceLT, Z6, Z7, Int.reduceEq, Z8, Z9, Nat.reduceLeDiff, Za, Zb, Zc, Zd, Ze, Zf, bytesOf, Zg, Zh, Zi, Zj, Zk, Zl, Int.reduceLT, Int.reduceLE, Zm, Int.reduceToNat, Zn, Zo, Zp, Int.reduceAdd, Zq, Zr, h1]
    refine (indexByte s c).mono ?_
    rintro r H' ⟨rfl, rfl⟩
    simp only [go_sem, Nat.reduceEqDiff, reduceIte, ↓reduceIte, Nat.reduceAdd, Z0, Z1, Z2, Z3, Z4, Z5, Nat.reduceLT, Z6, Z7, Int.reduceEq, Z8, Z9, Nat.reduceLeDiff, Za, Zb, Zc, Zd, Ze, Zf, bytesOf, Zg, Zh, Zi, Zj, Zk, Zl, Int.reduceLT, Int.reduceLE, Zm, Int.reduceToNat, Zn, Zo, Zp, Int.reduceAdd, Zq, Zr]
    exact ⟨_, rfl, has_index s c⟩

theorem index (s : List UInt8) (hs : s.length ≤ maxL) (c : UInt8) : ACall Try.prog 214 [.p (.s s), .p (.s [c])] [] (fun r H' => ∃ z : Int, r = .p (.i .i64 z) ∧ decide (0 ≤ z) = s.contains c) := by
  refine call214 (by simp) ?_
  simp only [go_sem, Nat.reduceEqDiff, reduceIte, ↓reduceIte, Nat.reduceAdd, Z0, Z1, Z2, Z3, Z4, Z5, Nat.reduceLT, Z6, Z7, Int.reduceEq, Z8, Z9, Nat.reduceLeDiff, Za, Zb, Zc, Zd, Ze, Zf, bytesOf, Zg, Zh, Zi, Zj, Zk, Zl, Int.reduceLT, Int.reduceLE, Zm, Int.reduceToNat, Zn, Zo, Zp, Int.reduceAdd, Zq, Zr, mc214, mr214]
  refine (index1 s hs c).mono ?_
  rintro r H' ⟨z, rfl, hz⟩
  simp only [go_sem, Nat.reduceEqDiff, reduceIte, ↓reduceIte, Nat.reduceAdd, Z0, Z1, Z2, Z3, Z4, Z5, Nat.reduceLT, Z6, Z7, Int.reduceEq, Z8, Z9, Nat.reduceLeDiff, Za, Zb, Zc, Zd, Ze, Zf, bytesOf, Zg, Zh, Zi, Zj, Zk, Zl, Int.reduceLT, Int.reduceLE, Zm, Int.reduceToNat, Zn, Zo, Zp, Int.reduceAdd, Zq, Zr]
  exact ⟨z, rfl, hz⟩

theorem contains1 (s : List UInt8) (hs : s.length ≤ maxL) (c : UInt8) : ACall Try.prog 169 [.p (.s s), .p (.s [c])] [] (fun r H' => r = .p (.b (s.contains c))) := by
  refine call169 (by simp) ?_
  simp only [go_sem, Nat.reduceEqDiff, reduceIte, ↓reduceIte, Nat.reduceAdd, Z0, Z1, Z2, Z3, Z4, Z5, Nat.reduceLT, Z6, Z7, Int.reduceEq, Z8, Z9, Nat.reduceLeDiff, Za, Zb, Zc, Zd, Ze, Zf, bytesOf, Zg, Zh, Zi, Zj, Zk, Zl, Int.reduceLT, Int.reduceLE, Zm, Int.reduceToNat, Zn, Zo, Zp, Int.reduceAdd, Zq, Zr, mc169, mr169]
  refine (index s hs c).mono ?_
  rintro r H' ⟨z, rfl, hz⟩
  simp only [go_sem, Nat.reduceEqDiff, reduceIte, ↓reduceIte, Nat.reduceAdd, Z0, Z1, Z2, Z3, Z4, Z5, Nat.reduceLT, Z6, Z7, Int.reduceEq, Z8, Z9, Nat.reduceLeDiff, Za, Zb, Zc, Zd, Ze, Zf, bytesOf, Zg, Zh, Zi, Zj, Zk, Zl, Int.reduceLT, Int.reduceLE, Zm, Int.reduceToNat, Zn, Zo, Zp, Int.reduceAdd, Zq, Zr, hz]
theorem contains_any (s : List UInt8) (hs : s.length ≤ maxL) (c : UInt8) {H : List AO} : ACall Try.prog 169 [.p (.s s), .p (.s [c])] H (fun r H' => r = .p (.b (s.contains c)) ∧ H' = H) :=
  (acall_lend (contains1 s hs c) (fun r H' h => by subst h; exact grnd_b _) (lentAll_cons (.pure _) (lentAll_cons (.pure _) (lentAll_nil _)))).mono fun r H' ⟨h1, _, h2⟩ => ⟨h2, h1⟩
end Go.Proofs.Ytmbggdfceecojaa.Cd

/- Right codes: one instruction, by the program. -/
set_option linter.all false
namespace Go.Proofs.Ytmbggdfceecojaa.Cd
open Go.AM Mc Ho

def wantsR (w : Option (List UInt8)) : AV := match w with | some w => .tup [.p (.s w), .p (.b true)] | none => .tup [.p (.s []), .p (.b false)]

set_option maxHeartbeats 4000000 in
set_option maxRecDepth 100000 in
theorem wants (x : InsD) : ACall Try.prog 167 [.st (x.cells.map .p)] [] (fun r H' => r = wantsR (wantsD x)) := by
  refine call167 (by simp) ?_
  simp only [go_sem, Nat.reduceEqDiff, reduceIte, ↓reduceIte, Nat.reduceAdd, Z0, Z1, Z2, Z3, Z4, Z5, Nat.reduceLT, Z6, Z7, Int.reduceEq, Z8, Z9, Nat.reduceLeDiff, Za, Zb, Zc, Zd, Ze, Zf, bytesOf, Zg, Zh, Zi, Zj, Zk, Zl, Int.reduceLT, Int.reduceLE, Zm, Int.reduceToNat, Zn, Zo, Zp, Int.reduceAdd, Zq, Zr, mc167, mr167, InsD.cells]
  repeat' (refine condK_split _ (fun hd => ?_) (fun hd => ?_) <;> simp only [go_sem, Nat.reduceEqDiff, reduceIte, ↓reduceIte, Nat.reduceAdd, Z0, Z1, Z2, Z3, Z4, Z5, Nat.reduceLT, Z6, Z7, Int.reduceEq, Z8, Z9, Nat.reduceLeDiff, Za, Zb, Zc, Zd, Ze, Zf, bytesOf, Zg, Zh, Zi, Zj, Zk, Zl, Int.reduceLT, Int.reduceLE, Zm, Int.reduceToNat, Zn, Zo, Zp, Int.reduceAdd, Zq, Zr, hd])
  all_goals simp only [decide_eq_false_iff_not, decide_eq_true_eq, Bool.not_eq_true', Bool.not_eq_false', Bool.not_eq_true, Bool.not_eq_false] at *
  all_goals simp [wantsD, wantsR, opW, *]

theorem wantsR_grnd (w) : Grnd (wantsR w) := by
  cases w with
  | none => exact grnd_tup _ (by simp; exact ⟨grnd_s _, grnd_b _⟩)
  | some w => exact grnd_tup _ (by simp; exact ⟨grnd_s _, grnd_b _⟩)
theorem wants_any (x : InsD) {H : List AO} : ACall Try.prog 167 [.st (x.cells.map .p)] H (fun r H' => r = wantsR (wantsD x) ∧ H' = H) :=
  (acall_lend (wants x) (fun r H' h => by subst h; exact wantsR_grnd _) (lentAll_cons (ins_lent x) (lentAll_nil _))).mono fun r H' ⟨h1, _, h2⟩ => ⟨h2, h1⟩

theorem hasC {w : List UInt8} (hw : w.length ≤ maxL) (c : UInt8) {H : List AO} {j : Nat} (hj : H[j]? = some (.var [.p (.s w)])) : ACall Try.prog 168 [.p (.s [c]), .ptr j 0] H (fun r H' => r = .p (.b (w.contains c)) ∧ H' = H) := by
  refine call168 (by simp) ?_
  simp only [go_sem, Nat.reduceEqDiff, reduceIte, ↓reduceIte, Nat.reduceAdd, Z0, Z1, Z2, Z3, Z4, Z5, Nat.reduceLT, Z6, Z7, Int.reduceEq, Z8, Z9, Nat.reduceLeDiff, Za, Zb, Zc, Zd, Ze, Zf, bytesOf, Zg, Zh, Zi, Zj, Zk, Zl, Int.reduceLT, Int.reduceLE, Zm, Int.reduceToNat, Zn, Zo, Zp, Int.reduceAdd, Zq, Zr, mc168, mr168, hj]
  refine (contains_any w hw c).mono ?_
  rintro r H' ⟨rfl, rfl⟩
  simp only [go_sem, Nat.reduceEqDiff, reduceIte, ↓reduceIte, Nat.reduceAdd, Z0, Z1, Z2, Z3, Z4, Z5, Nat.reduceLT, Z6, Z7, Int.reduceEq, Z8, Z9, Nat.reduceLeDiff, Za, Zb, Zc, Zd, Ze, Zf, bytesOf, Zg, Zh, Zi, Zj, Zk, Zl, Int.reduceLT, Int.reduceLE, Zm, Int.reduceToNat, Zn, Zo, Zp, Int.reduceAdd, Zq, Zr]

def regD (h : Bool) (v : Int) : Bool := (h && inD v 0 15) || decide (v = 0)

theorem regC {w : List UInt8} (hw : w.length ≤ maxL) (c : UInt8) (v : Int) {H : List AO} {j k : Nat} (hj : H[j]? = some (.var [.p (.s w)])) (hk : H[k]? = some (.var [.clo 168 [.ptr j 0]])) :
    ACall Try.prog 170 [.p (.s [c]), .p (.i .i64 v), .ptr k 0] H (fun r H' => r = .p (.b (regD (w.contains c) v)) ∧ H' = H) := by
  refine call170 (by simp) ?_
  simp only [go_sem, Nat.reduceEqDiff, reduceIte, ↓reduceIte, Nat.reduceAdd, Z0, Z1, Z2, Z3, Z4, Z5, Nat.reduceLT, Z6, Z7, Int.reduceEq, Z8, Z9, Nat.reduceLeDiff, Za, Zb, Zc, Zd, Ze, Zf, bytesOf, Zg, Zh, Zi, Zj, Zk, Zl, Int.reduceLT, Int.reduceLE, Zm, Int.reduceToNat, Zn, Zo, Zp, Int.reduceAdd, Zq, Zr, mc170, mr170, hk]
  refine (hasC hw c hj).mono ?_
  rintro r H' ⟨rfl, rfl⟩
  simp only [go_sem, Nat.reduceEqDiff, reduceIte, ↓reduceIte, Nat.reduceAdd, Z0, Z1, Z2, Z3, Z4, Z5, Nat.reduceLT, Z6, Z7, Int.reduceEq, Z8, Z9, Nat.reduceLeDiff, Za, Zb, Zc, Zd, Ze, Zf, bytesOf, Zg, Zh, Zi, Zj, Zk, Zl, Int.reduceLT, Int.reduceLE, Zm, Int.reduceToNat, Zn, Zo, Zp, Int.reduceAdd, Zq, Zr]
  refine condK_split _ (fun h1 => ?_) (fun h1 => ?_)
  · simp only [go_sem, Nat.reduceEqDiff, reduceIte, ↓reduceIte, Nat.reduceAdd, Z0, Z1, Z2, Z3, Z4, Z5, Nat.reduceLT, Z6, Z7, Int.reduceEq, Z8, Z9, Nat.reduceLeDiff, Za, Zb, Zc, Zd, Ze, Zf, bytesOf, Zg, Zh, Zi, Zj, Zk, Zl, Int.reduceLT, Int.reduceLE, Zm, Int.reduceToNat, Zn, Zo, Zp, Int.reduceAdd, Zq, Zr, h1]
    refine (within_any _ _ _).mono ?_
    rintro r H' ⟨rfl, rfl⟩
    simp only [go_sem, Nat.reduceEqDiff, reduceIte, ↓reduceIte, Nat.reduceAdd, Z0, Z1, Z2, Z3, Z4, Z5, Nat.reduceLT, Z6, Z7, Int.reduceEq, Z8, Z9, Nat.reduceLeDiff, Za, Zb, Zc, Zd, Ze, Zf, bytesOf, Zg, Zh, Zi, Zj, Zk, Zl, Int.reduceLT, Int.reduceLE, Zm, Int.reduceToNat, Zn, Zo, Zp, Int.reduceAdd, Zq, Zr, h1]
    refine condK_split _ (fun h2 => ?_) (fun h2 => ?_)
    · simp only [go_sem, Nat.reduceEqDiff, reduceIte, ↓reduceIte, Nat.reduceAdd, Z0, Z1, Z2, Z3, Z4, Z5, Nat.reduceLT, Z6, Z7, Int.reduceEq, Z8, Z9, Nat.reduceLeDiff, Za, Zb, Zc, Zd, Ze, Zf, bytesOf, Zg, Zh, Zi, Zj, Zk, Zl, Int.reduceLT, Int.reduceLE, Zm, Int.reduceToNat, Zn, Zo, Zp, Int.reduceAdd, Zq, Zr, h2]
      simp [regD, h1, h2]
    · simp only [go_sem, Nat.reduceEqDiff, reduceIte, ↓reduceIte, Nat.reduceAdd, Z0, Z1, Z2, Z3, Z4, Z5, Nat.reduceLT, Z6, Z7, Int.reduceEq, Z8, Z9, Nat.reduceLeDiff, Za, Zb, Zc, Zd, Ze, Zf, bytesOf, Zg, Zh, Zi, Zj, Zk, Zl, Int.reduceLT, Int.reduceLE, Zm, Int.reduceToNat, Zn, Zo, Zp, Int.reduceAdd, Zq, Zr, h2]
      simp [regD, h1, h2]
  · simp only [go_sem, Nat.reduceEqDiff, reduceIte, ↓reduceIte, Nat.reduceAdd, Z0, Z1, Z2, Z3, Z4, Z5, Nat.reduceLT, Z6, Z7, Int.reduceEq, Z8, Z9, Nat.reduceLeDiff, Za, Zb, Zc, Zd, Ze, Zf, bytesOf, Zg, Zh, Zi, Zj, Zk, Zl, Int.reduceLT, Int.reduceLE, Zm, Int.reduceToNat, Zn, Zo, Zp, Int.reduceAdd, Zq, Zr, h1]
    simp [regD, h1]

theorem insOk_some {nI nS : Nat} {x : InsD} {w : List UInt8} (h : wantsD x = some w) : insOk nI nS x = (regD (w.contains 97) x.a && regD (w.contains 98) x.b && regD (w.contains 99) x.c && (w.contains 110 || decide (x.n = 0)) && (w.contains 116 || decide (x.text = [])) && extraD nI nS x) := by
  unfold insOk
  rw [h]
  simp only [zeroO, zeroD, regD]
  have key : ∀ (b : Bool) (v : Int), ((b && inD v 0 15) || decide (v = 0)) = (inD v 0 15 && (b || decide (v = 0))) := by
    intro b v
    by_cases hv : v = 0
    · subst hv; cases b <;> simp [inD]
    · cases b <;> simp [hv]
  rw [key, key, key]
  generalize inD x.a 0 15 = p1
  generalize inD x.b 0 15 = p2
  generalize inD x.c 0 15 = p3
  generalize (w.contains 97 || decide (x.a = 0)) = q1
  generalize (w.contains 98 || decide (x.b = 0)) = q2
  generalize (w.contains 99 || decide (x.c = 0)) = q3
  cases p1 <;> cases p2 <;> cases p3 <;> cases q1 <;> cases q2 <;> cases q3 <;> simp

def len4 : Option (List UInt8) → Prop
  | some w => w.length ≤ 4
  | none => True
theorem len4_ite {c : Prop} [Decidable c] {a b : Option (List UInt8)} (ha : len4 a) (hb : len4 b) : len4 (if c then a else b) := by
  by_cases h : c
  · rw [if_pos h]; exact ha
  · rw [if_neg h]; exact hb
theorem wants_len4 (x : InsD) : len4 (wantsD x) := by
  unfold wantsD opW
  repeat' (refine len4_ite ?_ ?_)
  all_goals first | exact trivial | (show List.length _ ≤ 4; simp)
theorem wants_len {x : InsD} {w : List UInt8} (h : wantsD x = some w) : w.length ≤ maxL := by
  have := wants_len4 x
  rw [h] at this
  unfold len4 at this
  unfold maxL; omega

set_option maxHeartbeats 4000000 in
set_option maxRecDepth 100000 in
theorem instrOk (x : InsD) (hx : x.text.length ≤ maxL) (c : CodeD) (hc : okCode c) : ACall Try.prog 132 [.st (c.cells.map .p), .st (x.cells.map .p)] [] (fun r H' => r = .p (.b (insOk c.ins.length c.starts.length x))) := by
  have hl1 : c.ins.length ≤ 9223372036854775807 := by have := hc.1.1; unfold maxL at this; omega
  have hl2 : c.starts.length ≤ 9223372036854775807 := by have := hc.2; unfold maxL at this; omega
  refine call132 (by simp) ?_
  simp only [go_sem, Nat.reduceEqDiff, reduceIte, ↓reduceIte, Nat.reduceAdd, Z0, Z1, Z2, Z3, Z4, Z5, Nat.reduceLT, Z6, Z7, Int.reduceEq, Z8, Z9, Nat.reduceLeDiff, Za, Zb, Zc, Zd, Ze, Zf, bytesOf, Zg, Zh, Zi, Zj, Zk, Zl, Int.reduceLT, Int.reduceLE, Zm, Int.reduceToNat, Zn, Zo, Zp, Int.reduceAdd, Zq, Zr, mc132, mr132, InsD.cells, CodeD.cells]
  rw [ins_eta]
  refine (wants_any x).mono ?_
  rintro r H' ⟨rfl, rfl⟩
  cases hw : wantsD x with
  | none =>
    simp only [go_sem, Nat.reduceEqDiff, reduceIte, ↓reduceIte, Nat.reduceAdd, Z0, Z1, Z2, Z3, Z4, Z5, Nat.reduceLT, Z6, Z7, Int.reduceEq, Z8, Z9, Nat.reduceLeDiff, Za, Zb, Zc, Zd, Ze, Zf, bytesOf, Zg, Zh, Zi, Zj, Zk, Zl, Int.reduceLT, Int.reduceLE, Zm, Int.reduceToNat, Zn, Zo, Zp, Int.reduceAdd, Zq, Zr, wantsR]
    simp [insOk, hw, zeroO]
  | some w =>
    have hwl := wants_len hw
    rw [insOk_some hw]
    simp only [go_sem, Nat.reduceEqDiff, reduceIte, ↓reduceIte, Nat.reduceAdd, Z0, Z1, Z2, Z3, Z4, Z5, Nat.reduceLT, Z6, Z7, Int.reduceEq, Z8, Z9, Nat.reduceLeDiff, Za, Zb, Zc, Zd, Ze, Zf, bytesOf, Zg, Zh, Zi, Zj, Zk, Zl, Int.reduceLT, Int.reduceLE, Zm, Int.reduceToNat, Zn, Zo, Zp, Int.reduceAdd, Zq, Zr, wantsR, InsD.cells]
    repeat' first
      | (refine condK_split _ (fun hd => ?_) (fun hd => ?_) <;> simp only [go_sem, Nat.reduceEqDiff, reduceIte, ↓reduceIte, Nat.reduceAdd, Z0, Z1, Z2, Z3, Z4, Z5, Nat.reduceLT, Z6, Z7, Int.reduceEq, Z8, Z9, Nat.reduceLeDiff, Za, Zb, Zc, Zd, Ze, Zf, bytesOf, Zg, Zh, Zi, Zj, Zk, Zl, Int.reduceLT, Int.reduceLE, Zm, Int.reduceToNat, Zn, Zo, Zp, Int.reduceAdd, Zq, Zr, hd, inss_len, ints_len])
      | (refine (regC hwl _ _ (j := 2) (k := 3) rfl rfl).mono ?_; rintro r H' ⟨rfl, rfl⟩; simp only [go_sem, Nat.reduceEqDiff, reduceIte, ↓reduceIte, Nat.reduceAdd, Z0, Z1, Z2, Z3, Z4, Z5, Nat.reduceLT, Z6, Z7, Int.reduceEq, Z8, Z9, Nat.reduceLeDiff, Za, Zb, Zc, Zd, Ze, Zf, bytesOf, Zg, Zh, Zi, Zj, Zk, Zl, Int.reduceLT, Int.reduceLE, Zm, Int.reduceToNat, Zn, Zo, Zp, Int.reduceAdd, Zq, Zr])
      | (refine (hasC hwl _ (j := 2) rfl).mono ?_; rintro r H' ⟨rfl, rfl⟩; simp only [go_sem, Nat.reduceEqDiff, reduceIte, ↓reduceIte, Nat.reduceAdd, Z0, Z1, Z2, Z3, Z4, Z5, Nat.reduceLT, Z6, Z7, Int.reduceEq, Z8, Z9, Nat.reduceLeDiff, Za, Zb, Zc, Zd, Ze, Zf, bytesOf, Zg, Zh, Zi, Zj, Zk, Zl, Int.reduceLT, Int.reduceLE, Zm, Int.reduceToNat, Zn, Zo, Zp, Int.reduceAdd, Zq, Zr])
      | (refine (within_any _ _ _).mono ?_; rintro r H' ⟨rfl, rfl⟩; simp only [go_sem, Nat.reduceEqDiff, reduceIte, ↓reduceIte, Nat.reduceAdd, Z0, Z1, Z2, Z3, Z4, Z5, Nat.reduceLT, Z6, Z7, Int.reduceEq, Z8, Z9, Nat.reduceLeDiff, Za, Zb, Zc, Zd, Ze, Zf, bytesOf, Zg, Zh, Zi, Zj, Zk, Zl, Int.reduceLT, Int.reduceLE, Zm, Int.reduceToNat, Zn, Zo, Zp, Int.reduceAdd, Zq, Zr, inss_len, ints_len])
      | (refine (plain_any _ hx).mono ?_; rintro r H' ⟨rfl, rfl⟩; simp only [go_sem, Nat.reduceEqDiff, reduceIte, ↓reduceIte, Nat.reduceAdd, Z0, Z1, Z2, Z3, Z4, Z5, Nat.reduceLT, Z6, Z7, Int.reduceEq, Z8, Z9, Nat.reduceLeDiff, Za, Zb, Zc, Zd, Ze, Zf, bytesOf, Zg, Zh, Zi, Zj, Zk, Zl, Int.reduceLT, Int.reduceLE, Zm, Int.reduceToNat, Zn, Zo, Zp, Int.reduceAdd, Zq, Zr])
      | (intro _; rw [wr64 (by omega) (by omega)])
      | intro _
    all_goals simp only [decide_eq_false_iff_not, decide_eq_true_eq, Bool.not_eq_true', Bool.not_eq_false', Bool.not_eq_true, Bool.not_eq_false] at *
    all_goals congr 2
    all_goals first | (simp [extraD, -List.contains_eq_mem, *]; done) | (simp_all [extraD]; done)
end Go.Proofs.Ytmbggdfceecojaa.Cd

/- Right codes: a whole code, by the program. -/
set_option linter.all false
namespace Go.Proofs.Ytmbggdfceecojaa.Cd
open Go.AM Mc Ho

theorem instrOk_any (x : InsD) (hx : x.text.length ≤ maxL) (c : CodeD) (hc : okCode c) {H : List AO} : ACall Try.prog 132 [.st (c.cells.map .p), .st (x.cells.map .p)] H (fun r H' => r = .p (.b (insOk c.ins.length c.starts.length x)) ∧ H' = H) :=
  (acall_lend (instrOk x hx c hc) (fun r H' h => by subst h; exact grnd_b _) (lentAll_cons (code_lent c) (lentAll_cons (ins_lent x) (lentAll_nil _)))).mono fun r H' ⟨h1, _, h2⟩ => ⟨h2, h1⟩

theorem code_take (c : CodeD) : takeN 2 (c.cells.map .p) = some (c.cells.map .p) := rfl
theorem fn131 (x : InsD) (hx : x.text.length ≤ maxL) (c : CodeD) (hc : okCode c) {H : List AO} {j : Nat} (hj : H[j]? = some (.var (c.cells.map .p))) :
    ACall Try.prog 131 [.st (x.cells.map .p), .ptr j 0] H (fun r H' => r = .p (.b (!insOk c.ins.length c.starts.length x)) ∧ ∃ G, H' = H ++ G) := by
  have hjl := (List.getElem?_eq_some_iff.1 hj).1
  refine call131 (by simp) ?_
  simp only [go_sem, Nat.reduceEqDiff, reduceIte, ↓reduceIte, Nat.reduceAdd, Z0, Z1, Z2, Z3, Z4, Z5, Nat.reduceLT, Z6, Z7, Int.reduceEq, Z8, Z9, Nat.reduceLeDiff, Za, Zb, Zc, Zd, Ze, Zf, bytesOf, Zg, Zh, Zi, Zj, Zk, Zl, Int.reduceLT, Int.reduceLE, Zm, Int.reduceToNat, Zn, Zo, Zp, Int.reduceAdd, Zq, Zr, mc131, mr131, InsD.cells, List.getElem?_append_left hjl, hj, code_take]
  rw [ins_eta]
  refine (instrOk_any x hx c hc).mono ?_
  rintro r H' ⟨rfl, rfl⟩
  simp only [go_sem, Nat.reduceEqDiff, reduceIte, ↓reduceIte, Nat.reduceAdd, Z0, Z1, Z2, Z3, Z4, Z5, Nat.reduceLT, Z6, Z7, Int.reduceEq, Z8, Z9, Nat.reduceLeDiff, Za, Zb, Zc, Zd, Ze, Zf, bytesOf, Zg, Zh, Zi, Zj, Zk, Zl, Int.reduceLT, Int.reduceLE, Zm, Int.reduceToNat, Zn, Zo, Zp, Int.reduceAdd, Zq, Zr]
  exact ⟨_, rfl⟩
theorem fn134 (x : Int) (c : CodeD) (hc : okCode c) {H : List AO} {j : Nat} (hj : H[j]? = some (.var (c.cells.map .p))) :
    ACall Try.prog 134 [.p (.i .i64 x), .ptr j 0] H (fun r H' => r = .p (.b (!placeOk c x)) ∧ ∃ G, H' = H ++ G) := by
  have hl1 : c.ins.length ≤ 9223372036854775807 := by have := hc.1.1; unfold maxL at this; omega
  refine call134 (by simp) ?_
  simp only [go_sem, Nat.reduceEqDiff, reduceIte, ↓reduceIte, Nat.reduceAdd, Z0, Z1, Z2, Z3, Z4, Z5, Nat.reduceLT, Z6, Z7, Int.reduceEq, Z8, Z9, Nat.reduceLeDiff, Za, Zb, Zc, Zd, Ze, Zf, bytesOf, Zg, Zh, Zi, Zj, Zk, Zl, Int.reduceLT, Int.reduceLE, Zm, Int.reduceToNat, Zn, Zo, Zp, Int.reduceAdd, Zq, Zr, mc134, mr134, hj, CodeD.cells, inss_len]
  intro _
  rw [wr64 (by omega) (by omega)]
  refine (within_any _ _ _).mono ?_
  rintro r H' ⟨rfl, rfl⟩
  simp only [go_sem, Nat.reduceEqDiff, reduceIte, ↓reduceIte, Nat.reduceAdd, Z0, Z1, Z2, Z3, Z4, Z5, Nat.reduceLT, Z6, Z7, Int.reduceEq, Z8, Z9, Nat.reduceLeDiff, Za, Zb, Zc, Zd, Ze, Zf, bytesOf, Zg, Zh, Zi, Zj, Zk, Zl, Int.reduceLT, Int.reduceLE, Zm, Int.reduceToNat, Zn, Zo, Zp, Int.reduceAdd, Zq, Zr]
  exact ⟨rfl, [], by simp⟩

/-- the first that passes a test, of instructions -/
theorem indexFn (l : List InsD) (hl : okIns l) (p : InsD → Bool) (f : Nat) (caps : List AV) (H : List AO)
    (hp : ∀ x ∈ l, ∀ G, ACall Try.prog f ([.st (x.cells.map .p)] ++ caps) (H ++ G) (fun r H' => r = .p (.b (p x)) ∧ ∃ G', H' = H ++ G ++ G')) :
    ACall Try.prog 166 [.p (.l (inss l)), .clo f caps] H (fun r H' => (∃ z : Int, r = .p (.i .i64 z) ∧ decide (0 ≤ z) = l.any p) ∧ ∃ G, H' = H ++ G) := by
  refine call166 (by simp) ?_
  simp only [go_sem, Nat.reduceEqDiff, reduceIte, ↓reduceIte, Nat.reduceAdd, Z0, Z1, Z2, Z3, Z4, Z5, Nat.reduceLT, Z6, Z7, Int.reduceEq, Z8, Z9, Nat.reduceLeDiff, Za, Zb, Zc, Zd, Ze, Zf, bytesOf, Zg, Zh, Zi, Zj, Zk, Zl, Int.reduceLT, Int.reduceLE, Zm, Int.reduceToNat, Zn, Zo, Zp, Int.reduceAdd, Zq, Zr, mc166, mr166, inss_len]
  intro _
  refine ⟨Nat × List AO, [0, 1, 4, 7, 8], fun x st => x.1 ≤ l.length ∧ (l.take x.1).all (fun y => !p y) = true ∧ st = ⟨[(0, .p (.l (inss l))), (1, .clo f caps), (4, .p (.i .i64 0)), (7, .p (.i .i64 l.length)), (8, .p (.i .i64 x.1))], [], H ++ x.2⟩, fun x => l.length - x.1, ⟨(0, []), ?_⟩, ?_⟩
  · simp only [go_sem, Nat.reduceEqDiff, reduceIte, ↓reduceIte, Nat.reduceAdd, Z0, Z1, Z2, Z3, Z4, Z5, Nat.reduceLT, Z6, Z7, Int.reduceEq, Z8, Z9, Nat.reduceLeDiff, Za, Zb, Zc, Zd, Ze, Zf, bytesOf, Zg, Zh, Zi, Zj, Zk, Zl, Int.reduceLT, Int.reduceLE, Zm, Int.reduceToNat, Zn, Zo, Zp, Int.reduceAdd, Zq, Zr]
    exact ⟨Nat.zero_le _, by simp⟩
  · rintro ⟨i, G⟩ st ⟨hi, ht, rfl⟩
    simp only at hi ht
    simp only [go_sem, Nat.reduceEqDiff, reduceIte, ↓reduceIte, Nat.reduceAdd, Z0, Z1, Z2, Z3, Z4, Z5, Nat.reduceLT, Z6, Z7, Int.reduceEq, Z8, Z9, Nat.reduceLeDiff, Za, Zb, Zc, Zd, Ze, Zf, bytesOf, Zg, Zh, Zi, Zj, Zk, Zl, Int.reduceLT, Int.reduceLE, Zm, Int.reduceToNat, Zn, Zo, Zp, Int.reduceAdd, Zq, Zr]
    refine condK_split _ (fun hc => ?_) (fun hc => ?_)
    · have hil : i < l.length := by simpa using hc
      simp only [go_sem, Nat.reduceEqDiff, reduceIte, ↓reduceIte, Nat.reduceAdd, Z0, Z1, Z2, Z3, Z4, Z5, Nat.reduceLT, Z6, Z7, Int.reduceEq, Z8, Z9, Nat.reduceLeDiff, Za, Zb, Zc, Zd, Ze, Zf, bytesOf, Zg, Zh, Zi, Zj, Zk, Zl, Int.reduceLT, Int.reduceLE, Zm, Int.reduceToNat, Zn, Zo, Zp, Int.reduceAdd, Zq, Zr, inss_at _ hil, ins_clen, ins_take]
      refine (hp _ (List.getElem_mem hil) G).mono ?_
      rintro r H' ⟨rfl, G', rfl⟩
      simp only [go_sem, Nat.reduceEqDiff, reduceIte, ↓reduceIte, Nat.reduceAdd, Z0, Z1, Z2, Z3, Z4, Z5, Nat.reduceLT, Z6, Z7, Int.reduceEq, Z8, Z9, Nat.reduceLeDiff, Za, Zb, Zc, Zd, Ze, Zf, bytesOf, Zg, Zh, Zi, Zj, Zk, Zl, Int.reduceLT, Int.reduceLE, Zm, Int.reduceToNat, Zn, Zo, Zp, Int.reduceAdd, Zq, Zr]
      refine condK_split _ (fun hd => ?_) (fun hd => ?_)
      · simp only [go_sem, Nat.reduceEqDiff, reduceIte, ↓reduceIte, Nat.reduceAdd, Z0, Z1, Z2, Z3, Z4, Z5, Nat.reduceLT, Z6, Z7, Int.reduceEq, Z8, Z9, Nat.reduceLeDiff, Za, Zb, Zc, Zd, Ze, Zf, bytesOf, Zg, Zh, Zi, Zj, Zk, Zl, Int.reduceLT, Int.reduceLE, Zm, Int.reduceToNat, Zn, Zo, Zp, Int.reduceAdd, Zq, Zr]
        refine ⟨⟨i, rfl, ?_⟩, G ++ G', rfl⟩
        have : l.any p = true := List.any_eq_true.2 ⟨_, List.getElem_mem hil, hd⟩
        rw [this]; simp
      · simp only [go_sem, Nat.reduceEqDiff, reduceIte, ↓reduceIte, Nat.reduceAdd, Z0, Z1, Z2, Z3, Z4, Z5, Nat.reduceLT, Z6, Z7, Int.reduceEq, Z8, Z9, Nat.reduceLeDiff, Za, Zb, Zc, Zd, Ze, Zf, bytesOf, Zg, Zh, Zi, Zj, Zk, Zl, Int.reduceLT, Int.reduceLE, Zm, Int.reduceToNat, Zn, Zo, Zp, Int.reduceAdd, Zq, Zr]
        refine ⟨(i + 1, G ++ G'), ⟨hil, all_take (p := fun y => !p y) hil ht (by simp [hd]), ?_⟩, by simp; omega⟩
        rw [wr1 hil hl.1]
    · have hil : i = l.length := by simp at hc; omega
      subst hil
      rw [List.take_length] at ht
      simp only [go_sem, Nat.reduceEqDiff, reduceIte, ↓reduceIte, Nat.reduceAdd, Z0, Z1, Z2, Z3, Z4, Z5, Nat.reduceLT, Z6, Z7, Int.reduceEq, Z8, Z9, Nat.reduceLeDiff, Za, Zb, Zc, Zd, Ze, Zf, bytesOf, Zg, Zh, Zi, Zj, Zk, Zl, Int.reduceLT, Int.reduceLE, Zm, Int.reduceToNat, Zn, Zo, Zp, Int.reduceAdd, Zq, Zr]
      refine ⟨⟨-1, rfl, ?_⟩, G, rfl⟩
      have : l.any p = false := by
        rw [List.any_eq_false]; intro y hy
        have := List.all_eq_true.1 ht y hy
        simpa using this
      rw [this]; rfl

theorem indexFnI (l : List Int) (hl : l.length ≤ maxL) (p : Int → Bool) (f : Nat) (caps : List AV) (H : List AO)
    (hp : ∀ x ∈ l, ∀ G, ACall Try.prog f ([.p (.i .i64 x)] ++ caps) (H ++ G) (fun r H' => r = .p (.b (p x)) ∧ ∃ G', H' = H ++ G ++ G')) :
    ACall Try.prog 172 [.p (.l (ints l)), .clo f caps] H (fun r H' => (∃ z : Int, r = .p (.i .i64 z) ∧ decide (0 ≤ z) = l.any p) ∧ ∃ G, H' = H ++ G) := by
  refine call172 (by simp) ?_
  simp only [go_sem, Nat.reduceEqDiff, reduceIte, ↓reduceIte, Nat.reduceAdd, Z0, Z1, Z2, Z3, Z4, Z5, Nat.reduceLT, Z6, Z7, Int.reduceEq, Z8, Z9, Nat.reduceLeDiff, Za, Zb, Zc, Zd, Ze, Zf, bytesOf, Zg, Zh, Zi, Zj, Zk, Zl, Int.reduceLT, Int.reduceLE, Zm, Int.reduceToNat, Zn, Zo, Zp, Int.reduceAdd, Zq, Zr, mc172, mr172, ints_len]
  intro _
  refine ⟨Nat × List AO, [0, 1, 4, 7, 8], fun x st => x.1 ≤ l.length ∧ (l.take x.1).all (fun y => !p y) = true ∧ st = ⟨[(0, .p (.l (ints l))), (1, .clo f caps), (4, .p (.i .i64 0)), (7, .p (.i .i64 l.length)), (8, .p (.i .i64 x.1))], [], H ++ x.2⟩, fun x => l.length - x.1, ⟨(0, []), ?_⟩, ?_⟩
  · simp only [go_sem, Nat.reduceEqDiff, reduceIte, ↓reduceIte, Nat.reduceAdd, Z0, Z1, Z2, Z3, Z4, Z5, Nat.reduceLT, Z6, Z7, Int.reduceEq, Z8, Z9, Nat.reduceLeDiff, Za, Zb, Zc, Zd, Ze, Zf, bytesOf, Zg, Zh, Zi, Zj, Zk, Zl, Int.reduceLT, Int.reduceLE, Zm, Int.reduceToNat, Zn, Zo, Zp, Int.reduceAdd, Zq, Zr]
    exact ⟨Nat.zero_le _, by simp⟩
  · rintro ⟨i, G⟩ st ⟨hi, ht, rfl⟩
    simp only at hi ht
    simp only [go_sem, Nat.reduceEqDiff, reduceIte, ↓reduceIte, Nat.reduceAdd, Z0, Z1, Z2, Z3, Z4, Z5, Nat.reduceLT, Z6, Z7, Int.reduceEq, Z8, Z9, Nat.reduceLeDiff, Za, Zb, Zc, Zd, Ze, Zf, bytesOf, Zg, Zh, Zi, Zj, Zk, Zl, Int.reduceLT, Int.reduceLE, Zm, Int.reduceToNat, Zn, Zo, Zp, Int.reduceAdd, Zq, Zr]
    refine condK_split _ (fun hc => ?_) (fun hc => ?_)
    · have hil : i < l.length := by simpa using hc
      simp only [go_sem, Nat.reduceEqDiff, reduceIte, ↓reduceIte, Nat.reduceAdd, Z0, Z1, Z2, Z3, Z4, Z5, Nat.reduceLT, Z6, Z7, Int.reduceEq, Z8, Z9, Nat.reduceLeDiff, Za, Zb, Zc, Zd, Ze, Zf, bytesOf, Zg, Zh, Zi, Zj, Zk, Zl, Int.reduceLT, Int.reduceLE, Zm, Int.reduceToNat, Zn, Zo, Zp, Int.reduceAdd, Zq, Zr, ints_at _ hil]
      refine (hp _ (List.getElem_mem hil) G).mono ?_
      rintro r H' ⟨rfl, G', rfl⟩
      simp only [go_sem, Nat.reduceEqDiff, reduceIte, ↓reduceIte, Nat.reduceAdd, Z0, Z1, Z2, Z3, Z4, Z5, Nat.reduceLT, Z6, Z7, Int.reduceEq, Z8, Z9, Nat.reduceLeDiff, Za, Zb, Zc, Zd, Ze, Zf, bytesOf, Zg, Zh, Zi, Zj, Zk, Zl, Int.reduceLT, Int.reduceLE, Zm, Int.reduceToNat, Zn, Zo, Zp, Int.reduceAdd, Zq, Zr]
      refine condK_split _ (fun hd => ?_) (fun hd => ?_)
      · simp only [go_sem, Nat.reduceEqDiff, reduceIte, ↓reduceIte, Nat.reduceAdd, Z0, Z1, Z2, Z3, Z4, Z5, Nat.reduceLT, Z6, Z7, Int.reduceEq, Z8, Z9, Nat.reduceLeDiff, Za, Zb, Zc, Zd, Ze, Zf, bytesOf, Zg, Zh, Zi, Zj, Zk, Zl, Int.reduceLT, Int.reduceLE, Zm, Int.reduceToNat, Zn, Zo, Zp, Int.reduceAdd, Zq, Zr]
        refine ⟨⟨i, rfl, ?_⟩, G ++ G', rfl⟩
        have : l.any p = true := List.any_eq_true.2 ⟨_, List.getElem_mem hil, hd⟩
        rw [this]; simp
      · simp only [go_sem, Nat.reduceEqDiff, reduceIte, ↓reduceIte, Nat.reduceAdd, Z0, Z1, Z2, Z3, Z4, Z5, Nat.reduceLT, Z6, Z7, Int.reduceEq, Z8, Z9, Nat.reduceLeDiff, Za, Zb, Zc, Zd, Ze, Zf, bytesOf, Zg, Zh, Zi, Zj, Zk, Zl, Int.reduceLT, Int.reduceLE, Zm, Int.reduceToNat, Zn, Zo, Zp, Int.reduceAdd, Zq, Zr]
        refine ⟨(i + 1, G ++ G'), ⟨hil, all_take (p := fun y => !p y) hil ht (by simp [hd]), ?_⟩, by simp; omega⟩
        rw [wr1 hil hl]
    · have hil : i = l.length := by simp at hc; omega
      subst hil
      rw [List.take_length] at ht
      simp only [go_sem, Nat.reduceEqDiff, reduceIte, ↓reduceIte, Nat.reduceAdd, Z0, Z1, Z2, Z3, Z4, Z5, Nat.reduceLT, Z6, Z7, Int.reduceEq, Z8, Z9, Nat.reduceLeDiff, Za, Zb, Zc, Zd, Ze, Zf, bytesOf, Zg, Zh, Zi, Zj, Zk, Zl, Int.reduceLT, Int.reduceLE, Zm, Int.reduceToNat, Zn, Zo, Zp, Int.reduceAdd, Zq, Zr]
      refine ⟨⟨-1, rfl, ?_⟩, G, rfl⟩
      have : l.any p = false := by
        rw [List.any_eq_false]; intro y hy
        have := List.all_eq_true.1 ht y hy
        simpa using this
      rw [this]; rfl

theorem any_not {α : Type} (l : List α) (p : α → Bool) : (l.any fun y => !p y) = !l.all p := by
  induction l with
  | nil => rfl
  | cons a l ih => simp only [List.any_cons, List.all_cons, ih, Bool.not_and]

theorem containsFn (c : CodeD) (hc : okCode c) (H : List AO) {j : Nat} (hj : H[j]? = some (.var (c.cells.map .p))) :
    ACall Try.prog 130 [.p (.l (inss c.ins)), .clo 131 [.ptr j 0]] H (fun r H' => r = .p (.b (!c.ins.all (insOk c.ins.length c.starts.length))) ∧ ∃ G, H' = H ++ G) := by
  have hjl := (List.getElem?_eq_some_iff.1 hj).1
  refine call130 (by simp) ?_
  simp only [go_sem, Nat.reduceEqDiff, reduceIte, ↓reduceIte, Nat.reduceAdd, Z0, Z1, Z2, Z3, Z4, Z5, Nat.reduceLT, Z6, Z7, Int.reduceEq, Z8, Z9, Nat.reduceLeDiff, Za, Zb, Zc, Zd, Ze, Zf, bytesOf, Zg, Zh, Zi, Zj, Zk, Zl, Int.reduceLT, Int.reduceLE, Zm, Int.reduceToNat, Zn, Zo, Zp, Int.reduceAdd, Zq, Zr, mc130, mr130]
  refine (indexFn c.ins hc.1 (fun x => !insOk c.ins.length c.starts.length x) 131 [.ptr j 0] H (fun x hx G => fn131 x (hc.1.2 x hx) c hc (by rw [List.getElem?_append_left hjl]; exact hj))).mono ?_
  rintro r H' ⟨⟨z, rfl, hz⟩, G, rfl⟩
  simp only [go_sem, Nat.reduceEqDiff, reduceIte, ↓reduceIte, Nat.reduceAdd, Z0, Z1, Z2, Z3, Z4, Z5, Nat.reduceLT, Z6, Z7, Int.reduceEq, Z8, Z9, Nat.reduceLeDiff, Za, Zb, Zc, Zd, Ze, Zf, bytesOf, Zg, Zh, Zi, Zj, Zk, Zl, Int.reduceLT, Int.reduceLE, Zm, Int.reduceToNat, Zn, Zo, Zp, Int.reduceAdd, Zq, Zr, hz]
  exact ⟨by rw [any_not], G, rfl⟩
theorem containsFnI (c : CodeD) (hc : okCode c) (H : List AO) {j : Nat} (hj : H[j]? = some (.var (c.cells.map .p))) :
    ACall Try.prog 133 [.p (.l (ints c.starts)), .clo 134 [.ptr j 0]] H (fun r H' => r = .p (.b (!c.starts.all (placeOk c))) ∧ ∃ G, H' = H ++ G) := by
  have hjl := (List.getElem?_eq_some_iff.1 hj).1
  refine call133 (by simp) ?_
  simp only [go_sem, Nat.reduceEqDiff, reduceIte, ↓reduceIte, Nat.reduceAdd, Z0, Z1, Z2, Z3, Z4, Z5, Nat.reduceLT, Z6, Z7, Int.reduceEq, Z8, Z9, Nat.reduceLeDiff, Za, Zb, Zc, Zd, Ze, Zf, bytesOf, Zg, Zh, Zi, Zj, Zk, Zl, Int.reduceLT, Int.reduceLE, Zm, Int.reduceToNat, Zn, Zo, Zp, Int.reduceAdd, Zq, Zr, mc133, mr133]
  refine (indexFnI c.starts hc.2 (fun x => !placeOk c x) 134 [.ptr j 0] H (fun x hx G => fn134 x c hc (by rw [List.getElem?_append_left hjl]; exact hj))).mono ?_
  rintro r H' ⟨⟨z, rfl, hz⟩, G, rfl⟩
  simp only [go_sem, Nat.reduceEqDiff, reduceIte, ↓reduceIte, Nat.reduceAdd, Z0, Z1, Z2, Z3, Z4, Z5, Nat.reduceLT, Z6, Z7, Int.reduceEq, Z8, Z9, Nat.reduceLeDiff, Za, Zb, Zc, Zd, Ze, Zf, bytesOf, Zg, Zh, Zi, Zj, Zk, Zl, Int.reduceLT, Int.reduceLE, Zm, Int.reduceToNat, Zn, Zo, Zp, Int.reduceAdd, Zq, Zr, hz]
  exact ⟨by rw [any_not], G, rfl⟩

theorem implCodeOk (c : CodeD) (hc : okCode c) : ACall Try.prog 74 [.st (c.cells.map .p)] [] (fun r H' => r = .p (.b (codeOk c))) := by
  have hl1 : c.ins.length ≤ 9223372036854775807 := by have := hc.1.1; unfold maxL at this; omega
  have hl2 : c.starts.length ≤ 9223372036854775807 := by have := hc.2; unfold maxL at this; omega
  refine call74 (by simp) ?_
  simp only [go_sem, Nat.reduceEqDiff, reduceIte, ↓reduceIte, Nat.reduceAdd, Z0, Z1, Z2, Z3, Z4, Z5, Nat.reduceLT, Z6, Z7, Int.reduceEq, Z8, Z9, Nat.reduceLeDiff, Za, Zb, Zc, Zd, Ze, Zf, bytesOf, Zg, Zh, Zi, Zj, Zk, Zl, Int.reduceLT, Int.reduceLE, Zm, Int.reduceToNat, Zn, Zo, Zp, Int.reduceAdd, Zq, Zr, mc74, mr74, CodeD.cells, inss_len, ints_len]
  intro _
  refine (within_any _ _ _).mono ?_
  rintro r H' ⟨rfl, rfl⟩
  simp only [go_sem, Nat.reduceEqDiff, reduceIte, ↓reduceIte, Nat.reduceAdd, Z0, Z1, Z2, Z3, Z4, Z5, Nat.reduceLT, Z6, Z7, Int.reduceEq, Z8, Z9, Nat.reduceLeDiff, Za, Zb, Zc, Zd, Ze, Zf, bytesOf, Zg, Zh, Zi, Zj, Zk, Zl, Int.reduceLT, Int.reduceLE, Zm, Int.reduceToNat, Zn, Zo, Zp, Int.reduceAdd, Zq, Zr]
  have hbad : inD c.ins.length 1 40000 = false ∨ decide ((400 : Int) < c.starts.length) = true → codeOk c = false := by
    intro h
    unfold codeOk
    rcases h with h | h
    · simp [h]
    · have : ¬ (c.starts.length : Int) ≤ 400 := by simp at h; omega
      simp [this]
  refine condK_split _ (fun h1 => ?_) (fun h1 => ?_)
  · simp only [go_sem, Nat.reduceEqDiff, reduceIte, ↓reduceIte, Nat.reduceAdd, Z0, Z1, Z2, Z3, Z4, Z5, Nat.reduceLT, Z6, Z7, Int.reduceEq, Z8, Z9, Nat.reduceLeDiff, Za, Zb, Zc, Zd, Ze, Zf, bytesOf, Zg, Zh, Zi, Zj, Zk, Zl, Int.reduceLT, Int.reduceLE, Zm, Int.reduceToNat, Zn, Zo, Zp, Int.reduceAdd, Zq, Zr, h1]
    rw [hbad (.inl (by simpa using h1))]
  · simp only [go_sem, Nat.reduceEqDiff, reduceIte, ↓reduceIte, Nat.reduceAdd, Z0, Z1, Z2, Z3, Z4, Z5, Nat.reduceLT, Z6, Z7, Int.reduceEq, Z8, Z9, Nat.reduceLeDiff, Za, Zb, Zc, Zd, Ze, Zf, bytesOf, Zg, Zh, Zi, Zj, Zk, Zl, Int.reduceLT, Int.reduceLE, Zm, Int.reduceToNat, Zn, Zo, Zp, Int.reduceAdd, Zq, Zr, h1, ints_len]
    intro _
    refine condK_split _ (fun h2 => ?_) (fun h2 => ?_)
    · simp only [go_sem, Nat.reduceEqDiff, reduceIte, ↓reduceIte, Nat.reduceAdd, Z0, Z1, Z2, Z3, Z4, Z5, Nat.reduceLT, Z6, Z7, Int.reduceEq, Z8, Z9, Nat.reduceLeDiff, Za, Zb, Zc, Zd, Ze, Zf, bytesOf, Zg, Zh, Zi, Zj, Zk, Zl, Int.reduceLT, Int.reduceLE, Zm, Int.reduceToNat, Zn, Zo, Zp, Int.reduceAdd, Zq, Zr]
      rw [hbad (.inr h2)]
    · simp only [go_sem, Nat.reduceEqDiff, reduceIte, ↓reduceIte, Nat.reduceAdd, Z0, Z1, Z2, Z3, Z4, Z5, Nat.reduceLT, Z6, Z7, Int.reduceEq, Z8, Z9, Nat.reduceLeDiff, Za, Zb, Zc, Zd, Ze, Zf, bytesOf, Zg, Zh, Zi, Zj, Zk, Zl, Int.reduceLT, Int.reduceLE, Zm, Int.reduceToNat, Zn, Zo, Zp, Int.reduceAdd, Zq, Zr]
      have hpos : 0 < c.ins.length := by simp [inD] at h1; omega
      have h1' : inD c.ins.length 1 40000 = true := by simpa using h1
      have h2' : (c.starts.length : Int) ≤ 400 := by simpa using h2
      refine (containsFn c hc _ (j := 0) rfl).mono ?_
      rintro r H' ⟨rfl, G, rfl⟩
      simp only [go_sem, Nat.reduceEqDiff, reduceIte, ↓reduceIte, Nat.reduceAdd, Z0, Z1, Z2, Z3, Z4, Z5, Nat.reduceLT, Z6, Z7, Int.reduceEq, Z8, Z9, Nat.reduceLeDiff, Za, Zb, Zc, Zd, Ze, Zf, bytesOf, Zg, Zh, Zi, Zj, Zk, Zl, Int.reduceLT, Int.reduceLE, Zm, Int.reduceToNat, Zn, Zo, Zp, Int.reduceAdd, Zq, Zr]
      refine condK_split _ (fun h3 => ?_) (fun h3 => ?_)
      · simp only [go_sem, Nat.reduceEqDiff, reduceIte, ↓reduceIte, Nat.reduceAdd, Z0, Z1, Z2, Z3, Z4, Z5, Nat.reduceLT, Z6, Z7, Int.reduceEq, Z8, Z9, Nat.reduceLeDiff, Za, Zb, Zc, Zd, Ze, Zf, bytesOf, Zg, Zh, Zi, Zj, Zk, Zl, Int.reduceLT, Int.reduceLE, Zm, Int.reduceToNat, Zn, Zo, Zp, Int.reduceAdd, Zq, Zr, h3]
        have h3' : c.ins.all (insOk c.ins.length c.starts.length) = false := by simpa using h3
        unfold codeOk
        rw [h3']; simp
      · simp only [go_sem, Nat.reduceEqDiff, reduceIte, ↓reduceIte, Nat.reduceAdd, Z0, Z1, Z2, Z3, Z4, Z5, Nat.reduceLT, Z6, Z7, Int.reduceEq, Z8, Z9, Nat.reduceLeDiff, Za, Zb, Zc, Zd, Ze, Zf, bytesOf, Zg, Zh, Zi, Zj, Zk, Zl, Int.reduceLT, Int.reduceLE, Zm, Int.reduceToNat, Zn, Zo, Zp, Int.reduceAdd, Zq, Zr, h3]
        have h3' : c.ins.all (insOk c.ins.length c.starts.length) = true := by simpa using h3
        refine (containsFnI c hc _ (j := 0) rfl).mono ?_
        rintro r H' ⟨rfl, G', rfl⟩
        simp only [go_sem, Nat.reduceEqDiff, reduceIte, ↓reduceIte, Nat.reduceAdd, Z0, Z1, Z2, Z3, Z4, Z5, Nat.reduceLT, Z6, Z7, Int.reduceEq, Z8, Z9, Nat.reduceLeDiff, Za, Zb, Zc, Zd, Ze, Zf, bytesOf, Zg, Zh, Zi, Zj, Zk, Zl, Int.reduceLT, Int.reduceLE, Zm, Int.reduceToNat, Zn, Zo, Zp, Int.reduceAdd, Zq, Zr, h3]
        refine condK_split _ (fun h4 => ?_) (fun h4 => ?_)
        · simp only [go_sem, Nat.reduceEqDiff, reduceIte, ↓reduceIte, Nat.reduceAdd, Z0, Z1, Z2, Z3, Z4, Z5, Nat.reduceLT, Z6, Z7, Int.reduceEq, Z8, Z9, Nat.reduceLeDiff, Za, Zb, Zc, Zd, Ze, Zf, bytesOf, Zg, Zh, Zi, Zj, Zk, Zl, Int.reduceLT, Int.reduceLE, Zm, Int.reduceToNat, Zn, Zo, Zp, Int.reduceAdd, Zq, Zr, h4]
          have h4' : c.starts.all (placeOk c) = false := by simpa using h4
          unfold codeOk
          rw [h4']; simp
        · simp only [go_sem, Nat.reduceEqDiff, reduceIte, ↓reduceIte, Nat.reduceAdd, Z0, Z1, Z2, Z3, Z4, Z5, Nat.reduceLT, Z6, Z7, Int.reduceEq, Z8, Z9, Nat.reduceLeDiff, Za, Zb, Zc, Zd, Ze, Zf, bytesOf, Zg, Zh, Zi, Zj, Zk, Zl, Int.reduceLT, Int.reduceLE, Zm, Int.reduceToNat, Zn, Zo, Zp, Int.reduceAdd, Zq, Zr, h4, inss_len]
          have h4' : c.starts.all (placeOk c) = true := by simpa using h4
          intro _
          rw [wr64 (by omega) (by omega)]
          have hlast : c.ins.length - 1 < c.ins.length := by omega
          have e1 : ((c.ins.length : Int) - 1) = ((c.ins.length - 1 : Nat) : Int) := by omega
          rw [e1]
          simp only [go_sem, Nat.reduceEqDiff, reduceIte, ↓reduceIte, Nat.reduceAdd, Z0, Z1, Z2, Z3, Z4, Z5, Nat.reduceLT, Z6, Z7, Int.reduceEq, Z8, Z9, Nat.reduceLeDiff, Za, Zb, Zc, Zd, Ze, Zf, bytesOf, Zg, Zh, Zi, Zj, Zk, Zl, Int.reduceLT, Int.reduceLE, Zm, Int.reduceToNat, Zn, Zo, Zp, Int.reduceAdd, Zq, Zr, inss_at _ hlast, InsD.cells]
          have hco : codeOk c = (decide (c.ins[c.ins.length - 1].op = 12) || decide (c.ins[c.ins.length - 1].op = 13) || decide (c.ins[c.ins.length - 1].op = 14) || decide (c.ins[c.ins.length - 1].op = 15)) := by
            unfold codeOk lastOk
            rw [h3', h4', h1', List.getElem?_eq_getElem hlast]
            simp [h2']
          rw [hco]
          repeat' (refine condK_split _ (fun hd => ?_) (fun hd => ?_) <;> simp only [go_sem, Nat.reduceEqDiff, reduceIte, ↓reduceIte, Nat.reduceAdd, Z0, Z1, Z2, Z3, Z4, Z5, Nat.reduceLT, Z6, Z7, Int.reduceEq, Z8, Z9, Nat.reduceLeDiff, Za, Zb, Zc, Zd, Ze, Zf, bytesOf, Zg, Zh, Zi, Zj, Zk, Zl, Int.reduceLT, Int.reduceLE, Zm, Int.reduceToNat, Zn, Zo, Zp, Int.reduceAdd, Zq, Zr, hd])
          all_goals simp_all
end Go.Proofs.Ytmbggdfceecojaa.Cd

/- The machine: what it does, in plain Lean. -/
set_option linter.all false
namespace Go.Proofs.Ytmbggdfceecojaa.Cd
open Go.AM Mc Ho

/-- words: a number, a string, a record, a block -/
inductive WD where
  | n (z : Int)
  | s (t : List UInt8)
  | r (k : Nat)
  | b (z : Int)
structure MD where
  regs : List WD
  slots : List WD
  heap : List (List WD)
  room : Int
  pc : Int
  inp : List Int
  out : List Int
  fin : Option (Int × Int)

def MD.g (m : MD) (i : Int) : WD := m.regs.getD i.toNat (.n 0)
def MD.p (m : MD) (i : Int) (w : WD) : MD := { m with regs := m.regs.set i.toNat w }
def MD.e (m : MD) (a b : Int) : MD := { m with fin := some (a, b) }

def arD (t : List UInt8) (a b : Int) : Int :=
  if t = [43] then wr .i64 (a + b) else if t = [45] then wr .i64 (a - b) else if t = [42] then wr .i64 (a * b) else if t = [61] then (if a = b then 1 else 0) else if t = [60] then (if a < b then 1 else 0) else 0

def roomS (n : Nat) : Int := (((n + 7) / 8 + 1 : Nat) : Int)

def catD (x : InsD) (m : MD) (t u : List UInt8) : MD :=
  if 500 < t.length + u.length then m.e 2 2
  else if m.room < roomS (t.length + u.length) then m.e 4 0
  else { m with room := m.room - roomS (t.length + u.length), regs := m.regs.set x.a.toNat (.s (t ++ u)) }

/-- an operation -/
def opD (x : InsD) (m : MD) : MD :=
  if x.text = [114, 101, 97, 100] then { m with inp := m.inp.tail, regs := m.regs.set x.a.toNat (.n (m.inp.headD (-1))) }
  else if x.text = [112, 114, 105, 110, 116] then match m.g x.b with
    | .n a => { m with out := m.out ++ [a] }
    | _ => m.e 0 0
  else if x.text = [115, 105, 122, 101] then match m.g x.b with
    | .s t => m.p x.a (.n t.length)
    | _ => m.e 0 0
  else if x.text = [94] then match m.g x.b, m.g x.c with
    | .s t, .s u => catD x m t u
    | _, _ => m.e 0 0
  else match m.g x.b, m.g x.c with
    | .n a, .n b => m.p x.a (.n (arD x.text a b))
    | _, _ => m.e 0 0

def newD (x : InsD) (m : MD) : MD :=
  if m.room < x.n + 1 then m.e 4 0
  else { m with room := m.room - (x.n + 1), heap := m.heap ++ [List.replicate x.n.toNat (.n 0)], regs := m.regs.set x.a.toNat (.r m.heap.length) }

def rowD (m : MD) (k : Nat) : List WD := m.heap.getD k []

def putMD (x : InsD) (m : MD) : MD := match m.g x.a with
  | .r k => if x.n < (rowD m k).length then { m with heap := m.heap.set k ((rowD m k).set x.n.toNat (m.g x.b)) } else m.e 0 0
  | _ => m.e 0 0
def getMD (x : InsD) (m : MD) : MD := match m.g x.b with
  | .r k => if x.n < (rowD m k).length then m.p x.a ((rowD m k).getD x.n.toNat (.n 0)) else m.e 0 0
  | _ => m.e 0 0

/-- what goes elsewhere -/
def goD (c : CodeD) (x : InsD) (m : MD) : MD :=
  if x.op = 11 then match m.g x.a with
    | .n z => if z = 0 then { m with pc := x.n } else m
    | _ => m.e 0 0
  else if x.op = 12 then { m with pc := x.n }
  else if x.op = 13 then match m.g x.a with
    | .b z => { m with pc := c.starts.getD z.toNat 0 }
    | _ => m.e 0 0
  else if x.op = 14 then match m.g x.a with
    | .n z => m.e 1 z
    | _ => m.e 0 0
  else m.e 2 x.n

def effD (c : CodeD) (x : InsD) (m : MD) : MD :=
  if x.op = 1 then m.p x.a (.n x.n)
  else if x.op = 2 then m.p x.a (.s x.text)
  else if x.op = 3 then m.p x.a (.b x.n)
  else if x.op = 4 then m.p x.a (m.g x.b)
  else if x.op = 5 then m.p x.a (m.slots.getD x.n.toNat (.n 0))
  else if x.op = 6 then { m with slots := m.slots.set x.n.toNat (m.g x.a) }
  else if x.op = 7 then opD x m
  else if x.op = 8 then newD x m
  else if x.op = 9 then putMD x m
  else if x.op = 10 then getMD x m
  else goD c x m

def insAt (c : CodeD) (i : Int) : InsD := c.ins.getD i.toNat ⟨0, 0, 0, 0, 0, []⟩
def stepD (c : CodeD) (m : MD) : MD := effD c (insAt c m.pc) { m with pc := m.pc + 1 }

/-- words that are right where there are so many records and blocks -/
def wOk (nh nb : Nat) : WD → Prop
  | .n _ => True
  | .s t => t.length ≤ 4000
  | .r k => k < nh
  | .b z => 0 ≤ z ∧ z < nb
theorem wOk.mono {nh nh' nb : Nat} (h : nh ≤ nh') {w : WD} (hw : wOk nh nb w) : wOk nh' nb w := by
  cases w <;> simp only [wOk] at hw ⊢ <;> omega

structure MOk (c : CodeD) (m : MD) : Prop where
  regs : m.regs.length = 16
  slots : m.slots.length = 64
  room0 : 0 ≤ m.room
  room : m.room + m.heap.length ≤ 100000
  wr : ∀ w ∈ m.regs, wOk m.heap.length c.starts.length w
  ws : ∀ w ∈ m.slots, wOk m.heap.length c.starts.length w
  wh : ∀ r ∈ m.heap, r.length ≤ 4000 ∧ ∀ w ∈ r, wOk m.heap.length c.starts.length w

structure InsOk (c : CodeD) (x : InsD) : Prop where
  ra : 0 ≤ x.a ∧ x.a < 16
  rb : 0 ≤ x.b ∧ x.b < 16
  rc : 0 ≤ x.c ∧ x.c < 16
  op : 1 ≤ x.op ∧ x.op ≤ 15
  str : x.op = 2 → x.text.length ≤ 4000
  lab : x.op = 3 → 0 ≤ x.n ∧ x.n < c.starts.length
  slot : x.op = 5 ∨ x.op = 6 → 0 ≤ x.n ∧ x.n < 64
  new : x.op = 8 → 1 ≤ x.n ∧ x.n ≤ 4000
  mem : x.op = 9 ∨ x.op = 10 → 0 ≤ x.n
  go : x.op = 11 ∨ x.op = 12 → 0 ≤ x.n ∧ x.n < c.ins.length
  text : x.op = 7 → x.text = [43] ∨ x.text = [45] ∨ x.text = [42] ∨ x.text = [61] ∨ x.text = [60] ∨ x.text = [94] ∨ x.text = [115, 105, 122, 101] ∨ x.text = [114, 101, 97, 100] ∨ x.text = [112, 114, 105, 110, 116]

theorem wantsD_none {x : InsD} (h : x.op < 1 ∨ 15 < x.op) : wantsD x = none := by
  unfold wantsD
  simp only [show ¬ x.op = 1 by omega, show ¬ x.op = 2 by omega, show ¬ x.op = 3 by omega, show ¬ x.op = 4 by omega, show ¬ x.op = 5 by omega, show ¬ x.op = 6 by omega, show ¬ x.op = 7 by omega, show ¬ x.op = 8 by omega, show ¬ x.op = 9 by omega, show ¬ x.op = 10 by omega, show ¬ x.op = 11 by omega, show ¬ x.op = 12 by omega, show ¬ x.op = 13 by omega, show ¬ x.op = 14 by omega, show ¬ x.op = 15 by omega, if_false]
theorem insOk_facts {c : CodeD} {x : InsD} (h : insOk c.ins.length c.starts.length x = true) : InsOk c x := by
  unfold insOk at h
  simp only [Bool.and_eq_true] at h
  obtain ⟨⟨⟨⟨h1, h2⟩, h3⟩, h4⟩, h5⟩ := h
  simp only [inD, Bool.and_eq_true, decide_eq_true_eq] at h1 h2 h3
  have hw : wantsD x ≠ none := by
    intro e
    rw [e] at h4
    simp [zeroO] at h4
  have hop : 1 ≤ x.op ∧ x.op ≤ 15 := by
    by_cases h : x.op < 1 ∨ 15 < x.op
    · exact absurd (wantsD_none h) hw
    · omega
  refine ⟨by omega, by omega, by omega, hop, ?_, ?_, ?_, ?_, ?_, ?_, ?_⟩
  · intro e; unfold extraD at h5; simp [e] at h5; omega
  · intro e; unfold extraD at h5; simp [e, inD] at h5; omega
  · rintro (e | e) <;> (unfold extraD at h5; simp [e, inD] at h5; omega)
  · intro e; unfold extraD at h5; simp [e, inD] at h5; omega
  · rintro (e | e) <;> (unfold extraD at h5; simp [e, inD] at h5; omega)
  · rintro (e | e) <;> (unfold extraD at h5; simp [e, inD] at h5; omega)
  · intro e
    unfold wantsD at hw
    simp only [e, Int.reduceEq, if_false, if_true] at hw
    by_cases e1 : x.text = [43]; · simp [e1]
    by_cases e2 : x.text = [45]; · simp [e2]
    by_cases e3 : x.text = [42]; · simp [e3]
    by_cases e4 : x.text = [61]; · simp [e4]
    by_cases e5 : x.text = [60]; · simp [e5]
    by_cases e6 : x.text = [94]; · simp [e6]
    by_cases e7 : x.text = [115, 105, 122, 101]; · simp [e7]
    by_cases e8 : x.text = [114, 101, 97, 100]; · simp [e8]
    by_cases e9 : x.text = [112, 114, 105, 110, 116]; · simp [e9]
    exfalso
    unfold opW at hw
    simp only [e1, e2, e3, e4, e5, e6, e7, e8, e9, if_false] at hw
    exact hw rfl

structure CFacts (c : CodeD) : Prop where
  len : 1 ≤ c.ins.length ∧ c.ins.length ≤ 40000
  slen : c.starts.length ≤ 400
  ins : ∀ x ∈ c.ins, InsOk c x
  st : ∀ z ∈ c.starts, 0 ≤ z ∧ z < c.ins.length
  last : ∀ x, c.ins[c.ins.length - 1]? = some x → x.op = 12 ∨ x.op = 13 ∨ x.op = 14 ∨ x.op = 15

theorem codeOk_facts {c : CodeD} (h : codeOk c = true) : CFacts c := by
  unfold codeOk at h
  simp only [Bool.and_eq_true] at h
  obtain ⟨⟨⟨⟨h1, h2⟩, h3⟩, h4⟩, h5⟩ := h
  simp only [inD, Bool.and_eq_true, decide_eq_true_eq] at h1 h2
  refine ⟨by omega, by omega, fun x hx => insOk_facts (List.all_eq_true.1 h3 x hx), fun z hz => ?_, fun x hx => ?_⟩
  · have := List.all_eq_true.1 h4 z hz
    simp only [placeOk, inD, Bool.and_eq_true, decide_eq_true_eq] at this
    omega
  · unfold lastOk at h5
    rw [hx] at h5
    simp at h5
    omega

theorem getD_mem {α : Type} {l : List α} {i : Nat} (d : α) (h : i < l.length) : l.getD i d ∈ l := by
  simp [List.getD_eq_getElem?_getD, List.getElem?_eq_getElem h]

theorem MOk.gOk {c : CodeD} {m : MD} (h : MOk c m) {i : Int} (h0 : 0 ≤ i) (h1 : i < 16) : wOk m.heap.length c.starts.length (m.g i) :=
  h.wr _ (getD_mem _ (by rw [h.regs]; omega))
theorem MOk.pOk {c : CodeD} {m : MD} (h : MOk c m) {i : Int} {w : WD} (hw : wOk m.heap.length c.starts.length w) : MOk c (m.p i w) where
  regs := by simp [MD.p, h.regs]
  slots := h.slots
  room0 := h.room0
  room := h.room
  wr := fun v hv => by
    rcases List.mem_or_eq_of_mem_set hv with h' | h'
    · exact h.wr _ h'
    · subst h'; exact hw
  ws := h.ws
  wh := h.wh
theorem MOk.eOk {c : CodeD} {m : MD} (h : MOk c m) (a b : Int) : MOk c (m.e a b) := ⟨h.regs, h.slots, h.room0, h.room, h.wr, h.ws, h.wh⟩
theorem MOk.pcOk {c : CodeD} {m : MD} (h : MOk c m) (a : Int) : MOk c { m with pc := a } := ⟨h.regs, h.slots, h.room0, h.room, h.wr, h.ws, h.wh⟩

theorem opD_ok {c : CodeD} {x : InsD} {m : MD} (h : MOk c m) (hx : InsOk c x) : MOk c (opD x m) := by
  have hb := h.gOk hx.rb.1 hx.rb.2
  have hc := h.gOk hx.rc.1 hx.rc.2
  unfold opD
  split
  · exact (h.pOk (i := x.a) (w := .n _) trivial : MOk c _) |> fun k => ⟨k.regs, k.slots, k.room0, k.room, k.wr, k.ws, k.wh⟩
  split
  · split
    · exact ⟨h.regs, h.slots, h.room0, h.room, h.wr, h.ws, h.wh⟩
    · exact h.eOk _ _
  split
  · split
    · exact h.pOk trivial
    · exact h.eOk _ _
  split
  · split
    · rename_i t u e1 e2
      unfold catD
      split
      · exact h.eOk _ _
      split
      · exact h.eOk _ _
      have k := h.pOk (i := x.a) (w := .s (t ++ u)) (by show (t ++ u).length ≤ 4000; rw [List.length_append]; omega)
      have h1 := h.room
      have h2 := h.room0
      have h3 : 0 ≤ roomS (t.length + u.length) := by unfold roomS; omega
      exact ⟨k.regs, k.slots, by simp only; omega, by simp only; omega, k.wr, k.ws, k.wh⟩
    · exact h.eOk _ _
  · split
    · exact h.pOk trivial
    · exact h.eOk _ _

theorem rowD_mem {m : MD} {k : Nat} (h : k < m.heap.length) : rowD m k ∈ m.heap := getD_mem _ h

theorem effD_ok {c : CodeD} {x : InsD} {m : MD} (h : MOk c m) (hx : InsOk c x) : MOk c (effD c x m) := by
  have ha := h.gOk hx.ra.1 hx.ra.2
  have hb := h.gOk hx.rb.1 hx.rb.2
  unfold effD
  split
  · exact h.pOk trivial
  split
  · exact h.pOk (hx.str ‹_›)
  split
  · exact h.pOk (hx.lab ‹_›)
  split
  · exact h.pOk hb
  split
  · have := hx.slot (.inl ‹_›)
    exact h.pOk (h.ws _ (getD_mem _ (by rw [h.slots]; omega)))
  split
  · exact ⟨h.regs, by simp [h.slots], h.room0, h.room, h.wr, fun v hv => by
      rcases List.mem_or_eq_of_mem_set hv with h' | h'
      · exact h.ws _ h'
      · subst h'; exact ha, h.wh⟩
  split
  · exact opD_ok h hx
  split
  · have hn := hx.new ‹_›
    unfold newD
    split
    · exact h.eOk _ _
    · have h1 := h.room
      have h2 := h.room0
      have hle : m.heap.length ≤ (m.heap ++ [List.replicate x.n.toNat (WD.n 0)]).length := by simp
      refine ⟨by simp [h.regs], h.slots, by simp only; omega, by simp; omega, fun v hv => ?_, fun v hv => (h.ws v hv).mono hle, fun r hr => ?_⟩
      · rcases List.mem_or_eq_of_mem_set hv with h' | h'
        · exact (h.wr v h').mono hle
        · subst h'; show m.heap.length < _; simp
      · rcases List.mem_append.1 hr with h' | h'
        · exact ⟨(h.wh r h').1, fun w hw => ((h.wh r h').2 w hw).mono hle⟩
        · rw [List.mem_singleton] at h'
          subst h'
          refine ⟨by simp; omega, fun w hw => ?_⟩
          rw [(List.mem_replicate.1 hw).2]; trivial
  split
  · have hn := hx.mem (.inl ‹_›)
    unfold putMD
    split
    · rename_i k e
      rw [e] at ha
      split
      · have hr := h.wh _ (rowD_mem ha)
        refine ⟨h.regs, h.slots, h.room0, by simp [h.room], by simpa using h.wr, by simpa using h.ws, fun r hr' => ?_⟩
        simp only [List.length_set]
        rcases List.mem_or_eq_of_mem_set hr' with h' | h'
        · exact h.wh r h'
        · subst h'
          refine ⟨by simpa using hr.1, fun w hw => ?_⟩
          rcases List.mem_or_eq_of_mem_set hw with h'' | h''
          · exact hr.2 w h''
          · subst h''; exact hb
      · exact h.eOk _ _
    · exact h.eOk _ _
  split
  · have hn := hx.mem (.inr ‹_›)
    unfold getMD
    split
    · rename_i k e
      rw [e] at hb
      split
      · have hr := h.wh _ (rowD_mem hb)
        exact h.pOk (hr.2 _ (getD_mem _ (by omega)))
      · exact h.eOk _ _
    · exact h.eOk _ _
  · unfold goD
    split
    · split
      · split
        · exact h.pcOk _
        · exact h
      · exact h.eOk _ _
    split
    · exact h.pcOk _
    split
    · split
      · exact h.pcOk _
      · exact h.eOk _ _
    split
    · split
      · exact h.eOk _ _
      · exact h.eOk _ _
    · exact h.eOk _ _

/-- where it stands, unless it has ended -/
def PcOk (c : CodeD) (m : MD) : Prop := m.fin = none → 0 ≤ m.pc ∧ m.pc < c.ins.length
theorem insAt_mem {c : CodeD} {i : Int} (h0 : 0 ≤ i) (h1 : i < c.ins.length) : insAt c i ∈ c.ins := getD_mem _ (by omega)
theorem insAt_get {c : CodeD} {i : Int} (h0 : 0 ≤ i) (h1 : i < c.ins.length) : c.ins[i.toNat]? = some (insAt c i) := by
  unfold insAt
  rw [List.getD_eq_getElem?_getD, List.getElem?_eq_getElem (by omega)]; rfl

theorem opD_pc {x : InsD} {m : MD} : (opD x m).pc = m.pc := by
  unfold opD catD MD.p MD.e
  repeat' split
  all_goals rfl

theorem goD_pc {c : CodeD} (hc : CFacts c) {x : InsD} {m : MD} (hm : MOk c m) (hx : InsOk c x) (h11 : 11 ≤ x.op) : (goD c x m).fin = none → ((goD c x m).pc = m.pc ∧ x.op = 11) ∨ (0 ≤ (goD c x m).pc ∧ (goD c x m).pc < c.ins.length) := by
  have ha := hm.gOk hx.ra.1 hx.ra.2
  unfold goD
  split
  · have := hx.go (.inl ‹_›)
    split
    · split
      · intro _; exact .inr this
      · intro _; exact .inl ⟨rfl, ‹_›⟩
    · intro h; cases h
  split
  · intro _; exact .inr (hx.go (.inr ‹_›))
  split
  · split
    · rename_i z e
      rw [e] at ha
      have ha' : 0 ≤ z ∧ z < c.starts.length := ha
      intro _
      exact .inr (hc.st _ (getD_mem _ (by omega)))
    · intro h; cases h
  split
  · split
    · intro h; cases h
    · intro h; cases h
  · intro h; cases h

theorem effD_pc {c : CodeD} (hc : CFacts c) {x : InsD} {m : MD} (hm : MOk c m) (hx : InsOk c x) : (effD c x m).fin = none → ((effD c x m).pc = m.pc ∧ x.op ≤ 11) ∨ (0 ≤ (effD c x m).pc ∧ (effD c x m).pc < c.ins.length) := by
  by_cases h : 11 ≤ x.op
  · have e : effD c x m = goD c x m := by
      unfold effD
      simp only [show ¬ x.op = 1 by omega, show ¬ x.op = 2 by omega, show ¬ x.op = 3 by omega, show ¬ x.op = 4 by omega, show ¬ x.op = 5 by omega, show ¬ x.op = 6 by omega, show ¬ x.op = 7 by omega, show ¬ x.op = 8 by omega, show ¬ x.op = 9 by omega, show ¬ x.op = 10 by omega, if_false]
    rw [e]
    intro hf
    rcases goD_pc hc hm hx h hf with ⟨h1, h2⟩ | h1
    · exact .inl ⟨h1, by omega⟩
    · exact .inr h1
  · intro _
    refine .inl ⟨?_, by omega⟩
    have h1 := hx.op
    have h2 : x.op = 1 ∨ x.op = 2 ∨ x.op = 3 ∨ x.op = 4 ∨ x.op = 5 ∨ x.op = 6 ∨ x.op = 7 ∨ x.op = 8 ∨ x.op = 9 ∨ x.op = 10 := by omega
    unfold effD
    rcases h2 with e | e | e | e | e | e | e | e | e | e <;> simp only [e, Int.reduceEq, if_true, if_false]
    all_goals first | rfl | exact opD_pc | skip
    · unfold newD; split <;> rfl
    · unfold putMD; split
      · split <;> rfl
      · rfl
    · unfold getMD; split
      · split <;> rfl
      · rfl

theorem stepD_ok {c : CodeD} (hc : CFacts c) {m : MD} (hm : MOk c m) (h0 : 0 ≤ m.pc) (h1 : m.pc < c.ins.length) : MOk c (stepD c m) ∧ PcOk c (stepD c m) := by
  have hx := hc.ins _ (insAt_mem h0 h1)
  refine ⟨effD_ok (hm.pcOk _) hx, fun hf => ?_⟩
  rcases effD_pc hc (hm.pcOk _) hx hf with ⟨h2, h3⟩ | h2
  · have e : (stepD c m).pc = m.pc + 1 := h2
    rw [e]
    refine ⟨by omega, ?_⟩
    by_cases h4 : m.pc + 1 < c.ins.length
    · exact h4
    · exfalso
      have e2 : c.ins.length - 1 = m.pc.toNat := by omega
      have := hc.last (insAt c m.pc) (by rw [e2]; exact insAt_get h0 h1)
      omega
  · exact h2

/-- so many steps, at most -/
def stepsD (c : CodeD) : Nat → MD → MD
  | 0, m => m
  | n + 1, m => if m.fin = none then stepsD c n (stepD c m) else m
def runD (c : CodeD) (n : Nat) (m : MD) : MD := if (stepsD c n m).fin = none then (stepsD c n m).e 3 0 else stepsD c n m
def startD (inp : List Int) (room : Int) : MD := ⟨List.replicate 16 (.n 0), List.replicate 64 (.n 0), [], room, 0, inp, [], none⟩
def runOk (c : CodeD) (inp : List Int) (room steps : Int) : Bool := codeOk c && decide (inp.length ≤ 200) && inD room 0 100000 && inD steps 0 300000
theorem startD_ok {c : CodeD} {inp : List Int} {room : Int} (h : inD room 0 100000 = true) : MOk c (startD inp room) := by
  simp only [inD, Bool.and_eq_true, decide_eq_true_eq] at h
  refine ⟨by simp [startD], by simp [startD], h.1, by simp [startD]; omega, fun w hw => ?_, fun w hw => ?_, fun r hr => by simp [startD] at hr⟩
  · rw [(List.mem_replicate.1 hw).2]; trivial
  · rw [(List.mem_replicate.1 hw).2]; trivial
theorem startD_pc {c : CodeD} (hc : CFacts c) {inp : List Int} {room : Int} : PcOk c (startD inp room) := fun _ => ⟨by simp [startD], by have := hc.len; simp [startD]; omega⟩
end Go.Proofs.Ytmbggdfceecojaa.Cd

/- THE SMALL CODES of functions 45 44 109 110 111 112 114 115 152 153 154 155 156 157 158 196 197 198 199 200 201 202 226 227 228, and their ties to the program (printed by wip/tools/mkties2.py). -/
set_option linter.all false
namespace Go.Proofs.Ytmbggdfceecojaa.Mc
open Go.AM
def zl45_0 : List AV := [.p (.i .i64 0), .p (.nl), .p (.nl), .p (.i .i64 0), .p (.i .i64 0), .p (.nl), .p (.b false)]
def zl45_1 : List AV := [.p (.np), .p (.nl), .p (.nl), .p (.nl), .p (.i .i64 0), .p (.i .i64 0)]
def zl45_2 : List AV := [.p (.nl), .p (.nl), .p (.nl), .p (.i .i64 0), .p (.i .i64 0)] ++ (List.replicate 80 [.p (.i .i64 0), .p (.i .i64 0), .p (.s []), .p (.nl)]).flatten ++ [.p (.i .i64 0), .p (.i .i64 0), .p (.nl), .p (.b false)]
def zl45_3 : List AV := [.p (.i .i64 0), .p (.i .i64 0), .p (.i .i64 0), .p (.i .i64 0), .p (.i .i64 0), .p (.s [])]
def zl45_4 : List AV := [.p (.i .i64 0), .p (.i .i64 0), .p (.s []), .p (.nl), .p (.b false), .p (.i .i64 0), .p (.i .i64 0), .p (.i .i64 0), .p (.s []), .p (.s []), .p (.i .i64 0), .p (.i .i64 0), .p (.s []), .p (.nl), .p (.nl), .p (.nl), .p (.nl), .p (.nl)]
/- impl.Step1 -/
/- spec.Step1 -/
/- spec.l15Run -/
/- impl.runOk -/
def lv110 : List Nat := [0, 1, 2, 3, 4, 8]
def mc110 : MC :=
.seq (.reg [
 ⟨.l 4, .box 2 (.l 0), none⟩,
 ⟨.l 8, .mv (.c (.p (.b false))), none⟩]) (
 .seq (.reg [
 ⟨.t 9, .ld true 2 (.l 4), none⟩,
 ⟨.t 10, .call 74 [.t 9], none⟩,
 ⟨.t 11, .mv (.t 10), none⟩,
 ⟨.t 12, .mv (.l 1), some ((.t 11), true)⟩,
 ⟨.t 13, .len false (.t 12), some ((.t 11), true)⟩,
 ⟨.t 14, .bin .leq (.t 13) (.c (.p (.i .i64 200))), some ((.t 11), true)⟩,
 ⟨.t 15, .pick (.t 11) (.t 14) (.c (.p (.b false))), none⟩,
 ⟨.t 16, .mv (.t 15), none⟩,
 ⟨.t 17, .mv (.l 2), some ((.t 16), true)⟩,
 ⟨.t 18, .call 124 [.t 17, .c (.p (.i .i64 0)), .c (.p (.i .i64 100000))], some ((.t 16), true)⟩,
 ⟨.t 19, .pick (.t 16) (.t 18) (.c (.p (.b false))), none⟩,
 ⟨.t 20, .mv (.t 19), none⟩,
 ⟨.t 21, .mv (.l 3), some ((.t 20), true)⟩,
 ⟨.t 22, .call 124 [.t 21, .c (.p (.i .i64 0)), .c (.p (.i .i64 300000))], some ((.t 20), true)⟩,
 ⟨.t 23, .pick (.t 20) (.t 22) (.c (.p (.b false))), none⟩,
 ⟨.l 8, .mv (.t 23), none⟩]) (
 .ret))
theorem mc110_eq : (Try.f110.body.map (compile lv110 Try.prog 24)) = some mc110 := by kernel_rfl
def mr110 : List MR := [.t 8]
theorem mr110_eq : cRess lv110 Try.prog Try.f110.results.toList = some mr110 := by kernel_rfl
theorem call110 {args : List AV} {H : List AO} {Q : AV → List AO → Prop} (hla : args.length ≤ 24) (h : wpm (ACall Try.prog) mc110 (finK mr110 Q) ⟨argEnv 0 args, [], H⟩) : ACall Try.prog 110 args H Q :=
  acall_mc (by kernel_rfl) Try.func110 mc110_eq Try.ntmps110 (by kernel_rfl) mr110_eq hla h
/- impl.ran -/
def lv111 : List Nat := [0, 1, 2, 3, 4, 5, 10, 11, 12, 26, 43]
def mc111 : MC :=
.seq (.reg [
 ⟨.l 5, .box 2 (.l 0), none⟩,
 ⟨.l 10, .mv (.c (.p (.np))), none⟩]) (
 .seq (.reg [
 ⟨.t 13, .ld true 2 (.l 5), none⟩,
 ⟨.t 14, .mv (.l 1), none⟩,
 ⟨.t 15, .mv (.l 2), none⟩,
 ⟨.t 16, .build zl45_2 [(0, 2, (.t 13)), (2, 1, (.t 14)), (3, 1, (.t 15))], none⟩,
 ⟨.t 17, .box 329 (.t 16), none⟩,
 ⟨.l 11, .mv (.t 17), none⟩]) (
 .seq (.blk 0 (
 .loop (
 .seq (.seq (.reg [
 ⟨.t 18, .mv (.l 3), none⟩,
 ⟨.t 19, .bin .gtr (.t 18) (.c (.p (.i .i64 0))), none⟩,
 ⟨.t 20, .mv (.t 19), none⟩,
 ⟨.t 21, .mv (.l 11), some ((.t 20), true)⟩,
 ⟨.t 22, .nilc (.t 21), some ((.t 20), true)⟩,
 ⟨.t 23, .fad 328 (.t 22), some ((.t 20), true)⟩,
 ⟨.t 24, .ld false 1 (.t 23), some ((.t 20), true)⟩,
 ⟨.t 25, .un .not (.t 24), some ((.t 20), true)⟩,
 ⟨.l 26, .pick (.t 20) (.t 25) (.c (.p (.b false))), none⟩]) (
 .cond (.l 26) (
 .skip) (
 .exit 0))) (
 .seq (.blk 1 (
 .seq (.reg [
 ⟨.t 29, .mv (.l 11), none⟩,
 ⟨.t 30, .nilc (.t 29), none⟩,
 ⟨.t 31, .fad 4 (.t 30), none⟩,
 ⟨.t 32, .ld false 1 (.t 31), none⟩,
 ⟨.l 12, .mv (.t 32), none⟩]) (
 .seq (.reg [
 ⟨.t 33, .mv (.l 11), none⟩,
 ⟨.t 34, .call 152 [.t 33], none⟩]) (
 .reg [
 ⟨.t 35, .mv (.l 4), none⟩,
 ⟨.t 36, .mv (.l 12), none⟩,
 ⟨.t 37, .mv (.l 11), none⟩,
 ⟨.t 38, .calv (.t 35) [.t 36, .t 37], none⟩])))) (
 .reg [
 ⟨.t 27, .mv (.l 3), none⟩,
 ⟨.t 28, .bin .sub (.t 27) (.c (.p (.i .i64 1))), none⟩,
 ⟨.l 3, .mv (.t 28), none⟩]))))) (
 .seq (.seq (.reg [
 ⟨.t 39, .mv (.l 11), none⟩,
 ⟨.t 40, .nilc (.t 39), none⟩,
 ⟨.t 41, .fad 328 (.t 40), none⟩,
 ⟨.t 42, .ld false 1 (.t 41), none⟩,
 ⟨.l 43, .un .not (.t 42), none⟩]) (
 .cond (.l 43) (
 .reg [
 ⟨.t 44, .mv (.l 11), none⟩,
 ⟨.t 45, .call 153 [.t 44, .c (.p (.i .i64 3)), .c (.p (.i .i64 0))], none⟩]) (
 .skip))) (
 .seq (.reg [
 ⟨.t 46, .mv (.l 11), none⟩,
 ⟨.l 10, .mv (.t 46), none⟩]) (
 .ret)))))
theorem mc111_eq : (Try.f111.body.map (compile lv111 Try.prog 47)) = some mc111 := by kernel_rfl
def mr111 : List MR := [.t 10]
theorem mr111_eq : cRess lv111 Try.prog Try.f111.results.toList = some mr111 := by kernel_rfl
theorem call111 {args : List AV} {H : List AO} {Q : AV → List AO → Prop} (hla : args.length ≤ 47) (h : wpm (ACall Try.prog) mc111 (finK mr111 Q) ⟨argEnv 0 args, [], H⟩) : ACall Try.prog 111 args H Q :=
  acall_mc (by kernel_rfl) Try.func111 mc111_eq Try.ntmps111 (by kernel_rfl) mr111_eq hla h
/- impl.Step1$1 -/
/- spec.l12Spends -/
def lv114 : List Nat := [0, 2, 7]
def mc114 : MC :=
.seq (.reg [
 ⟨.l 2, .mv (.c (.p (.b false))), none⟩]) (
 .seq (.seq (.reg [
 ⟨.t 3, .mv (.l 0), none⟩,
 ⟨.t 4, .nilc (.t 3), none⟩,
 ⟨.t 5, .fad 0 (.t 4), none⟩,
 ⟨.t 6, .ld false 1 (.t 5), none⟩,
 ⟨.l 7, .bin .eql (.t 6) (.c (.p (.i .i64 0))), none⟩]) (
 .cond (.l 7) (
 .seq (.reg [
 ⟨.t 8, .mv (.l 0), none⟩,
 ⟨.t 9, .call 154 [.t 8, .c (.p (.i .i64 3)), .c (.p (.i .i64 0))], none⟩]) (
 .seq (.reg [
 ⟨.l 2, .mv (.c (.p (.b false))), none⟩]) (
 .ret))) (
 .skip))) (
 .seq (.reg [
 ⟨.t 10, .mv (.l 0), none⟩,
 ⟨.t 11, .mv (.l 0), none⟩,
 ⟨.t 12, .nilc (.t 11), none⟩,
 ⟨.t 13, .fad 0 (.t 12), none⟩,
 ⟨.t 14, .ld false 1 (.t 13), none⟩,
 ⟨.t 15, .bin .sub (.t 14) (.c (.p (.i .i64 1))), none⟩,
 ⟨.t 16, .nilc (.t 10), none⟩,
 ⟨.t 17, .fad 0 (.t 16), none⟩,
 ⟨.no, .sto 1 (.t 17) (.t 15), none⟩]) (
 .seq (.reg [
 ⟨.l 2, .mv (.c (.p (.b true))), none⟩]) (
 .ret))))
theorem mc114_eq : (Try.f114.body.map (compile lv114 Try.prog 18)) = some mc114 := by kernel_rfl
def mr114 : List MR := [.t 2]
theorem mr114_eq : cRess lv114 Try.prog Try.f114.results.toList = some mr114 := by kernel_rfl
theorem call114 {args : List AV} {H : List AO} {Q : AV → List AO → Prop} (hla : args.length ≤ 18) (h : wpm (ACall Try.prog) mc114 (finK mr114 Q) ⟨argEnv 0 args, [], H⟩) : ACall Try.prog 114 args H Q :=
  acall_mc (by kernel_rfl) Try.func114 mc114_eq Try.ntmps114 (by kernel_rfl) mr114_eq hla h
/- spec.l15Does -/
def lv115 : List Nat := [0, 1, 2, 4, 5, 6, 13, 14, 26, 38, 50, 67, 84, 101, 106, 112, 139, 152, 179, 192, 219, 242, 245, 249, 260, 274, 285, 300]
def mc115 : MC :=
.seq (.reg [
 ⟨.l 4, .box 2 (.l 1), none⟩,
 ⟨.l 5, .box 6 (.l 2), none⟩]) (
 .seq (.reg [
 ⟨.t 7, .mv (.l 0), none⟩,
 ⟨.t 8, .nilc (.t 7), none⟩,
 ⟨.t 9, .fad 5 (.t 8), none⟩,
 ⟨.t 10, .ld false 1 (.t 9), none⟩,
 ⟨.t 11, .bin .add (.t 10) (.c (.p (.i .i64 1))), none⟩,
 ⟨.l 6, .mv (.t 11), none⟩]) (
 .seq (.seq (.reg [
 ⟨.t 12, .fad 0 (.l 5), none⟩,
 ⟨.l 13, .ld false 1 (.t 12), none⟩]) (
 .blk 0 (
 .seq (.reg [
 ⟨.t 15, .bin .eql (.l 13) (.c (.p (.i .i64 1))), none⟩,
 ⟨.l 14, .mv (.t 15), none⟩]) (
 .cond (.l 14) (
 .drw [
 ⟨.t 16, .mv (.l 0), none⟩,
 ⟨.t 17, .nilc (.t 16), none⟩,
 ⟨.t 18, .fad 1 (.t 17), none⟩,
 ⟨.t 19, .ld false 1 (.t 18), none⟩,
 ⟨.t 20, .fad 1 (.l 5), none⟩,
 ⟨.t 21, .ld false 1 (.t 20), none⟩,
 ⟨.t 22, .fad 4 (.l 5), none⟩,
 ⟨.t 23, .ld false 1 (.t 22), none⟩,
 ⟨.t 24, .build [.p (.i .i64 0), .p (.i .i64 0), .p (.s [])] [(1, 1, (.t 23))], none⟩] [
 ⟨.t 25, .ixs 3 (.t 19) (.t 21), none⟩,
 ⟨.no, .sto 3 (.t 25) (.t 24), none⟩]) (
 .seq (.reg [
 ⟨.t 27, .bin .eql (.l 13) (.c (.p (.i .i64 2))), none⟩,
 ⟨.l 26, .mv (.t 27), none⟩]) (
 .cond (.l 26) (
 .drw [
 ⟨.t 28, .mv (.l 0), none⟩,
 ⟨.t 29, .nilc (.t 28), none⟩,
 ⟨.t 30, .fad 1 (.t 29), none⟩,
 ⟨.t 31, .ld false 1 (.t 30), none⟩,
 ⟨.t 32, .fad 1 (.l 5), none⟩,
 ⟨.t 33, .ld false 1 (.t 32), none⟩,
 ⟨.t 34, .fad 5 (.l 5), none⟩,
 ⟨.t 35, .ld false 1 (.t 34), none⟩,
 ⟨.t 36, .build [.p (.i .i64 0), .p (.i .i64 0), .p (.s [])] [(0, 1, (.c (.p (.i .i64 1)))), (2, 1, (.t 35))], none⟩] [
 ⟨.t 37, .ixs 3 (.t 31) (.t 33), none⟩,
 ⟨.no, .sto 3 (.t 37) (.t 36), none⟩]) (
 .seq (.reg [
 ⟨.t 39, .bin .eql (.l 13) (.c (.p (.i .i64 3))), none⟩,
 ⟨.l 38, .mv (.t 39), none⟩]) (
 .cond (.l 38) (
 .drw [
 ⟨.t 40, .mv (.l 0), none⟩,
 ⟨.t 41, .nilc (.t 40), none⟩,
 ⟨.t 42, .fad 1 (.t 41), none⟩,
 ⟨.t 43, .ld false 1 (.t 42), none⟩,
 ⟨.t 44, .fad 1 (.l 5), none⟩,
 ⟨.t 45, .ld false 1 (.t 44), none⟩,
 ⟨.t 46, .fad 4 (.l 5), none⟩,
 ⟨.t 47, .ld false 1 (.t 46), none⟩,
 ⟨.t 48, .build [.p (.i .i64 0), .p (.i .i64 0), .p (.s [])] [(0, 1, (.c (.p (.i .i64 3)))), (1, 1, (.t 47))], none⟩] [
 ⟨.t 49, .ixs 3 (.t 43) (.t 45), none⟩,
 ⟨.no, .sto 3 (.t 49) (.t 48), none⟩]) (
 .seq (.reg [
 ⟨.t 51, .bin .eql (.l 13) (.c (.p (.i .i64 4))), none⟩,
 ⟨.l 50, .mv (.t 51), none⟩]) (
 .cond (.l 50) (
 .drw [
 ⟨.t 52, .mv (.l 0), none⟩,
 ⟨.t 53, .nilc (.t 52), none⟩,
 ⟨.t 54, .fad 1 (.t 53), none⟩,
 ⟨.t 55, .ld false 1 (.t 54), none⟩,
 ⟨.t 56, .fad 1 (.l 5), none⟩,
 ⟨.t 57, .ld false 1 (.t 56), none⟩,
 ⟨.t 58, .mv (.l 0), none⟩,
 ⟨.t 59, .nilc (.t 58), none⟩,
 ⟨.t 60, .fad 1 (.t 59), none⟩,
 ⟨.t 61, .ld false 1 (.t 60), none⟩,
 ⟨.t 62, .fad 2 (.l 5), none⟩,
 ⟨.t 63, .ld false 1 (.t 62), none⟩,
 ⟨.t 64, .ixs 3 (.t 61) (.t 63), none⟩,
 ⟨.t 65, .ld true 3 (.t 64), none⟩] [
 ⟨.t 66, .ixs 3 (.t 55) (.t 57), none⟩,
 ⟨.no, .sto 3 (.t 66) (.t 65), none⟩]) (
 .seq (.reg [
 ⟨.t 68, .bin .eql (.l 13) (.c (.p (.i .i64 5))), none⟩,
 ⟨.l 67, .mv (.t 68), none⟩]) (
 .cond (.l 67) (
 .drw [
 ⟨.t 69, .mv (.l 0), none⟩,
 ⟨.t 70, .nilc (.t 69), none⟩,
 ⟨.t 71, .fad 1 (.t 70), none⟩,
 ⟨.t 72, .ld false 1 (.t 71), none⟩,
 ⟨.t 73, .fad 1 (.l 5), none⟩,
 ⟨.t 74, .ld false 1 (.t 73), none⟩,
 ⟨.t 75, .mv (.l 0), none⟩,
 ⟨.t 76, .nilc (.t 75), none⟩,
 ⟨.t 77, .fad 2 (.t 76), none⟩,
 ⟨.t 78, .ld false 1 (.t 77), none⟩,
 ⟨.t 79, .fad 4 (.l 5), none⟩,
 ⟨.t 80, .ld false 1 (.t 79), none⟩,
 ⟨.t 81, .ixs 3 (.t 78) (.t 80), none⟩,
 ⟨.t 82, .ld true 3 (.t 81), none⟩] [
 ⟨.t 83, .ixs 3 (.t 72) (.t 74), none⟩,
 ⟨.no, .sto 3 (.t 83) (.t 82), none⟩]) (
 .seq (.reg [
 ⟨.t 85, .bin .eql (.l 13) (.c (.p (.i .i64 6))), none⟩,
 ⟨.l 84, .mv (.t 85), none⟩]) (
 .cond (.l 84) (
 .drw [
 ⟨.t 86, .mv (.l 0), none⟩,
 ⟨.t 87, .nilc (.t 86), none⟩,
 ⟨.t 88, .fad 2 (.t 87), none⟩,
 ⟨.t 89, .ld false 1 (.t 88), none⟩,
 ⟨.t 90, .fad 4 (.l 5), none⟩,
 ⟨.t 91, .ld false 1 (.t 90), none⟩,
 ⟨.t 92, .mv (.l 0), none⟩,
 ⟨.t 93, .nilc (.t 92), none⟩,
 ⟨.t 94, .fad 1 (.t 93), none⟩,
 ⟨.t 95, .ld false 1 (.t 94), none⟩,
 ⟨.t 96, .fad 1 (.l 5), none⟩,
 ⟨.t 97, .ld false 1 (.t 96), none⟩,
 ⟨.t 98, .ixs 3 (.t 95) (.t 97), none⟩,
 ⟨.t 99, .ld true 3 (.t 98), none⟩] [
 ⟨.t 100, .ixs 3 (.t 89) (.t 91), none⟩,
 ⟨.no, .sto 3 (.t 100) (.t 99), none⟩]) (
 .seq (.reg [
 ⟨.t 102, .bin .eql (.l 13) (.c (.p (.i .i64 7))), none⟩,
 ⟨.l 101, .mv (.t 102), none⟩]) (
 .cond (.l 101) (
 .reg [
 ⟨.t 103, .mv (.l 0), none⟩,
 ⟨.t 104, .ld true 6 (.l 5), none⟩,
 ⟨.t 105, .call 155 [.t 103, .t 104], none⟩]) (
 .seq (.reg [
 ⟨.t 107, .bin .eql (.l 13) (.c (.p (.i .i64 8))), none⟩,
 ⟨.l 106, .mv (.t 107), none⟩]) (
 .cond (.l 106) (
 .seq (.reg [
 ⟨.t 108, .mv (.l 0), none⟩,
 ⟨.t 109, .fad 4 (.l 5), none⟩,
 ⟨.t 110, .ld false 1 (.t 109), none⟩,
 ⟨.t 111, .bin .add (.t 110) (.c (.p (.i .i64 1))), none⟩,
 ⟨.l 112, .call 156 [.t 108, .t 111], none⟩]) (
 .cond (.l 112) (
 .seq (.drw [
 ⟨.t 113, .mv (.l 0), none⟩,
 ⟨.t 114, .mv (.l 0), none⟩,
 ⟨.t 115, .nilc (.t 114), none⟩,
 ⟨.t 116, .fad 3 (.t 115), none⟩,
 ⟨.t 117, .ld false 1 (.t 116), none⟩,
 ⟨.t 118, .fad 4 (.l 5), none⟩,
 ⟨.t 119, .ld false 1 (.t 118), none⟩,
 ⟨.t 120, .mks 3 32 [.p (.i .i64 0), .p (.i .i64 0), .p (.s [])] (.t 119) (.t 119), none⟩,
 ⟨.t 121, .bsl 1 [.p (.nl)] 1 [(0, (.t 120))], none⟩,
 ⟨.t 122, .appn 1 24 (.t 117) (.t 121), none⟩] [
 ⟨.t 123, .nilc (.t 113), none⟩,
 ⟨.t 124, .fad 3 (.t 123), none⟩,
 ⟨.no, .sto 1 (.t 124) (.t 122), none⟩]) (
 .drw [
 ⟨.t 125, .mv (.l 0), none⟩,
 ⟨.t 126, .nilc (.t 125), none⟩,
 ⟨.t 127, .fad 1 (.t 126), none⟩,
 ⟨.t 128, .ld false 1 (.t 127), none⟩,
 ⟨.t 129, .fad 1 (.l 5), none⟩,
 ⟨.t 130, .ld false 1 (.t 129), none⟩,
 ⟨.t 131, .mv (.l 0), none⟩,
 ⟨.t 132, .nilc (.t 131), none⟩,
 ⟨.t 133, .fad 3 (.t 132), none⟩,
 ⟨.t 134, .ld false 1 (.t 133), none⟩,
 ⟨.t 135, .lenq false (.t 134), none⟩,
 ⟨.t 136, .bin .sub (.t 135) (.c (.p (.i .i64 1))), none⟩,
 ⟨.t 137, .build [.p (.i .i64 0), .p (.i .i64 0), .p (.s [])] [(0, 1, (.c (.p (.i .i64 2)))), (1, 1, (.t 136))], none⟩] [
 ⟨.t 138, .ixs 3 (.t 128) (.t 130), none⟩,
 ⟨.no, .sto 3 (.t 138) (.t 137), none⟩])) (
 .skip))) (
 .seq (.reg [
 ⟨.t 140, .bin .eql (.l 13) (.c (.p (.i .i64 9))), none⟩,
 ⟨.l 139, .mv (.t 140), none⟩]) (
 .cond (.l 139) (
 .seq (.drw [
 ⟨.t 141, .mv (.l 0), none⟩,
 ⟨.t 142, .mv (.l 0), none⟩,
 ⟨.t 143, .nilc (.t 142), none⟩,
 ⟨.t 144, .fad 1 (.t 143), none⟩,
 ⟨.t 145, .ld false 1 (.t 144), none⟩,
 ⟨.t 146, .fad 1 (.l 5), none⟩,
 ⟨.t 147, .ld false 1 (.t 146), none⟩,
 ⟨.t 148, .ixs 3 (.t 145) (.t 147), none⟩,
 ⟨.t 149, .ld true 3 (.t 148), none⟩,
 ⟨.t 150, .fad 4 (.l 5), none⟩,
 ⟨.t 151, .ld false 1 (.t 150), none⟩] [
 ⟨.l 152, .call 157 [.t 141, .t 149, .t 151], none⟩]) (
 .cond (.l 152) (
 .drw [
 ⟨.t 153, .mv (.l 0), none⟩,
 ⟨.t 154, .nilc (.t 153), none⟩,
 ⟨.t 155, .fad 3 (.t 154), none⟩,
 ⟨.t 156, .ld false 1 (.t 155), none⟩,
 ⟨.t 157, .mv (.l 0), none⟩,
 ⟨.t 158, .nilc (.t 157), none⟩,
 ⟨.t 159, .fad 1 (.t 158), none⟩,
 ⟨.t 160, .ld false 1 (.t 159), none⟩,
 ⟨.t 161, .fad 1 (.l 5), none⟩,
 ⟨.t 162, .ld false 1 (.t 161), none⟩,
 ⟨.t 163, .ixs 3 (.t 160) (.t 162), none⟩,
 ⟨.t 164, .fad 1 (.t 163), none⟩,
 ⟨.t 165, .ld false 1 (.t 164), none⟩,
 ⟨.t 166, .ixs 1 (.t 156) (.t 165), none⟩,
 ⟨.t 167, .ld false 1 (.t 166), none⟩,
 ⟨.t 168, .fad 4 (.l 5), none⟩,
 ⟨.t 169, .ld false 1 (.t 168), none⟩,
 ⟨.t 170, .mv (.l 0), none⟩,
 ⟨.t 171, .nilc (.t 170), none⟩,
 ⟨.t 172, .fad 1 (.t 171), none⟩,
 ⟨.t 173, .ld false 1 (.t 172), none⟩,
 ⟨.t 174, .fad 2 (.l 5), none⟩,
 ⟨.t 175, .ld false 1 (.t 174), none⟩,
 ⟨.t 176, .ixs 3 (.t 173) (.t 175), none⟩,
 ⟨.t 177, .ld true 3 (.t 176), none⟩] [
 ⟨.t 178, .ixs 3 (.t 167) (.t 169), none⟩,
 ⟨.no, .sto 3 (.t 178) (.t 177), none⟩]) (
 .skip))) (
 .seq (.reg [
 ⟨.t 180, .bin .eql (.l 13) (.c (.p (.i .i64 10))), none⟩,
 ⟨.l 179, .mv (.t 180), none⟩]) (
 .cond (.l 179) (
 .seq (.drw [
 ⟨.t 181, .mv (.l 0), none⟩,
 ⟨.t 182, .mv (.l 0), none⟩,
 ⟨.t 183, .nilc (.t 182), none⟩,
 ⟨.t 184, .fad 1 (.t 183), none⟩,
 ⟨.t 185, .ld false 1 (.t 184), none⟩,
 ⟨.t 186, .fad 2 (.l 5), none⟩,
 ⟨.t 187, .ld false 1 (.t 186), none⟩,
 ⟨.t 188, .ixs 3 (.t 185) (.t 187), none⟩,
 ⟨.t 189, .ld true 3 (.t 188), none⟩,
 ⟨.t 190, .fad 4 (.l 5), none⟩,
 ⟨.t 191, .ld false 1 (.t 190), none⟩] [
 ⟨.l 192, .call 157 [.t 181, .t 189, .t 191], none⟩]) (
 .cond (.l 192) (
 .drw [
 ⟨.t 193, .mv (.l 0), none⟩,
 ⟨.t 194, .nilc (.t 193), none⟩,
 ⟨.t 195, .fad 1 (.t 194), none⟩,
 ⟨.t 196, .ld false 1 (.t 195), none⟩,
 ⟨.t 197, .fad 1 (.l 5), none⟩,
 ⟨.t 198, .ld false 1 (.t 197), none⟩,
 ⟨.t 199, .mv (.l 0), none⟩,
 ⟨.t 200, .nilc (.t 199), none⟩,
 ⟨.t 201, .fad 3 (.t 200), none⟩,
 ⟨.t 202, .ld false 1 (.t 201), none⟩,
 ⟨.t 203, .mv (.l 0), none⟩,
 ⟨.t 204, .nilc (.t 203), none⟩,
 ⟨.t 205, .fad 1 (.t 204), none⟩,
 ⟨.t 206, .ld false 1 (.t 205), none⟩,
 ⟨.t 207, .fad 2 (.l 5), none⟩,
 ⟨.t 208, .ld false 1 (.t 207), none⟩,
 ⟨.t 209, .ixs 3 (.t 206) (.t 208), none⟩,
 ⟨.t 210, .fad 1 (.t 209), none⟩,
 ⟨.t 211, .ld false 1 (.t 210), none⟩,
 ⟨.t 212, .ixs 1 (.t 202) (.t 211), none⟩,
 ⟨.t 213, .ld false 1 (.t 212), none⟩,
 ⟨.t 214, .fad 4 (.l 5), none⟩,
 ⟨.t 215, .ld false 1 (.t 214), none⟩,
 ⟨.t 216, .ixs 3 (.t 213) (.t 215), none⟩,
 ⟨.t 217, .ld true 3 (.t 216), none⟩] [
 ⟨.t 218, .ixs 3 (.t 196) (.t 198), none⟩,
 ⟨.no, .sto 3 (.t 218) (.t 217), none⟩]) (
 .skip))) (
 .seq (.reg [
 ⟨.t 220, .bin .eql (.l 13) (.c (.p (.i .i64 11))), none⟩,
 ⟨.l 219, .mv (.t 220), none⟩]) (
 .cond (.l 219) (
 .seq (.drw [
 ⟨.t 221, .mv (.l 0), none⟩,
 ⟨.t 222, .mv (.l 0), none⟩,
 ⟨.t 223, .nilc (.t 222), none⟩,
 ⟨.t 224, .fad 1 (.t 223), none⟩,
 ⟨.t 225, .ld false 1 (.t 224), none⟩,
 ⟨.t 226, .fad 1 (.l 5), none⟩,
 ⟨.t 227, .ld false 1 (.t 226), none⟩,
 ⟨.t 228, .ixs 3 (.t 225) (.t 227), none⟩,
 ⟨.t 229, .ld true 3 (.t 228), none⟩,
 ⟨.t 230, .call 158 [.t 221, .t 229, .c (.p (.i .i64 0))], none⟩,
 ⟨.t 231, .mv (.t 230), none⟩,
 ⟨.t 232, .mv (.l 0), some ((.t 231), true)⟩,
 ⟨.t 233, .nilc (.t 232), some ((.t 231), true)⟩,
 ⟨.t 234, .fad 1 (.t 233), some ((.t 231), true)⟩,
 ⟨.t 235, .ld false 1 (.t 234), some ((.t 231), true)⟩,
 ⟨.t 236, .fad 1 (.l 5), some ((.t 231), true)⟩,
 ⟨.t 237, .ld false 1 (.t 236), some ((.t 231), true)⟩] [
 ⟨.t 238, .ixs 3 (.t 235) (.t 237), some ((.t 231), true)⟩,
 ⟨.t 239, .fad 1 (.t 238), some ((.t 231), true)⟩,
 ⟨.t 240, .ld false 1 (.t 239), some ((.t 231), true)⟩,
 ⟨.t 241, .bin .eql (.t 240) (.c (.p (.i .i64 0))), some ((.t 231), true)⟩,
 ⟨.l 242, .pick (.t 231) (.t 241) (.c (.p (.b false))), none⟩]) (
 .cond (.l 242) (
 .reg [
 ⟨.t 243, .fad 4 (.l 5), none⟩,
 ⟨.t 244, .ld false 1 (.t 243), none⟩,
 ⟨.l 6, .mv (.t 244), none⟩]) (
 .skip))) (
 .seq (.reg [
 ⟨.t 246, .bin .eql (.l 13) (.c (.p (.i .i64 12))), none⟩,
 ⟨.l 245, .mv (.t 246), none⟩]) (
 .cond (.l 245) (
 .reg [
 ⟨.t 247, .fad 4 (.l 5), none⟩,
 ⟨.t 248, .ld false 1 (.t 247), none⟩,
 ⟨.l 6, .mv (.t 248), none⟩]) (
 .seq (.reg [
 ⟨.t 250, .bin .eql (.l 13) (.c (.p (.i .i64 13))), none⟩,
 ⟨.l 249, .mv (.t 250), none⟩]) (
 .cond (.l 249) (
 .seq (.drw [
 ⟨.t 251, .mv (.l 0), none⟩,
 ⟨.t 252, .mv (.l 0), none⟩,
 ⟨.t 253, .nilc (.t 252), none⟩,
 ⟨.t 254, .fad 1 (.t 253), none⟩,
 ⟨.t 255, .ld false 1 (.t 254), none⟩,
 ⟨.t 256, .fad 1 (.l 5), none⟩,
 ⟨.t 257, .ld false 1 (.t 256), none⟩,
 ⟨.t 258, .ixs 3 (.t 255) (.t 257), none⟩,
 ⟨.t 259, .ld true 3 (.t 258), none⟩] [
 ⟨.l 260, .call 158 [.t 251, .t 259, .c (.p (.i .i64 3))], none⟩]) (
 .cond (.l 260) (
 .drw [
 ⟨.t 261, .fad 1 (.l 4), none⟩,
 ⟨.t 262, .ld false 1 (.t 261), none⟩,
 ⟨.t 263, .mv (.l 0), none⟩,
 ⟨.t 264, .nilc (.t 263), none⟩,
 ⟨.t 265, .fad 1 (.t 264), none⟩,
 ⟨.t 266, .ld false 1 (.t 265), none⟩,
 ⟨.t 267, .fad 1 (.l 5), none⟩,
 ⟨.t 268, .ld false 1 (.t 267), none⟩,
 ⟨.t 269, .ixs 3 (.t 266) (.t 268), none⟩,
 ⟨.t 270, .fad 1 (.t 269), none⟩,
 ⟨.t 271, .ld false 1 (.t 270), none⟩] [
 ⟨.t 272, .ixs 1 (.t 262) (.t 271), none⟩,
 ⟨.t 273, .ld false 1 (.t 272), none⟩,
 ⟨.l 6, .mv (.t 273), none⟩]) (
 .skip))) (
 .seq (.reg [
 ⟨.t 275, .bin .eql (.l 13) (.c (.p (.i .i64 14))), none⟩,
 ⟨.l 274, .mv (.t 275), none⟩]) (
 .cond (.l 274) (
 .seq (.drw [
 ⟨.t 276, .mv (.l 0), none⟩,
 ⟨.t 277, .mv (.l 0), none⟩,
 ⟨.t 278, .nilc (.t 277), none⟩,
 ⟨.t 279, .fad 1 (.t 278), none⟩,
 ⟨.t 280, .ld false 1 (.t 279), none⟩,
 ⟨.t 281, .fad 1 (.l 5), none⟩,
 ⟨.t 282, .ld false 1 (.t 281), none⟩,
 ⟨.t 283, .ixs 3 (.t 280) (.t 282), none⟩,
 ⟨.t 284, .ld true 3 (.t 283), none⟩] [
 ⟨.l 285, .call 158 [.t 276, .t 284, .c (.p (.i .i64 0))], none⟩]) (
 .cond (.l 285) (
 .drw [
 ⟨.t 286, .mv (.l 0), none⟩,
 ⟨.t 287, .nilc (.t 286), none⟩,
 ⟨.t 288, .fad 0 (.t 287), none⟩,
 ⟨.t 289, .ld false 1 (.t 288), none⟩,
 ⟨.t 290, .mv (.l 0), none⟩,
 ⟨.t 291, .nilc (.t 290), none⟩,
 ⟨.t 292, .fad 1 (.t 291), none⟩,
 ⟨.t 293, .ld false 1 (.t 292), none⟩,
 ⟨.t 294, .fad 1 (.l 5), none⟩,
 ⟨.t 295, .ld false 1 (.t 294), none⟩,
 ⟨.t 296, .ixs 3 (.t 293) (.t 295), none⟩,
 ⟨.t 297, .fad 1 (.t 296), none⟩,
 ⟨.t 298, .ld false 1 (.t 297), none⟩] [
 ⟨.t 299, .call 154 [.t 289, .c (.p (.i .i64 1)), .t 298], none⟩]) (
 .skip))) (
 .seq (.reg [
 ⟨.t 301, .bin .eql (.l 13) (.c (.p (.i .i64 15))), none⟩,
 ⟨.l 300, .mv (.t 301), none⟩]) (
 .cond (.l 300) (
 .drw [
 ⟨.t 302, .mv (.l 0), none⟩,
 ⟨.t 303, .nilc (.t 302), none⟩,
 ⟨.t 304, .fad 0 (.t 303), none⟩,
 ⟨.t 305, .ld false 1 (.t 304), none⟩,
 ⟨.t 306, .fad 4 (.l 5), none⟩,
 ⟨.t 307, .ld false 1 (.t 306), none⟩] [
 ⟨.t 308, .call 154 [.t 305, .c (.p (.i .i64 2)), .t 307], none⟩]) (
 .skip))))))))))))))))))))))))))))))))) (
 .reg [
 ⟨.t 309, .mv (.l 0), none⟩,
 ⟨.t 310, .mv (.l 6), none⟩,
 ⟨.t 311, .nilc (.t 309), none⟩,
 ⟨.t 312, .fad 5 (.t 311), none⟩,
 ⟨.no, .sto 1 (.t 312) (.t 310), none⟩])))
theorem mc115_eq : (Try.f115.body.map (compile lv115 Try.prog 313)) = some mc115 := by kernel_rfl
def mr115 : List MR := []
theorem mr115_eq : cRess lv115 Try.prog Try.f115.results.toList = some mr115 := by kernel_rfl
theorem call115 {args : List AV} {H : List AO} {Q : AV → List AO → Prop} (hla : args.length ≤ 313) (h : wpm (ACall Try.prog) mc115 (finK mr115 Q) ⟨argEnv 0 args, [], H⟩) : ACall Try.prog 115 args H Q :=
  acall_mc (by kernel_rfl) Try.func115 mc115_eq Try.ntmps115 (by kernel_rfl) mr115_eq hla h
/- (*impl.machine).step -/
def lv152 : List Nat := [0, 2, 3, 4, 24, 28, 39, 50, 61, 76, 91, 106, 111, 117, 128, 137, 147, 156]
def mc152 : MC :=
.seq (.drw [
 ⟨.t 5, .mv (.l 0), none⟩,
 ⟨.t 6, .nilc (.t 5), none⟩,
 ⟨.t 7, .fad 0 (.t 6), none⟩,
 ⟨.t 8, .fad 0 (.t 7), none⟩,
 ⟨.t 9, .ld false 1 (.t 8), none⟩,
 ⟨.t 10, .mv (.l 0), none⟩,
 ⟨.t 11, .nilc (.t 10), none⟩,
 ⟨.t 12, .fad 4 (.t 11), none⟩,
 ⟨.t 13, .ld false 1 (.t 12), none⟩,
 ⟨.t 14, .ixs 6 (.t 9) (.t 13), none⟩,
 ⟨.t 15, .ld true 6 (.t 14), none⟩,
 ⟨.l 2, .alloc zl45_3, none⟩] [
 ⟨.no, .sto 6 (.l 2) (.t 15), none⟩]) (
 .seq (.reg [
 ⟨.t 16, .mv (.l 0), none⟩,
 ⟨.t 17, .nilc (.t 16), none⟩,
 ⟨.t 18, .fad 4 (.t 17), none⟩,
 ⟨.t 19, .ld false 1 (.t 18), none⟩,
 ⟨.t 20, .bin .add (.t 19) (.c (.p (.i .i64 1))), none⟩,
 ⟨.t 21, .nilc (.t 16), none⟩,
 ⟨.t 22, .fad 4 (.t 21), none⟩,
 ⟨.no, .sto 1 (.t 22) (.t 20), none⟩]) (
 .seq (.reg [
 ⟨.t 23, .fad 0 (.l 2), none⟩,
 ⟨.l 24, .ld false 1 (.t 23), none⟩]) (
 .blk 0 (
 .seq (.reg [
 ⟨.t 29, .bin .eql (.l 24) (.c (.p (.i .i64 1))), none⟩,
 ⟨.l 28, .mv (.t 29), none⟩]) (
 .cond (.l 28) (
 .drw [
 ⟨.t 30, .mv (.l 0), none⟩,
 ⟨.t 31, .fad 1 (.l 2), none⟩,
 ⟨.t 32, .ld false 1 (.t 31), none⟩,
 ⟨.t 33, .fad 4 (.l 2), none⟩,
 ⟨.t 34, .ld false 1 (.t 33), none⟩,
 ⟨.t 35, .call 196 [.t 34], none⟩,
 ⟨.t 36, .nilc (.t 30), none⟩,
 ⟨.t 37, .fad 5 (.t 36), none⟩] [
 ⟨.t 38, .ixa 16 4 (.t 37) (.t 32), none⟩,
 ⟨.no, .sto 4 (.t 38) (.t 35), none⟩]) (
 .seq (.reg [
 ⟨.t 40, .bin .eql (.l 24) (.c (.p (.i .i64 2))), none⟩,
 ⟨.l 39, .mv (.t 40), none⟩]) (
 .cond (.l 39) (
 .drw [
 ⟨.t 41, .mv (.l 0), none⟩,
 ⟨.t 42, .fad 1 (.l 2), none⟩,
 ⟨.t 43, .ld false 1 (.t 42), none⟩,
 ⟨.t 44, .fad 5 (.l 2), none⟩,
 ⟨.t 45, .ld false 1 (.t 44), none⟩,
 ⟨.t 46, .build [.p (.i .i64 0), .p (.i .i64 0), .p (.s []), .p (.nl)] [(0, 1, (.c (.p (.i .i64 1)))), (2, 1, (.t 45))], none⟩,
 ⟨.t 47, .nilc (.t 41), none⟩,
 ⟨.t 48, .fad 5 (.t 47), none⟩] [
 ⟨.t 49, .ixa 16 4 (.t 48) (.t 43), none⟩,
 ⟨.no, .sto 4 (.t 49) (.t 46), none⟩]) (
 .seq (.reg [
 ⟨.t 51, .bin .eql (.l 24) (.c (.p (.i .i64 3))), none⟩,
 ⟨.l 50, .mv (.t 51), none⟩]) (
 .cond (.l 50) (
 .drw [
 ⟨.t 52, .mv (.l 0), none⟩,
 ⟨.t 53, .fad 1 (.l 2), none⟩,
 ⟨.t 54, .ld false 1 (.t 53), none⟩,
 ⟨.t 55, .fad 4 (.l 2), none⟩,
 ⟨.t 56, .ld false 1 (.t 55), none⟩,
 ⟨.t 57, .build [.p (.i .i64 0), .p (.i .i64 0), .p (.s []), .p (.nl)] [(0, 1, (.c (.p (.i .i64 3)))), (1, 1, (.t 56))], none⟩,
 ⟨.t 58, .nilc (.t 52), none⟩,
 ⟨.t 59, .fad 5 (.t 58), none⟩] [
 ⟨.t 60, .ixa 16 4 (.t 59) (.t 54), none⟩,
 ⟨.no, .sto 4 (.t 60) (.t 57), none⟩]) (
 .seq (.reg [
 ⟨.t 62, .bin .eql (.l 24) (.c (.p (.i .i64 4))), none⟩,
 ⟨.l 61, .mv (.t 62), none⟩]) (
 .cond (.l 61) (
 .drw [
 ⟨.t 63, .mv (.l 0), none⟩,
 ⟨.t 64, .fad 1 (.l 2), none⟩,
 ⟨.t 65, .ld false 1 (.t 64), none⟩,
 ⟨.t 66, .mv (.l 0), none⟩,
 ⟨.t 67, .fad 2 (.l 2), none⟩,
 ⟨.t 68, .ld false 1 (.t 67), none⟩,
 ⟨.t 69, .nilc (.t 66), none⟩,
 ⟨.t 70, .fad 5 (.t 69), none⟩,
 ⟨.t 71, .ixa 16 4 (.t 70) (.t 68), none⟩,
 ⟨.t 72, .ld true 4 (.t 71), none⟩,
 ⟨.t 73, .nilc (.t 63), none⟩,
 ⟨.t 74, .fad 5 (.t 73), none⟩] [
 ⟨.t 75, .ixa 16 4 (.t 74) (.t 65), none⟩,
 ⟨.no, .sto 4 (.t 75) (.t 72), none⟩]) (
 .seq (.reg [
 ⟨.t 77, .bin .eql (.l 24) (.c (.p (.i .i64 5))), none⟩,
 ⟨.l 76, .mv (.t 77), none⟩]) (
 .cond (.l 76) (
 .drw [
 ⟨.t 78, .mv (.l 0), none⟩,
 ⟨.t 79, .fad 1 (.l 2), none⟩,
 ⟨.t 80, .ld false 1 (.t 79), none⟩,
 ⟨.t 81, .mv (.l 0), none⟩,
 ⟨.t 82, .fad 4 (.l 2), none⟩,
 ⟨.t 83, .ld false 1 (.t 82), none⟩,
 ⟨.t 84, .nilc (.t 81), none⟩,
 ⟨.t 85, .fad 69 (.t 84), none⟩,
 ⟨.t 86, .ixa 64 4 (.t 85) (.t 83), none⟩,
 ⟨.t 87, .ld true 4 (.t 86), none⟩,
 ⟨.t 88, .nilc (.t 78), none⟩,
 ⟨.t 89, .fad 5 (.t 88), none⟩] [
 ⟨.t 90, .ixa 16 4 (.t 89) (.t 80), none⟩,
 ⟨.no, .sto 4 (.t 90) (.t 87), none⟩]) (
 .seq (.reg [
 ⟨.t 92, .bin .eql (.l 24) (.c (.p (.i .i64 6))), none⟩,
 ⟨.l 91, .mv (.t 92), none⟩]) (
 .cond (.l 91) (
 .drw [
 ⟨.t 93, .mv (.l 0), none⟩,
 ⟨.t 94, .fad 4 (.l 2), none⟩,
 ⟨.t 95, .ld false 1 (.t 94), none⟩,
 ⟨.t 96, .mv (.l 0), none⟩,
 ⟨.t 97, .fad 1 (.l 2), none⟩,
 ⟨.t 98, .ld false 1 (.t 97), none⟩,
 ⟨.t 99, .nilc (.t 96), none⟩,
 ⟨.t 100, .fad 5 (.t 99), none⟩,
 ⟨.t 101, .ixa 16 4 (.t 100) (.t 98), none⟩,
 ⟨.t 102, .ld true 4 (.t 101), none⟩,
 ⟨.t 103, .nilc (.t 93), none⟩,
 ⟨.t 104, .fad 69 (.t 103), none⟩] [
 ⟨.t 105, .ixa 64 4 (.t 104) (.t 95), none⟩,
 ⟨.no, .sto 4 (.t 105) (.t 102), none⟩]) (
 .seq (.reg [
 ⟨.t 107, .bin .eql (.l 24) (.c (.p (.i .i64 7))), none⟩,
 ⟨.l 106, .mv (.t 107), none⟩]) (
 .cond (.l 106) (
 .reg [
 ⟨.t 108, .mv (.l 0), none⟩,
 ⟨.t 109, .ld true 6 (.l 2), none⟩,
 ⟨.t 110, .call 197 [.t 108, .t 109], none⟩]) (
 .seq (.reg [
 ⟨.t 112, .bin .eql (.l 24) (.c (.p (.i .i64 8))), none⟩,
 ⟨.l 111, .mv (.t 112), none⟩]) (
 .cond (.l 111) (
 .seq (.reg [
 ⟨.t 113, .mv (.l 0), none⟩,
 ⟨.t 114, .fad 4 (.l 2), none⟩,
 ⟨.t 115, .ld false 1 (.t 114), none⟩,
 ⟨.t 116, .bin .add (.t 115) (.c (.p (.i .i64 1))), none⟩,
 ⟨.l 117, .call 198 [.t 113, .t 116], none⟩]) (
 .cond (.l 117) (
 .drw [
 ⟨.t 118, .mv (.l 0), none⟩,
 ⟨.t 119, .fad 1 (.l 2), none⟩,
 ⟨.t 120, .ld false 1 (.t 119), none⟩,
 ⟨.t 121, .fad 4 (.l 2), none⟩,
 ⟨.t 122, .ld false 1 (.t 121), none⟩,
 ⟨.t 123, .mks 4 56 [.p (.i .i64 0), .p (.i .i64 0), .p (.s []), .p (.nl)] (.t 122) (.t 122), none⟩,
 ⟨.t 124, .build [.p (.i .i64 0), .p (.i .i64 0), .p (.s []), .p (.nl)] [(0, 1, (.c (.p (.i .i64 2)))), (3, 1, (.t 123))], none⟩,
 ⟨.t 125, .nilc (.t 118), none⟩,
 ⟨.t 126, .fad 5 (.t 125), none⟩] [
 ⟨.t 127, .ixa 16 4 (.t 126) (.t 120), none⟩,
 ⟨.no, .sto 4 (.t 127) (.t 124), none⟩]) (
 .skip))) (
 .seq (.reg [
 ⟨.t 129, .bin .eql (.l 24) (.c (.p (.i .i64 9))), none⟩,
 ⟨.l 128, .mv (.t 129), none⟩]) (
 .cond (.l 128) (
 .seq (.reg [
 ⟨.t 130, .mv (.l 0), none⟩,
 ⟨.t 131, .fad 1 (.l 2), none⟩,
 ⟨.t 132, .ld false 1 (.t 131), none⟩,
 ⟨.t 133, .fad 4 (.l 2), none⟩,
 ⟨.t 134, .ld false 1 (.t 133), none⟩,
 ⟨.t 135, .call 199 [.t 130, .t 132, .t 134], none⟩,
 ⟨.l 3, .mv (.t 135), none⟩]) (
 .seq (.reg [
 ⟨.t 136, .mv (.l 3), none⟩,
 ⟨.l 137, .nilq false true (.t 136), none⟩]) (
 .cond (.l 137) (
 .drw [
 ⟨.t 138, .mv (.l 3), none⟩,
 ⟨.t 139, .mv (.l 0), none⟩,
 ⟨.t 140, .fad 2 (.l 2), none⟩,
 ⟨.t 141, .ld false 1 (.t 140), none⟩,
 ⟨.t 142, .nilc (.t 139), none⟩,
 ⟨.t 143, .fad 5 (.t 142), none⟩,
 ⟨.t 144, .ixa 16 4 (.t 143) (.t 141), none⟩,
 ⟨.t 145, .ld true 4 (.t 144), none⟩] [
 ⟨.t 146, .nilc (.t 138), none⟩,
 ⟨.no, .sto 4 (.t 146) (.t 145), none⟩]) (
 .skip)))) (
 .seq (.reg [
 ⟨.t 148, .bin .eql (.l 24) (.c (.p (.i .i64 10))), none⟩,
 ⟨.l 147, .mv (.t 148), none⟩]) (
 .cond (.l 147) (
 .seq (.reg [
 ⟨.t 149, .mv (.l 0), none⟩,
 ⟨.t 150, .fad 2 (.l 2), none⟩,
 ⟨.t 151, .ld false 1 (.t 150), none⟩,
 ⟨.t 152, .fad 4 (.l 2), none⟩,
 ⟨.t 153, .ld false 1 (.t 152), none⟩,
 ⟨.t 154, .call 199 [.t 149, .t 151, .t 153], none⟩,
 ⟨.l 4, .mv (.t 154), none⟩]) (
 .seq (.reg [
 ⟨.t 155, .mv (.l 4), none⟩,
 ⟨.l 156, .nilq false true (.t 155), none⟩]) (
 .cond (.l 156) (
 .drw [
 ⟨.t 157, .mv (.l 0), none⟩,
 ⟨.t 158, .fad 1 (.l 2), none⟩,
 ⟨.t 159, .ld false 1 (.t 158), none⟩,
 ⟨.t 160, .mv (.l 4), none⟩,
 ⟨.t 161, .nilc (.t 160), none⟩,
 ⟨.t 162, .ld true 4 (.t 161), none⟩,
 ⟨.t 163, .nilc (.t 157), none⟩,
 ⟨.t 164, .fad 5 (.t 163), none⟩] [
 ⟨.t 165, .ixa 16 4 (.t 164) (.t 159), none⟩,
 ⟨.no, .sto 4 (.t 165) (.t 162), none⟩]) (
 .skip)))) (
 .reg [
 ⟨.t 25, .mv (.l 0), none⟩,
 ⟨.t 26, .ld true 6 (.l 2), none⟩,
 ⟨.t 27, .call 200 [.t 25, .t 26], none⟩]))))))))))))))))))))))))
theorem mc152_eq : (Try.f152.body.map (compile lv152 Try.prog 166)) = some mc152 := by kernel_rfl
def mr152 : List MR := []
theorem mr152_eq : cRess lv152 Try.prog Try.f152.results.toList = some mr152 := by kernel_rfl
theorem call152 {args : List AV} {H : List AO} {Q : AV → List AO → Prop} (hla : args.length ≤ 166) (h : wpm (ACall Try.prog) mc152 (finK mr152 Q) ⟨argEnv 0 args, [], H⟩) : ACall Try.prog 152 args H Q :=
  acall_mc (by kernel_rfl) Try.func152 mc152_eq Try.ntmps152 (by kernel_rfl) mr152_eq hla h
/- (*impl.machine).end -/
def lv153 : List Nat := [0, 1, 2]
def mc153 : MC :=
.reg [
 ⟨.t 6, .mv (.l 0), none⟩,
 ⟨.t 7, .mv (.l 0), none⟩,
 ⟨.t 8, .mv (.l 0), none⟩,
 ⟨.t 9, .mv (.l 1), none⟩,
 ⟨.t 10, .mv (.l 2), none⟩,
 ⟨.t 11, .nilc (.t 6), none⟩,
 ⟨.t 12, .fad 325 (.t 11), none⟩,
 ⟨.t 13, .fad 0 (.t 12), none⟩,
 ⟨.no, .sto 1 (.t 13) (.t 9), none⟩,
 ⟨.t 14, .nilc (.t 7), none⟩,
 ⟨.t 15, .fad 325 (.t 14), none⟩,
 ⟨.t 16, .fad 1 (.t 15), none⟩,
 ⟨.no, .sto 1 (.t 16) (.t 10), none⟩,
 ⟨.t 17, .nilc (.t 8), none⟩,
 ⟨.t 18, .fad 328 (.t 17), none⟩,
 ⟨.no, .sto 1 (.t 18) (.c (.p (.b true))), none⟩]
theorem mc153_eq : (Try.f153.body.map (compile lv153 Try.prog 19)) = some mc153 := by kernel_rfl
def mr153 : List MR := []
theorem mr153_eq : cRess lv153 Try.prog Try.f153.results.toList = some mr153 := by kernel_rfl
theorem call153 {args : List AV} {H : List AO} {Q : AV → List AO → Prop} (hla : args.length ≤ 19) (h : wpm (ACall Try.prog) mc153 (finK mr153 Q) ⟨argEnv 0 args, [], H⟩) : ACall Try.prog 153 args H Q :=
  acall_mc (by kernel_rfl) Try.func153 mc153_eq Try.ntmps153 (by kernel_rfl) mr153_eq hla h
/- spec.l8Ends -/
def lv154 : List Nat := [0, 1, 2, 10]
def mc154 : MC :=
.seq (.reg [
 ⟨.t 6, .mv (.l 0), none⟩,
 ⟨.t 7, .nilc (.t 6), none⟩,
 ⟨.t 8, .fad 6 (.t 7), none⟩,
 ⟨.t 9, .ld false 1 (.t 8), none⟩,
 ⟨.l 10, .un .not (.t 9), none⟩]) (
 .cond (.l 10) (
 .seq (.reg [
 ⟨.t 11, .mv (.l 0), none⟩,
 ⟨.t 12, .nilc (.t 11), none⟩,
 ⟨.t 13, .fad 6 (.t 12), none⟩,
 ⟨.no, .sto 1 (.t 13) (.c (.p (.b true))), none⟩]) (
 .seq (.reg [
 ⟨.t 14, .mv (.l 0), none⟩,
 ⟨.t 15, .mv (.l 1), none⟩,
 ⟨.t 16, .nilc (.t 14), none⟩,
 ⟨.t 17, .fad 3 (.t 16), none⟩,
 ⟨.t 18, .fad 0 (.t 17), none⟩,
 ⟨.no, .sto 1 (.t 18) (.t 15), none⟩]) (
 .reg [
 ⟨.t 19, .mv (.l 0), none⟩,
 ⟨.t 20, .mv (.l 2), none⟩,
 ⟨.t 21, .nilc (.t 19), none⟩,
 ⟨.t 22, .fad 3 (.t 21), none⟩,
 ⟨.t 23, .fad 1 (.t 22), none⟩,
 ⟨.no, .sto 1 (.t 23) (.t 20), none⟩]))) (
 .skip))
theorem mc154_eq : (Try.f154.body.map (compile lv154 Try.prog 24)) = some mc154 := by kernel_rfl
def mr154 : List MR := []
theorem mr154_eq : cRess lv154 Try.prog Try.f154.results.toList = some mr154 := by kernel_rfl
theorem call154 {args : List AV} {H : List AO} {Q : AV → List AO → Prop} (hla : args.length ≤ 24) (h : wpm (ACall Try.prog) mc154 (finK mr154 Q) ⟨argEnv 0 args, [], H⟩) : ACall Try.prog 154 args H Q :=
  acall_mc (by kernel_rfl) Try.func154 mc154_eq Try.ntmps154 (by kernel_rfl) mr154_eq hla h
/- spec.l15Op -/
def lv155 : List Nat := [0, 1, 3, 4, 5, 6, 7, 26, 36, 52, 62, 66, 76, 81, 86, 97, 126]
def mc155 : MC :=
.seq (.reg [
 ⟨.l 3, .box 6 (.l 1), none⟩]) (
 .seq (.drw [
 ⟨.t 8, .mv (.l 0), none⟩,
 ⟨.t 9, .nilc (.t 8), none⟩,
 ⟨.t 10, .fad 1 (.t 9), none⟩,
 ⟨.t 11, .ld false 1 (.t 10), none⟩,
 ⟨.t 12, .fad 2 (.l 3), none⟩,
 ⟨.t 13, .ld false 1 (.t 12), none⟩,
 ⟨.t 14, .ixs 3 (.t 11) (.t 13), none⟩,
 ⟨.t 15, .ld true 3 (.t 14), none⟩,
 ⟨.l 4, .alloc [.p (.i .i64 0), .p (.i .i64 0), .p (.s [])], none⟩] [
 ⟨.no, .sto 3 (.l 4) (.t 15), none⟩]) (
 .seq (.drw [
 ⟨.t 16, .mv (.l 0), none⟩,
 ⟨.t 17, .nilc (.t 16), none⟩,
 ⟨.t 18, .fad 1 (.t 17), none⟩,
 ⟨.t 19, .ld false 1 (.t 18), none⟩,
 ⟨.t 20, .fad 3 (.l 3), none⟩,
 ⟨.t 21, .ld false 1 (.t 20), none⟩,
 ⟨.t 22, .ixs 3 (.t 19) (.t 21), none⟩,
 ⟨.t 23, .ld true 3 (.t 22), none⟩,
 ⟨.l 5, .alloc [.p (.i .i64 0), .p (.i .i64 0), .p (.s [])], none⟩] [
 ⟨.no, .sto 3 (.l 5) (.t 23), none⟩]) (
 .seq (.reg [
 ⟨.t 24, .build [.p (.i .i64 0), .p (.i .i64 0), .p (.s [])] [], none⟩,
 ⟨.l 6, .alloc [.p (.i .i64 0), .p (.i .i64 0), .p (.s [])], none⟩,
 ⟨.no, .sto 3 (.l 6) (.t 24), none⟩]) (
 .seq (.seq (.reg [
 ⟨.t 25, .fad 5 (.l 3), none⟩,
 ⟨.l 26, .ld false 1 (.t 25), none⟩]) (
 .blk 0 (
 .seq (.reg [
 ⟨.t 53, .bin .eql (.l 26) (.c (.p (.s [114, 101, 97, 100]))), none⟩,
 ⟨.l 52, .mv (.t 53), none⟩]) (
 .cond (.l 52) (
 .reg [
 ⟨.t 54, .mv (.l 0), none⟩,
 ⟨.t 55, .nilc (.t 54), none⟩,
 ⟨.t 56, .fad 0 (.t 55), none⟩,
 ⟨.t 57, .ld false 1 (.t 56), none⟩,
 ⟨.t 58, .bsl 18 zl45_4 0 [], none⟩,
 ⟨.t 59, .call 201 [.t 57, .c (.p (.s [114, 101, 97, 100])), .t 58], none⟩,
 ⟨.t 60, .fld false 1 1 (.t 59), none⟩,
 ⟨.t 61, .fad 1 (.l 6), none⟩,
 ⟨.no, .sto 1 (.t 61) (.t 60), none⟩]) (
 .seq (.reg [
 ⟨.t 63, .bin .eql (.l 26) (.c (.p (.s [112, 114, 105, 110, 116]))), none⟩,
 ⟨.l 62, .mv (.t 63), none⟩]) (
 .cond (.l 62) (
 .seq (.seq (.reg [
 ⟨.t 64, .mv (.l 0), none⟩,
 ⟨.t 65, .ld true 3 (.l 4), none⟩,
 ⟨.l 66, .call 158 [.t 64, .t 65, .c (.p (.i .i64 0))], none⟩]) (
 .cond (.l 66) (
 .drw [
 ⟨.t 67, .mv (.l 0), none⟩,
 ⟨.t 68, .nilc (.t 67), none⟩,
 ⟨.t 69, .fad 0 (.t 68), none⟩,
 ⟨.t 70, .ld false 1 (.t 69), none⟩,
 ⟨.t 71, .fad 1 (.l 4), none⟩,
 ⟨.t 72, .ld false 1 (.t 71), none⟩,
 ⟨.t 73, .build zl45_4 [(1, 1, (.t 72))], none⟩,
 ⟨.t 74, .bsl 18 zl45_4 1 [(0, (.t 73))], none⟩] [
 ⟨.t 75, .call 201 [.t 70, .c (.p (.s [112, 114, 105, 110, 116])), .t 74], none⟩]) (
 .skip))) (
 .ret)) (
 .seq (.reg [
 ⟨.t 77, .bin .eql (.l 26) (.c (.p (.s [115, 105, 122, 101]))), none⟩,
 ⟨.l 76, .mv (.t 77), none⟩]) (
 .cond (.l 76) (
 .seq (.seq (.reg [
 ⟨.t 78, .mv (.l 0), none⟩,
 ⟨.t 79, .ld true 3 (.l 4), none⟩,
 ⟨.t 80, .call 158 [.t 78, .t 79, .c (.p (.i .i64 1))], none⟩,
 ⟨.l 81, .un .not (.t 80), none⟩]) (
 .cond (.l 81) (
 .ret) (
 .skip))) (
 .reg [
 ⟨.t 82, .fad 2 (.l 4), none⟩,
 ⟨.t 83, .ld false 1 (.t 82), none⟩,
 ⟨.t 84, .len true (.t 83), none⟩,
 ⟨.t 85, .fad 1 (.l 6), none⟩,
 ⟨.no, .sto 1 (.t 85) (.t 84), none⟩])) (
 .seq (.reg [
 ⟨.t 87, .bin .eql (.l 26) (.c (.p (.s [94]))), none⟩,
 ⟨.l 86, .mv (.t 87), none⟩]) (
 .cond (.l 86) (
 .seq (.seq (.reg [
 ⟨.t 88, .mv (.l 0), none⟩,
 ⟨.t 89, .ld true 3 (.l 4), none⟩,
 ⟨.t 90, .call 158 [.t 88, .t 89, .c (.p (.i .i64 1))], none⟩,
 ⟨.t 91, .un .not (.t 90), none⟩,
 ⟨.t 92, .mv (.t 91), none⟩,
 ⟨.t 93, .mv (.l 0), some ((.t 92), false)⟩,
 ⟨.t 94, .ld true 3 (.l 5), some ((.t 92), false)⟩,
 ⟨.t 95, .call 158 [.t 93, .t 94, .c (.p (.i .i64 1))], some ((.t 92), false)⟩,
 ⟨.t 96, .un .not (.t 95), some ((.t 92), false)⟩,
 ⟨.l 97, .pick (.t 92) (.c (.p (.b true))) (.t 96), none⟩]) (
 .cond (.l 97) (
 .ret) (
 .skip))) (
 .seq (.drw [
 ⟨.t 98, .mv (.l 0), none⟩,
 ⟨.t 99, .nilc (.t 98), none⟩,
 ⟨.t 100, .fad 0 (.t 99), none⟩,
 ⟨.t 101, .ld false 1 (.t 100), none⟩,
 ⟨.t 102, .fad 2 (.l 4), none⟩,
 ⟨.t 103, .ld false 1 (.t 102), none⟩,
 ⟨.t 104, .build zl45_4 [(2, 1, (.t 103))], none⟩,
 ⟨.t 105, .fad 2 (.l 5), none⟩,
 ⟨.t 106, .ld false 1 (.t 105), none⟩,
 ⟨.t 107, .build zl45_4 [(2, 1, (.t 106))], none⟩,
 ⟨.t 108, .call 202 [.t 101, .c (.p (.s [94])), .t 104, .t 107], none⟩,
 ⟨.l 7, .alloc zl45_4, none⟩] [
 ⟨.no, .sto 18 (.l 7) (.t 108), none⟩]) (
 .seq (.seq (.reg [
 ⟨.t 109, .mv (.l 0), none⟩,
 ⟨.t 110, .nilc (.t 109), none⟩,
 ⟨.t 111, .fad 0 (.t 110), none⟩,
 ⟨.t 112, .ld false 1 (.t 111), none⟩,
 ⟨.t 113, .nilc (.t 112), none⟩,
 ⟨.t 114, .fad 6 (.t 113), none⟩,
 ⟨.t 115, .ld false 1 (.t 114), none⟩,
 ⟨.t 116, .mv (.t 115), none⟩,
 ⟨.t 117, .mv (.l 0), some ((.t 116), false)⟩,
 ⟨.t 118, .fad 2 (.l 7), some ((.t 116), false)⟩,
 ⟨.t 119, .ld false 1 (.t 118), some ((.t 116), false)⟩,
 ⟨.t 120, .len true (.t 119), some ((.t 116), false)⟩,
 ⟨.t 121, .bin .add (.t 120) (.c (.p (.i .i64 7))), some ((.t 116), false)⟩,
 ⟨.t 122, .bin .quo (.t 121) (.c (.p (.i .i64 8))), some ((.t 116), false)⟩,
 ⟨.t 123, .bin .add (.t 122) (.c (.p (.i .i64 1))), some ((.t 116), false)⟩,
 ⟨.t 124, .call 156 [.t 117, .t 123], some ((.t 116), false)⟩,
 ⟨.t 125, .un .not (.t 124), some ((.t 116), false)⟩,
 ⟨.l 126, .pick (.t 116) (.c (.p (.b true))) (.t 125), none⟩]) (
 .cond (.l 126) (
 .ret) (
 .skip))) (
 .reg [
 ⟨.t 127, .fad 2 (.l 7), none⟩,
 ⟨.t 128, .ld false 1 (.t 127), none⟩,
 ⟨.t 129, .build [.p (.i .i64 0), .p (.i .i64 0), .p (.s [])] [(0, 1, (.c (.p (.i .i64 1)))), (2, 1, (.t 128))], none⟩,
 ⟨.no, .sto 3 (.l 6) (.t 129), none⟩])))) (
 .seq (.seq (.reg [
 ⟨.t 27, .mv (.l 0), none⟩,
 ⟨.t 28, .ld true 3 (.l 4), none⟩,
 ⟨.t 29, .call 158 [.t 27, .t 28, .c (.p (.i .i64 0))], none⟩,
 ⟨.t 30, .un .not (.t 29), none⟩,
 ⟨.t 31, .mv (.t 30), none⟩,
 ⟨.t 32, .mv (.l 0), some ((.t 31), false)⟩,
 ⟨.t 33, .ld true 3 (.l 5), some ((.t 31), false)⟩,
 ⟨.t 34, .call 158 [.t 32, .t 33, .c (.p (.i .i64 0))], some ((.t 31), false)⟩,
 ⟨.t 35, .un .not (.t 34), some ((.t 31), false)⟩,
 ⟨.l 36, .pick (.t 31) (.c (.p (.b true))) (.t 35), none⟩]) (
 .cond (.l 36) (
 .ret) (
 .skip))) (
 .drw [
 ⟨.t 37, .mv (.l 0), none⟩,
 ⟨.t 38, .nilc (.t 37), none⟩,
 ⟨.t 39, .fad 0 (.t 38), none⟩,
 ⟨.t 40, .ld false 1 (.t 39), none⟩,
 ⟨.t 41, .fad 5 (.l 3), none⟩,
 ⟨.t 42, .ld false 1 (.t 41), none⟩,
 ⟨.t 43, .fad 1 (.l 4), none⟩,
 ⟨.t 44, .ld false 1 (.t 43), none⟩,
 ⟨.t 45, .build zl45_4 [(1, 1, (.t 44))], none⟩,
 ⟨.t 46, .fad 1 (.l 5), none⟩,
 ⟨.t 47, .ld false 1 (.t 46), none⟩,
 ⟨.t 48, .build zl45_4 [(1, 1, (.t 47))], none⟩] [
 ⟨.t 49, .call 202 [.t 40, .t 42, .t 45, .t 48], none⟩,
 ⟨.t 50, .fld false 1 1 (.t 49), none⟩,
 ⟨.t 51, .fad 1 (.l 6), none⟩,
 ⟨.no, .sto 1 (.t 51) (.t 50), none⟩])))))))))))) (
 .drw [
 ⟨.t 130, .mv (.l 0), none⟩,
 ⟨.t 131, .nilc (.t 130), none⟩,
 ⟨.t 132, .fad 1 (.t 131), none⟩,
 ⟨.t 133, .ld false 1 (.t 132), none⟩,
 ⟨.t 134, .fad 1 (.l 3), none⟩,
 ⟨.t 135, .ld false 1 (.t 134), none⟩,
 ⟨.t 136, .ld true 3 (.l 6), none⟩] [
 ⟨.t 137, .ixs 3 (.t 133) (.t 135), none⟩,
 ⟨.no, .sto 3 (.t 137) (.t 136), none⟩])))))
theorem mc155_eq : (Try.f155.body.map (compile lv155 Try.prog 138)) = some mc155 := by kernel_rfl
def mr155 : List MR := []
theorem mr155_eq : cRess lv155 Try.prog Try.f155.results.toList = some mr155 := by kernel_rfl
theorem call155 {args : List AV} {H : List AO} {Q : AV → List AO → Prop} (hla : args.length ≤ 138) (h : wpm (ACall Try.prog) mc155 (finK mr155 Q) ⟨argEnv 0 args, [], H⟩) : ACall Try.prog 155 args H Q :=
  acall_mc (by kernel_rfl) Try.func155 mc155_eq Try.ntmps155 (by kernel_rfl) mr155_eq hla h
/- spec.l15Room -/
def lv156 : List Nat := [0, 1, 4, 10]
def mc156 : MC :=
.seq (.reg [
 ⟨.l 4, .mv (.c (.p (.b false))), none⟩]) (
 .seq (.seq (.reg [
 ⟨.t 5, .mv (.l 1), none⟩,
 ⟨.t 6, .mv (.l 0), none⟩,
 ⟨.t 7, .nilc (.t 6), none⟩,
 ⟨.t 8, .fad 4 (.t 7), none⟩,
 ⟨.t 9, .ld false 1 (.t 8), none⟩,
 ⟨.l 10, .bin .gtr (.t 5) (.t 9), none⟩]) (
 .cond (.l 10) (
 .seq (.reg [
 ⟨.t 11, .mv (.l 0), none⟩,
 ⟨.t 12, .nilc (.t 11), none⟩,
 ⟨.t 13, .fad 0 (.t 12), none⟩,
 ⟨.t 14, .ld false 1 (.t 13), none⟩,
 ⟨.t 15, .call 154 [.t 14, .c (.p (.i .i64 4)), .c (.p (.i .i64 0))], none⟩]) (
 .seq (.reg [
 ⟨.l 4, .mv (.c (.p (.b false))), none⟩]) (
 .ret))) (
 .skip))) (
 .seq (.reg [
 ⟨.t 16, .mv (.l 0), none⟩,
 ⟨.t 17, .mv (.l 0), none⟩,
 ⟨.t 18, .nilc (.t 17), none⟩,
 ⟨.t 19, .fad 4 (.t 18), none⟩,
 ⟨.t 20, .ld false 1 (.t 19), none⟩,
 ⟨.t 21, .mv (.l 1), none⟩,
 ⟨.t 22, .bin .sub (.t 20) (.t 21), none⟩,
 ⟨.t 23, .nilc (.t 16), none⟩,
 ⟨.t 24, .fad 4 (.t 23), none⟩,
 ⟨.no, .sto 1 (.t 24) (.t 22), none⟩]) (
 .seq (.reg [
 ⟨.l 4, .mv (.c (.p (.b true))), none⟩]) (
 .ret))))
theorem mc156_eq : (Try.f156.body.map (compile lv156 Try.prog 25)) = some mc156 := by kernel_rfl
def mr156 : List MR := [.t 4]
theorem mr156_eq : cRess lv156 Try.prog Try.f156.results.toList = some mr156 := by kernel_rfl
theorem call156 {args : List AV} {H : List AO} {Q : AV → List AO → Prop} (hla : args.length ≤ 25) (h : wpm (ACall Try.prog) mc156 (finK mr156 Q) ⟨argEnv 0 args, [], H⟩) : ACall Try.prog 156 args H Q :=
  acall_mc (by kernel_rfl) Try.func156 mc156_eq Try.ntmps156 (by kernel_rfl) mr156_eq hla h
/- spec.l15Member -/
def lv157 : List Nat := [0, 1, 2, 4, 6, 10, 21]
def mc157 : MC :=
.seq (.reg [
 ⟨.l 4, .box 3 (.l 1), none⟩,
 ⟨.l 6, .mv (.c (.p (.b false))), none⟩]) (
 .seq (.seq (.reg [
 ⟨.t 7, .mv (.l 0), none⟩,
 ⟨.t 8, .ld true 3 (.l 4), none⟩,
 ⟨.t 9, .call 158 [.t 7, .t 8, .c (.p (.i .i64 2))], none⟩,
 ⟨.l 10, .un .not (.t 9), none⟩]) (
 .cond (.l 10) (
 .seq (.reg [
 ⟨.l 6, .mv (.c (.p (.b false))), none⟩]) (
 .ret)) (
 .skip))) (
 .seq (.seq (.drw [
 ⟨.t 11, .mv (.l 2), none⟩,
 ⟨.t 12, .mv (.l 0), none⟩,
 ⟨.t 13, .nilc (.t 12), none⟩,
 ⟨.t 14, .fad 3 (.t 13), none⟩,
 ⟨.t 15, .ld false 1 (.t 14), none⟩,
 ⟨.t 16, .fad 1 (.l 4), none⟩,
 ⟨.t 17, .ld false 1 (.t 16), none⟩,
 ⟨.t 18, .ixs 1 (.t 15) (.t 17), none⟩,
 ⟨.t 19, .ld false 1 (.t 18), none⟩,
 ⟨.t 20, .lenq false (.t 19), none⟩] [
 ⟨.l 21, .bin .geq (.t 11) (.t 20), none⟩]) (
 .cond (.l 21) (
 .seq (.reg [
 ⟨.t 22, .mv (.l 0), none⟩,
 ⟨.t 23, .nilc (.t 22), none⟩,
 ⟨.t 24, .fad 0 (.t 23), none⟩,
 ⟨.t 25, .ld false 1 (.t 24), none⟩,
 ⟨.t 26, .call 154 [.t 25, .c (.p (.i .i64 0)), .c (.p (.i .i64 0))], none⟩]) (
 .seq (.reg [
 ⟨.l 6, .mv (.c (.p (.b false))), none⟩]) (
 .ret))) (
 .skip))) (
 .seq (.reg [
 ⟨.l 6, .mv (.c (.p (.b true))), none⟩]) (
 .ret))))
theorem mc157_eq : (Try.f157.body.map (compile lv157 Try.prog 27)) = some mc157 := by kernel_rfl
def mr157 : List MR := [.t 6]
theorem mr157_eq : cRess lv157 Try.prog Try.f157.results.toList = some mr157 := by kernel_rfl
theorem call157 {args : List AV} {H : List AO} {Q : AV → List AO → Prop} (hla : args.length ≤ 27) (h : wpm (ACall Try.prog) mc157 (finK mr157 Q) ⟨argEnv 0 args, [], H⟩) : ACall Try.prog 157 args H Q :=
  acall_mc (by kernel_rfl) Try.func157 mc157_eq Try.ntmps157 (by kernel_rfl) mr157_eq hla h
/- spec.l15Is -/
def lv158 : List Nat := [0, 1, 2, 4, 6, 10]
def mc158 : MC :=
.seq (.reg [
 ⟨.l 4, .box 3 (.l 1), none⟩,
 ⟨.l 6, .mv (.c (.p (.b false))), none⟩]) (
 .seq (.seq (.reg [
 ⟨.t 7, .fad 0 (.l 4), none⟩,
 ⟨.t 8, .ld false 1 (.t 7), none⟩,
 ⟨.t 9, .mv (.l 2), none⟩,
 ⟨.l 10, .bin .neq (.t 8) (.t 9), none⟩]) (
 .cond (.l 10) (
 .seq (.reg [
 ⟨.t 11, .mv (.l 0), none⟩,
 ⟨.t 12, .nilc (.t 11), none⟩,
 ⟨.t 13, .fad 0 (.t 12), none⟩,
 ⟨.t 14, .ld false 1 (.t 13), none⟩,
 ⟨.t 15, .call 154 [.t 14, .c (.p (.i .i64 0)), .c (.p (.i .i64 0))], none⟩]) (
 .seq (.reg [
 ⟨.l 6, .mv (.c (.p (.b false))), none⟩]) (
 .ret))) (
 .skip))) (
 .seq (.reg [
 ⟨.l 6, .mv (.c (.p (.b true))), none⟩]) (
 .ret)))
theorem mc158_eq : (Try.f158.body.map (compile lv158 Try.prog 16)) = some mc158 := by kernel_rfl
def mr158 : List MR := [.t 6]
theorem mr158_eq : cRess lv158 Try.prog Try.f158.results.toList = some mr158 := by kernel_rfl
theorem call158 {args : List AV} {H : List AO} {Q : AV → List AO → Prop} (hla : args.length ≤ 16) (h : wpm (ACall Try.prog) mc158 (finK mr158 Q) ⟨argEnv 0 args, [], H⟩) : ACall Try.prog 158 args H Q :=
  acall_mc (by kernel_rfl) Try.func158 mc158_eq Try.ntmps158 (by kernel_rfl) mr158_eq hla h
/- impl.num -/
def lv196 : List Nat := [0, 2]
def mc196 : MC :=
.seq (.reg [
 ⟨.l 2, .alloc [.p (.i .i64 0), .p (.i .i64 0), .p (.s []), .p (.nl)], none⟩]) (
 .seq (.reg [
 ⟨.t 3, .mv (.l 0), none⟩,
 ⟨.t 4, .build [.p (.i .i64 0), .p (.i .i64 0), .p (.s []), .p (.nl)] [(1, 1, (.t 3))], none⟩,
 ⟨.no, .sto 4 (.l 2) (.t 4), none⟩]) (
 .ret))
theorem mc196_eq : (Try.f196.body.map (compile lv196 Try.prog 5)) = some mc196 := by kernel_rfl
def mr196 : List MR := [.cell true 4 2]
theorem mr196_eq : cRess lv196 Try.prog Try.f196.results.toList = some mr196 := by kernel_rfl
theorem call196 {args : List AV} {H : List AO} {Q : AV → List AO → Prop} (hla : args.length ≤ 5) (h : wpm (ACall Try.prog) mc196 (finK mr196 Q) ⟨argEnv 0 args, [], H⟩) : ACall Try.prog 196 args H Q :=
  acall_mc (by kernel_rfl) Try.func196 mc196_eq Try.ntmps196 (by kernel_rfl) mr196_eq hla h
/- (*impl.machine).op -/
def lv197 : List Nat := [0, 1, 3, 4, 5, 6, 7, 9, 10, 16, 23, 50, 61, 78, 88, 89, 94, 99, 104, 108, 109, 113]
def mc197 : MC :=
.seq (.reg [
 ⟨.l 3, .box 6 (.l 1), none⟩]) (
 .seq (.seq (.reg [
 ⟨.t 8, .fad 5 (.l 3), none⟩,
 ⟨.l 9, .ld false 1 (.t 8), none⟩]) (
 .blk 0 (
 .seq (.seq (.reg [
 ⟨.t 11, .bin .eql (.l 9) (.c (.p (.s [94]))), none⟩,
 ⟨.l 10, .mv (.t 11), none⟩]) (
 .cond (.l 10) (
 .skip) (
 .reg [
 ⟨.t 12, .bin .eql (.l 9) (.c (.p (.s [115, 105, 122, 101]))), none⟩,
 ⟨.l 10, .mv (.t 12), none⟩]))) (
 .cond (.l 10) (
 .seq (.reg [
 ⟨.t 13, .mv (.l 0), none⟩,
 ⟨.t 14, .ld true 6 (.l 3), none⟩,
 ⟨.t 15, .call 226 [.t 13, .t 14], none⟩]) (
 .ret)) (
 .seq (.reg [
 ⟨.t 17, .bin .eql (.l 9) (.c (.p (.s [114, 101, 97, 100]))), none⟩,
 ⟨.l 16, .mv (.t 17), none⟩]) (
 .cond (.l 16) (
 .seq (.reg [
 ⟨.l 4, .mv (.c (.p (.i .i64 (-1)))), none⟩]) (
 .seq (.seq (.reg [
 ⟨.t 18, .mv (.l 0), none⟩,
 ⟨.t 19, .nilc (.t 18), none⟩,
 ⟨.t 20, .fad 2 (.t 19), none⟩,
 ⟨.t 21, .ld false 1 (.t 20), none⟩,
 ⟨.t 22, .len false (.t 21), none⟩,
 ⟨.l 23, .bin .gtr (.t 22) (.c (.p (.i .i64 0))), none⟩]) (
 .cond (.l 23) (
 .drw [
 ⟨.t 24, .mv (.l 0), none⟩,
 ⟨.t 25, .mv (.l 0), none⟩,
 ⟨.t 26, .nilc (.t 25), none⟩,
 ⟨.t 27, .fad 2 (.t 26), none⟩,
 ⟨.t 28, .ld false 1 (.t 27), none⟩,
 ⟨.t 29, .ixs 1 (.t 28) (.c (.p (.i .i64 0))), none⟩,
 ⟨.t 30, .ld false 1 (.t 29), none⟩,
 ⟨.t 31, .mv (.l 0), none⟩,
 ⟨.t 32, .nilc (.t 31), none⟩,
 ⟨.t 33, .fad 2 (.t 32), none⟩,
 ⟨.t 34, .ld false 1 (.t 33), none⟩,
 ⟨.t 35, .slc (some 1) (.t 34) (some (.c (.p (.i .i64 1)))) none, none⟩,
 ⟨.l 4, .mv (.t 30), none⟩] [
 ⟨.t 36, .nilc (.t 24), none⟩,
 ⟨.t 37, .fad 2 (.t 36), none⟩,
 ⟨.no, .sto 1 (.t 37) (.t 35), none⟩]) (
 .skip))) (
 .seq (.drw [
 ⟨.t 38, .mv (.l 0), none⟩,
 ⟨.t 39, .fad 1 (.l 3), none⟩,
 ⟨.t 40, .ld false 1 (.t 39), none⟩,
 ⟨.t 41, .mv (.l 4), none⟩,
 ⟨.t 42, .call 196 [.t 41], none⟩,
 ⟨.t 43, .nilc (.t 38), none⟩,
 ⟨.t 44, .fad 5 (.t 43), none⟩] [
 ⟨.t 45, .ixa 16 4 (.t 44) (.t 40), none⟩,
 ⟨.no, .sto 4 (.t 45) (.t 42), none⟩]) (
 .ret)))) (
 .skip))))))) (
 .seq (.seq (.reg [
 ⟨.t 46, .mv (.l 0), none⟩,
 ⟨.t 47, .fad 2 (.l 3), none⟩,
 ⟨.t 48, .ld false 1 (.t 47), none⟩,
 ⟨.t 49, .call 227 [.t 46, .t 48, .c (.p (.i .i64 0))], none⟩,
 ⟨.l 50, .un .not (.t 49), none⟩]) (
 .cond (.l 50) (
 .ret) (
 .skip))) (
 .seq (.drw [
 ⟨.t 51, .mv (.l 0), none⟩,
 ⟨.t 52, .fad 2 (.l 3), none⟩,
 ⟨.t 53, .ld false 1 (.t 52), none⟩,
 ⟨.t 54, .nilc (.t 51), none⟩,
 ⟨.t 55, .fad 5 (.t 54), none⟩] [
 ⟨.t 56, .ixa 16 4 (.t 55) (.t 53), none⟩,
 ⟨.t 57, .fad 1 (.t 56), none⟩,
 ⟨.t 58, .ld false 1 (.t 57), none⟩,
 ⟨.l 5, .mv (.t 58), none⟩]) (
 .seq (.seq (.reg [
 ⟨.t 59, .fad 5 (.l 3), none⟩,
 ⟨.t 60, .ld false 1 (.t 59), none⟩,
 ⟨.l 61, .bin .eql (.t 60) (.c (.p (.s [112, 114, 105, 110, 116]))), none⟩]) (
 .cond (.l 61) (
 .seq (.reg [
 ⟨.t 62, .mv (.l 0), none⟩,
 ⟨.t 63, .mv (.l 0), none⟩,
 ⟨.t 64, .nilc (.t 63), none⟩,
 ⟨.t 65, .fad 325 (.t 64), none⟩,
 ⟨.t 66, .fad 2 (.t 65), none⟩,
 ⟨.t 67, .ld false 1 (.t 66), none⟩,
 ⟨.t 68, .mv (.l 5), none⟩,
 ⟨.t 69, .bsl 1 [.p (.i .i64 0)] 1 [(0, (.t 68))], none⟩,
 ⟨.t 70, .app 1 8 (.t 67) (.t 69), none⟩,
 ⟨.t 71, .nilc (.t 62), none⟩,
 ⟨.t 72, .fad 325 (.t 71), none⟩,
 ⟨.t 73, .fad 2 (.t 72), none⟩,
 ⟨.no, .sto 1 (.t 73) (.t 70), none⟩]) (
 .ret)) (
 .skip))) (
 .seq (.seq (.reg [
 ⟨.t 74, .mv (.l 0), none⟩,
 ⟨.t 75, .fad 3 (.l 3), none⟩,
 ⟨.t 76, .ld false 1 (.t 75), none⟩,
 ⟨.t 77, .call 227 [.t 74, .t 76, .c (.p (.i .i64 0))], none⟩,
 ⟨.l 78, .un .not (.t 77), none⟩]) (
 .cond (.l 78) (
 .ret) (
 .skip))) (
 .seq (.drw [
 ⟨.t 79, .mv (.l 0), none⟩,
 ⟨.t 80, .fad 3 (.l 3), none⟩,
 ⟨.t 81, .ld false 1 (.t 80), none⟩,
 ⟨.t 82, .nilc (.t 79), none⟩,
 ⟨.t 83, .fad 5 (.t 82), none⟩] [
 ⟨.t 84, .ixa 16 4 (.t 83) (.t 81), none⟩,
 ⟨.t 85, .fad 1 (.t 84), none⟩,
 ⟨.t 86, .ld false 1 (.t 85), none⟩,
 ⟨.l 6, .mv (.t 86), none⟩]) (
 .seq (.reg [
 ⟨.l 7, .mv (.c (.p (.i .i64 0))), none⟩]) (
 .seq (.seq (.reg [
 ⟨.t 87, .fad 5 (.l 3), none⟩,
 ⟨.l 88, .ld false 1 (.t 87), none⟩]) (
 .blk 1 (
 .seq (.reg [
 ⟨.t 90, .bin .eql (.l 88) (.c (.p (.s [43]))), none⟩,
 ⟨.l 89, .mv (.t 90), none⟩]) (
 .cond (.l 89) (
 .reg [
 ⟨.t 91, .mv (.l 5), none⟩,
 ⟨.t 92, .mv (.l 6), none⟩,
 ⟨.t 93, .bin .add (.t 91) (.t 92), none⟩,
 ⟨.l 7, .mv (.t 93), none⟩]) (
 .seq (.reg [
 ⟨.t 95, .bin .eql (.l 88) (.c (.p (.s [45]))), none⟩,
 ⟨.l 94, .mv (.t 95), none⟩]) (
 .cond (.l 94) (
 .reg [
 ⟨.t 96, .mv (.l 5), none⟩,
 ⟨.t 97, .mv (.l 6), none⟩,
 ⟨.t 98, .bin .sub (.t 96) (.t 97), none⟩,
 ⟨.l 7, .mv (.t 98), none⟩]) (
 .seq (.reg [
 ⟨.t 100, .bin .eql (.l 88) (.c (.p (.s [42]))), none⟩,
 ⟨.l 99, .mv (.t 100), none⟩]) (
 .cond (.l 99) (
 .reg [
 ⟨.t 101, .mv (.l 5), none⟩,
 ⟨.t 102, .mv (.l 6), none⟩,
 ⟨.t 103, .bin .mul (.t 101) (.t 102), none⟩,
 ⟨.l 7, .mv (.t 103), none⟩]) (
 .seq (.reg [
 ⟨.t 105, .bin .eql (.l 88) (.c (.p (.s [61]))), none⟩,
 ⟨.l 104, .mv (.t 105), none⟩]) (
 .cond (.l 104) (
 .seq (.reg [
 ⟨.t 106, .mv (.l 5), none⟩,
 ⟨.t 107, .mv (.l 6), none⟩,
 ⟨.l 108, .bin .eql (.t 106) (.t 107), none⟩]) (
 .cond (.l 108) (
 .reg [
 ⟨.l 7, .mv (.c (.p (.i .i64 1))), none⟩]) (
 .skip))) (
 .seq (.reg [
 ⟨.t 110, .bin .eql (.l 88) (.c (.p (.s [60]))), none⟩,
 ⟨.l 109, .mv (.t 110), none⟩]) (
 .cond (.l 109) (
 .seq (.reg [
 ⟨.t 111, .mv (.l 5), none⟩,
 ⟨.t 112, .mv (.l 6), none⟩,
 ⟨.l 113, .bin .lss (.t 111) (.t 112), none⟩]) (
 .cond (.l 113) (
 .reg [
 ⟨.l 7, .mv (.c (.p (.i .i64 1))), none⟩]) (
 .skip))) (
 .skip))))))))))))) (
 .drw [
 ⟨.t 114, .mv (.l 0), none⟩,
 ⟨.t 115, .fad 1 (.l 3), none⟩,
 ⟨.t 116, .ld false 1 (.t 115), none⟩,
 ⟨.t 117, .mv (.l 7), none⟩,
 ⟨.t 118, .call 196 [.t 117], none⟩,
 ⟨.t 119, .nilc (.t 114), none⟩,
 ⟨.t 120, .fad 5 (.t 119), none⟩] [
 ⟨.t 121, .ixa 16 4 (.t 120) (.t 116), none⟩,
 ⟨.no, .sto 4 (.t 121) (.t 118), none⟩])))))))))
theorem mc197_eq : (Try.f197.body.map (compile lv197 Try.prog 122)) = some mc197 := by kernel_rfl
def mr197 : List MR := []
theorem mr197_eq : cRess lv197 Try.prog Try.f197.results.toList = some mr197 := by kernel_rfl
theorem call197 {args : List AV} {H : List AO} {Q : AV → List AO → Prop} (hla : args.length ≤ 122) (h : wpm (ACall Try.prog) mc197 (finK mr197 Q) ⟨argEnv 0 args, [], H⟩) : ACall Try.prog 197 args H Q :=
  acall_mc (by kernel_rfl) Try.func197 mc197_eq Try.ntmps197 (by kernel_rfl) mr197_eq hla h
/- (*impl.machine).takeRoom -/
def lv198 : List Nat := [0, 1, 4, 10]
def mc198 : MC :=
.seq (.reg [
 ⟨.l 4, .mv (.c (.p (.b false))), none⟩]) (
 .seq (.seq (.reg [
 ⟨.t 5, .mv (.l 1), none⟩,
 ⟨.t 6, .mv (.l 0), none⟩,
 ⟨.t 7, .nilc (.t 6), none⟩,
 ⟨.t 8, .fad 3 (.t 7), none⟩,
 ⟨.t 9, .ld false 1 (.t 8), none⟩,
 ⟨.l 10, .bin .gtr (.t 5) (.t 9), none⟩]) (
 .cond (.l 10) (
 .seq (.reg [
 ⟨.t 11, .mv (.l 0), none⟩,
 ⟨.t 12, .call 153 [.t 11, .c (.p (.i .i64 4)), .c (.p (.i .i64 0))], none⟩]) (
 .seq (.reg [
 ⟨.l 4, .mv (.c (.p (.b false))), none⟩]) (
 .ret))) (
 .skip))) (
 .seq (.reg [
 ⟨.t 13, .mv (.l 0), none⟩,
 ⟨.t 14, .nilc (.t 13), none⟩,
 ⟨.t 15, .fad 3 (.t 14), none⟩,
 ⟨.t 16, .ld false 1 (.t 15), none⟩,
 ⟨.t 17, .mv (.l 1), none⟩,
 ⟨.t 18, .bin .sub (.t 16) (.t 17), none⟩,
 ⟨.t 19, .nilc (.t 13), none⟩,
 ⟨.t 20, .fad 3 (.t 19), none⟩,
 ⟨.no, .sto 1 (.t 20) (.t 18), none⟩]) (
 .seq (.reg [
 ⟨.l 4, .mv (.c (.p (.b true))), none⟩]) (
 .ret))))
theorem mc198_eq : (Try.f198.body.map (compile lv198 Try.prog 21)) = some mc198 := by kernel_rfl
def mr198 : List MR := [.t 4]
theorem mr198_eq : cRess lv198 Try.prog Try.f198.results.toList = some mr198 := by kernel_rfl
theorem call198 {args : List AV} {H : List AO} {Q : AV → List AO → Prop} (hla : args.length ≤ 21) (h : wpm (ACall Try.prog) mc198 (finK mr198 Q) ⟨argEnv 0 args, [], H⟩) : ACall Try.prog 198 args H Q :=
  acall_mc (by kernel_rfl) Try.func198 mc198_eq Try.ntmps198 (by kernel_rfl) mr198_eq hla h
/- (*impl.machine).member -/
def lv199 : List Nat := [0, 1, 2, 6, 10, 20]
def mc199 : MC :=
.seq (.reg [
 ⟨.l 6, .mv (.c (.p (.np))), none⟩]) (
 .seq (.seq (.reg [
 ⟨.t 7, .mv (.l 0), none⟩,
 ⟨.t 8, .mv (.l 1), none⟩,
 ⟨.t 9, .call 227 [.t 7, .t 8, .c (.p (.i .i64 2))], none⟩,
 ⟨.l 10, .un .not (.t 9), none⟩]) (
 .cond (.l 10) (
 .seq (.reg [
 ⟨.l 6, .mv (.c (.p (.np))), none⟩]) (
 .ret)) (
 .skip))) (
 .seq (.seq (.reg [
 ⟨.t 11, .mv (.l 2), none⟩,
 ⟨.t 12, .mv (.l 0), none⟩,
 ⟨.t 13, .mv (.l 1), none⟩,
 ⟨.t 14, .nilc (.t 12), none⟩,
 ⟨.t 15, .fad 5 (.t 14), none⟩,
 ⟨.t 16, .ixa 16 4 (.t 15) (.t 13), none⟩,
 ⟨.t 17, .fad 3 (.t 16), none⟩,
 ⟨.t 18, .ld false 1 (.t 17), none⟩,
 ⟨.t 19, .len false (.t 18), none⟩,
 ⟨.l 20, .bin .geq (.t 11) (.t 19), none⟩]) (
 .cond (.l 20) (
 .seq (.reg [
 ⟨.t 21, .mv (.l 0), none⟩,
 ⟨.t 22, .call 153 [.t 21, .c (.p (.i .i64 0)), .c (.p (.i .i64 0))], none⟩]) (
 .seq (.reg [
 ⟨.l 6, .mv (.c (.p (.np))), none⟩]) (
 .ret))) (
 .skip))) (
 .seq (.reg [
 ⟨.t 23, .mv (.l 0), none⟩,
 ⟨.t 24, .mv (.l 1), none⟩,
 ⟨.t 25, .nilc (.t 23), none⟩,
 ⟨.t 26, .fad 5 (.t 25), none⟩,
 ⟨.t 27, .ixa 16 4 (.t 26) (.t 24), none⟩,
 ⟨.t 28, .fad 3 (.t 27), none⟩,
 ⟨.t 29, .ld false 1 (.t 28), none⟩,
 ⟨.t 30, .mv (.l 2), none⟩,
 ⟨.t 31, .ixs 4 (.t 29) (.t 30), none⟩,
 ⟨.l 6, .mv (.t 31), none⟩]) (
 .ret))))
theorem mc199_eq : (Try.f199.body.map (compile lv199 Try.prog 32)) = some mc199 := by kernel_rfl
def mr199 : List MR := [.t 6]
theorem mr199_eq : cRess lv199 Try.prog Try.f199.results.toList = some mr199 := by kernel_rfl
theorem call199 {args : List AV} {H : List AO} {Q : AV → List AO → Prop} (hla : args.length ≤ 32) (h : wpm (ACall Try.prog) mc199 (finK mr199 Q) ⟨argEnv 0 args, [], H⟩) : ACall Try.prog 199 args H Q :=
  acall_mc (by kernel_rfl) Try.func199 mc199_eq Try.ntmps199 (by kernel_rfl) mr199_eq hla h
/- (*impl.machine).goes -/
def lv200 : List Nat := [0, 1, 3, 5, 6, 22, 28, 35, 40, 59, 64, 75]
def mc200 : MC :=
.seq (.reg [
 ⟨.l 3, .box 6 (.l 1), none⟩]) (
 .seq (.reg [
 ⟨.t 4, .fad 0 (.l 3), none⟩,
 ⟨.l 5, .ld false 1 (.t 4), none⟩]) (
 .blk 0 (
 .seq (.reg [
 ⟨.t 7, .bin .eql (.l 5) (.c (.p (.i .i64 11))), none⟩,
 ⟨.l 6, .mv (.t 7), none⟩]) (
 .cond (.l 6) (
 .seq (.drw [
 ⟨.t 8, .mv (.l 0), none⟩,
 ⟨.t 9, .fad 1 (.l 3), none⟩,
 ⟨.t 10, .ld false 1 (.t 9), none⟩,
 ⟨.t 11, .call 227 [.t 8, .t 10, .c (.p (.i .i64 0))], none⟩,
 ⟨.t 12, .mv (.t 11), none⟩,
 ⟨.t 13, .mv (.l 0), some ((.t 12), true)⟩,
 ⟨.t 14, .fad 1 (.l 3), some ((.t 12), true)⟩,
 ⟨.t 15, .ld false 1 (.t 14), some ((.t 12), true)⟩,
 ⟨.t 16, .nilc (.t 13), some ((.t 12), true)⟩,
 ⟨.t 17, .fad 5 (.t 16), some ((.t 12), true)⟩] [
 ⟨.t 18, .ixa 16 4 (.t 17) (.t 15), some ((.t 12), true)⟩,
 ⟨.t 19, .fad 1 (.t 18), some ((.t 12), true)⟩,
 ⟨.t 20, .ld false 1 (.t 19), some ((.t 12), true)⟩,
 ⟨.t 21, .bin .eql (.t 20) (.c (.p (.i .i64 0))), some ((.t 12), true)⟩,
 ⟨.l 22, .pick (.t 12) (.t 21) (.c (.p (.b false))), none⟩]) (
 .cond (.l 22) (
 .reg [
 ⟨.t 23, .mv (.l 0), none⟩,
 ⟨.t 24, .fad 4 (.l 3), none⟩,
 ⟨.t 25, .ld false 1 (.t 24), none⟩,
 ⟨.t 26, .nilc (.t 23), none⟩,
 ⟨.t 27, .fad 4 (.t 26), none⟩,
 ⟨.no, .sto 1 (.t 27) (.t 25), none⟩]) (
 .skip))) (
 .seq (.reg [
 ⟨.t 29, .bin .eql (.l 5) (.c (.p (.i .i64 12))), none⟩,
 ⟨.l 28, .mv (.t 29), none⟩]) (
 .cond (.l 28) (
 .reg [
 ⟨.t 30, .mv (.l 0), none⟩,
 ⟨.t 31, .fad 4 (.l 3), none⟩,
 ⟨.t 32, .ld false 1 (.t 31), none⟩,
 ⟨.t 33, .nilc (.t 30), none⟩,
 ⟨.t 34, .fad 4 (.t 33), none⟩,
 ⟨.no, .sto 1 (.t 34) (.t 32), none⟩]) (
 .seq (.reg [
 ⟨.t 36, .bin .eql (.l 5) (.c (.p (.i .i64 13))), none⟩,
 ⟨.l 35, .mv (.t 36), none⟩]) (
 .cond (.l 35) (
 .seq (.reg [
 ⟨.t 37, .mv (.l 0), none⟩,
 ⟨.t 38, .fad 1 (.l 3), none⟩,
 ⟨.t 39, .ld false 1 (.t 38), none⟩,
 ⟨.l 40, .call 227 [.t 37, .t 39, .c (.p (.i .i64 3))], none⟩]) (
 .cond (.l 40) (
 .drw [
 ⟨.t 41, .mv (.l 0), none⟩,
 ⟨.t 42, .mv (.l 0), none⟩,
 ⟨.t 43, .nilc (.t 42), none⟩,
 ⟨.t 44, .fad 0 (.t 43), none⟩,
 ⟨.t 45, .fad 1 (.t 44), none⟩,
 ⟨.t 46, .ld false 1 (.t 45), none⟩,
 ⟨.t 47, .mv (.l 0), none⟩,
 ⟨.t 48, .fad 1 (.l 3), none⟩,
 ⟨.t 49, .ld false 1 (.t 48), none⟩,
 ⟨.t 50, .nilc (.t 47), none⟩,
 ⟨.t 51, .fad 5 (.t 50), none⟩,
 ⟨.t 52, .ixa 16 4 (.t 51) (.t 49), none⟩,
 ⟨.t 53, .fad 1 (.t 52), none⟩,
 ⟨.t 54, .ld false 1 (.t 53), none⟩,
 ⟨.t 55, .ixs 1 (.t 46) (.t 54), none⟩,
 ⟨.t 56, .ld false 1 (.t 55), none⟩] [
 ⟨.t 57, .nilc (.t 41), none⟩,
 ⟨.t 58, .fad 4 (.t 57), none⟩,
 ⟨.no, .sto 1 (.t 58) (.t 56), none⟩]) (
 .skip))) (
 .seq (.reg [
 ⟨.t 60, .bin .eql (.l 5) (.c (.p (.i .i64 14))), none⟩,
 ⟨.l 59, .mv (.t 60), none⟩]) (
 .cond (.l 59) (
 .seq (.reg [
 ⟨.t 61, .mv (.l 0), none⟩,
 ⟨.t 62, .fad 1 (.l 3), none⟩,
 ⟨.t 63, .ld false 1 (.t 62), none⟩,
 ⟨.l 64, .call 227 [.t 61, .t 63, .c (.p (.i .i64 0))], none⟩]) (
 .cond (.l 64) (
 .drw [
 ⟨.t 65, .mv (.l 0), none⟩,
 ⟨.t 66, .mv (.l 0), none⟩,
 ⟨.t 67, .fad 1 (.l 3), none⟩,
 ⟨.t 68, .ld false 1 (.t 67), none⟩,
 ⟨.t 69, .nilc (.t 66), none⟩,
 ⟨.t 70, .fad 5 (.t 69), none⟩,
 ⟨.t 71, .ixa 16 4 (.t 70) (.t 68), none⟩,
 ⟨.t 72, .fad 1 (.t 71), none⟩,
 ⟨.t 73, .ld false 1 (.t 72), none⟩] [
 ⟨.t 74, .call 153 [.t 65, .c (.p (.i .i64 1)), .t 73], none⟩]) (
 .skip))) (
 .seq (.reg [
 ⟨.t 76, .bin .eql (.l 5) (.c (.p (.i .i64 15))), none⟩,
 ⟨.l 75, .mv (.t 76), none⟩]) (
 .cond (.l 75) (
 .reg [
 ⟨.t 77, .mv (.l 0), none⟩,
 ⟨.t 78, .fad 4 (.l 3), none⟩,
 ⟨.t 79, .ld false 1 (.t 78), none⟩,
 ⟨.t 80, .call 153 [.t 77, .c (.p (.i .i64 2)), .t 79], none⟩]) (
 .skip)))))))))))))
theorem mc200_eq : (Try.f200.body.map (compile lv200 Try.prog 81)) = some mc200 := by kernel_rfl
def mr200 : List MR := []
theorem mr200_eq : cRess lv200 Try.prog Try.f200.results.toList = some mr200 := by kernel_rfl
theorem call200 {args : List AV} {H : List AO} {Q : AV → List AO → Prop} (hla : args.length ≤ 81) (h : wpm (ACall Try.prog) mc200 (finK mr200 Q) ⟨argEnv 0 args, [], H⟩) : ACall Try.prog 200 args H Q :=
  acall_mc (by kernel_rfl) Try.func200 mc200_eq Try.ntmps200 (by kernel_rfl) mr200_eq hla h
/- spec.l8Prim -/
def lv201 : List Nat := [0, 1, 2, 6, 7, 8, 9, 17, 34, 52, 61, 69]
def mc201 : MC :=
.seq (.reg [
 ⟨.l 6, .alloc zl45_4, none⟩]) (
 .seq (.seq (.reg [
 ⟨.l 8, .mv (.l 1), none⟩]) (
 .blk 0 (
 .seq (.reg [
 ⟨.t 10, .bin .eql (.l 8) (.c (.p (.s [114, 101, 97, 100]))), none⟩,
 ⟨.l 9, .mv (.t 10), none⟩]) (
 .cond (.l 9) (
 .seq (.reg [
 ⟨.t 11, .build zl45_4 [(0, 1, (.c (.p (.i .i64 1)))), (1, 1, (.c (.p (.i .i64 (-1)))))], none⟩,
 ⟨.l 7, .alloc zl45_4, none⟩,
 ⟨.no, .sto 18 (.l 7) (.t 11), none⟩]) (
 .seq (.seq (.reg [
 ⟨.t 12, .mv (.l 0), none⟩,
 ⟨.t 13, .nilc (.t 12), none⟩,
 ⟨.t 14, .fad 1 (.t 13), none⟩,
 ⟨.t 15, .ld false 1 (.t 14), none⟩,
 ⟨.t 16, .len false (.t 15), none⟩,
 ⟨.l 17, .bin .gtr (.t 16) (.c (.p (.i .i64 0))), none⟩]) (
 .cond (.l 17) (
 .seq (.reg [
 ⟨.t 18, .mv (.l 0), none⟩,
 ⟨.t 19, .nilc (.t 18), none⟩,
 ⟨.t 20, .fad 1 (.t 19), none⟩,
 ⟨.t 21, .ld false 1 (.t 20), none⟩,
 ⟨.t 22, .ixs 1 (.t 21) (.c (.p (.i .i64 0))), none⟩,
 ⟨.t 23, .ld false 1 (.t 22), none⟩,
 ⟨.t 24, .fad 1 (.l 7), none⟩,
 ⟨.no, .sto 1 (.t 24) (.t 23), none⟩]) (
 .reg [
 ⟨.t 25, .mv (.l 0), none⟩,
 ⟨.t 26, .mv (.l 0), none⟩,
 ⟨.t 27, .nilc (.t 26), none⟩,
 ⟨.t 28, .fad 1 (.t 27), none⟩,
 ⟨.t 29, .ld false 1 (.t 28), none⟩,
 ⟨.t 30, .slc (some 1) (.t 29) (some (.c (.p (.i .i64 1)))) none, none⟩,
 ⟨.t 31, .nilc (.t 25), none⟩,
 ⟨.t 32, .fad 1 (.t 31), none⟩,
 ⟨.no, .sto 1 (.t 32) (.t 30), none⟩])) (
 .skip))) (
 .seq (.reg [
 ⟨.t 33, .ld true 18 (.l 7), none⟩,
 ⟨.no, .sto 18 (.l 6) (.t 33), none⟩]) (
 .ret)))) (
 .seq (.reg [
 ⟨.t 35, .bin .eql (.l 8) (.c (.p (.s [112, 114, 105, 110, 116]))), none⟩,
 ⟨.l 34, .mv (.t 35), none⟩]) (
 .cond (.l 34) (
 .seq (.drw [
 ⟨.t 36, .mv (.l 0), none⟩,
 ⟨.t 37, .mv (.l 0), none⟩,
 ⟨.t 38, .nilc (.t 37), none⟩,
 ⟨.t 39, .fad 3 (.t 38), none⟩,
 ⟨.t 40, .fad 2 (.t 39), none⟩,
 ⟨.t 41, .ld false 1 (.t 40), none⟩,
 ⟨.t 42, .mv (.l 2), none⟩,
 ⟨.t 43, .ixs 18 (.t 42) (.c (.p (.i .i64 0))), none⟩,
 ⟨.t 44, .fad 1 (.t 43), none⟩,
 ⟨.t 45, .ld false 1 (.t 44), none⟩,
 ⟨.t 46, .bsl 1 [.p (.i .i64 0)] 1 [(0, (.t 45))], none⟩,
 ⟨.t 47, .appn 1 8 (.t 41) (.t 46), none⟩] [
 ⟨.t 48, .nilc (.t 36), none⟩,
 ⟨.t 49, .fad 3 (.t 48), none⟩,
 ⟨.t 50, .fad 2 (.t 49), none⟩,
 ⟨.no, .sto 1 (.t 50) (.t 47), none⟩]) (
 .seq (.reg [
 ⟨.t 51, .build zl45_4 [(0, 1, (.c (.p (.i .i64 1))))], none⟩,
 ⟨.no, .sto 18 (.l 6) (.t 51), none⟩]) (
 .ret))) (
 .seq (.reg [
 ⟨.t 53, .bin .eql (.l 8) (.c (.p (.s [101, 120, 105, 116]))), none⟩,
 ⟨.l 52, .mv (.t 53), none⟩]) (
 .cond (.l 52) (
 .seq (.reg [
 ⟨.t 54, .mv (.l 0), none⟩,
 ⟨.t 55, .mv (.l 2), none⟩,
 ⟨.t 56, .ixs 18 (.t 55) (.c (.p (.i .i64 0))), none⟩,
 ⟨.t 57, .fad 1 (.t 56), none⟩,
 ⟨.t 58, .ld false 1 (.t 57), none⟩,
 ⟨.t 59, .call 154 [.t 54, .c (.p (.i .i64 1)), .t 58], none⟩]) (
 .seq (.reg [
 ⟨.t 60, .build zl45_4 [], none⟩,
 ⟨.no, .sto 18 (.l 6) (.t 60), none⟩]) (
 .ret))) (
 .seq (.reg [
 ⟨.t 62, .bin .eql (.l 8) (.c (.p (.s [115, 105, 122, 101]))), none⟩,
 ⟨.l 61, .mv (.t 62), none⟩]) (
 .cond (.l 61) (
 .seq (.reg [
 ⟨.t 63, .mv (.l 2), none⟩,
 ⟨.t 64, .ixs 18 (.t 63) (.c (.p (.i .i64 0))), none⟩,
 ⟨.t 65, .fad 2 (.t 64), none⟩,
 ⟨.t 66, .ld false 1 (.t 65), none⟩,
 ⟨.t 67, .len true (.t 66), none⟩,
 ⟨.t 68, .build zl45_4 [(0, 1, (.c (.p (.i .i64 1)))), (1, 1, (.t 67))], none⟩,
 ⟨.no, .sto 18 (.l 6) (.t 68), none⟩]) (
 .ret)) (
 .seq (.reg [
 ⟨.t 70, .bin .eql (.l 8) (.c (.p (.s [114, 101, 102]))), none⟩,
 ⟨.l 69, .mv (.t 70), none⟩]) (
 .cond (.l 69) (
 .seq (.stop) (
 .seq (.reg [
 ⟨.t 84, .mv (.l 0), none⟩,
 ⟨.t 85, .nilc (.t 84), none⟩,
 ⟨.t 86, .fad 2 (.t 85), none⟩,
 ⟨.t 87, .ld false 1 (.t 86), none⟩,
 ⟨.t 88, .len false (.t 87), none⟩,
 ⟨.t 89, .bin .sub (.t 88) (.c (.p (.i .i64 1))), none⟩,
 ⟨.t 90, .build zl45_4 [(0, 1, (.c (.p (.i .i64 6)))), (1, 1, (.t 89))], none⟩,
 ⟨.no, .sto 18 (.l 6) (.t 90), none⟩]) (
 .ret))) (
 .skip))))))))))))) (
 .seq (.drw [
 ⟨.t 91, .mv (.l 0), none⟩,
 ⟨.t 92, .nilc (.t 91), none⟩,
 ⟨.t 93, .fad 2 (.t 92), none⟩,
 ⟨.t 94, .ld false 1 (.t 93), none⟩,
 ⟨.t 95, .mv (.l 2), none⟩,
 ⟨.t 96, .ixs 18 (.t 95) (.c (.p (.i .i64 0))), none⟩,
 ⟨.t 97, .fad 1 (.t 96), none⟩,
 ⟨.t 98, .ld false 1 (.t 97), none⟩] [
 ⟨.t 99, .ixs 18 (.t 94) (.t 98), none⟩,
 ⟨.t 100, .ld true 18 (.t 99), none⟩,
 ⟨.no, .sto 18 (.l 6) (.t 100), none⟩]) (
 .ret)))
theorem mc201_eq : (Try.f201.body.map (compile lv201 Try.prog 101)) = some mc201 := by kernel_rfl
def mr201 : List MR := [.cell true 18 6]
theorem mr201_eq : cRess lv201 Try.prog Try.f201.results.toList = some mr201 := by kernel_rfl
theorem call201 {args : List AV} {H : List AO} {Q : AV → List AO → Prop} (hla : args.length ≤ 101) (h : wpm (ACall Try.prog) mc201 (finK mr201 Q) ⟨argEnv 0 args, [], H⟩) : ACall Try.prog 201 args H Q :=
  acall_mc (by kernel_rfl) Try.func201 mc201_eq Try.ntmps201 (by kernel_rfl) mr201_eq hla h
/- spec.l8Op -/
def lv202 : List Nat := [0, 1, 2, 3, 6, 7, 8, 9, 10, 18, 26, 34, 42, 50, 59]
def mc202 : MC :=
.seq (.reg [
 ⟨.l 6, .box 18 (.l 2), none⟩,
 ⟨.l 7, .box 18 (.l 3), none⟩,
 ⟨.l 8, .alloc zl45_4, none⟩]) (
 .seq (.seq (.reg [
 ⟨.l 9, .mv (.l 1), none⟩]) (
 .blk 0 (
 .seq (.reg [
 ⟨.t 11, .bin .eql (.l 9) (.c (.p (.s [43]))), none⟩,
 ⟨.l 10, .mv (.t 11), none⟩]) (
 .cond (.l 10) (
 .seq (.reg [
 ⟨.t 12, .fad 1 (.l 6), none⟩,
 ⟨.t 13, .ld false 1 (.t 12), none⟩,
 ⟨.t 14, .fad 1 (.l 7), none⟩,
 ⟨.t 15, .ld false 1 (.t 14), none⟩,
 ⟨.t 16, .bin .add (.t 13) (.t 15), none⟩,
 ⟨.t 17, .build zl45_4 [(0, 1, (.c (.p (.i .i64 1)))), (1, 1, (.t 16))], none⟩,
 ⟨.no, .sto 18 (.l 8) (.t 17), none⟩]) (
 .ret)) (
 .seq (.reg [
 ⟨.t 19, .bin .eql (.l 9) (.c (.p (.s [45]))), none⟩,
 ⟨.l 18, .mv (.t 19), none⟩]) (
 .cond (.l 18) (
 .seq (.reg [
 ⟨.t 20, .fad 1 (.l 6), none⟩,
 ⟨.t 21, .ld false 1 (.t 20), none⟩,
 ⟨.t 22, .fad 1 (.l 7), none⟩,
 ⟨.t 23, .ld false 1 (.t 22), none⟩,
 ⟨.t 24, .bin .sub (.t 21) (.t 23), none⟩,
 ⟨.t 25, .build zl45_4 [(0, 1, (.c (.p (.i .i64 1)))), (1, 1, (.t 24))], none⟩,
 ⟨.no, .sto 18 (.l 8) (.t 25), none⟩]) (
 .ret)) (
 .seq (.reg [
 ⟨.t 27, .bin .eql (.l 9) (.c (.p (.s [42]))), none⟩,
 ⟨.l 26, .mv (.t 27), none⟩]) (
 .cond (.l 26) (
 .seq (.reg [
 ⟨.t 28, .fad 1 (.l 6), none⟩,
 ⟨.t 29, .ld false 1 (.t 28), none⟩,
 ⟨.t 30, .fad 1 (.l 7), none⟩,
 ⟨.t 31, .ld false 1 (.t 30), none⟩,
 ⟨.t 32, .bin .mul (.t 29) (.t 31), none⟩,
 ⟨.t 33, .build zl45_4 [(0, 1, (.c (.p (.i .i64 1)))), (1, 1, (.t 32))], none⟩,
 ⟨.no, .sto 18 (.l 8) (.t 33), none⟩]) (
 .ret)) (
 .seq (.reg [
 ⟨.t 35, .bin .eql (.l 9) (.c (.p (.s [61]))), none⟩,
 ⟨.l 34, .mv (.t 35), none⟩]) (
 .cond (.l 34) (
 .seq (.reg [
 ⟨.t 36, .fad 1 (.l 6), none⟩,
 ⟨.t 37, .ld false 1 (.t 36), none⟩,
 ⟨.t 38, .fad 1 (.l 7), none⟩,
 ⟨.t 39, .ld false 1 (.t 38), none⟩,
 ⟨.t 40, .bin .eql (.t 37) (.t 39), none⟩,
 ⟨.t 41, .call 228 [.t 40], none⟩,
 ⟨.no, .sto 18 (.l 8) (.t 41), none⟩]) (
 .ret)) (
 .seq (.reg [
 ⟨.t 43, .bin .eql (.l 9) (.c (.p (.s [60]))), none⟩,
 ⟨.l 42, .mv (.t 43), none⟩]) (
 .cond (.l 42) (
 .seq (.reg [
 ⟨.t 44, .fad 1 (.l 6), none⟩,
 ⟨.t 45, .ld false 1 (.t 44), none⟩,
 ⟨.t 46, .fad 1 (.l 7), none⟩,
 ⟨.t 47, .ld false 1 (.t 46), none⟩,
 ⟨.t 48, .bin .lss (.t 45) (.t 47), none⟩,
 ⟨.t 49, .call 228 [.t 48], none⟩,
 ⟨.no, .sto 18 (.l 8) (.t 49), none⟩]) (
 .ret)) (
 .seq (.reg [
 ⟨.t 51, .bin .eql (.l 9) (.c (.p (.s [94]))), none⟩,
 ⟨.l 50, .mv (.t 51), none⟩]) (
 .cond (.l 50) (
 .seq (.seq (.reg [
 ⟨.t 52, .fad 2 (.l 6), none⟩,
 ⟨.t 53, .ld false 1 (.t 52), none⟩,
 ⟨.t 54, .len true (.t 53), none⟩,
 ⟨.t 55, .fad 2 (.l 7), none⟩,
 ⟨.t 56, .ld false 1 (.t 55), none⟩,
 ⟨.t 57, .len true (.t 56), none⟩,
 ⟨.t 58, .bin .add (.t 54) (.t 57), none⟩,
 ⟨.l 59, .bin .gtr (.t 58) (.c (.p (.i .i64 500))), none⟩]) (
 .cond (.l 59) (
 .seq (.reg [
 ⟨.t 60, .mv (.l 0), none⟩,
 ⟨.t 61, .call 154 [.t 60, .c (.p (.i .i64 2)), .c (.p (.i .i64 2))], none⟩]) (
 .seq (.reg [
 ⟨.t 62, .build zl45_4 [], none⟩,
 ⟨.no, .sto 18 (.l 8) (.t 62), none⟩]) (
 .ret))) (
 .skip))) (
 .seq (.reg [
 ⟨.t 63, .fad 2 (.l 6), none⟩,
 ⟨.t 64, .ld false 1 (.t 63), none⟩,
 ⟨.t 65, .fad 2 (.l 7), none⟩,
 ⟨.t 66, .ld false 1 (.t 65), none⟩,
 ⟨.t 67, .bin .add (.t 64) (.t 66), none⟩,
 ⟨.t 68, .build zl45_4 [(0, 1, (.c (.p (.i .i64 2)))), (2, 1, (.t 67))], none⟩,
 ⟨.no, .sto 18 (.l 8) (.t 68), none⟩]) (
 .ret))) (
 .skip))))))))))))))) (
 .seq (.drw [
 ⟨.t 69, .mv (.l 0), none⟩,
 ⟨.t 70, .nilc (.t 69), none⟩,
 ⟨.t 71, .fad 2 (.t 70), none⟩,
 ⟨.t 72, .ld false 1 (.t 71), none⟩,
 ⟨.t 73, .fad 1 (.l 6), none⟩,
 ⟨.t 74, .ld false 1 (.t 73), none⟩,
 ⟨.t 75, .ld true 18 (.l 7), none⟩] [
 ⟨.t 76, .ixs 18 (.t 72) (.t 74), none⟩,
 ⟨.no, .sto 18 (.t 76) (.t 75), none⟩]) (
 .seq (.reg [
 ⟨.t 77, .build zl45_4 [(0, 1, (.c (.p (.i .i64 1))))], none⟩,
 ⟨.no, .sto 18 (.l 8) (.t 77), none⟩]) (
 .ret))))
theorem mc202_eq : (Try.f202.body.map (compile lv202 Try.prog 78)) = some mc202 := by kernel_rfl
def mr202 : List MR := [.cell true 18 8]
theorem mr202_eq : cRess lv202 Try.prog Try.f202.results.toList = some mr202 := by kernel_rfl
theorem call202 {args : List AV} {H : List AO} {Q : AV → List AO → Prop} (hla : args.length ≤ 78) (h : wpm (ACall Try.prog) mc202 (finK mr202 Q) ⟨argEnv 0 args, [], H⟩) : ACall Try.prog 202 args H Q :=
  acall_mc (by kernel_rfl) Try.func202 mc202_eq Try.ntmps202 (by kernel_rfl) mr202_eq hla h
/- (*impl.machine).texts -/
def lv226 : List Nat := [0, 1, 3, 4, 5, 10, 21, 35, 46, 52]
def mc226 : MC :=
.seq (.reg [
 ⟨.l 3, .box 6 (.l 1), none⟩]) (
 .seq (.seq (.reg [
 ⟨.t 6, .mv (.l 0), none⟩,
 ⟨.t 7, .fad 2 (.l 3), none⟩,
 ⟨.t 8, .ld false 1 (.t 7), none⟩,
 ⟨.t 9, .call 227 [.t 6, .t 8, .c (.p (.i .i64 1))], none⟩,
 ⟨.l 10, .un .not (.t 9), none⟩]) (
 .cond (.l 10) (
 .ret) (
 .skip))) (
 .seq (.drw [
 ⟨.t 11, .mv (.l 0), none⟩,
 ⟨.t 12, .fad 2 (.l 3), none⟩,
 ⟨.t 13, .ld false 1 (.t 12), none⟩,
 ⟨.t 14, .nilc (.t 11), none⟩,
 ⟨.t 15, .fad 5 (.t 14), none⟩] [
 ⟨.t 16, .ixa 16 4 (.t 15) (.t 13), none⟩,
 ⟨.t 17, .fad 2 (.t 16), none⟩,
 ⟨.t 18, .ld false 1 (.t 17), none⟩,
 ⟨.l 4, .mv (.t 18), none⟩]) (
 .seq (.seq (.reg [
 ⟨.t 19, .fad 5 (.l 3), none⟩,
 ⟨.t 20, .ld false 1 (.t 19), none⟩,
 ⟨.l 21, .bin .eql (.t 20) (.c (.p (.s [115, 105, 122, 101]))), none⟩]) (
 .cond (.l 21) (
 .seq (.drw [
 ⟨.t 22, .mv (.l 0), none⟩,
 ⟨.t 23, .fad 1 (.l 3), none⟩,
 ⟨.t 24, .ld false 1 (.t 23), none⟩,
 ⟨.t 25, .mv (.l 4), none⟩,
 ⟨.t 26, .lenq true (.t 25), none⟩,
 ⟨.t 27, .call 196 [.t 26], none⟩,
 ⟨.t 28, .nilc (.t 22), none⟩,
 ⟨.t 29, .fad 5 (.t 28), none⟩] [
 ⟨.t 30, .ixa 16 4 (.t 29) (.t 24), none⟩,
 ⟨.no, .sto 4 (.t 30) (.t 27), none⟩]) (
 .ret)) (
 .skip))) (
 .seq (.seq (.reg [
 ⟨.t 31, .mv (.l 0), none⟩,
 ⟨.t 32, .fad 3 (.l 3), none⟩,
 ⟨.t 33, .ld false 1 (.t 32), none⟩,
 ⟨.t 34, .call 227 [.t 31, .t 33, .c (.p (.i .i64 1))], none⟩,
 ⟨.l 35, .un .not (.t 34), none⟩]) (
 .cond (.l 35) (
 .ret) (
 .skip))) (
 .seq (.drw [
 ⟨.t 36, .mv (.l 4), none⟩,
 ⟨.t 37, .mv (.l 0), none⟩,
 ⟨.t 38, .fad 3 (.l 3), none⟩,
 ⟨.t 39, .ld false 1 (.t 38), none⟩,
 ⟨.t 40, .nilc (.t 37), none⟩,
 ⟨.t 41, .fad 5 (.t 40), none⟩,
 ⟨.t 42, .ixa 16 4 (.t 41) (.t 39), none⟩,
 ⟨.t 43, .fad 2 (.t 42), none⟩,
 ⟨.t 44, .ld false 1 (.t 43), none⟩] [
 ⟨.t 45, .bin .add (.t 36) (.t 44), none⟩,
 ⟨.l 5, .mv (.t 45), none⟩]) (
 .blk 0 (
 .seq (.reg [
 ⟨.t 47, .mv (.l 5), none⟩,
 ⟨.t 48, .len true (.t 47), none⟩,
 ⟨.t 49, .bin .gtr (.t 48) (.c (.p (.i .i64 500))), none⟩,
 ⟨.l 46, .mv (.t 49), none⟩]) (
 .cond (.l 46) (
 .reg [
 ⟨.t 50, .mv (.l 0), none⟩,
 ⟨.t 51, .call 153 [.t 50, .c (.p (.i .i64 2)), .c (.p (.i .i64 2))], none⟩]) (
 .seq (.reg [
 ⟨.t 53, .mv (.l 0), none⟩,
 ⟨.t 54, .mv (.l 5), none⟩,
 ⟨.t 55, .len true (.t 54), none⟩,
 ⟨.t 56, .bin .add (.t 55) (.c (.p (.i .i64 7))), none⟩,
 ⟨.t 57, .bin .quo (.t 56) (.c (.p (.i .i64 8))), none⟩,
 ⟨.t 58, .bin .add (.t 57) (.c (.p (.i .i64 1))), none⟩,
 ⟨.t 59, .call 198 [.t 53, .t 58], none⟩,
 ⟨.l 52, .mv (.t 59), none⟩]) (
 .cond (.l 52) (
 .drw [
 ⟨.t 60, .mv (.l 0), none⟩,
 ⟨.t 61, .fad 1 (.l 3), none⟩,
 ⟨.t 62, .ld false 1 (.t 61), none⟩,
 ⟨.t 63, .mv (.l 5), none⟩,
 ⟨.t 64, .build [.p (.i .i64 0), .p (.i .i64 0), .p (.s []), .p (.nl)] [(0, 1, (.c (.p (.i .i64 1)))), (2, 1, (.t 63))], none⟩,
 ⟨.t 65, .nilc (.t 60), none⟩,
 ⟨.t 66, .fad 5 (.t 65), none⟩] [
 ⟨.t 67, .ixa 16 4 (.t 66) (.t 62), none⟩,
 ⟨.no, .sto 4 (.t 67) (.t 64), none⟩]) (
 .skip)))))))))))
theorem mc226_eq : (Try.f226.body.map (compile lv226 Try.prog 68)) = some mc226 := by kernel_rfl
def mr226 : List MR := []
theorem mr226_eq : cRess lv226 Try.prog Try.f226.results.toList = some mr226 := by kernel_rfl
theorem call226 {args : List AV} {H : List AO} {Q : AV → List AO → Prop} (hla : args.length ≤ 68) (h : wpm (ACall Try.prog) mc226 (finK mr226 Q) ⟨argEnv 0 args, [], H⟩) : ACall Try.prog 226 args H Q :=
  acall_mc (by kernel_rfl) Try.func226 mc226_eq Try.ntmps226 (by kernel_rfl) mr226_eq hla h
/- (*impl.machine).want -/
def lv227 : List Nat := [0, 1, 2, 6, 15]
def mc227 : MC :=
.seq (.reg [
 ⟨.l 6, .mv (.c (.p (.b false))), none⟩]) (
 .seq (.seq (.reg [
 ⟨.t 7, .mv (.l 0), none⟩,
 ⟨.t 8, .mv (.l 1), none⟩,
 ⟨.t 9, .nilc (.t 7), none⟩,
 ⟨.t 10, .fad 5 (.t 9), none⟩,
 ⟨.t 11, .ixa 16 4 (.t 10) (.t 8), none⟩,
 ⟨.t 12, .fad 0 (.t 11), none⟩,
 ⟨.t 13, .ld false 1 (.t 12), none⟩,
 ⟨.t 14, .mv (.l 2), none⟩,
 ⟨.l 15, .bin .neq (.t 13) (.t 14), none⟩]) (
 .cond (.l 15) (
 .seq (.reg [
 ⟨.t 16, .mv (.l 0), none⟩,
 ⟨.t 17, .call 153 [.t 16, .c (.p (.i .i64 0)), .c (.p (.i .i64 0))], none⟩]) (
 .seq (.reg [
 ⟨.l 6, .mv (.c (.p (.b false))), none⟩]) (
 .ret))) (
 .skip))) (
 .seq (.reg [
 ⟨.l 6, .mv (.c (.p (.b true))), none⟩]) (
 .ret)))
theorem mc227_eq : (Try.f227.body.map (compile lv227 Try.prog 18)) = some mc227 := by kernel_rfl
def mr227 : List MR := [.t 6]
theorem mr227_eq : cRess lv227 Try.prog Try.f227.results.toList = some mr227 := by kernel_rfl
theorem call227 {args : List AV} {H : List AO} {Q : AV → List AO → Prop} (hla : args.length ≤ 18) (h : wpm (ACall Try.prog) mc227 (finK mr227 Q) ⟨argEnv 0 args, [], H⟩) : ACall Try.prog 227 args H Q :=
  acall_mc (by kernel_rfl) Try.func227 mc227_eq Try.ntmps227 (by kernel_rfl) mr227_eq hla h
/- spec.l8Bool -/
def lv228 : List Nat := [0, 2, 3]
def mc228 : MC :=
.seq (.reg [
 ⟨.l 2, .alloc zl45_4, none⟩]) (
 .seq (.seq (.reg [
 ⟨.l 3, .mv (.l 0), none⟩]) (
 .cond (.l 3) (
 .seq (.reg [
 ⟨.t 4, .build zl45_4 [(0, 1, (.c (.p (.i .i64 1)))), (1, 1, (.c (.p (.i .i64 1))))], none⟩,
 ⟨.no, .sto 18 (.l 2) (.t 4), none⟩]) (
 .ret)) (
 .skip))) (
 .seq (.reg [
 ⟨.t 5, .build zl45_4 [(0, 1, (.c (.p (.i .i64 1))))], none⟩,
 ⟨.no, .sto 18 (.l 2) (.t 5), none⟩]) (
 .ret)))
theorem mc228_eq : (Try.f228.body.map (compile lv228 Try.prog 6)) = some mc228 := by kernel_rfl
def mr228 : List MR := [.cell true 18 2]
theorem mr228_eq : cRess lv228 Try.prog Try.f228.results.toList = some mr228 := by kernel_rfl
theorem call228 {args : List AV} {H : List AO} {Q : AV → List AO → Prop} (hla : args.length ≤ 6) (h : wpm (ACall Try.prog) mc228 (finK mr228 Q) ⟨argEnv 0 args, [], H⟩) : ACall Try.prog 228 args H Q :=
  acall_mc (by kernel_rfl) Try.func228 mc228_eq Try.ntmps228 (by kernel_rfl) mr228_eq hla h
end Go.Proofs.Ytmbggdfceecojaa.Mc

/- The machine of the reference: its state, as it lies in memory; its smaller functions. -/
set_option linter.all false
namespace Go.Proofs.Ytmbggdfceecojaa.Cd
open Go.AM Mc Ho

def wKd : WD → Int | .n _ => 0 | .s _ => 1 | .r _ => 2 | .b _ => 3
def wSn : WD → Int | .n z => z | .s _ => 0 | .r k => k | .b z => z
def wSt : WD → List UInt8 | .s t => t | _ => []
def wS (w : WD) : List AV := [.p (.i .i64 (wKd w)), .p (.i .i64 (wSn w)), .p (.s (wSt w))]

/-- where the machine lies -/
structure SG where
  im : Nat
  iw : Nat
  ir : Nat
  isl : Nat
  rs : List Nat
  hp : AV
  ou : AV
  ip : AV
def SG.ids (g : SG) : List Nat := g.ir :: g.isl :: g.rs
def gid : AV → Option Nat | .gs i _ _ _ => some i | _ => none
def finE' (m : MD) : Int := (m.fin.getD (0, 0)).1
def finC' (m : MD) : Int := (m.fin.getD (0, 0)).2
def mCl (g : SG) (m : MD) : List AV := [.ptr g.iw 0, .gs g.ir 0 0 16, .gs g.isl 0 0 64, g.hp, .p (.i .i64 m.room), .p (.i .i64 m.pc)]
def wCl (g : SG) (f : Int) (m : MD) : List AV := [.p (.i .i64 f), g.ip, .p .nl, .p (.i .i64 (finE' m)), .p (.i .i64 (finC' m)), g.ou, .p (.b m.fin.isSome)]
def hpR (rs : List Nat) (heap : List (List WD)) : List (List AV) := List.zipWith (fun id r => [AV.gs id 0 0 r.length]) rs heap

structure SM (g : SG) (f : Int) (H : List AO) (m : MD) : Prop where
  mv : H[g.im]? = some (.var (mCl g m))
  wv : H[g.iw]? = some (.var (wCl g f m))
  nd : g.ids.Nodup
  len : g.rs.length = m.heap.length
  rg : H[g.ir]? = some (.rows 3 0 (m.regs.map wS))
  sl : H[g.isl]? = some (.rows 3 0 (m.slots.map wS))
  rc : ∀ (k : Nat) id, g.rs[k]? = some id → H[id]? = some (.rows 3 0 ((rowD m k).map wS))
  hpo : OwnR H g.hp 1 (hpR g.rs m.heap)
  out : OwnR H g.ou 1 (intR .i64 m.out)
  inp : ∃ ii ver off all, g.ip = .gs ii ver off m.inp.length ∧ H[ii]? = some (.rows 1 ver (intR .i64 all)) ∧ all.drop off = m.inp
  d1 : ∀ j, gid g.hp = some j → gid g.ou ≠ some j
  d2 : ∀ j, gid g.hp = some j → gid g.ip ≠ some j
  d3 : ∀ j, gid g.ou = some j → gid g.ip ≠ some j
def smP (g : SG) (j : Nat) : Prop := j = g.im ∨ j = g.iw ∨ j ∈ g.ids ∨ gid g.hp = some j ∨ gid g.ou = some j ∨ gid g.ip = some j

theorem own_gid {H : List AO} {a : AV} {sz : Nat} {rs : List (List AV)} (h : OwnR H a sz rs) {j : Nat} (hj : gid a = some j) : ∃ ver, H[j]? = some (.rows sz ver rs) := by
  rcases h with ⟨rfl, _⟩ | ⟨id, ver, rfl, h⟩
  · cases hj
  · cases hj; exact ⟨ver, h⟩
theorem own_keep {H H' : List AO} {a : AV} {sz : Nat} {rs : List (List AV)} (h : OwnR H a sz rs) (k : ∀ j o, gid a = some j → H[j]? = some o → H'[j]? = some o) : OwnR H' a sz rs := by
  rcases h with h | ⟨id, ver, rfl, h⟩
  · exact .inl h
  · exact .inr ⟨id, ver, rfl, k _ _ rfl h⟩
/-- another object than the one that is written -/
theorem set_ne' {H : List AO} {i j : Nat} {a b o : AO} (hi : H[i]? = some a) (hj : H[j]? = some b) (hne : a ≠ b) : (H.set i o)[j]? = some b :=
  get_set hj (by rintro rfl; rw [hi] at hj; cases hj; exact hne rfl)

theorem SM.keep {g f H H' m} (h : SM g f H m) (k : ∀ (j : Nat) o, H[j]? = some o → smP g j → H'[j]? = some o) : SM g f H' m where
  mv := k _ _ h.mv (.inl rfl)
  wv := k _ _ h.wv (.inr (.inl rfl))
  nd := h.nd
  len := h.len
  rg := k _ _ h.rg (.inr (.inr (.inl (by simp [SG.ids]))))
  sl := k _ _ h.sl (.inr (.inr (.inl (by simp [SG.ids]))))
  rc := fun i id hi => k _ _ (h.rc i id hi) (.inr (.inr (.inl (by simp only [SG.ids, List.mem_cons]; exact .inr (.inr (List.mem_of_getElem? hi))))))
  hpo := own_keep h.hpo fun j o hj ho => k j o ho (.inr (.inr (.inr (.inl hj))))
  out := own_keep h.out fun j o hj ho => k j o ho (.inr (.inr (.inr (.inr (.inl hj)))))
  inp := by
    obtain ⟨ii, ver, off, all, e1, e2, e3⟩ := h.inp
    exact ⟨ii, ver, off, all, e1, k _ _ e2 (.inr (.inr (.inr (.inr (.inr (by rw [e1]; rfl)))))), e3⟩
  d1 := h.d1
  d2 := h.d2
  d3 := h.d3
theorem SM.ext {g f H m} (h : SM g f H m) (A : List AO) : SM g f (H ++ A) m := h.keep fun j o hj _ => get_ext hj A

/-- the machine's own cells are written -/
theorem SM.putM {g f H m} (h : SM g f H m) (room pc : Int) : SM g f (H.set g.im (.var (mCl g { m with room := room, pc := pc }))) { m with room := room, pc := pc } where
  mv := set_get h.mv
  wv := set_ne' h.mv h.wv (by intro e; simp [mCl, wCl] at e)
  nd := h.nd
  len := h.len
  rg := set_ne' h.mv h.rg (by intro e; cases e)
  sl := set_ne' h.mv h.sl (by intro e; cases e)
  rc := fun i id hi => set_ne' h.mv (h.rc i id hi) (by intro e; cases e)
  hpo := own_keep h.hpo fun j o hj ho => by obtain ⟨v, e⟩ := own_gid h.hpo hj; rw [e] at ho; cases ho; exact set_ne' h.mv e (by intro e; cases e)
  out := own_keep h.out fun j o hj ho => by obtain ⟨v, e⟩ := own_gid h.out hj; rw [e] at ho; cases ho; exact set_ne' h.mv e (by intro e; cases e)
  inp := by
    obtain ⟨ii, ver, off, all, e1, e2, e3⟩ := h.inp
    exact ⟨ii, ver, off, all, e1, set_ne' h.mv e2 (by intro e; cases e), e3⟩
  d1 := h.d1
  d2 := h.d2
  d3 := h.d3
/-- what is left, and how it ends, are written -/
theorem SM.putW {g f H m} (h : SM g f H m) (f' : Int) (fin : Option (Int × Int)) : SM g f' (H.set g.iw (.var (wCl g f' { m with fin := fin }))) { m with fin := fin } where
  mv := set_ne' h.wv h.mv (by intro e; simp [mCl, wCl] at e)
  wv := set_get h.wv
  nd := h.nd
  len := h.len
  rg := set_ne' h.wv h.rg (by intro e; cases e)
  sl := set_ne' h.wv h.sl (by intro e; cases e)
  rc := fun i id hi => set_ne' h.wv (h.rc i id hi) (by intro e; cases e)
  hpo := own_keep h.hpo fun j o hj ho => by obtain ⟨v, e⟩ := own_gid h.hpo hj; rw [e] at ho; cases ho; exact set_ne' h.wv e (by intro e; cases e)
  out := own_keep h.out fun j o hj ho => by obtain ⟨v, e⟩ := own_gid h.out hj; rw [e] at ho; cases ho; exact set_ne' h.wv e (by intro e; cases e)
  inp := by
    obtain ⟨ii, ver, off, all, e1, e2, e3⟩ := h.inp
    exact ⟨ii, ver, off, all, e1, set_ne' h.wv e2 (by intro e; cases e), e3⟩
  d1 := h.d1
  d2 := h.d2
  d3 := h.d3
theorem frM {g : SG} {H : List AO} (o : AO) : Fr (smP g) (smP g) H (H.set g.im o) := Fr.set o (.inl rfl)
theorem frW {g : SG} {H : List AO} (o : AO) : Fr (smP g) (smP g) H (H.set g.iw o) := Fr.set o (.inr (.inl rfl))

/-- rows are written: registers, slots, a record -/
theorem SM.putRow {g f H m} (h : SM g f H m) {id : Nat} (hid : id ∈ g.ids) (l : List WD) (m' : MD) (e1 : m'.room = m.room) (e2 : m'.pc = m.pc) (e3 : m'.inp = m.inp) (e4 : m'.out = m.out) (e5 : m'.fin = m.fin) (e6 : m'.heap.length = m.heap.length)
    (e7 : hpR g.rs m'.heap = hpR g.rs m.heap)
    (k1 : m'.regs = if id = g.ir then l else m.regs) (k2 : m'.slots = if id = g.isl then l else m.slots) (k3 : ∀ (k : Nat) j, g.rs[k]? = some j → rowD m' k = if id = j then l else rowD m k) :
    SM g f (H.set id (.rows 3 0 (l.map wS))) m' ∧ Fr (smP g) (smP g) H (H.set id (.rows 3 0 (l.map wS))) := by
  have hrow : ∃ rs, H[id]? = some (.rows 3 0 rs) := by
    simp only [SG.ids, List.mem_cons] at hid
    rcases hid with rfl | rfl | hid
    · exact ⟨_, h.rg⟩
    · exact ⟨_, h.sl⟩
    · obtain ⟨k, hk⟩ := List.getElem?_of_mem hid
      exact ⟨_, h.rc k id hk⟩
  obtain ⟨rs, hr⟩ := hrow
  have em : mCl g m' = mCl g m := by simp [mCl, e1, e2]
  have ew : wCl g f m' = wCl g f m := by simp [wCl, e5, finE', finC']
  refine ⟨⟨?_, ?_, h.nd, by rw [e6]; exact h.len, ?_, ?_, ?_, ?_, ?_, ?_, h.d1, h.d2, h.d3⟩, Fr.set _ (.inr (.inr (.inl hid)))⟩
  · rw [em]; exact set_ne' hr h.mv (by intro e; cases e)
  · rw [ew]; exact set_ne' hr h.wv (by intro e; cases e)
  · rw [k1]
    split
    · rename_i e; subst e; exact set_get hr
    · rename_i e; exact get_set h.rg e
  · rw [k2]
    split
    · rename_i e; subst e; exact set_get hr
    · rename_i e; exact get_set h.sl e
  · intro k j hj
    rw [k3 k j hj]
    split
    · rename_i e; subst e; exact set_get hr
    · rename_i e; exact get_set (h.rc k j hj) e
  · rw [e7]
    exact own_keep h.hpo fun j o hj ho => by obtain ⟨v, e⟩ := own_gid h.hpo hj; rw [e] at ho; cases ho; exact set_ne' hr e (by intro e; cases e)
  · rw [e4]
    exact own_keep h.out fun j o hj ho => by obtain ⟨v, e⟩ := own_gid h.out hj; rw [e] at ho; cases ho; exact set_ne' hr e (by intro e; cases e)
  · obtain ⟨ii, ver, off, all, e1, e2, e3'⟩ := h.inp
    exact ⟨ii, ver, off, all, by rw [e3]; exact e1, set_ne' hr e2 (by intro e; cases e), by rw [e3]; exact e3'⟩

theorem SM.ne {g f H m} (h : SM g f H m) : g.ir ≠ g.isl ∧ (∀ j ∈ g.rs, g.ir ≠ j ∧ g.isl ≠ j) := by
  have := h.nd
  simp only [SG.ids, List.nodup_cons, List.mem_cons, not_or] at this
  exact ⟨this.1.1, fun j hj => ⟨fun e => this.1.2 (e ▸ hj), fun e => this.2.1 (e ▸ hj)⟩⟩
theorem SM.putReg {g f H m} (h : SM g f H m) (i : Nat) (w : WD) : SM g f (H.set g.ir (.rows 3 0 ((m.regs.map wS).set i (wS w)))) { m with regs := m.regs.set i w } ∧ Fr (smP g) (smP g) H (H.set g.ir (.rows 3 0 ((m.regs.map wS).set i (wS w)))) := by
  rw [← List.map_set]
  have hn := h.ne
  exact h.putRow (by simp [SG.ids]) _ _ rfl rfl rfl rfl rfl rfl rfl (by simp) (by simp [hn.1]) fun k j hj => by rw [if_neg (hn.2 j (List.mem_of_getElem? hj)).1]; rfl
theorem SM.putSlot {g f H m} (h : SM g f H m) (i : Nat) (w : WD) : SM g f (H.set g.isl (.rows 3 0 ((m.slots.map wS).set i (wS w)))) { m with slots := m.slots.set i w } ∧ Fr (smP g) (smP g) H (H.set g.isl (.rows 3 0 ((m.slots.map wS).set i (wS w)))) := by
  rw [← List.map_set]
  have hn := h.ne
  exact h.putRow (by simp [SG.ids]) _ _ rfl rfl rfl rfl rfl rfl rfl (by simp [Ne.symm hn.1]) (by simp) fun k j hj => by rw [if_neg (hn.2 j (List.mem_of_getElem? hj)).2]; rfl
theorem hpR_set (rs : List Nat) (heap : List (List WD)) (k : Nat) (l : List WD) (hl : k < heap.length → l.length = (heap.getD k []).length) : hpR rs (heap.set k l) = hpR rs heap := by
  apply List.ext_getElem?
  intro i
  unfold hpR
  rw [List.getElem?_zipWith, List.getElem?_zipWith]
  by_cases e : k = i
  · subst e
    by_cases hk : k < heap.length
    · have := hl hk
      rw [List.getD_eq_getElem?_getD, List.getElem?_eq_getElem hk, Option.getD_some] at this
      rw [List.getElem?_set_self hk, List.getElem?_eq_getElem hk]
      cases rs[k]? with
      | none => rfl
      | some id => simp [this]
    · rw [List.set_eq_of_length_le (by omega)]
  · rw [List.getElem?_set_ne e]
theorem SM.putRec {g f H m} (h : SM g f H m) {k : Nat} {id : Nat} (hk : g.rs[k]? = some id) (n : Nat) (w : WD) :
    SM g f (H.set id (.rows 3 0 (((rowD m k).map wS).set n (wS w)))) { m with heap := m.heap.set k ((rowD m k).set n w) } ∧ Fr (smP g) (smP g) H (H.set id (.rows 3 0 (((rowD m k).map wS).set n (wS w)))) := by
  rw [← List.map_set]
  have hn := h.ne
  have hm := List.mem_of_getElem? hk
  refine h.putRow (by simp [SG.ids, hm]) _ _ rfl rfl rfl rfl rfl (by simp) (hpR_set _ _ _ _ fun _ => by simp [rowD]) (by rw [if_neg (fun e => (hn.2 id hm).1 e.symm)]) (by rw [if_neg (fun e => (hn.2 id hm).2 e.symm)]) fun i j hj => ?_
  have hkl : k < m.heap.length := by rw [← h.len]; exact (List.getElem?_eq_some_iff.1 hk).1
  by_cases e : id = j
  · subst e
    have hnd : g.rs.Nodup := by have := h.nd; simp only [SG.ids, List.nodup_cons] at this; exact this.2.2
    have : k = i := (List.getElem?_inj (List.getElem?_eq_some_iff.1 hk).1 hnd).1 (hk.trans hj.symm)
    subst this
    rw [if_pos rfl]
    unfold rowD
    simp [List.getD_eq_getElem?_getD, hkl]
  · rw [if_neg e]
    have : k ≠ i := by rintro rfl; rw [hk] at hj; cases hj; exact e rfl
    unfold rowD
    simp only [List.getD_eq_getElem?_getD]
    rw [List.getElem?_set_ne this]

/-! the smaller functions -/
theorem sEnds {g f H m} (h : SM g f H m) (hf : m.fin = none) (a b : Int) :
    ACall Try.prog 154 [.ptr g.iw 0, .p (.i .i64 a), .p (.i .i64 b)] H (pureQ (.tup []) (H.set g.iw (.var (wCl g f (m.e a b))))) := by
  have hs : ∀ o, (H.set g.iw o)[g.iw]? = some o := fun o => set_get h.wv
  have hw := h.wv
  rw [wCl, hf] at hw
  refine call154 (by simp) ?_
  simp only [go_sem, Nat.reduceEqDiff, reduceIte, ↓reduceIte, Nat.reduceAdd, Z0, Z1, Z2, Z3, Z4, Z5, Nat.reduceLT, Z6, Z7, Int.reduceEq, Z8, Z9, Nat.reduceLeDiff, Za, Zb, Zc, Zd, Ze, Zf, bytesOf, Zg, Zh, Zi, Zj, Zk, Zl, Int.reduceLT, Int.reduceLE, Zm, Int.reduceToNat, Zn, Zo, Zp, Int.reduceAdd, Zq, Zr, mc154, mr154, hw, Option.isSome_none, hs, List.set_set]
  exact ⟨rfl, rfl⟩

theorem sSpends0 {g f H m} (h : SM g f H m) (hf : m.fin = none) (h0 : f = 0) :
    ACall Try.prog 114 [.ptr g.iw 0] H (pureQ (.p (.b false)) (H.set g.iw (.var (wCl g f (m.e 3 0))))) := by
  have hw := h.wv
  rw [wCl, h0] at hw
  refine call114 (by simp) ?_
  simp only [go_sem, Nat.reduceEqDiff, reduceIte, ↓reduceIte, Nat.reduceAdd, Z0, Z1, Z2, Z3, Z4, Z5, Nat.reduceLT, Z6, Z7, Int.reduceEq, Z8, Z9, Nat.reduceLeDiff, Za, Zb, Zc, Zd, Ze, Zf, bytesOf, Zg, Zh, Zi, Zj, Zk, Zl, Int.reduceLT, Int.reduceLE, Zm, Int.reduceToNat, Zn, Zo, Zp, Int.reduceAdd, Zq, Zr, mc114, mr114, hw]
  refine acall_pure (sEnds h hf 3 0) ?_
  simp only [go_sem, Nat.reduceEqDiff, reduceIte, ↓reduceIte, Nat.reduceAdd, Z0, Z1, Z2, Z3, Z4, Z5, Nat.reduceLT, Z6, Z7, Int.reduceEq, Z8, Z9, Nat.reduceLeDiff, Za, Zb, Zc, Zd, Ze, Zf, bytesOf, Zg, Zh, Zi, Zj, Zk, Zl, Int.reduceLT, Int.reduceLE, Zm, Int.reduceToNat, Zn, Zo, Zp, Int.reduceAdd, Zq, Zr]
  exact ⟨rfl, rfl⟩
theorem sSpends1 {g f H m} (h : SM g f H m) (h0 : 0 < f) (h1 : f ≤ 1000000) :
    ACall Try.prog 114 [.ptr g.iw 0] H (pureQ (.p (.b true)) (H.set g.iw (.var (wCl g (f - 1) m)))) := by
  have hw := h.wv
  have d : decide (f = 0) = false := by simp; omega
  have ew : wr .i64 (f - 1) = f - 1 := wr64 (by omega) (by omega)
  rw [wCl] at hw
  refine call114 (by simp) ?_
  simp only [go_sem, Nat.reduceEqDiff, reduceIte, ↓reduceIte, Nat.reduceAdd, Z0, Z1, Z2, Z3, Z4, Z5, Nat.reduceLT, Z6, Z7, Int.reduceEq, Z8, Z9, Nat.reduceLeDiff, Za, Zb, Zc, Zd, Ze, Zf, bytesOf, Zg, Zh, Zi, Zj, Zk, Zl, Int.reduceLT, Int.reduceLE, Zm, Int.reduceToNat, Zn, Zo, Zp, Int.reduceAdd, Zq, Zr, mc114, mr114, hw, d, ew]
  exact ⟨rfl, rfl⟩

theorem sRoomF {g f H m} (h : SM g f H m) (hf : m.fin = none) {n : Int} (e : m.room < n) :
    ACall Try.prog 156 [.ptr g.im 0, .p (.i .i64 n)] H (pureQ (.p (.b false)) (H.set g.iw (.var (wCl g f (m.e 4 0))))) := by
  have e' : decide (m.room < n) = true := by simp [e]
  have hv := h.mv
  rw [mCl] at hv
  refine call156 (by simp) ?_
  simp only [go_sem, Nat.reduceEqDiff, reduceIte, ↓reduceIte, Nat.reduceAdd, Z0, Z1, Z2, Z3, Z4, Z5, Nat.reduceLT, Z6, Z7, Int.reduceEq, Z8, Z9, Nat.reduceLeDiff, Za, Zb, Zc, Zd, Ze, Zf, bytesOf, Zg, Zh, Zi, Zj, Zk, Zl, Int.reduceLT, Int.reduceLE, Zm, Int.reduceToNat, Zn, Zo, Zp, Int.reduceAdd, Zq, Zr, mc156, mr156, hv, e']
  refine acall_pure (sEnds h hf 4 0) ?_
  simp only [go_sem, Nat.reduceEqDiff, reduceIte, ↓reduceIte, Nat.reduceAdd, Z0, Z1, Z2, Z3, Z4, Z5, Nat.reduceLT, Z6, Z7, Int.reduceEq, Z8, Z9, Nat.reduceLeDiff, Za, Zb, Zc, Zd, Ze, Zf, bytesOf, Zg, Zh, Zi, Zj, Zk, Zl, Int.reduceLT, Int.reduceLE, Zm, Int.reduceToNat, Zn, Zo, Zp, Int.reduceAdd, Zq, Zr]
  exact ⟨rfl, rfl⟩
theorem sRoomT {c g f H m} (h : SM g f H m) (hm : MOk c m) {n : Int} (h0 : 0 ≤ n) (e : ¬ m.room < n) :
    ACall Try.prog 156 [.ptr g.im 0, .p (.i .i64 n)] H (pureQ (.p (.b true)) (H.set g.im (.var (mCl g { m with room := m.room - n })))) := by
  have r0 := hm.room0
  have r1 := hm.room
  have e' : decide (m.room < n) = false := by simp [e]
  have ew : wr .i64 (m.room - n) = m.room - n := wr64 (by omega) (by omega)
  have hv := h.mv
  rw [mCl] at hv
  refine call156 (by simp) ?_
  simp only [go_sem, Nat.reduceEqDiff, reduceIte, ↓reduceIte, Nat.reduceAdd, Z0, Z1, Z2, Z3, Z4, Z5, Nat.reduceLT, Z6, Z7, Int.reduceEq, Z8, Z9, Nat.reduceLeDiff, Za, Zb, Zc, Zd, Ze, Zf, bytesOf, Zg, Zh, Zi, Zj, Zk, Zl, Int.reduceLT, Int.reduceLE, Zm, Int.reduceToNat, Zn, Zo, Zp, Int.reduceAdd, Zq, Zr, mc156, mr156, hv, e', ew]
  exact ⟨rfl, rfl⟩

theorem sIsT {g f H m} (h : SM g f H m) {w : WD} {k : Int} (e : wKd w = k) :
    ACall Try.prog 158 [.ptr g.im 0, .st (wS w), .p (.i .i64 k)] H (pureQ (.p (.b true)) H) := by
  refine acall_drop1 ?_ (tf_p _)
  refine call158 (by simp) ?_
  simp only [go_sem, Nat.reduceEqDiff, reduceIte, ↓reduceIte, Nat.reduceAdd, Z0, Z1, Z2, Z3, Z4, Z5, Nat.reduceLT, Z6, Z7, Int.reduceEq, Z8, Z9, Nat.reduceLeDiff, Za, Zb, Zc, Zd, Ze, Zf, bytesOf, Zg, Zh, Zi, Zj, Zk, Zl, Int.reduceLT, Int.reduceLE, Zm, Int.reduceToNat, Zn, Zo, Zp, Int.reduceAdd, Zq, Zr, mc158, mr158, wS, e]
  exact ⟨_, rfl⟩
theorem wCl_cells (g f m m') : ∀ c, InO c (.var (wCl g f m')) → Tf c ∨ InO c (.var (wCl g f m)) := by
  intro c hc
  simp only [InO, wCl, List.mem_cons, List.not_mem_nil, or_false] at hc ⊢
  rcases hc with rfl | rfl | rfl | rfl | rfl | rfl | rfl
  · exact .inl (tf_p _)
  · exact .inr (by simp)
  · exact .inl (tf_p _)
  · exact .inl (tf_p _)
  · exact .inl (tf_p _)
  · exact .inr (by simp)
  · exact .inl (tf_p _)
theorem sIsF {g f H m} (h : SM g f H m) (hf : m.fin = none) {w : WD} {k : Int} (e : wKd w ≠ k) :
    ACall Try.prog 158 [.ptr g.im 0, .st (wS w), .p (.i .i64 k)] H (pureQ (.p (.b false)) (H.set g.iw (.var (wCl g f (m.e 0 0))))) := by
  have e' : decide (wKd w = k) = false := by simp [e]
  have hE := h.ext [.var (wS w)]
  have hv := hE.mv
  rw [mCl] at hv
  refine acall_drop_set ?_ h.wv (wCl_cells g f m _) (tf_p _)
  refine call158 (by simp) ?_
  rw [wS] at hv
  simp only [go_sem, Nat.reduceEqDiff, reduceIte, ↓reduceIte, Nat.reduceAdd, Z0, Z1, Z2, Z3, Z4, Z5, Nat.reduceLT, Z6, Z7, Int.reduceEq, Z8, Z9, Nat.reduceLeDiff, Za, Zb, Zc, Zd, Ze, Zf, bytesOf, Zg, Zh, Zi, Zj, Zk, Zl, Int.reduceLT, Int.reduceLE, Zm, Int.reduceToNat, Zn, Zo, Zp, Int.reduceAdd, Zq, Zr, mc158, mr158, wS, e', hv]
  rw [wS] at hE
  refine acall_pure (sEnds hE hf 0 0) ?_
  simp only [go_sem, Nat.reduceEqDiff, reduceIte, ↓reduceIte, Nat.reduceAdd, Z0, Z1, Z2, Z3, Z4, Z5, Nat.reduceLT, Z6, Z7, Int.reduceEq, Z8, Z9, Nat.reduceLeDiff, Za, Zb, Zc, Zd, Ze, Zf, bytesOf, Zg, Zh, Zi, Zj, Zk, Zl, Int.reduceLT, Int.reduceLE, Zm, Int.reduceToNat, Zn, Zo, Zp, Int.reduceAdd, Zq, Zr]
  rw [List.set_append_left _ _ (get_lt h.wv)]
  exact ⟨_, rfl⟩
end Go.Proofs.Ytmbggdfceecojaa.Cd

/- The machine of the reference: what is put, read and new; its operations. -/
set_option linter.all false
namespace Go.Proofs.Ytmbggdfceecojaa.Cd
open Go.AM Mc Ho

theorem gid_lt {H : List AO} {a : AV} {sz : Nat} {rs : List (List AV)} (h : OwnR H a sz rs) {j : Nat} (hj : gid a = some j) : j < H.length := by
  obtain ⟨v, e⟩ := own_gid h hj; exact get_lt e
theorem SM.ip_lt {g f H m} (h : SM g f H m) {j : Nat} (hj : gid g.ip = some j) : j < H.length := by
  obtain ⟨ii, ver, off, all, e1, e2, e3⟩ := h.inp
  rw [e1] at hj; cases hj; exact get_lt e2
/-- an object that is none of a slice's -/
theorem gid_ne {H : List AO} {a : AV} {sz : Nat} {rs : List (List AV)} (h : OwnR H a sz rs) {j : Nat} {o : AO} (hj : H[j]? = some o) (hne : ∀ ver, o ≠ .rows sz ver rs) : gid a ≠ some j := by
  intro e
  obtain ⟨v, e2⟩ := own_gid h e
  rw [hj] at e2; cases e2; exact hne _ rfl

/-- what is put -/
theorem SM.print {g f H m} (h : SM g f H m) (z : Int) {id ver : Nat} {H' : List AO} (gg : H'[id]? = some (.rows 1 ver (intR .i64 m.out ++ [[.p (.i .i64 z)]])))
    (hn : gid g.ou = some id ∨ H.length ≤ id) (k : ∀ (j : Nat) o, H[j]? = some o → gid g.ou ≠ some j → H'[j]? = some o) (hl : H.length ≤ H'.length) {n : Nat} (en : n = (intR .i64 m.out).length + 1) :
    SM { g with ou := .gs id ver 0 n } f (H'.set g.iw (.var (wCl { g with ou := .gs id ver 0 n } f m))) { m with out := m.out ++ [z] } ∧ Fr (smP g) (smP { g with ou := .gs id ver 0 n }) H (H'.set g.iw (.var (wCl { g with ou := .gs id ver 0 n } f m))) := by
  have kv : ∀ (j : Nat) cs, H[j]? = some (.var cs) → H'[j]? = some (.var cs) := fun j cs hj => k j _ hj (gid_ne h.out hj (fun ver e => by cases e))
  have k3 : ∀ (j : Nat) v rs, H[j]? = some (.rows 3 v rs) → H'[j]? = some (.rows 3 v rs) := fun j v rs hj => k j _ hj (gid_ne h.out hj (fun ver e => by cases e))
  have hw := kv _ _ h.wv
  refine ⟨⟨set_ne' hw (kv _ _ h.mv) (by intro e; simp [mCl, wCl] at e), set_get hw, h.nd, h.len, set_ne' hw (k3 _ _ _ h.rg) (by intro e; cases e), set_ne' hw (k3 _ _ _ h.sl) (by intro e; cases e), fun i j hi => set_ne' hw (k3 _ _ _ (h.rc i j hi)) (by intro e; cases e), ?_, ?_, ?_, ?_, h.d2, ?_⟩, ?_⟩
  · exact own_keep h.hpo fun j o hj ho => by obtain ⟨v, e⟩ := own_gid h.hpo hj; rw [e] at ho; cases ho; exact set_ne' hw (k j _ e (h.d1 j hj)) (by intro e; cases e)
  · refine .inr ⟨id, ver, ?_, set_ne' hw ?_ (by intro e; cases e)⟩
    · rw [en]; simp [intR]
    · rw [gg]; simp [intR]
  · obtain ⟨ii, vi, off, all, e1, e2, e3⟩ := h.inp
    exact ⟨ii, vi, off, all, e1, set_ne' hw (k ii _ e2 (fun e => h.d3 ii e (by rw [e1]; rfl))) (by intro e; cases e), e3⟩
  · intro j hj e
    cases e
    rcases hn with hn | hn
    · exact h.d1 _ hj hn
    · have := gid_lt h.hpo hj; omega
  · intro j hj e
    cases hj
    rcases hn with hn | hn
    · exact h.d3 _ hn e
    · have := h.ip_lt e; omega
  · refine ⟨fun j o hj hp => get_set (k j o hj fun e => hp (.inr (.inr (.inr (.inr (.inl e)))))) (fun e => hp (.inr (.inl e.symm))), fun j hj => ?_, by simpa using hl⟩
    rcases hj with h' | h' | h' | h' | h' | h'
    · exact .inl (.inl h')
    · exact .inl (.inr (.inl h'))
    · exact .inl (.inr (.inr (.inl h')))
    · exact .inl (.inr (.inr (.inr (.inl h'))))
    · cases h'
      rcases hn with hn | hn
      · exact .inl (.inr (.inr (.inr (.inr (.inl hn)))))
      · exact .inr hn
    · exact .inl (.inr (.inr (.inr (.inr (.inr h')))))

/-- a new record -/
theorem SM.newRec {g f H m} (h : SM g f H m) (n : Nat) {idr id ver : Nat} {H' : List AO} (gh : H'[id]? = some (.rows 1 ver (hpR g.rs m.heap ++ [[.gs idr 0 0 n]]))) (gr : H'[idr]? = some (.rows 3 0 (List.replicate n [.p (.i .i64 0), .p (.i .i64 0), .p (.s [])])))
    (hr : H.length ≤ idr) (hn : gid g.hp = some id ∨ H.length ≤ id) (k : ∀ (j : Nat) o, H[j]? = some o → gid g.hp ≠ some j → H'[j]? = some o) (hl : H.length ≤ H'.length) {q : Nat} (en : q = (hpR g.rs m.heap).length + 1) :
    SM { g with rs := g.rs ++ [idr], hp := .gs id ver 0 q } f (H'.set g.im (.var (mCl { g with rs := g.rs ++ [idr], hp := .gs id ver 0 q } m))) { m with heap := m.heap ++ [List.replicate n (.n 0)] } ∧
      Fr (smP g) (smP { g with rs := g.rs ++ [idr], hp := .gs id ver 0 q }) H (H'.set g.im (.var (mCl { g with rs := g.rs ++ [idr], hp := .gs id ver 0 q } m))) := by
  have kv : ∀ (j : Nat) cs, H[j]? = some (.var cs) → H'[j]? = some (.var cs) := fun j cs hj => k j _ hj (gid_ne h.hpo hj (fun ver e => by cases e))
  have k3 : ∀ (j : Nat) v rs, H[j]? = some (.rows 3 v rs) → H'[j]? = some (.rows 3 v rs) := fun j v rs hj => k j _ hj (gid_ne h.hpo hj (fun ver e => by cases e))
  have hv := kv _ _ h.mv
  have idl : ∀ j ∈ g.ids, j < H.length := by
    intro j hj
    simp only [SG.ids, List.mem_cons] at hj
    rcases hj with rfl | rfl | hj
    · exact get_lt h.rg
    · exact get_lt h.sl
    · obtain ⟨i, hi⟩ := List.getElem?_of_mem hj; exact get_lt (h.rc i j hi)
  refine ⟨⟨set_get hv, set_ne' hv (kv _ _ h.wv) (by intro e; simp [mCl, wCl] at e), ?_, by simp [h.len], set_ne' hv (k3 _ _ _ h.rg) (by intro e; cases e), set_ne' hv (k3 _ _ _ h.sl) (by intro e; cases e), ?_, ?_, ?_, ?_, ?_, ?_, h.d3⟩, ?_⟩
  · have e : SG.ids { g with rs := g.rs ++ [idr], hp := .gs id ver 0 q } = g.ids ++ [idr] := by simp [SG.ids]
    rw [e]
    exact List.nodup_append.2 ⟨h.nd, by simp, fun a ha b hb => by simp at hb; subst hb; have := idl a ha; omega⟩
  · intro i j hi
    by_cases hil : i < g.rs.length
    · rw [List.getElem?_append_left hil] at hi
      have er : rowD { m with heap := m.heap ++ [List.replicate n (WD.n 0)] } i = rowD m i := by
        unfold rowD
        simp only [List.getD_eq_getElem?_getD]
        rw [List.getElem?_append_left (by rw [← h.len]; exact hil)]
      rw [er]
      exact set_ne' hv (k3 _ _ _ (h.rc i j hi)) (by intro e; cases e)
    · have hie : i = g.rs.length := by
        have := (List.getElem?_eq_some_iff.1 hi).1
        simp at this; omega
      subst hie
      simp at hi
      subst hi
      have er : rowD { m with heap := m.heap ++ [List.replicate n (WD.n 0)] } g.rs.length = List.replicate n (.n 0) := by
        unfold rowD
        simp [List.getD_eq_getElem?_getD, h.len]
      rw [er, List.map_replicate]
      exact set_ne' hv gr (by intro e; cases e)
  · refine .inr ⟨id, ver, ?_, set_ne' hv ?_ (by intro e; cases e)⟩
    · rw [en]; simp [hpR, h.len]
    · have e : hpR (g.rs ++ [idr]) (m.heap ++ [List.replicate n (WD.n 0)]) = hpR g.rs m.heap ++ [[.gs idr 0 0 n]] := by
        unfold hpR
        rw [List.zipWith_append h.len]
        simp
      rw [e]; exact gh
  · exact own_keep h.out fun j o hj ho => by obtain ⟨v, e⟩ := own_gid h.out hj; rw [e] at ho; cases ho; exact set_ne' hv (k j _ e (fun e' => h.d1 j e' hj)) (by intro e; cases e)
  · obtain ⟨ii, vi, off, all, e1, e2, e3⟩ := h.inp
    exact ⟨ii, vi, off, all, e1, set_ne' hv (k ii _ e2 (fun e => h.d2 ii e (by rw [e1]; rfl))) (by intro e; cases e), e3⟩
  · intro j hj e
    cases hj
    rcases hn with hn | hn
    · exact h.d1 _ hn e
    · have := gid_lt h.out e; omega
  · intro j hj e
    cases hj
    rcases hn with hn | hn
    · exact h.d2 _ hn e
    · have := h.ip_lt e; omega
  · refine ⟨fun j o hj hp => get_set (k j o hj fun e => hp (.inr (.inr (.inr (.inl e))))) (fun e => hp (.inl e.symm)), fun j hj => ?_, by simpa using hl⟩
    rcases hj with h' | h' | h' | h' | h' | h'
    · exact .inl (.inl h')
    · exact .inl (.inr (.inl h'))
    · have e : SG.ids { g with rs := g.rs ++ [idr], hp := .gs id ver 0 q } = g.ids ++ [idr] := by simp [SG.ids]
      rw [e] at h'
      rcases List.mem_append.1 h' with h2 | h2
      · exact .inl (.inr (.inr (.inl h2)))
      · simp at h2; exact .inr (by omega)
    · cases h'
      rcases hn with hn | hn
      · exact .inl (.inr (.inr (.inr (.inl hn))))
      · exact .inr hn
    · exact .inl (.inr (.inr (.inr (.inr (.inl h')))))
    · exact .inl (.inr (.inr (.inr (.inr (.inr h')))))

/-- a record's place -/
theorem SM.hpAt {g f H m} (h : SM g f H m) {k : Nat} (hk : k < m.heap.length) : ∃ ihp ver id, g.hp = .gs ihp ver 0 m.heap.length ∧ H[ihp]? = some (.rows 1 ver (hpR g.rs m.heap)) ∧ g.rs[k]? = some id ∧ (hpR g.rs m.heap)[k]? = some [.gs id 0 0 (rowD m k).length] ∧ H[id]? = some (.rows 3 0 ((rowD m k).map wS)) := by
  have hl : (hpR g.rs m.heap).length = m.heap.length := by simp [hpR, h.len]
  have hkr : k < g.rs.length := by rw [h.len]; exact hk
  have hid : g.rs[k]? = some g.rs[k] := List.getElem?_eq_getElem hkr
  rcases h.hpo with ⟨_, e⟩ | ⟨ihp, ver, e1, e2⟩
  · rw [e] at hl; simp at hl; omega
  · refine ⟨ihp, ver, g.rs[k], by rw [e1, hl], e2, hid, ?_, h.rc k _ hid⟩
    unfold hpR
    rw [List.getElem?_zipWith, hid, List.getElem?_eq_getElem hk]
    simp [rowD, List.getD_eq_getElem?_getD, hk]

theorem sMemberT {c g f H m} (h : SM g f H m) (hm : MOk c m) {w : WD} {k : Nat} (ew : w = .r k) (hk : k < m.heap.length) {n : Int} (hlt : n < (rowD m k).length) :
    ACall Try.prog 157 [.ptr g.im 0, .st (wS w), .p (.i .i64 n)] H (pureQ (.p (.b true)) H) := by
  obtain ⟨ihp, ver, id, e1, e2, e3, e4, e5⟩ := h.hpAt hk
  have hv := h.mv
  rw [mCl, e1] at hv
  have d : decide (((rowD m k).length : Int) ≤ n) = false := by simp; omega
  have hkl : (k : Int) < (m.heap.length : Int) := by omega
  subst ew
  refine acall_drop1 ?_ (tf_p _)
  refine call157 (by simp) ?_
  have hE := h.ext [.var (wS (.r k))]
  simp only [go_sem, Nat.reduceEqDiff, reduceIte, ↓reduceIte, Nat.reduceAdd, Z0, Z1, Z2, Z3, Z4, Z5, Nat.reduceLT, Z6, Z7, Int.reduceEq, Z8, Z9, Nat.reduceLeDiff, Za, Zb, Zc, Zd, Ze, Zf, bytesOf, Zg, Zh, Zi, Zj, Zk, Zl, Int.reduceLT, Int.reduceLE, Zm, Int.reduceToNat, Zn, Zo, Zp, Int.reduceAdd, Zq, Zr, mc157, mr157, wS, wKd, wSn, wSt]
  refine acall_pure (sIsT hE (w := .r k) (k := 2) rfl) ?_
  simp only [go_sem, Nat.reduceEqDiff, reduceIte, ↓reduceIte, Nat.reduceAdd, Z0, Z1, Z2, Z3, Z4, Z5, Nat.reduceLT, Z6, Z7, Int.reduceEq, Z8, Z9, Nat.reduceLeDiff, Za, Zb, Zc, Zd, Ze, Zf, bytesOf, Zg, Zh, Zi, Zj, Zk, Zl, Int.reduceLT, Int.reduceLE, Zm, Int.reduceToNat, Zn, Zo, Zp, Int.reduceAdd, Zq, Zr]
  refine drw_same ?_
  have hvx : ∀ A, (H ++ A)[g.im]? = _ := fun A => get_ext hv A
  have h2x : ∀ A, (H ++ A)[ihp]? = _ := fun A => get_ext e2 A
  simp only [go_sem, Nat.reduceEqDiff, reduceIte, ↓reduceIte, Nat.reduceAdd, Z0, Z1, Z2, Z3, Z4, Z5, Nat.reduceLT, Z6, Z7, Int.reduceEq, Z8, Z9, Nat.reduceLeDiff, Za, Zb, Zc, Zd, Ze, Zf, bytesOf, Zg, Zh, Zi, Zj, Zk, Zl, Int.reduceLT, Int.reduceLE, Zm, Int.reduceToNat, Zn, Zo, Zp, Int.reduceAdd, Zq, Zr, wS, wKd, wSn, wSt, hvx, h2x, hkl, e4, d]
  exact ⟨_, rfl⟩
theorem sMemberF {c g f H m} (h : SM g f H m) (hm : MOk c m) (hf : m.fin = none) {w : WD} (hk : ∀ k, w = .r k → k < m.heap.length) {n : Int} (hno : ∀ k, w = .r k → ¬ n < (rowD m k).length) :
    ACall Try.prog 157 [.ptr g.im 0, .st (wS w), .p (.i .i64 n)] H (pureQ (.p (.b false)) (H.set g.iw (.var (wCl g f (m.e 0 0))))) := by
  refine acall_drop_set ?_ h.wv (wCl_cells g f m _) (tf_p _)
  refine call157 (by simp) ?_
  have hE := h.ext [.var (wS w)]
  have wv := get_lt h.wv
  by_cases ek : ∃ k, w = .r k
  · obtain ⟨k, rfl⟩ := ek
    obtain ⟨ihp, ver, id, e1, e2, e3, e4, e5⟩ := h.hpAt (hk k rfl)
    have hv := h.mv
    rw [mCl, e1] at hv
    have d : decide (((rowD m k).length : Int) ≤ n) = true := by have := hno k rfl; simp; omega
    have hkl : (k : Int) < (m.heap.length : Int) := by have := hk k rfl; omega
    simp only [go_sem, Nat.reduceEqDiff, reduceIte, ↓reduceIte, Nat.reduceAdd, Z0, Z1, Z2, Z3, Z4, Z5, Nat.reduceLT, Z6, Z7, Int.reduceEq, Z8, Z9, Nat.reduceLeDiff, Za, Zb, Zc, Zd, Ze, Zf, bytesOf, Zg, Zh, Zi, Zj, Zk, Zl, Int.reduceLT, Int.reduceLE, Zm, Int.reduceToNat, Zn, Zo, Zp, Int.reduceAdd, Zq, Zr, mc157, mr157, wS, wKd, wSn, wSt]
    refine acall_pure (sIsT hE (w := .r k) (k := 2) rfl) ?_
    simp only [go_sem, Nat.reduceEqDiff, reduceIte, ↓reduceIte, Nat.reduceAdd, Z0, Z1, Z2, Z3, Z4, Z5, Nat.reduceLT, Z6, Z7, Int.reduceEq, Z8, Z9, Nat.reduceLeDiff, Za, Zb, Zc, Zd, Ze, Zf, bytesOf, Zg, Zh, Zi, Zj, Zk, Zl, Int.reduceLT, Int.reduceLE, Zm, Int.reduceToNat, Zn, Zo, Zp, Int.reduceAdd, Zq, Zr]
    refine drw_same ?_
    have hvx : ∀ A, (H ++ A)[g.im]? = _ := fun A => get_ext hv A
    have h2x : ∀ A, (H ++ A)[ihp]? = _ := fun A => get_ext e2 A
    simp only [go_sem, Nat.reduceEqDiff, reduceIte, ↓reduceIte, Nat.reduceAdd, Z0, Z1, Z2, Z3, Z4, Z5, Nat.reduceLT, Z6, Z7, Int.reduceEq, Z8, Z9, Nat.reduceLeDiff, Za, Zb, Zc, Zd, Ze, Zf, bytesOf, Zg, Zh, Zi, Zj, Zk, Zl, Int.reduceLT, Int.reduceLE, Zm, Int.reduceToNat, Zn, Zo, Zp, Int.reduceAdd, Zq, Zr, wS, wKd, wSn, wSt, hvx, h2x, hkl, e4, d]
    simp only [wS, wKd, wSn, wSt] at hE
    refine acall_pure (sEnds hE hf 0 0) ?_
    simp only [go_sem, Nat.reduceEqDiff, reduceIte, ↓reduceIte, Nat.reduceAdd, Z0, Z1, Z2, Z3, Z4, Z5, Nat.reduceLT, Z6, Z7, Int.reduceEq, Z8, Z9, Nat.reduceLeDiff, Za, Zb, Zc, Zd, Ze, Zf, bytesOf, Zg, Zh, Zi, Zj, Zk, Zl, Int.reduceLT, Int.reduceLE, Zm, Int.reduceToNat, Zn, Zo, Zp, Int.reduceAdd, Zq, Zr]
    rw [List.set_append_left _ _ wv]
    exact ⟨_, rfl⟩
  · have e2 : wKd w ≠ 2 := by cases w <;> simp [wKd]; exact ek ⟨_, rfl⟩
    simp only [go_sem, Nat.reduceEqDiff, reduceIte, ↓reduceIte, Nat.reduceAdd, Z0, Z1, Z2, Z3, Z4, Z5, Nat.reduceLT, Z6, Z7, Int.reduceEq, Z8, Z9, Nat.reduceLeDiff, Za, Zb, Zc, Zd, Ze, Zf, bytesOf, Zg, Zh, Zi, Zj, Zk, Zl, Int.reduceLT, Int.reduceLE, Zm, Int.reduceToNat, Zn, Zo, Zp, Int.reduceAdd, Zq, Zr, mc157, mr157, wS]
    rw [wS] at hE
    refine acall_pure (sIsF hE hf (w := w) (k := 2) e2) ?_
    simp only [go_sem, Nat.reduceEqDiff, reduceIte, ↓reduceIte, Nat.reduceAdd, Z0, Z1, Z2, Z3, Z4, Z5, Nat.reduceLT, Z6, Z7, Int.reduceEq, Z8, Z9, Nat.reduceLeDiff, Za, Zb, Zc, Zd, Ze, Zf, bytesOf, Zg, Zh, Zi, Zj, Zk, Zl, Int.reduceLT, Int.reduceLE, Zm, Int.reduceToNat, Zn, Zo, Zp, Int.reduceAdd, Zq, Zr]
    rw [List.set_append_left _ _ wv]
    exact ⟨_, rfl⟩

/-- values -/
def vL (k z : Int) (t : List UInt8) : List AV := [.p (.i .i64 k), .p (.i .i64 z), .p (.s t), .p .nl, .p (.b false), .p (.i .i64 0), .p (.i .i64 0), .p (.i .i64 0), .p (.s []), .p (.s []), .p (.i .i64 0), .p (.i .i64 0), .p (.s []), .p .nl, .p .nl, .p .nl, .p .nl, .p .nl]
theorem tf_vL (k z t) : Tf (.st (vL k z t)) := tf_st _ (by
  intro c hc
  simp only [vL, List.mem_cons, List.not_mem_nil, or_false] at hc
  rcases hc with rfl | rfl | rfl | rfl | rfl | rfl | rfl | rfl | rfl | rfl | rfl | rfl | rfl | rfl | rfl | rfl | rfl | rfl <;> exact tf_p _)

theorem sBool (b : Bool) (H : List AO) : ACall Try.prog 228 [.p (.b b)] H (pureQ (.st (vL 1 (if b then 1 else 0) [])) H) := by
  refine acall_drop1 ?_ (tf_vL _ _ _)
  refine call228 (by simp) ?_
  cases b
  · simp only [go_sem, Nat.reduceEqDiff, reduceIte, ↓reduceIte, Nat.reduceAdd, Z0, Z1, Z2, Z3, Z4, Z5, Nat.reduceLT, Z6, Z7, Int.reduceEq, Z8, Z9, Nat.reduceLeDiff, Za, Zb, Zc, Zd, Ze, Zf, bytesOf, Zg, Zh, Zi, Zj, Zk, Zl, Int.reduceLT, Int.reduceLE, Zm, Int.reduceToNat, Zn, Zo, Zp, Int.reduceAdd, Zq, Zr, mc228, mr228, zl45_4, vL]
    exact ⟨_, rfl⟩
  · simp only [go_sem, Nat.reduceEqDiff, reduceIte, ↓reduceIte, Nat.reduceAdd, Z0, Z1, Z2, Z3, Z4, Z5, Nat.reduceLT, Z6, Z7, Int.reduceEq, Z8, Z9, Nat.reduceLeDiff, Za, Zb, Zc, Zd, Ze, Zf, bytesOf, Zg, Zh, Zi, Zj, Zk, Zl, Int.reduceLT, Int.reduceLE, Zm, Int.reduceToNat, Zn, Zo, Zp, Int.reduceAdd, Zq, Zr, mc228, mr228, zl45_4, vL]
    exact ⟨_, rfl⟩

set_option maxHeartbeats 1000000 in
theorem sOpNum (iw : Nat) (t : List UInt8) (ht : t = [43] ∨ t = [45] ∨ t = [42] ∨ t = [61] ∨ t = [60]) (a b : Int) (H : List AO) :
    ACall Try.prog 202 [.ptr iw 0, .p (.s t), .st (vL 0 a []), .st (vL 0 b [])] H (pureQ (.st (vL 1 (arD t a b) [])) H) := by
  refine acall_drop1 ?_ (tf_vL _ _ _)
  refine call202 (by simp) ?_
  simp only [go_sem, Nat.reduceEqDiff, reduceIte, ↓reduceIte, Nat.reduceAdd, Z0, Z1, Z2, Z3, Z4, Z5, Nat.reduceLT, Z6, Z7, Int.reduceEq, Z8, Z9, Nat.reduceLeDiff, Za, Zb, Zc, Zd, Ze, Zf, bytesOf, Zg, Zh, Zi, Zj, Zk, Zl, Int.reduceLT, Int.reduceLE, Zm, Int.reduceToNat, Zn, Zo, Zp, Int.reduceAdd, Zq, Zr, mc202, mr202, zl45_4, vL]
  by_cases f1 : t = [43]
  · have g1 : decide (t = [43]) = true := by simp [f1]
    simp only [go_sem, Nat.reduceEqDiff, reduceIte, ↓reduceIte, Nat.reduceAdd, Z0, Z1, Z2, Z3, Z4, Z5, Nat.reduceLT, Z6, Z7, Int.reduceEq, Z8, Z9, Nat.reduceLeDiff, Za, Zb, Zc, Zd, Ze, Zf, bytesOf, Zg, Zh, Zi, Zj, Zk, Zl, Int.reduceLT, Int.reduceLE, Zm, Int.reduceToNat, Zn, Zo, Zp, Int.reduceAdd, Zq, Zr, g1]
    exact ⟨by rw [arD, if_pos f1], _, rfl⟩
  have g1 : decide (t = [43]) = false := by simp [f1]
  by_cases f2 : t = [45]
  · have g2 : decide (t = [45]) = true := by simp [f2]
    simp only [go_sem, Nat.reduceEqDiff, reduceIte, ↓reduceIte, Nat.reduceAdd, Z0, Z1, Z2, Z3, Z4, Z5, Nat.reduceLT, Z6, Z7, Int.reduceEq, Z8, Z9, Nat.reduceLeDiff, Za, Zb, Zc, Zd, Ze, Zf, bytesOf, Zg, Zh, Zi, Zj, Zk, Zl, Int.reduceLT, Int.reduceLE, Zm, Int.reduceToNat, Zn, Zo, Zp, Int.reduceAdd, Zq, Zr, g1, g2]
    exact ⟨by rw [arD, if_neg f1, if_pos f2], _, rfl⟩
  have g2 : decide (t = [45]) = false := by simp [f2]
  by_cases f3 : t = [42]
  · have g3 : decide (t = [42]) = true := by simp [f3]
    simp only [go_sem, Nat.reduceEqDiff, reduceIte, ↓reduceIte, Nat.reduceAdd, Z0, Z1, Z2, Z3, Z4, Z5, Nat.reduceLT, Z6, Z7, Int.reduceEq, Z8, Z9, Nat.reduceLeDiff, Za, Zb, Zc, Zd, Ze, Zf, bytesOf, Zg, Zh, Zi, Zj, Zk, Zl, Int.reduceLT, Int.reduceLE, Zm, Int.reduceToNat, Zn, Zo, Zp, Int.reduceAdd, Zq, Zr, g1, g2, g3]
    exact ⟨by rw [arD, if_neg f1, if_neg f2, if_pos f3], _, rfl⟩
  have g3 : decide (t = [42]) = false := by simp [f3]
  by_cases f4 : t = [61]
  · have g4 : decide (t = [61]) = true := by simp [f4]
    simp only [go_sem, Nat.reduceEqDiff, reduceIte, ↓reduceIte, Nat.reduceAdd, Z0, Z1, Z2, Z3, Z4, Z5, Nat.reduceLT, Z6, Z7, Int.reduceEq, Z8, Z9, Nat.reduceLeDiff, Za, Zb, Zc, Zd, Ze, Zf, bytesOf, Zg, Zh, Zi, Zj, Zk, Zl, Int.reduceLT, Int.reduceLE, Zm, Int.reduceToNat, Zn, Zo, Zp, Int.reduceAdd, Zq, Zr, g1, g2, g3, g4]
    refine acall_pure (sBool _ _) ?_
    simp only [go_sem, Nat.reduceEqDiff, reduceIte, ↓reduceIte, Nat.reduceAdd, Z0, Z1, Z2, Z3, Z4, Z5, Nat.reduceLT, Z6, Z7, Int.reduceEq, Z8, Z9, Nat.reduceLeDiff, Za, Zb, Zc, Zd, Ze, Zf, bytesOf, Zg, Zh, Zi, Zj, Zk, Zl, Int.reduceLT, Int.reduceLE, Zm, Int.reduceToNat, Zn, Zo, Zp, Int.reduceAdd, Zq, Zr, vL]
    refine ⟨?_, _, rfl⟩
    rw [arD, if_neg f1, if_neg f2, if_neg f3, if_pos f4]
    simp
  have g4 : decide (t = [61]) = false := by simp [f4]
  have f5 : t = [60] := by rcases ht with h | h | h | h | h <;> first | exact absurd h ‹_› | exact h
  have g5 : decide (t = [60]) = true := by simp [f5]
  simp only [go_sem, Nat.reduceEqDiff, reduceIte, ↓reduceIte, Nat.reduceAdd, Z0, Z1, Z2, Z3, Z4, Z5, Nat.reduceLT, Z6, Z7, Int.reduceEq, Z8, Z9, Nat.reduceLeDiff, Za, Zb, Zc, Zd, Ze, Zf, bytesOf, Zg, Zh, Zi, Zj, Zk, Zl, Int.reduceLT, Int.reduceLE, Zm, Int.reduceToNat, Zn, Zo, Zp, Int.reduceAdd, Zq, Zr, g1, g2, g3, g4, g5]
  refine acall_pure (sBool _ _) ?_
  simp only [go_sem, Nat.reduceEqDiff, reduceIte, ↓reduceIte, Nat.reduceAdd, Z0, Z1, Z2, Z3, Z4, Z5, Nat.reduceLT, Z6, Z7, Int.reduceEq, Z8, Z9, Nat.reduceLeDiff, Za, Zb, Zc, Zd, Ze, Zf, bytesOf, Zg, Zh, Zi, Zj, Zk, Zl, Int.reduceLT, Int.reduceLE, Zm, Int.reduceToNat, Zn, Zo, Zp, Int.reduceAdd, Zq, Zr, vL]
  refine ⟨?_, _, rfl⟩
  rw [arD, if_neg f1, if_neg f2, if_neg f3, if_neg f4, if_pos f5]
  simp

set_option maxHeartbeats 1000000 in
theorem sCatF {g f H m} (h : SM g f H m) (hf : m.fin = none) (t u : List UInt8) (tl : t.length ≤ 4000) (ul : u.length ≤ 4000) (h5 : 500 < t.length + u.length) :
    ACall Try.prog 202 [.ptr g.iw 0, .p (.s [94]), .st (vL 0 0 t), .st (vL 0 0 u)] H (pureQ (.st (vL 0 0 [])) (H.set g.iw (.var (wCl g f (m.e 2 2))))) := by
  refine acall_drop_set ?_ h.wv (wCl_cells g f m _) (tf_vL _ _ _)
  refine call202 (by simp) ?_
  have e1 : wr .i64 ((t.length : Int) + (u.length : Int)) = ((t.length + u.length : Nat) : Int) := by rw [wr64 (by omega) (by omega)]; omega
  have d5 : decide ((500 : Int) < ((t.length + u.length : Nat) : Int)) = true := by simp; omega
  have q1 : decide (([94] : List UInt8) = [43]) = false := by decide
  have q2 : decide (([94] : List UInt8) = [45]) = false := by decide
  have q3 : decide (([94] : List UInt8) = [42]) = false := by decide
  have q4 : decide (([94] : List UInt8) = [61]) = false := by decide
  have q5 : decide (([94] : List UInt8) = [60]) = false := by decide
  have hlt := get_lt h.wv
  simp only [go_sem, Nat.reduceEqDiff, reduceIte, ↓reduceIte, Nat.reduceAdd, Z0, Z1, Z2, Z3, Z4, Z5, Nat.reduceLT, Z6, Z7, Int.reduceEq, Z8, Z9, Nat.reduceLeDiff, Za, Zb, Zc, Zd, Ze, Zf, bytesOf, Zg, Zh, Zi, Zj, Zk, Zl, Int.reduceLT, Int.reduceLE, Zm, Int.reduceToNat, Zn, Zo, Zp, Int.reduceAdd, Zq, Zr, mc202, mr202, zl45_4, vL, q1, q2, q3, q4, q5]
  intro _ _
  simp only [go_sem, Nat.reduceEqDiff, reduceIte, ↓reduceIte, Nat.reduceAdd, Z0, Z1, Z2, Z3, Z4, Z5, Nat.reduceLT, Z6, Z7, Int.reduceEq, Z8, Z9, Nat.reduceLeDiff, Za, Zb, Zc, Zd, Ze, Zf, bytesOf, Zg, Zh, Zi, Zj, Zk, Zl, Int.reduceLT, Int.reduceLE, Zm, Int.reduceToNat, Zn, Zo, Zp, Int.reduceAdd, Zq, Zr, e1, d5]
  refine acall_pure (sEnds (h.ext _) hf 2 2) ?_
  simp only [go_sem, Nat.reduceEqDiff, reduceIte, ↓reduceIte, Nat.reduceAdd, Z0, Z1, Z2, Z3, Z4, Z5, Nat.reduceLT, Z6, Z7, Int.reduceEq, Z8, Z9, Nat.reduceLeDiff, Za, Zb, Zc, Zd, Ze, Zf, bytesOf, Zg, Zh, Zi, Zj, Zk, Zl, Int.reduceLT, Int.reduceLE, Zm, Int.reduceToNat, Zn, Zo, Zp, Int.reduceAdd, Zq, Zr]
  rw [List.set_append_left _ _ hlt, show H.length = (H.set g.iw (AO.var (wCl g f (m.e 2 2)))).length by simp]
  generalize H.set g.iw (AO.var (wCl g f (m.e 2 2))) = H2
  simp only [go_sem, Nat.reduceEqDiff, reduceIte, ↓reduceIte, Nat.reduceAdd, Z0, Z1, Z2, Z3, Z4, Z5, Nat.reduceLT, Z6, Z7, Int.reduceEq, Z8, Z9, Nat.reduceLeDiff, Za, Zb, Zc, Zd, Ze, Zf, bytesOf, Zg, Zh, Zi, Zj, Zk, Zl, Int.reduceLT, Int.reduceLE, Zm, Int.reduceToNat, Zn, Zo, Zp, Int.reduceAdd, Zq, Zr]
  exact ⟨_, rfl⟩
theorem sCatT (iw : Nat) (t u : List UInt8) (tl : t.length ≤ 4000) (ul : u.length ≤ 4000) (h5 : ¬ 500 < t.length + u.length) (H : List AO) :
    ACall Try.prog 202 [.ptr iw 0, .p (.s [94]), .st (vL 0 0 t), .st (vL 0 0 u)] H (pureQ (.st (vL 2 0 (t ++ u))) H) := by
  refine acall_drop1 ?_ (tf_vL _ _ _)
  refine call202 (by simp) ?_
  have e1 : wr .i64 ((t.length : Int) + (u.length : Int)) = ((t.length + u.length : Nat) : Int) := by rw [wr64 (by omega) (by omega)]; omega
  have d5 : decide ((500 : Int) < ((t.length + u.length : Nat) : Int)) = false := by simp; omega
  have q1 : decide (([94] : List UInt8) = [43]) = false := by decide
  have q2 : decide (([94] : List UInt8) = [45]) = false := by decide
  have q3 : decide (([94] : List UInt8) = [42]) = false := by decide
  have q4 : decide (([94] : List UInt8) = [61]) = false := by decide
  have q5 : decide (([94] : List UInt8) = [60]) = false := by decide
  have hsum : t.length + u.length ≤ maxL := by unfold maxL; omega
  simp only [go_sem, Nat.reduceEqDiff, reduceIte, ↓reduceIte, Nat.reduceAdd, Z0, Z1, Z2, Z3, Z4, Z5, Nat.reduceLT, Z6, Z7, Int.reduceEq, Z8, Z9, Nat.reduceLeDiff, Za, Zb, Zc, Zd, Ze, Zf, bytesOf, Zg, Zh, Zi, Zj, Zk, Zl, Int.reduceLT, Int.reduceLE, Zm, Int.reduceToNat, Zn, Zo, Zp, Int.reduceAdd, Zq, Zr, mc202, mr202, zl45_4, vL, q1, q2, q3, q4, q5]
  intro _ _
  simp only [go_sem, Nat.reduceEqDiff, reduceIte, ↓reduceIte, Nat.reduceAdd, Z0, Z1, Z2, Z3, Z4, Z5, Nat.reduceLT, Z6, Z7, Int.reduceEq, Z8, Z9, Nat.reduceLeDiff, Za, Zb, Zc, Zd, Ze, Zf, bytesOf, Zg, Zh, Zi, Zj, Zk, Zl, Int.reduceLT, Int.reduceLE, Zm, Int.reduceToNat, Zn, Zo, Zp, Int.reduceAdd, Zq, Zr, e1, d5, hsum]
  exact ⟨_, rfl⟩

/-- the inputs go on -/
theorem SM.putI {g f H m} (h : SM g f H m) {ii ver off n : Nat} {all : List Int} {z : Int} {l : List Int} (e1 : g.ip = .gs ii ver off n) (e2 : H[ii]? = some (.rows 1 ver (intR .i64 all))) (e3 : all.drop off = z :: l) :
    SM { g with ip := .gs ii ver (off + 1) l.length } f (H.set g.iw (.var (wCl { g with ip := .gs ii ver (off + 1) l.length } f m))) { m with inp := l } ∧ Fr (smP g) (smP { g with ip := .gs ii ver (off + 1) l.length }) H (H.set g.iw (.var (wCl { g with ip := .gs ii ver (off + 1) l.length } f m))) := by
  refine ⟨⟨set_ne' h.wv h.mv (by intro e; simp [mCl, wCl] at e), set_get h.wv, h.nd, h.len, set_ne' h.wv h.rg (by intro e; cases e), set_ne' h.wv h.sl (by intro e; cases e), fun i id hi => set_ne' h.wv (h.rc i id hi) (by intro e; cases e), ?_, ?_, ?_, h.d1, ?_, ?_⟩, ?_⟩
  · exact own_keep h.hpo fun j o hj ho => by obtain ⟨v, e⟩ := own_gid h.hpo hj; rw [e] at ho; cases ho; exact set_ne' h.wv e (by intro e; cases e)
  · exact own_keep h.out fun j o hj ho => by obtain ⟨v, e⟩ := own_gid h.out hj; rw [e] at ho; cases ho; exact set_ne' h.wv e (by intro e; cases e)
  · exact ⟨ii, ver, off + 1, all, rfl, set_ne' h.wv e2 (by intro e; cases e), by rw [← List.drop_drop, e3]; rfl⟩
  · intro j hj e
    cases e
    exact h.d2 _ hj (by rw [e1]; rfl)
  · intro j hj e
    cases e
    exact h.d3 _ hj (by rw [e1]; rfl)
  · refine ⟨fun j o hj hp => get_set hj (fun e => hp (.inr (.inl e.symm))), fun j hj => ?_, by simp⟩
    rcases hj with h' | h' | h' | h' | h' | h'
    · exact .inl (.inl h')
    · exact .inl (.inr (.inl h'))
    · exact .inl (.inr (.inr (.inl h')))
    · exact .inl (.inr (.inr (.inr (.inl h'))))
    · exact .inl (.inr (.inr (.inr (.inr (.inl h')))))
    · cases h'; exact .inl (.inr (.inr (.inr (.inr (.inr (by rw [e1]; rfl))))))

/-- a number is read -/
theorem sRead {g f H m} (h : SM g f H m) {id ver : Nat} (hil : m.inp.length ≤ 1000000) :
    ACall Try.prog 201 [.ptr g.iw 0, .p (.s [114, 101, 97, 100]), .gs id ver 0 0] H (fun r H' => r = .st (vL 1 (m.inp.headD (-1)) []) ∧ ∃ ip', SM { g with ip := ip' } f H' { m with inp := m.inp.tail } ∧ Fr (smP g) (smP { g with ip := ip' }) H H') := by
  obtain ⟨ii, vi, off, all, e1, e2, e3⟩ := h.inp
  have hil' : m.inp.length ≤ maxL := by unfold maxL; omega
  have hw := h.wv
  rw [wCl, e1] at hw
  refine call201 (by simp) ?_
  have hwx : ∀ A, (H ++ A)[g.iw]? = _ := fun A => get_ext hw A
  have h2x : ∀ A, (H ++ A)[ii]? = _ := fun A => get_ext e2 A
  simp only [go_sem, Nat.reduceEqDiff, reduceIte, ↓reduceIte, Nat.reduceAdd, Z0, Z1, Z2, Z3, Z4, Z5, Nat.reduceLT, Z6, Z7, Int.reduceEq, Z8, Z9, Nat.reduceLeDiff, Za, Zb, Zc, Zd, Ze, Zf, bytesOf, Zg, Zh, Zi, Zj, Zk, Zl, Int.reduceLT, Int.reduceLE, Zm, Int.reduceToNat, Zn, Zo, Zp, Int.reduceAdd, Zq, Zr, mc201, mr201, zl45_4, hwx]
  intro _
  cases hin : m.inp with
  | nil =>
    simp only [go_sem, Nat.reduceEqDiff, reduceIte, ↓reduceIte, Nat.reduceAdd, Z0, Z1, Z2, Z3, Z4, Z5, Nat.reduceLT, Z6, Z7, Int.reduceEq, Z8, Z9, Nat.reduceLeDiff, Za, Zb, Zc, Zd, Ze, Zf, bytesOf, Zg, Zh, Zi, Zj, Zk, Zl, Int.reduceLT, Int.reduceLE, Zm, Int.reduceToNat, Zn, Zo, Zp, Int.reduceAdd, Zq, Zr, List.length_nil, vL]
    refine ⟨rfl, g.ip, ?_⟩
    have em : ({ m with inp := ([] : List Int).tail } : MD) = m := by cases m; simp only at hin; subst hin; rfl
    show SM g f _ _ ∧ Fr (smP g) (smP g) H _
    rw [em]
    exact ⟨h.ext _, Fr.ext _ _ _⟩
  | cons z l =>
    have hdz : all.drop off = z :: l := by rw [e3, hin]
    have hz : (intR .i64 all)[off]? = some [.p (.i .i64 z)] := by
      have : all[off]? = some z := by
        have := congrArg (·[0]?) hdz
        simpa [List.getElem?_drop] using this
      simp [intR, this]
    have dp : decide ((0 : Int) < ((l.length + 1 : Nat) : Int)) = true := by simp
    have hw' : H[g.iw]? = some (.var [.p (.i .i64 f), .gs ii vi off (l.length + 1), .p .nl, .p (.i .i64 (finE' m)), .p (.i .i64 (finC' m)), g.ou, .p (.b m.fin.isSome)]) := by rw [hw, hin]; rfl
    have hwx' : ∀ A, (H ++ A)[g.iw]? = _ := fun A => get_ext hw' A
    have l1 : (1 : Int) ≤ ((l.length + 1 : Nat) : Int) := by omega
    have l0 : (0 : Int) < ((l.length + 1 : Nat) : Int) := by omega
    simp only [go_sem, Nat.reduceEqDiff, reduceIte, ↓reduceIte, Nat.reduceAdd, Z0, Z1, Z2, Z3, Z4, Z5, Nat.reduceLT, Z6, Z7, Int.reduceEq, Z8, Z9, Nat.reduceLeDiff, Za, Zb, Zc, Zd, Ze, Zf, bytesOf, Zg, Zh, Zi, Zj, Zk, Zl, Int.reduceLT, Int.reduceLE, Zm, Int.reduceToNat, Zn, Zo, Zp, Int.reduceAdd, Zq, Zr, dp, hwx', h2x, hz, l0, l1, Nat.add_zero, vL]
    obtain ⟨p1, p2⟩ := h.putI e1 e2 hdz
    have hl : H.length = (H.set g.iw (.var (wCl { g with ip := .gs ii vi (off + 1) l.length } f m))).length := by simp
    rw [wCl] at p1 p2 hl
    rw [List.set_append_left _ _ (get_lt hw), Nat.add_sub_cancel, hl]
    generalize H.set g.iw (AO.var [AV.p (PV.i IntKind.i64 f), AV.gs ii vi (off + 1) l.length, AV.p PV.nl, AV.p (PV.i IntKind.i64 (finE' m)), AV.p (PV.i IntKind.i64 (finC' m)), g.ou, AV.p (PV.b m.fin.isSome)]) = H2 at p1 p2 ⊢
    simp only [go_sem, Nat.reduceEqDiff, reduceIte, ↓reduceIte, Nat.reduceAdd, Z0, Z1, Z2, Z3, Z4, Z5, Nat.reduceLT, Z6, Z7, Int.reduceEq, Z8, Z9, Nat.reduceLeDiff, Za, Zb, Zc, Zd, Ze, Zf, bytesOf, Zg, Zh, Zi, Zj, Zk, Zl, Int.reduceLT, Int.reduceLE, Zm, Int.reduceToNat, Zn, Zo, Zp, Int.reduceAdd, Zq, Zr]
    exact ⟨rfl, _, p1.ext _, p2.trans (Fr.ext _ _ _)⟩
end Go.Proofs.Ytmbggdfceecojaa.Cd
