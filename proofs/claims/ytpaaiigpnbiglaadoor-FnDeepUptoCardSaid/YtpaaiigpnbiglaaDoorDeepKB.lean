/- Texts DmI DmJ DmK, merged. -/
import Derived.Test.YtpaaiigpnbiglaaDoorDeepKA
/- Brackets: the words of the text. -/
set_option linter.all false
namespace Go.Proofs.YtpaaiigpnbiglaaDoor.Dm
open Go.AM Mc

def txt (n : Nat) : List UInt8 := List.replicate n 40 ++ 55 :: List.replicate n 41
theorem txt_len (n : Nat) : (txt n).length = 2 * n + 1 := by simp [txt]; omega
theorem txt_lt {n i : Nat} (h : i < n) : (txt n)[i]? = some 40 := by
  simp [txt, List.getElem?_append, h, List.getElem?_replicate]
theorem txt_eq (n : Nat) : (txt n)[n]? = some 55 := by
  simp [txt, List.getElem?_append]
theorem txt_gt {n i : Nat} (h : n < i) (h2 : i ≤ 2 * n) : (txt n)[i]? = some 41 := by
  have e : i - n = (i - n - 1) + 1 := by omega
  simp only [txt]
  rw [List.getElem?_append_right (by simp; omega), List.length_replicate, e, List.getElem?_cons_succ, List.getElem?_replicate, if_pos (by omega)]

theorem digitN {H} (b : Int) (h : b = 40 ∨ b = 41) : ACall Tryd.prog 30 [.p (.i .u8 b)] H (pureQ (.p (.b false)) H) := by
  rcases h with rfl | rfl
  all_goals
    refine call30 (by simp) ?_
    simp only [go_sem, Nat.reduceEqDiff, reduceIte, ↓reduceIte, Nat.reduceAdd, Z0, Z1, Z2, Z3, Z4, Z5, Nat.reduceLT, Z6, Z7, Int.reduceEq, Z8, Z9, Nat.reduceLeDiff, Za, Zb, Zc, Zd, Ze, Zf, bytesOf, Zg, Zh, Zi, Zj, Zk, Zl, Int.reduceLT, Int.reduceLE, Zm, Int.reduceToNat, Zn, Zo, Zp, Int.reduceAdd, Zq, Zr, mc30, mr30]
    exact ⟨rfl, rfl⟩
theorem digitY {H} : ACall Tryd.prog 30 [.p (.i .u8 55)] H (pureQ (.p (.b true)) H) := by
  refine call30 (by simp) ?_
  simp only [go_sem, Nat.reduceEqDiff, reduceIte, ↓reduceIte, Nat.reduceAdd, Z0, Z1, Z2, Z3, Z4, Z5, Nat.reduceLT, Z6, Z7, Int.reduceEq, Z8, Z9, Nat.reduceLeDiff, Za, Zb, Zc, Zd, Ze, Zf, bytesOf, Zg, Zh, Zi, Zj, Zk, Zl, Int.reduceLT, Int.reduceLE, Zm, Int.reduceToNat, Zn, Zo, Zp, Int.reduceAdd, Zq, Zr, mc30, mr30]
  exact ⟨rfl, rfl⟩
theorem smallN {H} (b : Int) (h : b = 40 ∨ b = 41) : ACall Tryd.prog 32 [.p (.i .u8 b)] H (pureQ (.p (.b false)) H) := by
  rcases h with rfl | rfl
  all_goals
    refine call32 (by simp) ?_
    simp only [go_sem, Nat.reduceEqDiff, reduceIte, ↓reduceIte, Nat.reduceAdd, Z0, Z1, Z2, Z3, Z4, Z5, Nat.reduceLT, Z6, Z7, Int.reduceEq, Z8, Z9, Nat.reduceLeDiff, Za, Zb, Zc, Zd, Ze, Zf, bytesOf, Zg, Zh, Zi, Zj, Zk, Zl, Int.reduceLT, Int.reduceLE, Zm, Int.reduceToNat, Zn, Zo, Zp, Int.reduceAdd, Zq, Zr, mc32, mr32]
    exact ⟨rfl, rfl⟩
theorem greatN {H} (b : Int) (h : b = 40 ∨ b = 41) : ACall Tryd.prog 33 [.p (.i .u8 b)] H (pureQ (.p (.b false)) H) := by
  rcases h with rfl | rfl
  all_goals
    refine call33 (by simp) ?_
    simp only [go_sem, Nat.reduceEqDiff, reduceIte, ↓reduceIte, Nat.reduceAdd, Z0, Z1, Z2, Z3, Z4, Z5, Nat.reduceLT, Z6, Z7, Int.reduceEq, Z8, Z9, Nat.reduceLeDiff, Za, Zb, Zc, Zd, Ze, Zf, bytesOf, Zg, Zh, Zi, Zj, Zk, Zl, Int.reduceLT, Int.reduceLE, Zm, Int.reduceToNat, Zn, Zo, Zp, Int.reduceAdd, Zq, Zr, mc33, mr33]
    exact ⟨rfl, rfl⟩

theorem prefixI {H} (s p : List UInt8) (hs : s.length ≤ 1000) (hp : p.length ≤ 1000) : ACall Tryd.prog 54 [.p (.s s), .p (.s p)] H (pureQ (.p (.b (decide (p.length ≤ s.length) && decide (s.take p.length = p)))) H) := by
  refine call54 (by simp) ?_
  simp only [go_sem, Nat.reduceEqDiff, reduceIte, ↓reduceIte, Nat.reduceAdd, Z0, Z1, Z2, Z3, Z4, Z5, Nat.reduceLT, Z6, Z7, Int.reduceEq, Z8, Z9, Nat.reduceLeDiff, Za, Zb, Zc, Zd, Ze, Zf, bytesOf, Zg, Zh, Zi, Zj, Zk, Zl, Int.reduceLT, Int.reduceLE, Zm, Int.reduceToNat, Zn, Zo, Zp, Int.reduceAdd, Zq, Zr, mc54, mr54]
  intro _ _
  by_cases hc : p.length ≤ s.length
  · have ez : decide ((p.length : Int) ≤ (s.length : Int)) = true := by simp; omega
    have e : decide (p.length ≤ s.length) = true := by simp [hc]
    simp only [go_sem, Nat.reduceEqDiff, reduceIte, ↓reduceIte, Nat.reduceAdd, Z0, Z1, Z2, Z3, Z4, Z5, Nat.reduceLT, Z6, Z7, Int.reduceEq, Z8, Z9, Nat.reduceLeDiff, Za, Zb, Zc, Zd, Ze, Zf, bytesOf, Zg, Zh, Zi, Zj, Zk, Zl, Int.reduceLT, Int.reduceLE, Zm, Int.reduceToNat, Zn, Zo, Zp, Int.reduceAdd, Zq, Zr, e, ez]
    intro _
    exact ⟨by omega, rfl, rfl⟩
  · have ez : decide ((p.length : Int) ≤ (s.length : Int)) = false := by simp; omega
    have e : decide (p.length ≤ s.length) = false := by simp; omega
    simp only [go_sem, Nat.reduceEqDiff, reduceIte, ↓reduceIte, Nat.reduceAdd, Z0, Z1, Z2, Z3, Z4, Z5, Nat.reduceLT, Z6, Z7, Int.reduceEq, Z8, Z9, Nat.reduceLeDiff, Za, Zb, Zc, Zd, Ze, Zf, bytesOf, Zg, Zh, Zi, Zj, Zk, Zl, Int.reduceLT, Int.reduceLE, Zm, Int.reduceToNat, Zn, Zo, Zp, Int.reduceAdd, Zq, Zr, e, ez, Bool.false_and]
    exact ⟨rfl, rfl⟩
theorem prefixS {H} (s p : List UInt8) (hs : s.length ≤ 1000) (hp : p.length ≤ 1000) : ACall Tryd.prog 47 [.p (.s s), .p (.s p)] H (pureQ (.p (.b (decide (p.length ≤ s.length) && decide (s.take p.length = p)))) H) := by
  refine call47 (by simp) ?_
  simp only [go_sem, Nat.reduceEqDiff, reduceIte, ↓reduceIte, Nat.reduceAdd, Z0, Z1, Z2, Z3, Z4, Z5, Nat.reduceLT, Z6, Z7, Int.reduceEq, Z8, Z9, Nat.reduceLeDiff, Za, Zb, Zc, Zd, Ze, Zf, bytesOf, Zg, Zh, Zi, Zj, Zk, Zl, Int.reduceLT, Int.reduceLE, Zm, Int.reduceToNat, Zn, Zo, Zp, Int.reduceAdd, Zq, Zr, mc47, mr47]
  refine acall_pure (prefixI s p hs hp) ?_
  simp only [go_sem, Nat.reduceEqDiff, reduceIte, ↓reduceIte, Nat.reduceAdd, Z0, Z1, Z2, Z3, Z4, Z5, Nat.reduceLT, Z6, Z7, Int.reduceEq, Z8, Z9, Nat.reduceLeDiff, Za, Zb, Zc, Zd, Ze, Zf, bytesOf, Zg, Zh, Zi, Zj, Zk, Zl, Int.reduceLT, Int.reduceLE, Zm, Int.reduceToNat, Zn, Zo, Zp, Int.reduceAdd, Zq, Zr]
  exact ⟨rfl, rfl⟩

def signL : List (List UInt8) := [[45, 62], [58, 61], [61], [60], [43], [45], [42], [94], [59], [124], [40], [41], [44], [95], [33]]
def isPre (s p : List UInt8) : Bool := decide (p.length ≤ s.length) && decide (s.take p.length = p)
theorem signsC {H} : ACall Tryd.prog 46 [] H (fun r H' => r = .gs H.length 0 0 15 ∧ H' = H ++ [.rows 1 0 (signL.map fun x => [.p (.s x)])]) := by
  refine call46 (by simp) ?_
  simp only [go_sem, Nat.reduceEqDiff, reduceIte, ↓reduceIte, Nat.reduceAdd, Z0, Z1, Z2, Z3, Z4, Z5, Nat.reduceLT, Z6, Z7, Int.reduceEq, Z8, Z9, Nat.reduceLeDiff, Za, Zb, Zc, Zd, Ze, Zf, bytesOf, Zg, Zh, Zi, Zj, Zk, Zl, Int.reduceLT, Int.reduceLE, Zm, Int.reduceToNat, Zn, Zo, Zp, Int.reduceAdd, Zq, Zr, mc46, mr46]
  rfl

theorem signAtC {H} {s : List UInt8} {i j : Nat} (hs : s.length ≤ 1000) (hi : i ≤ s.length) (hj : j < 15) (hno : ∀ k, (h : k < 15) → k < j → isPre (s.drop i) (signL[k]'h) = false) (hy : isPre (s.drop i) (signL[j]'hj) = true) :
    ACall Tryd.prog 36 [.p (.s s), .p (.i .i64 i)] H (pureQ (.p (.s (signL[j]'hj))) H) := by
  have hml : 1000 ≤ maxL := by decide
  refine acall_drop1 ?_ (tf_p _)
  refine call36 (by simp) ?_
  simp only [go_sem, Nat.reduceEqDiff, reduceIte, ↓reduceIte, Nat.reduceAdd, Z0, Z1, Z2, Z3, Z4, Z5, Nat.reduceLT, Z6, Z7, Int.reduceEq, Z8, Z9, Nat.reduceLeDiff, Za, Zb, Zc, Zd, Ze, Zf, bytesOf, Zg, Zh, Zi, Zj, Zk, Zl, Int.reduceLT, Int.reduceLE, Zm, Int.reduceToNat, Zn, Zo, Zp, Int.reduceAdd, Zq, Zr, mc36, mr36]
  refine signsC.mono ?_
  rintro r H1 ⟨rfl, rfl⟩
  have hL : (H ++ [AO.rows 1 0 (signL.map fun x => [.p (.s x)])])[H.length]? = some (.rows 1 0 (signL.map fun x => [.p (.s x)])) := by rw [get_off0]; rfl
  simp only [go_sem, Nat.reduceEqDiff, reduceIte, ↓reduceIte, Nat.reduceAdd, Z0, Z1, Z2, Z3, Z4, Z5, Nat.reduceLT, Z6, Z7, Int.reduceEq, Z8, Z9, Nat.reduceLeDiff, Za, Zb, Zc, Zd, Ze, Zf, bytesOf, Zg, Zh, Zi, Zj, Zk, Zl, Int.reduceLT, Int.reduceLE, Zm, Int.reduceToNat, Zn, Zo, Zp, Int.reduceAdd, Zq, Zr]
  intro _
  refine ⟨Nat, [0, 1, 7, 8, 9], fun x st => x ≤ j ∧ st = ⟨[(0, .p (.s s)), (1, .p (.i .i64 i)), (7, .gs H.length 0 0 15), (8, .p (.i .i64 15)), (9, .p (.i .i64 x))], [], H ++ [.rows 1 0 (signL.map fun x => [.p (.s x)])]⟩, fun x => 15 - x, ⟨0, ?_⟩, ?_⟩
  · simp only [go_sem, Nat.reduceEqDiff, reduceIte, ↓reduceIte, Nat.reduceAdd, Z0, Z1, Z2, Z3, Z4, Z5, Nat.reduceLT, Z6, Z7, Int.reduceEq, Z8, Z9, Nat.reduceLeDiff, Za, Zb, Zc, Zd, Ze, Zf, bytesOf, Zg, Zh, Zi, Zj, Zk, Zl, Int.reduceLT, Int.reduceLE, Zm, Int.reduceToNat, Zn, Zo, Zp, Int.reduceAdd, Zq, Zr]
    omega
  · rintro x _ ⟨hx, rfl⟩
    have hx15 : x < 15 := by omega
    have hlt : decide ((x : Int) < 15) = true := by simp; omega
    have hlt' : ((x : Int) < 15) := by omega
    have hg : (signL.map fun x => [AV.p (.s x)])[x]? = some [.p (.s (signL[x]'hx15))] := by
      rw [List.getElem?_map, List.getElem?_eq_getElem hx15]; rfl
    have hpl : (signL[x]'hx15).length ≤ 1000 := by
      have : ∀ y ∈ signL, y.length ≤ 1000 := by decide
      exact this _ (List.getElem_mem hx15)
    have et : List.take (s.length - i) (List.drop i s) = s.drop i := List.take_of_length_le (by simp)
    have hpf : ACall Tryd.prog 47 [.p (.s (s.drop i)), .p (.s (signL[x]'hx15))] (H ++ [AO.rows 1 0 (signL.map fun x => [.p (.s x)])]) (pureQ (.p (.b (isPre (s.drop i) (signL[x]'hx15)))) _) := prefixS _ _ (by simp; omega) hpl
    simp only [go_sem, Nat.reduceEqDiff, reduceIte, ↓reduceIte, Nat.reduceAdd, Z0, Z1, Z2, Z3, Z4, Z5, Nat.reduceLT, Z6, Z7, Int.reduceEq, Z8, Z9, Nat.reduceLeDiff, Za, Zb, Zc, Zd, Ze, Zf, bytesOf, Zg, Zh, Zi, Zj, Zk, Zl, Int.reduceLT, Int.reduceLE, Zm, Int.reduceToNat, Zn, Zo, Zp, Int.reduceAdd, Zq, Zr, hlt, hlt', hL, hg, et]
    refine ⟨by omega, acall_pure hpf ?_⟩
    by_cases hxj : x < j
    · have ew : wr .i64 ((x : Int) + 1) = ((x + 1 : Nat) : Int) := by rw [wr64 (by omega) (by omega)]; omega
      simp only [go_sem, Nat.reduceEqDiff, reduceIte, ↓reduceIte, Nat.reduceAdd, Z0, Z1, Z2, Z3, Z4, Z5, Nat.reduceLT, Z6, Z7, Int.reduceEq, Z8, Z9, Nat.reduceLeDiff, Za, Zb, Zc, Zd, Ze, Zf, bytesOf, Zg, Zh, Zi, Zj, Zk, Zl, Int.reduceLT, Int.reduceLE, Zm, Int.reduceToNat, Zn, Zo, Zp, Int.reduceAdd, Zq, Zr, hno x hx15 hxj, ew]
      exact ⟨x + 1, ⟨by omega, rfl⟩, by omega⟩
    · have : x = j := by omega
      subst this
      simp only [go_sem, Nat.reduceEqDiff, reduceIte, ↓reduceIte, Nat.reduceAdd, Z0, Z1, Z2, Z3, Z4, Z5, Nat.reduceLT, Z6, Z7, Int.reduceEq, Z8, Z9, Nat.reduceLeDiff, Za, Zb, Zc, Zd, Ze, Zf, bytesOf, Zg, Zh, Zi, Zj, Zk, Zl, Int.reduceLT, Int.reduceLE, Zm, Int.reduceToNat, Zn, Zo, Zp, Int.reduceAdd, Zq, Zr, hy]
      exact ⟨_, rfl⟩

theorem isPre1 {s : List UInt8} {b : UInt8} {p : List UInt8} (h : s[0]? = some b) : isPre s (b :: p) = isPre s.tail p := by
  cases s with
  | nil => cases h
  | cons c s =>
    cases h
    rw [Bool.eq_iff_iff]
    simp [isPre]
    exact ⟨fun ⟨a, b⟩ => ⟨decide_eq_true a, decide_eq_true b⟩, fun ⟨a, b⟩ => ⟨of_decide_eq_true a, of_decide_eq_true b⟩⟩
theorem isPre0 {s : List UInt8} {b c : UInt8} {p : List UInt8} (h : s[0]? = some b) (hc : b ≠ c) : isPre s (c :: p) = false := by
  cases s with
  | nil => cases h
  | cons d s =>
    cases h
    simp [isPre, hc]
theorem isPreN {s : List UInt8} : isPre s [] = true := by simp [isPre]
theorem signOpen {H} {s : List UInt8} {i : Nat} (hs : s.length ≤ 1000) (h : s[i]? = some 40) : ACall Tryd.prog 36 [.p (.s s), .p (.i .i64 i)] H (pureQ (.p (.s [40])) H) := by
  have hi := (List.getElem?_eq_some_iff.1 h).1
  have h0 : (s.drop i)[0]? = some 40 := by simpa using h
  refine signAtC (j := 10) hs (by omega) (by decide) ?_ ?_
  · intro k hk hlt
    have : k = 0 ∨ k = 1 ∨ k = 2 ∨ k = 3 ∨ k = 4 ∨ k = 5 ∨ k = 6 ∨ k = 7 ∨ k = 8 ∨ k = 9 := by omega
    rcases this with rfl | rfl | rfl | rfl | rfl | rfl | rfl | rfl | rfl | rfl <;> exact isPre0 h0 (by decide)
  · exact (isPre1 h0).trans isPreN
theorem signClose {H} {s : List UInt8} {i : Nat} (hs : s.length ≤ 1000) (h : s[i]? = some 41) : ACall Tryd.prog 36 [.p (.s s), .p (.i .i64 i)] H (pureQ (.p (.s [41])) H) := by
  have hi := (List.getElem?_eq_some_iff.1 h).1
  have h0 : (s.drop i)[0]? = some 41 := by simpa using h
  refine signAtC (j := 11) hs (by omega) (by decide) ?_ ?_
  · intro k hk hlt
    have : k = 0 ∨ k = 1 ∨ k = 2 ∨ k = 3 ∨ k = 4 ∨ k = 5 ∨ k = 6 ∨ k = 7 ∨ k = 8 ∨ k = 9 ∨ k = 10 := by omega
    rcases this with rfl | rfl | rfl | rfl | rfl | rfl | rfl | rfl | rfl | rfl | rfl <;> exact isPre0 h0 (by decide)
  · exact (isPre1 h0).trans isPreN

/-- a run of digits, of one -/
theorem runC {n : Nat} {H} (hn : n ≤ 79) : ACall Tryd.prog 22 [.p (.s (txt n)), .p (.i .i64 n), .clo 30 []] H (pureQ (.p (.i .i64 ((n + 1 : Nat) : Int))) H) := by
  have hln := txt_len n
  refine call22 (by simp) ?_
  simp only [go_sem, Nat.reduceEqDiff, reduceIte, ↓reduceIte, Nat.reduceAdd, Z0, Z1, Z2, Z3, Z4, Z5, Nat.reduceLT, Z6, Z7, Int.reduceEq, Z8, Z9, Nat.reduceLeDiff, Za, Zb, Zc, Zd, Ze, Zf, bytesOf, Zg, Zh, Zi, Zj, Zk, Zl, Int.reduceLT, Int.reduceLE, Zm, Int.reduceToNat, Zn, Zo, Zp, Int.reduceAdd, Zq, Zr, mc22, mr22]
  refine ⟨Nat, [0, 1, 2], fun x st => (x = n ∨ x = n + 1) ∧ st = ⟨[(0, .p (.s (txt n))), (1, .p (.i .i64 x)), (2, .clo 30 [])], [], H⟩, fun x => n + 1 - x, ⟨n, ?_⟩, ?_⟩
  · simp only [go_sem, Nat.reduceEqDiff, reduceIte, ↓reduceIte, Nat.reduceAdd, Z0, Z1, Z2, Z3, Z4, Z5, Nat.reduceLT, Z6, Z7, Int.reduceEq, Z8, Z9, Nat.reduceLeDiff, Za, Zb, Zc, Zd, Ze, Zf, bytesOf, Zg, Zh, Zi, Zj, Zk, Zl, Int.reduceLT, Int.reduceLE, Zm, Int.reduceToNat, Zn, Zo, Zp, Int.reduceAdd, Zq, Zr]
    exact .inl trivial
  · rintro x _ ⟨hx, rfl⟩
    rcases hx with rfl | rfl
    · have h1 : decide ((x : Int) < ((txt x).length : Int)) = true := by rw [hln]; simp; omega
      have h2 := txt_eq x
      have ew : wr .i64 ((x : Int) + 1) = ((x + 1 : Nat) : Int) := by rw [wr64 (by omega) (by omega)]; omega
      simp only [go_sem, Nat.reduceEqDiff, reduceIte, ↓reduceIte, Nat.reduceAdd, Z0, Z1, Z2, Z3, Z4, Z5, Nat.reduceLT, Z6, Z7, Int.reduceEq, Z8, Z9, Nat.reduceLeDiff, Za, Zb, Zc, Zd, Ze, Zf, bytesOf, Zg, Zh, Zi, Zj, Zk, Zl, Int.reduceLT, Int.reduceLE, Zm, Int.reduceToNat, Zn, Zo, Zp, Int.reduceAdd, Zq, Zr, h1, h2, ew]
      intro _
      refine acall_pure (r0 := .p (.b true)) digitY ?_
      simp only [go_sem, Nat.reduceEqDiff, reduceIte, ↓reduceIte, Nat.reduceAdd, Z0, Z1, Z2, Z3, Z4, Z5, Nat.reduceLT, Z6, Z7, Int.reduceEq, Z8, Z9, Nat.reduceLeDiff, Za, Zb, Zc, Zd, Ze, Zf, bytesOf, Zg, Zh, Zi, Zj, Zk, Zl, Int.reduceLT, Int.reduceLE, Zm, Int.reduceToNat, Zn, Zo, Zp, Int.reduceAdd, Zq, Zr, ew]
      exact ⟨x + 1, ⟨.inr rfl, rfl⟩, by omega⟩
    · by_cases h0 : n = 0
      · have h1 : decide (((n + 1 : Nat) : Int) < ((txt n).length : Int)) = false := by rw [hln]; simp; omega
        simp only [go_sem, Nat.reduceEqDiff, reduceIte, ↓reduceIte, Nat.reduceAdd, Z0, Z1, Z2, Z3, Z4, Z5, Nat.reduceLT, Z6, Z7, Int.reduceEq, Z8, Z9, Nat.reduceLeDiff, Za, Zb, Zc, Zd, Ze, Zf, bytesOf, Zg, Zh, Zi, Zj, Zk, Zl, Int.reduceLT, Int.reduceLE, Zm, Int.reduceToNat, Zn, Zo, Zp, Int.reduceAdd, Zq, Zr, h1]
        intro _
        exact ⟨rfl, rfl⟩
      · have h1 : decide (((n + 1 : Nat) : Int) < ((txt n).length : Int)) = true := by rw [hln]; simp; omega
        have h2 := txt_gt (n := n) (i := n + 1) (by omega) (by omega)
        simp only [go_sem, Nat.reduceEqDiff, reduceIte, ↓reduceIte, Nat.reduceAdd, Z0, Z1, Z2, Z3, Z4, Z5, Nat.reduceLT, Z6, Z7, Int.reduceEq, Z8, Z9, Nat.reduceLeDiff, Za, Zb, Zc, Zd, Ze, Zf, bytesOf, Zg, Zh, Zi, Zj, Zk, Zl, Int.reduceLT, Int.reduceLE, Zm, Int.reduceToNat, Zn, Zo, Zp, Int.reduceAdd, Zq, Zr, h1, h2]
        intro _
        refine acall_pure (r0 := .p (.b false)) (digitN 41 (.inr rfl)) ?_
        simp only [go_sem, Nat.reduceEqDiff, reduceIte, ↓reduceIte, Nat.reduceAdd, Z0, Z1, Z2, Z3, Z4, Z5, Nat.reduceLT, Z6, Z7, Int.reduceEq, Z8, Z9, Nat.reduceLeDiff, Za, Zb, Zc, Zd, Ze, Zf, bytesOf, Zg, Zh, Zi, Zj, Zk, Zl, Int.reduceLT, Int.reduceLE, Zm, Int.reduceToNat, Zn, Zo, Zp, Int.reduceAdd, Zq, Zr]
        exact ⟨rfl, rfl⟩

/-- what the lexer gives at a place -/
def oneR (n i : Nat) : AV := .tup [.st (tk n i), .p (.i .i64 ((i + 1 : Nat) : Int)), .st [.p (.i .i64 0), .p (.i .i64 0)]]
theorem tf_oneR (n i : Nat) : Tf (oneR n i) := by
  obtain ⟨k, s, m, p, e⟩ := tk_any n i
  refine fun θ θ' W v hv => ?_
  unfold oneR at hv ⊢
  rw [e] at hv ⊢
  cases hv with
  | tup _ us hs hc =>
    refine .tup _ us hs fun j c v hj hv => ?_
    have := hc j c v hj hv
    match j with
    | 0 => cases hj; exact tf_tk k s m p _ _ _ _ this
    | 1 => cases hj; exact tf_p _ _ _ _ _ this
    | 2 => cases hj; exact tf_st _ (by intro c hc; simp at hc; rcases hc with rfl | rfl <;> exact tf_p _) _ _ _ _ this
    | j + 3 => simp at hj
theorem numC {n : Nat} {H} (hn : n ≤ 79) : ACall Tryd.prog 31 [.p (.s (txt n)), .p (.i .i64 n)] H (pureQ (oneR n n) H) := by
  have hln := txt_len n
  refine acall_drop1 ?_ ?_
  · refine call31 (by simp) ?_
    simp only [go_sem, Nat.reduceEqDiff, reduceIte, ↓reduceIte, Nat.reduceAdd, Z0, Z1, Z2, Z3, Z4, Z5, Nat.reduceLT, Z6, Z7, Int.reduceEq, Z8, Z9, Nat.reduceLeDiff, Za, Zb, Zc, Zd, Ze, Zf, bytesOf, Zg, Zh, Zi, Zj, Zk, Zl, Int.reduceLT, Int.reduceLE, Zm, Int.reduceToNat, Zn, Zo, Zp, Int.reduceAdd, Zq, Zr, mc31, mr31]
    refine acall_pure (runC hn) ?_
    have es : List.take (n + 1 - n) (List.drop n (txt n)) = [55] := by
      rw [show n + 1 - n = 1 by omega, txt, List.drop_append_of_le_length (by simp)]
      simp
    have e1 : wr .i64 (((n + 1 : Nat) : Int) - (n : Int)) = 1 := by rw [wr64 (by omega) (by omega)]; omega
    simp only [go_sem, Nat.reduceEqDiff, reduceIte, ↓reduceIte, Nat.reduceAdd, Z0, Z1, Z2, Z3, Z4, Z5, Nat.reduceLT, Z6, Z7, Int.reduceEq, Z8, Z9, Nat.reduceLeDiff, Za, Zb, Zc, Zd, Ze, Zf, bytesOf, Zg, Zh, Zi, Zj, Zk, Zl, Int.reduceLT, Int.reduceLE, Zm, Int.reduceToNat, Zn, Zo, Zp, Int.reduceAdd, Zq, Zr, es]
    refine ⟨by omega, by rw [hln]; omega, acall_pure (atoi (n := 7) (by decide) (by rfl)) ?_⟩
    simp only [go_sem, Nat.reduceEqDiff, reduceIte, ↓reduceIte, Nat.reduceAdd, Z0, Z1, Z2, Z3, Z4, Z5, Nat.reduceLT, Z6, Z7, Int.reduceEq, Z8, Z9, Nat.reduceLeDiff, Za, Zb, Zc, Zd, Ze, Zf, bytesOf, Zg, Zh, Zi, Zj, Zk, Zl, Int.reduceLT, Int.reduceLE, Zm, Int.reduceToNat, Zn, Zo, Zp, Int.reduceAdd, Zq, Zr, e1]
    simp only [go_sem, Nat.reduceEqDiff, reduceIte, ↓reduceIte, Nat.reduceAdd, Z0, Z1, Z2, Z3, Z4, Z5, Nat.reduceLT, Z6, Z7, Int.reduceEq, Z8, Z9, Nat.reduceLeDiff, Za, Zb, Zc, Zd, Ze, Zf, bytesOf, Zg, Zh, Zi, Zj, Zk, Zl, Int.reduceLT, Int.reduceLE, Zm, Int.reduceToNat, Zn, Zo, Zp, Int.reduceAdd, Zq, Zr, oneR, tk_num, tkC]
    exact ⟨_, rfl⟩
  · exact tf_oneR n n

theorem oneOpen {n i : Nat} {H} (hn : n ≤ 79) (hi : i < n) : ACall Tryd.prog 24 [.p (.s (txt n)), .p (.i .i64 i)] H (pureQ (oneR n i) H) := by
  have hln := txt_len n
  have hml : 1000 ≤ maxL := by decide
  have hx := txt_lt hi
  refine acall_drop1 ?_ (tf_oneR n i)
  refine call24 (by simp) ?_
  simp only [go_sem, Nat.reduceEqDiff, reduceIte, ↓reduceIte, Nat.reduceAdd, Z0, Z1, Z2, Z3, Z4, Z5, Nat.reduceLT, Z6, Z7, Int.reduceEq, Z8, Z9, Nat.reduceLeDiff, Za, Zb, Zc, Zd, Ze, Zf, bytesOf, Zg, Zh, Zi, Zj, Zk, Zl, Int.reduceLT, Int.reduceLE, Zm, Int.reduceToNat, Zn, Zo, Zp, Int.reduceAdd, Zq, Zr, mc24, mr24, hx]
  refine acall_pure (r0 := .p (.b false)) (digitN 40 (.inl rfl)) ?_
  simp only [go_sem, Nat.reduceEqDiff, reduceIte, ↓reduceIte, Nat.reduceAdd, Z0, Z1, Z2, Z3, Z4, Z5, Nat.reduceLT, Z6, Z7, Int.reduceEq, Z8, Z9, Nat.reduceLeDiff, Za, Zb, Zc, Zd, Ze, Zf, bytesOf, Zg, Zh, Zi, Zj, Zk, Zl, Int.reduceLT, Int.reduceLE, Zm, Int.reduceToNat, Zn, Zo, Zp, Int.reduceAdd, Zq, Zr]
  refine acall_pure (r0 := .p (.b false)) (smallN 40 (.inl rfl)) ?_
  simp only [go_sem, Nat.reduceEqDiff, reduceIte, ↓reduceIte, Nat.reduceAdd, Z0, Z1, Z2, Z3, Z4, Z5, Nat.reduceLT, Z6, Z7, Int.reduceEq, Z8, Z9, Nat.reduceLeDiff, Za, Zb, Zc, Zd, Ze, Zf, bytesOf, Zg, Zh, Zi, Zj, Zk, Zl, Int.reduceLT, Int.reduceLE, Zm, Int.reduceToNat, Zn, Zo, Zp, Int.reduceAdd, Zq, Zr]
  refine acall_pure (r0 := .p (.b false)) (greatN 40 (.inl rfl)) ?_
  have u : ((UInt8.toNat 40 : Nat) : Int) = 40 := rfl
  simp only [go_sem, Nat.reduceEqDiff, reduceIte, ↓reduceIte, Nat.reduceAdd, Z0, Z1, Z2, Z3, Z4, Z5, Nat.reduceLT, Z6, Z7, Int.reduceEq, Z8, Z9, Nat.reduceLeDiff, Za, Zb, Zc, Zd, Ze, Zf, bytesOf, Zg, Zh, Zi, Zj, Zk, Zl, Int.reduceLT, Int.reduceLE, Zm, Int.reduceToNat, Zn, Zo, Zp, Int.reduceAdd, Zq, Zr, u]
  refine acall_pure (signOpen (by omega) hx) ?_
  have ed : decide ([40] = ([] : List UInt8)) = false := by decide
  simp only [go_sem, Nat.reduceEqDiff, reduceIte, ↓reduceIte, Nat.reduceAdd, Z0, Z1, Z2, Z3, Z4, Z5, Nat.reduceLT, Z6, Z7, Int.reduceEq, Z8, Z9, Nat.reduceLeDiff, Za, Zb, Zc, Zd, Ze, Zf, bytesOf, Zg, Zh, Zi, Zj, Zk, Zl, Int.reduceLT, Int.reduceLE, Zm, Int.reduceToNat, Zn, Zo, Zp, Int.reduceAdd, Zq, Zr, ed]
  intro _
  have ew : wr .i64 ((i : Int) + 1) = ((i + 1 : Nat) : Int) := by rw [wr64 (by omega) (by omega)]; omega
  simp only [go_sem, Nat.reduceEqDiff, reduceIte, ↓reduceIte, Nat.reduceAdd, Z0, Z1, Z2, Z3, Z4, Z5, Nat.reduceLT, Z6, Z7, Int.reduceEq, Z8, Z9, Nat.reduceLeDiff, Za, Zb, Zc, Zd, Ze, Zf, bytesOf, Zg, Zh, Zi, Zj, Zk, Zl, Int.reduceLT, Int.reduceLE, Zm, Int.reduceToNat, Zn, Zo, Zp, Int.reduceAdd, Zq, Zr, oneR, tk_open hi, tkC, ew]
  exact ⟨_, rfl⟩

theorem oneClose {n i : Nat} {H} (hn : n ≤ 79) (hi : n < i) (hi2 : i ≤ 2 * n) : ACall Tryd.prog 24 [.p (.s (txt n)), .p (.i .i64 i)] H (pureQ (oneR n i) H) := by
  have hln := txt_len n
  have hml : 1000 ≤ maxL := by decide
  have hx := txt_gt hi hi2
  refine acall_drop1 ?_ (tf_oneR n i)
  refine call24 (by simp) ?_
  simp only [go_sem, Nat.reduceEqDiff, reduceIte, ↓reduceIte, Nat.reduceAdd, Z0, Z1, Z2, Z3, Z4, Z5, Nat.reduceLT, Z6, Z7, Int.reduceEq, Z8, Z9, Nat.reduceLeDiff, Za, Zb, Zc, Zd, Ze, Zf, bytesOf, Zg, Zh, Zi, Zj, Zk, Zl, Int.reduceLT, Int.reduceLE, Zm, Int.reduceToNat, Zn, Zo, Zp, Int.reduceAdd, Zq, Zr, mc24, mr24, hx]
  refine acall_pure (r0 := .p (.b false)) (digitN 41 (.inr rfl)) ?_
  simp only [go_sem, Nat.reduceEqDiff, reduceIte, ↓reduceIte, Nat.reduceAdd, Z0, Z1, Z2, Z3, Z4, Z5, Nat.reduceLT, Z6, Z7, Int.reduceEq, Z8, Z9, Nat.reduceLeDiff, Za, Zb, Zc, Zd, Ze, Zf, bytesOf, Zg, Zh, Zi, Zj, Zk, Zl, Int.reduceLT, Int.reduceLE, Zm, Int.reduceToNat, Zn, Zo, Zp, Int.reduceAdd, Zq, Zr]
  refine acall_pure (r0 := .p (.b false)) (smallN 41 (.inr rfl)) ?_
  simp only [go_sem, Nat.reduceEqDiff, reduceIte, ↓reduceIte, Nat.reduceAdd, Z0, Z1, Z2, Z3, Z4, Z5, Nat.reduceLT, Z6, Z7, Int.reduceEq, Z8, Z9, Nat.reduceLeDiff, Za, Zb, Zc, Zd, Ze, Zf, bytesOf, Zg, Zh, Zi, Zj, Zk, Zl, Int.reduceLT, Int.reduceLE, Zm, Int.reduceToNat, Zn, Zo, Zp, Int.reduceAdd, Zq, Zr]
  refine acall_pure (r0 := .p (.b false)) (greatN 41 (.inr rfl)) ?_
  have u : ((UInt8.toNat 41 : Nat) : Int) = 41 := rfl
  simp only [go_sem, Nat.reduceEqDiff, reduceIte, ↓reduceIte, Nat.reduceAdd, Z0, Z1, Z2, Z3, Z4, Z5, Nat.reduceLT, Z6, Z7, Int.reduceEq, Z8, Z9, Nat.reduceLeDiff, Za, Zb, Zc, Zd, Ze, Zf, bytesOf, Zg, Zh, Zi, Zj, Zk, Zl, Int.reduceLT, Int.reduceLE, Zm, Int.reduceToNat, Zn, Zo, Zp, Int.reduceAdd, Zq, Zr, u]
  refine acall_pure (signClose (by omega) hx) ?_
  have ed : decide ([41] = ([] : List UInt8)) = false := by decide
  simp only [go_sem, Nat.reduceEqDiff, reduceIte, ↓reduceIte, Nat.reduceAdd, Z0, Z1, Z2, Z3, Z4, Z5, Nat.reduceLT, Z6, Z7, Int.reduceEq, Z8, Z9, Nat.reduceLeDiff, Za, Zb, Zc, Zd, Ze, Zf, bytesOf, Zg, Zh, Zi, Zj, Zk, Zl, Int.reduceLT, Int.reduceLE, Zm, Int.reduceToNat, Zn, Zo, Zp, Int.reduceAdd, Zq, Zr, ed]
  intro _
  have ew : wr .i64 ((i : Int) + 1) = ((i + 1 : Nat) : Int) := by rw [wr64 (by omega) (by omega)]; omega
  simp only [go_sem, Nat.reduceEqDiff, reduceIte, ↓reduceIte, Nat.reduceAdd, Z0, Z1, Z2, Z3, Z4, Z5, Nat.reduceLT, Z6, Z7, Int.reduceEq, Z8, Z9, Nat.reduceLeDiff, Za, Zb, Zc, Zd, Ze, Zf, bytesOf, Zg, Zh, Zi, Zj, Zk, Zl, Int.reduceLT, Int.reduceLE, Zm, Int.reduceToNat, Zn, Zo, Zp, Int.reduceAdd, Zq, Zr, oneR, tk_close hi hi2, tkC, ew]
  exact ⟨_, rfl⟩

theorem oneNum {n : Nat} {H} (hn : n ≤ 79) : ACall Tryd.prog 24 [.p (.s (txt n)), .p (.i .i64 n)] H (pureQ (oneR n n) H) := by
  have hln := txt_len n
  have hx := txt_eq n
  refine acall_drop1 ?_ (tf_oneR n n)
  refine call24 (by simp) ?_
  simp only [go_sem, Nat.reduceEqDiff, reduceIte, ↓reduceIte, Nat.reduceAdd, Z0, Z1, Z2, Z3, Z4, Z5, Nat.reduceLT, Z6, Z7, Int.reduceEq, Z8, Z9, Nat.reduceLeDiff, Za, Zb, Zc, Zd, Ze, Zf, bytesOf, Zg, Zh, Zi, Zj, Zk, Zl, Int.reduceLT, Int.reduceLE, Zm, Int.reduceToNat, Zn, Zo, Zp, Int.reduceAdd, Zq, Zr, mc24, mr24, hx]
  refine acall_pure (r0 := .p (.b true)) digitY ?_
  simp only [go_sem, Nat.reduceEqDiff, reduceIte, ↓reduceIte, Nat.reduceAdd, Z0, Z1, Z2, Z3, Z4, Z5, Nat.reduceLT, Z6, Z7, Int.reduceEq, Z8, Z9, Nat.reduceLeDiff, Za, Zb, Zc, Zd, Ze, Zf, bytesOf, Zg, Zh, Zi, Zj, Zk, Zl, Int.reduceLT, Int.reduceLE, Zm, Int.reduceToNat, Zn, Zo, Zp, Int.reduceAdd, Zq, Zr]
  refine acall_pure (numC hn) ?_
  simp only [go_sem, Nat.reduceEqDiff, reduceIte, ↓reduceIte, Nat.reduceAdd, Z0, Z1, Z2, Z3, Z4, Z5, Nat.reduceLT, Z6, Z7, Int.reduceEq, Z8, Z9, Nat.reduceLeDiff, Za, Zb, Zc, Zd, Ze, Zf, bytesOf, Zg, Zh, Zi, Zj, Zk, Zl, Int.reduceLT, Int.reduceLE, Zm, Int.reduceToNat, Zn, Zo, Zp, Int.reduceAdd, Zq, Zr, oneR, tk_num, tkC]
  exact ⟨_, rfl⟩
theorem oneAny {n i : Nat} {H} (hn : n ≤ 79) (hi : i ≤ 2 * n) : ACall Tryd.prog 24 [.p (.s (txt n)), .p (.i .i64 i)] H (pureQ (oneR n i) H) := by
  by_cases h1 : i < n
  · exact oneOpen hn h1
  · by_cases h2 : i = n
    · subst h2; exact oneNum hn
    · exact oneClose hn (by omega) hi
end Go.Proofs.YtpaaiigpnbiglaaDoor.Dm

/- Brackets: all words of the text. -/
set_option linter.all false
namespace Go.Proofs.YtpaaiigpnbiglaaDoor.Dm
open Go.AM Mc

theorem txt_any {n i : Nat} (h : i < 2 * n + 1) : ∃ c : UInt8, (txt n)[i]? = some c ∧ (c = 40 ∨ c = 41 ∨ c = 55) := by
  by_cases h1 : i < n
  · exact ⟨_, txt_lt h1, .inl rfl⟩
  · by_cases h2 : i = n
    · subst h2; exact ⟨_, txt_eq i, .inr (.inr rfl)⟩
    · exact ⟨_, txt_gt (by omega) (by omega), .inr (.inl rfl)⟩

def tkS (n i : Nat) : List (List AV) := (List.range i).map (tk n)
theorem tkS_len (n i) : (tkS n i).length = i := by simp [tkS]
theorem tkS_succ (n i) : tkS n (i + 1) = tkS n i ++ [tk n i] := by simp [tkS, List.range_succ]
theorem tkR_S (n) : tkR n = tkS n (2 * n + 1) ++ [tk n (2 * n + 1)] := by rw [← tkS_succ]; rfl

/-- behind i words -/
structure LxI (n : Nat) (H0 : List AO) (i : Nat) (a : AV) (H : List AO) : Prop where
  fr : ∀ (j : Nat) o, H0[j]? = some o → H[j]? = some o
  z5 : H[H0.length]? = some (.var [.p (.i .i64 0), .p (.i .i64 0)])
  out : OwnR H a 4 (tkS n i)
  new : ∀ id v o m, a = .gs id v o m → H0.length < id
theorem LxI.ext {n H0 i a H} (h : LxI n H0 i a H) (A : List AO) : LxI n H0 i a (H ++ A) :=
  ⟨fun j o hj => get_ext (h.fr j o hj) A, get_ext h.z5 A, h.out.ext, h.new⟩

theorem len_ownR {K : St → Prop} {st : St} {d : MD} {H : List AO} {a : AV} {sz : Nat} {rs : List (List AV)} (h : OwnR H a sz rs) (k : K (st.put d (.p (.i .i64 rs.length)))) : lenK false a d K st := by
  rcases h with ⟨rfl, rfl⟩ | ⟨id, ver, rfl, _⟩
  · exact k
  · exact fun _ => k
theorem lexAllC {n : Nat} {H0 : List AO} (hn : n ≤ 79) : ACall Tryd.prog 11 [.p (.s (txt n)), .p (.i .i64 1200)] H0 (fun r H' => ∃ it vt, r = .tup [.gs it vt 0 (2 * n + 2), .st [.p (.i .i64 0), .p (.i .i64 0)]] ∧ H'[it]? = some (.rows 4 vt (tkR n)) ∧ (∀ (j : Nat) o, H0[j]? = some o → H'[j]? = some o)) := by
  have hln := txt_len n
  have hml : 1000 ≤ maxL := by decide
  refine call11 (by simp) ?_
  simp only [go_sem, Nat.reduceEqDiff, reduceIte, ↓reduceIte, Nat.reduceAdd, Z0, Z1, Z2, Z3, Z4, Z5, Nat.reduceLT, Z6, Z7, Int.reduceEq, Z8, Z9, Nat.reduceLeDiff, Za, Zb, Zc, Zd, Ze, Zf, bytesOf, Zg, Zh, Zi, Zj, Zk, Zl, Int.reduceLT, Int.reduceLE, Zm, Int.reduceToNat, Zn, Zo, Zp, Int.reduceAdd, Zq, Zr, mc11, mr11]
  refine ⟨Nat × AV × List AO, [0, 1, 5, 6, 7], fun x st => (x.1 ≤ 2 * n + 1 ∧ LxI n H0 x.1 x.2.1 x.2.2) ∧ st = ⟨[(0, .p (.s (txt n))), (1, .p (.i .i64 1200)), (5, .ptr H0.length 0), (6, x.2.1), (7, .p (.i .i64 x.1))], [], x.2.2⟩, fun x => 2 * n + 1 - x.1, ⟨(0, .p .nl, H0 ++ [.var [.p (.i .i64 0), .p (.i .i64 0)]]), ?_⟩, ?_⟩
  · simp only [go_sem, Nat.reduceEqDiff, reduceIte, ↓reduceIte, Nat.reduceAdd, Z0, Z1, Z2, Z3, Z4, Z5, Nat.reduceLT, Z6, Z7, Int.reduceEq, Z8, Z9, Nat.reduceLeDiff, Za, Zb, Zc, Zd, Ze, Zf, bytesOf, Zg, Zh, Zi, Zj, Zk, Zl, Int.reduceLT, Int.reduceLE, Zm, Int.reduceToNat, Zn, Zo, Zp, Int.reduceAdd, Zq, Zr]
    exact ⟨fun j o hj => get_ext hj _, by rw [get_off0]; rfl, .inl ⟨rfl, rfl⟩, fun _ _ _ _ e => by cases e⟩
  · rintro ⟨i, a, H⟩ _ ⟨⟨hi, hI⟩, rfl⟩
    simp only at hi hI ⊢
    by_cases hlt : i < 2 * n + 1
    · obtain ⟨c, hc, hcc⟩ := txt_any hlt
      have h1 : decide ((i : Int) < ((txt n).length : Int)) = true := by rw [hln]; simp; omega
      have hcN : ∀ q : Int, q = 32 ∨ q = 9 ∨ q = 10 ∨ q = 35 → decide (((c.toNat : Nat) : Int) = q) = false := by
        intro q hq
        rcases hcc with rfl | rfl | rfl <;> rcases hq with rfl | rfl | rfl | rfl <;> decide
      simp only [go_sem, Nat.reduceEqDiff, reduceIte, ↓reduceIte, Nat.reduceAdd, Z0, Z1, Z2, Z3, Z4, Z5, Nat.reduceLT, Z6, Z7, Int.reduceEq, Z8, Z9, Nat.reduceLeDiff, Za, Zb, Zc, Zd, Ze, Zf, bytesOf, Zg, Zh, Zi, Zj, Zk, Zl, Int.reduceLT, Int.reduceLE, Zm, Int.reduceToNat, Zn, Zo, Zp, Int.reduceAdd, Zq, Zr, h1, hc, hcN 32 (.inl rfl), hcN 9 (.inr (.inl rfl)), hcN 10 (.inr (.inr (.inl rfl))), hcN 35 (.inr (.inr (.inr rfl)))]
      intro _
      obtain ⟨k, sg, m, p, ht⟩ := tk_any n i
      refine acall_pure (oneAny hn (by omega)) ?_
      simp only [go_sem, Nat.reduceEqDiff, reduceIte, ↓reduceIte, Nat.reduceAdd, Z0, Z1, Z2, Z3, Z4, Z5, Nat.reduceLT, Z6, Z7, Int.reduceEq, Z8, Z9, Nat.reduceLeDiff, Za, Zb, Zc, Zd, Ze, Zf, bytesOf, Zg, Zh, Zi, Zj, Zk, Zl, Int.reduceLT, Int.reduceLE, Zm, Int.reduceToNat, Zn, Zo, Zp, Int.reduceAdd, Zq, Zr, oneR, ht, tkC]
      have hI2 := hI.ext [.var [.p (.i .i64 k), .p (.s sg), .p (.i .i64 m), .p (.i .i64 p)], .var [.p (.i .i64 0), .p (.i .i64 0)]]
      have g8 : (H ++ [.var [.p (.i .i64 k), .p (.s sg), .p (.i .i64 m), .p (.i .i64 p)], .var [.p (.i .i64 0), .p (.i .i64 0)]])[H.length]? = some (.var [.p (.i .i64 k), .p (.s sg), .p (.i .i64 m), .p (.i .i64 p)]) := by rw [get_off0]; rfl
      generalize H ++ [.var [.p (.i .i64 k), .p (.s sg), .p (.i .i64 m), .p (.i .i64 p)], .var [.p (.i .i64 0), .p (.i .i64 0)]] = H2 at hI2 g8 ⊢
      generalize H.length = b8 at g8 ⊢
      refine len_ownR hI2.out ?_
      rw [tkS_len]
      have hne : decide ((i : Int) = 1200) = false := by simp; omega
      simp only [go_sem, Nat.reduceEqDiff, reduceIte, ↓reduceIte, Nat.reduceAdd, Z0, Z1, Z2, Z3, Z4, Z5, Nat.reduceLT, Z6, Z7, Int.reduceEq, Z8, Z9, Nat.reduceLeDiff, Za, Zb, Zc, Zd, Ze, Zf, bytesOf, Zg, Zh, Zi, Zj, Zk, Zl, Int.reduceLT, Int.reduceLE, Zm, Int.reduceToNat, Zn, Zo, Zp, Int.reduceAdd, Zq, Zr, hne, g8]
      have ec : [AV.p (.i .i64 k), .p (.s sg), .p (.i .i64 m), .p (.i .i64 p)] = tk n i := ht.symm
      rw [ec]
      have hI3 := hI2.ext [.rows 4 0 [tk n i]]
      have g11 : (H2 ++ [AO.rows 4 0 [tk n i]])[H2.length]? = some (.rows 4 0 [tk n i]) := by rw [get_off0]; rfl
      have hb8 := get_lt hI2.z5
      generalize H2 ++ [AO.rows 4 0 [tk n i]] = H3 at hI3 g11 ⊢
      generalize H2.length = b11 at g11 hb8 ⊢
      refine ⟨by intro r hr; simp at hr; subst hr; rw [ht]; rfl, ?_⟩
      refine app_fr hI3.out (by rw [tkS_len]; simp; omega) (by rw [tkS_len]; simp; omega) ?_
      intro id ver H4 k1 k2 k3 k4
      rw [tkS_len]
      simp only [go_sem, Nat.reduceEqDiff, reduceIte, ↓reduceIte, Nat.reduceAdd, Z0, Z1, Z2, Z3, Z4, Z5, Nat.reduceLT, Z6, Z7, Int.reduceEq, Z8, Z9, Nat.reduceLeDiff, Za, Zb, Zc, Zd, Ze, Zf, bytesOf, Zg, Zh, Zi, Zj, Zk, Zl, Int.reduceLT, Int.reduceLE, Zm, Int.reduceToNat, Zn, Zo, Zp, Int.reduceAdd, Zq, Zr]
      refine ⟨(i + 1, .gs id ver 0 (i + 1), H4), ⟨⟨by omega, ⟨?_, ?_, ?_, ?_⟩⟩, rfl⟩, by simp only; omega⟩
      · intro j o hj
        refine k3 j o (hI3.fr j o hj) (fun v o' n' e => ?_)
        have := hI3.new _ _ _ _ e
        have := get_lt hj
        omega
      · refine k3 _ _ hI3.z5 (fun v o' n' e => ?_)
        have := hI3.new _ _ _ _ e
        omega
      · refine .inr ⟨id, ver, by rw [tkS_len], by rw [tkS_succ]; exact k1⟩
      · intro id' v o m' e
        cases e
        rcases k2 with ⟨v, o, n', e⟩ | h
        · exact hI3.new _ _ _ _ e
        · have := get_lt hI3.z5; omega
    · have hi2 : i = 2 * n + 1 := by omega
      subst hi2
      have h1 : decide (((2 * n + 1 : Nat) : Int) < ((txt n).length : Int)) = false := by rw [hln]; simp
      have h1' : decide (((2 * n + 1 : Nat) : Int) < ((2 * n + 1 : Nat) : Int)) = false := by simp
      simp only [go_sem, Nat.reduceEqDiff, reduceIte, ↓reduceIte, Nat.reduceAdd, Z0, Z1, Z2, Z3, Z4, Z5, Nat.reduceLT, Z6, Z7, Int.reduceEq, Z8, Z9, Nat.reduceLeDiff, Za, Zb, Zc, Zd, Ze, Zf, bytesOf, Zg, Zh, Zi, Zj, Zk, Zl, Int.reduceLT, Int.reduceLE, Zm, Int.reduceToNat, Zn, Zo, Zp, Int.reduceAdd, Zq, Zr, h1, hln, h1']
      intros
      have ec : [AV.p (.i .i64 8), .p (.s []), .p (.i .i64 0), .p (.i .i64 ((2 * n + 1 : Nat) : Int))] = tk n (2 * n + 1) := by rw [tk_end, tkC]; simp
      rw [ec]
      have hI3 := hI.ext [.rows 4 0 [tk n (2 * n + 1)]]
      have g11 : (H ++ [AO.rows 4 0 [tk n (2 * n + 1)]])[H.length]? = some (.rows 4 0 [tk n (2 * n + 1)]) := by rw [get_off0]; rfl
      generalize H ++ [AO.rows 4 0 [tk n (2 * n + 1)]] = H3 at hI3 g11 ⊢
      refine ⟨by intro r hr; simp at hr; subst hr; rw [tk_end]; rfl, ?_⟩
      refine app_fr hI3.out (by rw [tkS_len]; simp; omega) (by rw [tkS_len]; simp; omega) ?_
      intro id ver H4 k1 k2 k3 k4
      rw [tkS_len]
      have z5 : H4[H0.length]? = some (.var [.p (.i .i64 0), .p (.i .i64 0)]) := by
        refine k3 _ _ hI3.z5 (fun v o' n' e => ?_)
        have := hI3.new _ _ _ _ e
        omega
      have g7 : ∀ o, (H4.set H0.length o)[H0.length]? = some o := fun o => set_get z5
      simp only [go_sem, Nat.reduceEqDiff, reduceIte, ↓reduceIte, Nat.reduceAdd, Z0, Z1, Z2, Z3, Z4, Z5, Nat.reduceLT, Z6, Z7, Int.reduceEq, Z8, Z9, Nat.reduceLeDiff, Za, Zb, Zc, Zd, Ze, Zf, bytesOf, Zg, Zh, Zi, Zj, Zk, Zl, Int.reduceLT, Int.reduceLE, Zm, Int.reduceToNat, Zn, Zo, Zp, Int.reduceAdd, Zq, Zr, z5, g7]
      have hid : H0.length ≠ id := by
        rcases k2 with ⟨v, o, n', e⟩ | h
        · have := hI3.new _ _ _ _ e; omega
        · have := get_lt hI3.z5; omega
      refine ⟨id, ver, rfl, by rw [tkR_S]; exact get_set k1 hid, fun j o hj => ?_⟩
      have hlj := get_lt hj
      refine get_set (k3 j o (hI3.fr j o hj) (fun v o' n' e => ?_)) (by omega)
      have := hI3.new _ _ _ _ e
      omega

theorem lexC {n : Nat} {H0 : List AO} (hn : n ≤ 79) : ACall Tryd.prog 7 [.p (.s (txt n))] H0 (fun r H' => ∃ it vt, r = .tup [.gs it vt 0 (2 * n + 2), .st [.p (.i .i64 0), .p (.i .i64 0)]] ∧ H'[it]? = some (.rows 4 vt (tkR n)) ∧ (∀ (j : Nat) o, H0[j]? = some o → H'[j]? = some o)) := by
  have hln := txt_len n
  refine call7 (by simp) ?_
  have h1 : decide ((4000 : Int) < ((2 * n + 1 : Nat) : Int)) = false := by simp; omega
  simp only [go_sem, Nat.reduceEqDiff, reduceIte, ↓reduceIte, Nat.reduceAdd, Z0, Z1, Z2, Z3, Z4, Z5, Nat.reduceLT, Z6, Z7, Int.reduceEq, Z8, Z9, Nat.reduceLeDiff, Za, Zb, Zc, Zd, Ze, Zf, bytesOf, Zg, Zh, Zi, Zj, Zk, Zl, Int.reduceLT, Int.reduceLE, Zm, Int.reduceToNat, Zn, Zo, Zp, Int.reduceAdd, Zq, Zr, mc7, mr7, hln, h1]
  intros
  refine (lexAllC hn).mono ?_
  rintro r H' ⟨it, vt, rfl, hit, hk⟩
  have g : H'[H0.length]? = some (.var [.p (.i .i64 0), .p (.i .i64 0)]) := hk _ _ (by rw [get_off0]; rfl)
  have g7 : ∀ o, (H'.set H0.length o)[H0.length]? = some o := fun o => set_get g
  simp only [go_sem, Nat.reduceEqDiff, reduceIte, ↓reduceIte, Nat.reduceAdd, Z0, Z1, Z2, Z3, Z4, Z5, Nat.reduceLT, Z6, Z7, Int.reduceEq, Z8, Z9, Nat.reduceLeDiff, Za, Zb, Zc, Zd, Ze, Zf, bytesOf, Zg, Zh, Zi, Zj, Zk, Zl, Int.reduceLT, Int.reduceLE, Zm, Int.reduceToNat, Zn, Zo, Zp, Int.reduceAdd, Zq, Zr, g, g7]
  refine ⟨it, vt, rfl, get_set hit ?_, fun j o hj => get_set (hk _ _ (get_ext hj _)) (by have := get_lt hj; omega)⟩
  rintro rfl
  rw [g] at hit
  cases hit

theorem endC {n it vt ip H} (h : Aft n it vt ip 0 H) : ACall Tryd.prog 9 [.ptr ip 0] H (pureQ (.tup []) H) := by
  obtain ⟨a, d, cd, ps, hP, hw⟩ := h.ex
  obtain ⟨k, s, m, p, ht⟩ := tk_any n a
  refine call9 (by simp) ?_
  simp only [go_sem, Nat.reduceEqDiff, reduceIte, ↓reduceIte, Nat.reduceAdd, Z0, Z1, Z2, Z3, Z4, Z5, Nat.reduceLT, Z6, Z7, Int.reduceEq, Z8, Z9, Nat.reduceLeDiff, Za, Zb, Zc, Zd, Ze, Zf, bytesOf, Zg, Zh, Zi, Zj, Zk, Zl, Int.reduceLT, Int.reduceLE, Zm, Int.reduceToNat, Zn, Zo, Zp, Int.reduceAdd, Zq, Zr, mc9, mr9]
  refine acall_pure (pKind hP ht 8) ?_
  rcases hw with ⟨hn, rfl, rfl⟩ | ⟨hn, rfl, rfl⟩
  · have : k = 8 := by
      rw [Nat.sub_zero, tk_end] at ht
      simp [tkC] at ht
      omega
    subst this
    have e : (decide ((0 : Int) = 0) && decide ((8 : Int) = 8)) = true := by decide
    simp only [go_sem, Nat.reduceEqDiff, reduceIte, ↓reduceIte, Nat.reduceAdd, Z0, Z1, Z2, Z3, Z4, Z5, Nat.reduceLT, Z6, Z7, Int.reduceEq, Z8, Z9, Nat.reduceLeDiff, Za, Zb, Zc, Zd, Ze, Zf, bytesOf, Zg, Zh, Zi, Zj, Zk, Zl, Int.reduceLT, Int.reduceLE, Zm, Int.reduceToNat, Zn, Zo, Zp, Int.reduceAdd, Zq, Zr, e]
    exact ⟨rfl, rfl⟩
  · have e : (decide ((12 : Int) = 0) && decide (k = 8)) = false := by simp
    simp only [go_sem, Nat.reduceEqDiff, reduceIte, ↓reduceIte, Nat.reduceAdd, Z0, Z1, Z2, Z3, Z4, Z5, Nat.reduceLT, Z6, Z7, Int.reduceEq, Z8, Z9, Nat.reduceLeDiff, Za, Zb, Zc, Zd, Ze, Zf, bytesOf, Zg, Zh, Zi, Zj, Zk, Zl, Int.reduceLT, Int.reduceLE, Zm, Int.reduceToNat, Zn, Zo, Zp, Int.reduceAdd, Zq, Zr, Bool.false_and, Bool.not_false]
    refine acall_pure (pFailS hP (by decide) 11) ?_
    simp only [go_sem, Nat.reduceEqDiff, reduceIte, ↓reduceIte, Nat.reduceAdd, Z0, Z1, Z2, Z3, Z4, Z5, Nat.reduceLT, Z6, Z7, Int.reduceEq, Z8, Z9, Nat.reduceLeDiff, Za, Zb, Zc, Zd, Ze, Zf, bytesOf, Zg, Zh, Zi, Zj, Zk, Zl, Int.reduceLT, Int.reduceLE, Zm, Int.reduceToNat, Zn, Zo, Zp, Int.reduceAdd, Zq, Zr]
    exact ⟨rfl, rfl⟩

def ftR (n : Nat) : List AV := if n ≤ 39 then [.p (.i .i64 0), .p (.i .i64 0)] else [.p (.i .i64 12), .p (.i .i64 40)]
theorem parseC {n : Nat} {H0 : List AO} (hn : n ≤ 79) : ACall Tryd.prog 6 [.p (.s (txt n))] H0 (fun r H' => r = .tup [.st (eR n), .st (ftR n)] ∧ (∀ (j : Nat) o, H0[j]? = some o → H'[j]? = some o)) := by
  have hln := txt_len n
  refine call6 (by simp) ?_
  simp only [go_sem, Nat.reduceEqDiff, reduceIte, ↓reduceIte, Nat.reduceAdd, Z0, Z1, Z2, Z3, Z4, Z5, Nat.reduceLT, Z6, Z7, Int.reduceEq, Z8, Z9, Nat.reduceLeDiff, Za, Zb, Zc, Zd, Ze, Zf, bytesOf, Zg, Zh, Zi, Zj, Zk, Zl, Int.reduceLT, Int.reduceLE, Zm, Int.reduceToNat, Zn, Zo, Zp, Int.reduceAdd, Zq, Zr, mc6, mr6, zl3_0, zl3_1]
  refine (lexC hn).mono ?_
  rintro r H1 ⟨it, vt, rfl, hit, hk⟩
  have g2 : H1[H0.length]? = some (.var eZ) := hk _ _ (by rw [get_off0]; rfl)
  have g3 : H1[H0.length + 1]? = some (.var [.p (.i .i64 0), .p (.i .i64 0)]) := hk _ _ (by rw [get_off]; rfl)
  have hk0 : ∀ (j : Nat) o, H0[j]? = some o → H1[j]? = some o := fun j o hj => hk _ _ (get_ext hj _)
  clear hk
  have hk3 := g3
  simp only [go_sem, Nat.reduceEqDiff, reduceIte, ↓reduceIte, Nat.reduceAdd, Z0, Z1, Z2, Z3, Z4, Z5, Nat.reduceLT, Z6, Z7, Int.reduceEq, Z8, Z9, Nat.reduceLeDiff, Za, Zb, Zc, Zd, Ze, Zf, bytesOf, Zg, Zh, Zi, Zj, Zk, Zl, Int.reduceLT, Int.reduceLE, Zm, Int.reduceToNat, Zn, Zo, Zp, Int.reduceAdd, Zq, Zr]
  have e1 : [AV.gs it vt 0 (2 * n + 2), .p (.i .i64 0), .p (.i .i64 40), .p (.i .i64 0), .p (.i .i64 0), .p (.i .i64 0)] = pC n it vt 0 0 0 0 := rfl
  rw [e1]
  have hP : PS n it vt (H1.length + 1) (H1 ++ [.var [.p (.i .i64 0), .p (.i .i64 0)], .var (pC n it vt 0 0 0 0)]) 0 0 0 0 := ⟨by rw [get_off]; rfl, get_ext hit _, by omega, hn⟩
  have g2 := get_ext g2 [.var [.p (.i .i64 0), .p (.i .i64 0)], .var (pC n it vt 0 0 0 0)]
  have g3 := get_ext g3 [.var [.p (.i .i64 0), .p (.i .i64 0)], .var (pC n it vt 0 0 0 0)]
  have hl := get_lt g3
  have hl1 := get_lt hit
  have hx : RdAt n it vt 0 8 1 := by simpa using pExpr hn _ 0 (Nat.zero_add _)
  have hk1 : ∀ (j : Nat) o, H0[j]? = some o → (H1 ++ [.var [.p (.i .i64 0), .p (.i .i64 0)], .var (pC n it vt 0 0 0 0)])[j]? = some o := fun j o hj => get_ext (hk0 j o hj) _
  have hip : H0.length + 1 < H1.length := get_lt (hk3 : H1[H0.length + 1]? = _)
  generalize H1 ++ [.var [.p (.i .i64 0), .p (.i .i64 0)], .var (pC n it vt 0 0 0 0)] = H2 at hP g2 g3 hl hk1 ⊢
  refine (hx _ _ _ hP).mono ?_
  rintro r H3 ⟨rfl, h3, f3⟩
  obtain ⟨k', m', p', er⟩ := eR_eq n
  have ee : [AV.p (.i .i64 k'), .p (.s []), .p (.i .i64 m'), .p (.s []), .p (.i .i64 p'), .p .nl, .p .nl] = eR n := er.symm
  have g2 := f3.keep _ _ g2 (by intro e; omega)
  have g3 := f3.keep _ _ g3 (by intro e; omega)
  have hk3 : ∀ (j : Nat) o, H0[j]? = some o → H3[j]? = some o := fun j o hj => f3.keep _ _ (hk1 j o hj) (by intro e; have := get_lt hj; omega)
  simp only [go_sem, Nat.reduceEqDiff, reduceIte, ↓reduceIte, Nat.reduceAdd, Z0, Z1, Z2, Z3, Z4, Z5, Nat.reduceLT, Z6, Z7, Int.reduceEq, Z8, Z9, Nat.reduceLeDiff, Za, Zb, Zc, Zd, Ze, Zf, bytesOf, Zg, Zh, Zi, Zj, Zk, Zl, Int.reduceLT, Int.reduceLE, Zm, Int.reduceToNat, Zn, Zo, Zp, Int.reduceAdd, Zq, Zr, er]
  rw [ee]
  have h4 := h3.ext [.var (eR n)]
  have g7 : (H3 ++ [AO.var (eR n)])[H3.length]? = some (.var (eR n)) := by rw [get_off0]; rfl
  have g2 := get_ext g2 [.var (eR n)]
  have g3 := get_ext g3 [.var (eR n)]
  have hk4 : ∀ (j : Nat) o, H0[j]? = some o → (H3 ++ [.var (eR n)])[j]? = some o := fun j o hj => get_ext (hk3 j o hj) _
  generalize H3 ++ [AO.var (eR n)] = H4 at h4 g7 g2 g3 hk4 ⊢
  generalize H3.length = b7 at g7 ⊢
  generalize H1.length + 1 = ip at h4 ⊢
  refine acall_pure (endC h4) ?_
  simp only [go_sem, Nat.reduceEqDiff, reduceIte, ↓reduceIte, Nat.reduceAdd, Z0, Z1, Z2, Z3, Z4, Z5, Nat.reduceLT, Z6, Z7, Int.reduceEq, Z8, Z9, Nat.reduceLeDiff, Za, Zb, Zc, Zd, Ze, Zf, bytesOf, Zg, Zh, Zi, Zj, Zk, Zl, Int.reduceLT, Int.reduceLE, Zm, Int.reduceToNat, Zn, Zo, Zp, Int.reduceAdd, Zq, Zr]
  obtain ⟨a, d, cd, ps, hP, hw⟩ := h4.ex
  refine acall_pure (pFailed hP) ?_
  rw [eZ] at g2
  rw [er] at g7
  have q2 : ∀ o, (H4.set H0.length o)[H0.length]? = some o := fun o => set_get g2
  have q3 : ∀ o, (H4.set H0.length o)[H0.length + 1]? = some (.var [.p (.i .i64 0), .p (.i .i64 0)]) := fun o => get_set g3 (by omega)
  have q22 : ∀ o o', ((H4.set H0.length o).set (H0.length + 1) o')[H0.length]? = some o := fun o o' => get_set (q2 o) (by omega)
  have q33 : ∀ o o', ((H4.set H0.length o).set (H0.length + 1) o')[H0.length + 1]? = some o' := fun o o' => set_get (q3 o)
  have hkk : ∀ o o' (j : Nat) x, H0[j]? = some x → ((H4.set H0.length o).set (H0.length + 1) o')[j]? = some x := fun o o' j x hj => get_set (get_set (hk4 j x hj) (by have := get_lt hj; omega)) (by have := get_lt hj; omega)
  rcases hw with ⟨hn', rfl, rfl⟩ | ⟨hn', rfl, rfl⟩
  · simp only [go_sem, Nat.reduceEqDiff, reduceIte, ↓reduceIte, Nat.reduceAdd, Z0, Z1, Z2, Z3, Z4, Z5, Nat.reduceLT, Z6, Z7, Int.reduceEq, Z8, Z9, Nat.reduceLeDiff, Za, Zb, Zc, Zd, Ze, Zf, bytesOf, Zg, Zh, Zi, Zj, Zk, Zl, Int.reduceLT, Int.reduceLE, Zm, Int.reduceToNat, Zn, Zo, Zp, Int.reduceAdd, Zq, Zr, decide_true, Bool.not_true, g7, g2, q3, q22, q33]
    refine ⟨?_, hkk _ _⟩
    unfold ftR
    rw [if_pos hn', er]
  · have hne : H0.length ≠ ip := by
      rintro rfl
      have := hP.pv
      rw [g2] at this
      cases this
    have hv := hP.pv
    rw [pC] at hv
    simp only [go_sem, Nat.reduceEqDiff, reduceIte, ↓reduceIte, Nat.reduceAdd, Z0, Z1, Z2, Z3, Z4, Z5, Nat.reduceLT, Z6, Z7, Int.reduceEq, Z8, Z9, Nat.reduceLeDiff, Za, Zb, Zc, Zd, Ze, Zf, bytesOf, Zg, Zh, Zi, Zj, Zk, Zl, Int.reduceLT, Int.reduceLE, Zm, Int.reduceToNat, Zn, Zo, Zp, Int.reduceAdd, Zq, Zr, Bool.not_false]
    refine ⟨H4.set H0.length .dead, dead_ext _ _, ?_⟩
    have hvd : (H4.set H0.length .dead)[ip]? = _ := get_set hv hne
    have hd : (H4.set H0.length .dead)[H0.length]? = some .dead := set_get g2
    simp only [go_sem, Nat.reduceEqDiff, reduceIte, ↓reduceIte, Nat.reduceAdd, Z0, Z1, Z2, Z3, Z4, Z5, Nat.reduceLT, Z6, Z7, Int.reduceEq, Z8, Z9, Nat.reduceLeDiff, Za, Zb, Zc, Zd, Ze, Zf, bytesOf, Zg, Zh, Zi, Zj, Zk, Zl, Int.reduceLT, Int.reduceLE, Zm, Int.reduceToNat, Zn, Zo, Zp, Int.reduceAdd, Zq, Zr, hvd, hd, g2]
    refine ⟨by simp, dead_ext' _ _ _, ?_⟩
    simp only [go_sem, Nat.reduceEqDiff, reduceIte, ↓reduceIte, Nat.reduceAdd, Z0, Z1, Z2, Z3, Z4, Z5, Nat.reduceLT, Z6, Z7, Int.reduceEq, Z8, Z9, Nat.reduceLeDiff, Za, Zb, Zc, Zd, Ze, Zf, bytesOf, Zg, Zh, Zi, Zj, Zk, Zl, Int.reduceLT, Int.reduceLE, Zm, Int.reduceToNat, Zn, Zo, Zp, Int.reduceAdd, Zq, Zr, q2, q3, q22, q33]
    refine ⟨?_, hkk _ _⟩
    unfold ftR eR
    rw [if_neg (by omega), if_neg (by omega)]
    rfl
end Go.Proofs.YtpaaiigpnbiglaaDoor.Dm

/- Brackets: the law. -/
set_option linter.all false
namespace Go.Proofs.YtpaaiigpnbiglaaDoor.Dm
open Go.AM Mc

def byts (l : List Int) : List (List PV) := l.map fun z => [.i .u8 z]
theorem byts_len (l) : (byts l).length = l.length := by simp [byts]
theorem bigC {l : List Int} {H} (hl : l.length ≤ 1048576) : ACall Tryd.prog 4 [.p (.l (byts l))] H (pureQ (.p (.b false)) H) := by
  have e : decide ((1048576 : Int) < (l.length : Int)) = false := by simp; omega
  refine call4 (by simp) ?_
  simp only [go_sem, Nat.reduceEqDiff, reduceIte, ↓reduceIte, Nat.reduceAdd, Z0, Z1, Z2, Z3, Z4, Z5, Nat.reduceLT, Z6, Z7, Int.reduceEq, Z8, Z9, Nat.reduceLeDiff, Za, Zb, Zc, Zd, Ze, Zf, bytesOf, Zg, Zh, Zi, Zj, Zk, Zl, Int.reduceLT, Int.reduceLE, Zm, Int.reduceToNat, Zn, Zo, Zp, Int.reduceAdd, Zq, Zr, mc4, mr4, byts_len, e]
  intro _
  exact ⟨rfl, rfl⟩
/-- the number that a law draws -/
theorem atC {l : List Int} {H} (hw : ∀ a ∈ l, 0 ≤ a ∧ a < 256) (hl : l.length ≤ 1048576) : ∃ m : Nat, m < 256 ∧ ACall Tryd.prog 5 [.p (.l (byts l)), .p (.i .i64 0)] H (pureQ (.p (.i .i64 m)) H) := by
  cases l with
  | nil =>
    refine ⟨0, by decide, ?_⟩
    refine call5 (by simp) ?_
    simp only [go_sem, Nat.reduceEqDiff, reduceIte, ↓reduceIte, Nat.reduceAdd, Z0, Z1, Z2, Z3, Z4, Z5, Nat.reduceLT, Z6, Z7, Int.reduceEq, Z8, Z9, Nat.reduceLeDiff, Za, Zb, Zc, Zd, Ze, Zf, bytesOf, Zg, Zh, Zi, Zj, Zk, Zl, Int.reduceLT, Int.reduceLE, Zm, Int.reduceToNat, Zn, Zo, Zp, Int.reduceAdd, Zq, Zr, mc5, mr5, byts, List.map_nil]
    intro _ _
    exact ⟨rfl, rfl⟩
  | cons z l =>
    obtain ⟨h0, h1⟩ := hw z (by simp)
    refine ⟨z.toNat, by omega, ?_⟩
    have e : decide ((0 : Int) < ((l.length + 1 : Nat) : Int)) = true := by simp <;> omega
    have e2 : wr .i64 z = z := wr64 (by omega) (by omega)
    have e3 : ((z.toNat : Nat) : Int) = z := by omega
    refine call5 (by simp) ?_
    simp only [go_sem, Nat.reduceEqDiff, reduceIte, ↓reduceIte, Nat.reduceAdd, Z0, Z1, Z2, Z3, Z4, Z5, Nat.reduceLT, Z6, Z7, Int.reduceEq, Z8, Z9, Nat.reduceLeDiff, Za, Zb, Zc, Zd, Ze, Zf, bytesOf, Zg, Zh, Zi, Zj, Zk, Zl, Int.reduceLT, Int.reduceLE, Zm, Int.reduceToNat, Zn, Zo, Zp, Int.reduceAdd, Zq, Zr, mc5, mr5, byts, List.map_cons, List.length_cons, List.length_map, e, e2, e3]
    intro _
    exact ⟨rfl, rfl⟩

theorem rep_succ (n : Nat) (c : UInt8) : List.replicate n c ++ [c] = List.replicate (n + 1) c := by
  rw [List.replicate_succ']
def txtA (n i : Nat) : List UInt8 := List.replicate n 40 ++ 55 :: List.replicate i 41
theorem txtA_len (n i) : (txtA n i).length = n + 1 + i := by simp [txtA]; omega
theorem txtA_succ (n i) : txtA n i ++ [41] = txtA n (i + 1) := by
  unfold txtA
  rw [List.append_assoc, List.cons_append, rep_succ]

theorem lawDeep {l : List Int} (hw : ∀ a ∈ l, 0 ≤ a ∧ a < 256) (hl : l.length ≤ 1048576) : ACall Tryd.prog 3 [.p (.l (byts l))] [] (fun r _ => r = .p (.b true)) := by
  have hml : 1000 ≤ maxL := by decide
  obtain ⟨m, hm, hat⟩ := atC (H := []) hw hl
  refine call3 (by simp) ?_
  simp only [go_sem, Nat.reduceEqDiff, reduceIte, ↓reduceIte, Nat.reduceAdd, Z0, Z1, Z2, Z3, Z4, Z5, Nat.reduceLT, Z6, Z7, Int.reduceEq, Z8, Z9, Nat.reduceLeDiff, Za, Zb, Zc, Zd, Ze, Zf, bytesOf, Zg, Zh, Zi, Zj, Zk, Zl, Int.reduceLT, Int.reduceLE, Zm, Int.reduceToNat, Zn, Zo, Zp, Int.reduceAdd, Zq, Zr, mc3, mr3, zl3_0]
  refine acall_pure (bigC hl) ?_
  simp only [go_sem, Nat.reduceEqDiff, reduceIte, ↓reduceIte, Nat.reduceAdd, Z0, Z1, Z2, Z3, Z4, Z5, Nat.reduceLT, Z6, Z7, Int.reduceEq, Z8, Z9, Nat.reduceLeDiff, Za, Zb, Zc, Zd, Ze, Zf, bytesOf, Zg, Zh, Zi, Zj, Zk, Zl, Int.reduceLT, Int.reduceLE, Zm, Int.reduceToNat, Zn, Zo, Zp, Int.reduceAdd, Zq, Zr]
  refine acall_pure hat ?_
  obtain ⟨n, hn, hr⟩ : ∃ n : Nat, n ≤ 79 ∧ (m : Int).tmod 80 = n := ⟨m % 80, by omega, by rw [Int.tmod_eq_emod_of_nonneg (by omega)]; omega⟩
  simp only [go_sem, Nat.reduceEqDiff, reduceIte, ↓reduceIte, Nat.reduceAdd, Z0, Z1, Z2, Z3, Z4, Z5, Nat.reduceLT, Z6, Z7, Int.reduceEq, Z8, Z9, Nat.reduceLeDiff, Za, Zb, Zc, Zd, Ze, Zf, bytesOf, Zg, Zh, Zi, Zj, Zk, Zl, Int.reduceLT, Int.reduceLE, Zm, Int.reduceToNat, Zn, Zo, Zp, Int.reduceAdd, Zq, Zr, hr]
  refine ⟨Nat, [3, 4, 5], fun x st => x ≤ n ∧ st = ⟨[(3, .p (.i .i64 n)), (4, .p (.s (List.replicate x 40))), (5, .p (.i .i64 x))], [], []⟩, fun x => n - x, ⟨0, ?_⟩, ?_⟩
  · simp only [go_sem, Nat.reduceEqDiff, reduceIte, ↓reduceIte, Nat.reduceAdd, Z0, Z1, Z2, Z3, Z4, Z5, Nat.reduceLT, Z6, Z7, Int.reduceEq, Z8, Z9, Nat.reduceLeDiff, Za, Zb, Zc, Zd, Ze, Zf, bytesOf, Zg, Zh, Zi, Zj, Zk, Zl, Int.reduceLT, Int.reduceLE, Zm, Int.reduceToNat, Zn, Zo, Zp, Int.reduceAdd, Zq, Zr, List.replicate_zero]
    omega
  · rintro x _ ⟨hx, rfl⟩
    by_cases hlt : x < n
    · have h1 : decide ((x : Int) < (n : Int)) = true := by simp; omega
      have ew : wr .i64 ((x : Int) + 1) = ((x + 1 : Nat) : Int) := by rw [wr64 (by omega) (by omega)]; omega
      simp only [go_sem, Nat.reduceEqDiff, reduceIte, ↓reduceIte, Nat.reduceAdd, Z2, Z3, Z4, Z5, Nat.reduceLT, Z6, Z7, Int.reduceEq, Z8, Z9, Nat.reduceLeDiff, Za, Zb, Zc, Zd, Ze, Zf, bytesOf, Zg, Zh, Zi, Zj, Zk, Zl, Int.reduceLT, Int.reduceLE, Zm, Int.reduceToNat, Zn, Zo, Zp, Int.reduceAdd, Zq, Zr, h1, ew, rep_succ]
      exact ⟨by simp; omega, x + 1, ⟨by omega, rfl⟩, by omega⟩
    · have : x = n := by omega
      subst this
      have h1 : decide ((x : Int) < (x : Int)) = false := by simp
      have e0 : List.replicate x (40 : UInt8) ++ [55] = txtA x 0 := rfl
      simp only [go_sem, Nat.reduceEqDiff, reduceIte, ↓reduceIte, Nat.reduceAdd, Z2, Z3, Z4, Z5, Nat.reduceLT, Z6, Z7, Int.reduceEq, Z8, Z9, Nat.reduceLeDiff, Za, Zb, Zc, Zd, Ze, Zf, bytesOf, Zg, Zh, Zi, Zj, Zk, Zl, Int.reduceLT, Int.reduceLE, Zm, Int.reduceToNat, Zn, Zo, Zp, Int.reduceAdd, Zq, Zr, h1, e0]
      refine ⟨by simp; omega, Nat, [3, 4, 6], fun y st => y ≤ x ∧ st = ⟨[(3, .p (.i .i64 x)), (4, .p (.s (txtA x y))), (6, .p (.i .i64 y))], [], []⟩, fun y => x - y, ⟨0, ?_⟩, ?_⟩
      · simp only [go_sem, Nat.reduceEqDiff, reduceIte, ↓reduceIte, Nat.reduceAdd, Z2, Z3, Z4, Z5, Nat.reduceLT, Z6, Z7, Int.reduceEq, Z8, Z9, Nat.reduceLeDiff, Za, Zb, Zc, Zd, Ze, Zf, bytesOf, Zg, Zh, Zi, Zj, Zk, Zl, Int.reduceLT, Int.reduceLE, Zm, Int.reduceToNat, Zn, Zo, Zp, Int.reduceAdd, Zq, Zr]
        omega
      · rintro y _ ⟨hy, rfl⟩
        by_cases hlt : y < x
        · have h1 : decide ((y : Int) < (x : Int)) = true := by simp; omega
          have ew : wr .i64 ((y : Int) + 1) = ((y + 1 : Nat) : Int) := by rw [wr64 (by omega) (by omega)]; omega
          simp only [go_sem, Nat.reduceEqDiff, reduceIte, ↓reduceIte, Nat.reduceAdd, Z2, Z3, Z4, Z5, Nat.reduceLT, Z6, Z7, Int.reduceEq, Z8, Z9, Nat.reduceLeDiff, Za, Zb, Zc, Zd, Ze, Zf, bytesOf, Zg, Zh, Zi, Zj, Zk, Zl, Int.reduceLT, Int.reduceLE, Zm, Int.reduceToNat, Zn, Zo, Zp, Int.reduceAdd, Zq, Zr, h1, ew, txtA_succ, txtA_len]
          exact ⟨by omega, y + 1, ⟨by omega, rfl⟩, by omega⟩
        · have : y = x := by omega
          subst this
          have h1 : decide ((y : Int) < (y : Int)) = false := by simp
          have et : txtA y y = txt y := rfl
          simp only [go_sem, Nat.reduceEqDiff, reduceIte, ↓reduceIte, Nat.reduceAdd, Z0, Z1, Z2, Z3, Z4, Z5, Nat.reduceLT, Z6, Z7, Int.reduceEq, Z8, Z9, Nat.reduceLeDiff, Za, Zb, Zc, Zd, Ze, Zf, bytesOf, Zg, Zh, Zi, Zj, Zk, Zl, Int.reduceLT, Int.reduceLE, Zm, Int.reduceToNat, Zn, Zo, Zp, Int.reduceAdd, Zq, Zr, h1, et]
          refine (parseC hn).mono ?_
          rintro r H1 ⟨rfl, -⟩
          have ew : wr .i64 ((y : Int) + 1) = ((y + 1 : Nat) : Int) := by rw [wr64 (by omega) (by omega)]; omega
          by_cases h39 : y ≤ 39
          · have hd : decide ((40 : Int) < ((y + 1 : Nat) : Int)) = false := by simp; omega
            have e1 : eR y = eC y := by unfold eR; rw [if_pos h39]
            have e2 : ftR y = [.p (.i .i64 0), .p (.i .i64 0)] := by unfold ftR; rw [if_pos h39]
            have hy : decide ((y : Int) = (y : Int)) = true := by simp
            simp only [go_sem, Nat.reduceEqDiff, reduceIte, ↓reduceIte, Nat.reduceAdd, Z0, Z1, Z2, Z3, Z4, Z5, Nat.reduceLT, Z6, Z7, Int.reduceEq, Z8, Z9, Nat.reduceLeDiff, Za, Zb, Zc, Zd, Ze, Zf, bytesOf, Zg, Zh, Zi, Zj, Zk, Zl, Int.reduceLT, Int.reduceLE, Zm, Int.reduceToNat, Zn, Zo, Zp, Int.reduceAdd, Zq, Zr, e1, e2, eC, ew, hd, hy, decide_true]
          · have hd : decide ((40 : Int) < ((y + 1 : Nat) : Int)) = true := by simp; omega
            have e1 : eR y = eZ := by unfold eR; rw [if_neg h39]
            have e2 : ftR y = [.p (.i .i64 12), .p (.i .i64 40)] := by unfold ftR; rw [if_neg h39]
            simp only [go_sem, Nat.reduceEqDiff, reduceIte, ↓reduceIte, Nat.reduceAdd, Z0, Z1, Z2, Z3, Z4, Z5, Nat.reduceLT, Z6, Z7, Int.reduceEq, Z8, Z9, Nat.reduceLeDiff, Za, Zb, Zc, Zd, Ze, Zf, bytesOf, Zg, Zh, Zi, Zj, Zk, Zl, Int.reduceLT, Int.reduceLE, Zm, Int.reduceToNat, Zn, Zo, Zp, Int.reduceAdd, Zq, Zr, e1, e2, eZ, ew, hd, decide_true]
end Go.Proofs.YtpaaiigpnbiglaaDoor.Dm
