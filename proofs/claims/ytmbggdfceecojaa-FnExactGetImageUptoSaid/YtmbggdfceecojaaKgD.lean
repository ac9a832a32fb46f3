/- Texts GiH GiI GiJ RcA RcB McD RcC RcD RcE RcF RcG RcH TrA McE TrB TrC GiK GiL, merged. -/
import Derived.Test.YtmbggdfceecojaaKgC
import Derived.Test.YtmbggdfceecojaaChecked
import Derived.KernelRfl
/- An image's reader: by the program. -/
set_option linter.all false
namespace Go.Proofs.Ytmbggdfceecojaa.Cd
open Go.AM Mc Ho

theorem implFail {bs : List Int} {s : RS} {H : List AO} {id : Nat} (hid : H[id]? = some (rdO bs s)) (f : Int) :
    ACall Try.prog 140 [.ptr id 0, .p (.i .i64 f)] H (fun r H' => r = .tup [] ∧ H' = H.set id (rdO bs (s.1, if s.2 = 0 then f else s.2))) := by
  obtain ⟨i, c⟩ := s
  have h0 := hid
  unfold rdO at h0
  refine call140 (by simp) ?_
  simp only [go_sem, Nat.reduceEqDiff, reduceIte, ↓reduceIte, Nat.reduceAdd, List.replicate_succ, List.replicate_zero, List.set_cons_zero, List.set_cons_succ, List.length_cons, List.length_nil, Nat.reduceLT, Nat.lt_add_one, ne_eq, Int.reduceEq, not_false_eq_true, Option.map_some, Nat.reduceLeDiff, Nat.zero_lt_succ, List.map_cons, List.map_nil, List.nil_append, List.cons_append, List.append_nil, bytesOf, List.take_succ_cons, List.take_zero, List.drop_zero, and_self, List.append_assoc, List.length_append, Int.reduceLT, Int.reduceLE, Int.toNat_zero, Int.reduceToNat, Int.cast_ofNat_Int, Int.natCast_zero, Int.natCast_one, Int.reduceAdd, List.map_append, Option.bind_some, mc140, mr140, h0]
  by_cases hc : c = 0
  · subst hc
    simp only [go_sem, Nat.reduceEqDiff, reduceIte, ↓reduceIte, Nat.reduceAdd, List.replicate_succ, List.replicate_zero, List.set_cons_zero, List.set_cons_succ, List.length_cons, List.length_nil, Nat.reduceLT, Nat.lt_add_one, ne_eq, Int.reduceEq, not_false_eq_true, Option.map_some, Nat.reduceLeDiff, Nat.zero_lt_succ, List.map_cons, List.map_nil, List.nil_append, List.cons_append, List.append_nil, bytesOf, List.take_succ_cons, List.take_zero, List.drop_zero, and_self, List.append_assoc, List.length_append, Int.reduceLT, Int.reduceLE, Int.toNat_zero, Int.reduceToNat, Int.cast_ofNat_Int, Int.natCast_zero, Int.natCast_one, Int.reduceAdd, List.map_append, Option.bind_some, h0]
    rfl
  · have dc : decide (c = 0) = false := by simp [hc]
    simp only [go_sem, Nat.reduceEqDiff, reduceIte, ↓reduceIte, Nat.reduceAdd, List.replicate_succ, List.replicate_zero, List.set_cons_zero, List.set_cons_succ, List.length_cons, List.length_nil, Nat.reduceLT, Nat.lt_add_one, ne_eq, Int.reduceEq, not_false_eq_true, Option.map_some, Nat.reduceLeDiff, Nat.zero_lt_succ, List.map_cons, List.map_nil, List.nil_append, List.cons_append, List.append_nil, bytesOf, List.take_succ_cons, List.take_zero, List.drop_zero, and_self, List.append_assoc, List.length_append, Int.reduceLT, Int.reduceLE, Int.toNat_zero, Int.reduceToNat, Int.cast_ofNat_Int, Int.natCast_zero, Int.natCast_one, Int.reduceAdd, List.map_append, Option.bind_some, dc, hc]
    rw [set_same hid]

set_option maxHeartbeats 1000000 in
theorem implNum {bs : List Int} (hB : RdOk bs) {s : RS} (hs : s.1 ≤ bs.length) {H : List AO} {id : Nat} (hid : H[id]? = some (rdO bs s)) :
    ACall Try.prog 91 [.ptr id 0] H (fun r H' => r = .p (.i .i64 (numD bs s).1) ∧ H' = H.set id (rdO bs (numD bs s).2)) := by
  obtain ⟨hb, hl⟩ := hB
  obtain ⟨i, c⟩ := s
  simp only at hs
  have hid0 := hid
  rw [rdO] at hid
  refine call91 (by simp) ?_
  simp only [go_sem, Nat.reduceEqDiff, reduceIte, ↓reduceIte, Nat.reduceAdd, List.replicate_succ, List.replicate_zero, List.set_cons_zero, List.set_cons_succ, List.length_cons, List.length_nil, Nat.reduceLT, Nat.lt_add_one, ne_eq, Int.reduceEq, not_false_eq_true, Option.map_some, Nat.reduceLeDiff, Nat.zero_lt_succ, List.map_cons, List.map_nil, List.nil_append, List.cons_append, List.append_nil, bytesOf, List.take_succ_cons, List.take_zero, List.drop_zero, and_self, List.append_assoc, List.length_append, Int.reduceLT, Int.reduceLE, Int.toNat_zero, Int.reduceToNat, Int.cast_ofNat_Int, Int.natCast_zero, Int.natCast_one, Int.reduceAdd, List.map_append, Option.bind_some, mc91, mr91, hid]
  by_cases hc : c = 0
  case neg =>
    have dc : (!decide (c = 0)) = true := by simp [hc]
    rw [numD_z hc]
    simp only [go_sem, Nat.reduceEqDiff, reduceIte, ↓reduceIte, Nat.reduceAdd, List.replicate_succ, List.replicate_zero, List.set_cons_zero, List.set_cons_succ, List.length_cons, List.length_nil, Nat.reduceLT, Nat.lt_add_one, ne_eq, Int.reduceEq, not_false_eq_true, Option.map_some, Nat.reduceLeDiff, Nat.zero_lt_succ, List.map_cons, List.map_nil, List.nil_append, List.cons_append, List.append_nil, bytesOf, List.take_succ_cons, List.take_zero, List.drop_zero, and_self, List.append_assoc, List.length_append, Int.reduceLT, Int.reduceLE, Int.toNat_zero, Int.reduceToNat, Int.cast_ofNat_Int, Int.natCast_zero, Int.natCast_one, Int.reduceAdd, List.map_append, Option.bind_some, dc]
    rw [rdO, set_same hid]
  subst hc
  simp only [go_sem, Nat.reduceEqDiff, reduceIte, ↓reduceIte, Nat.reduceAdd, List.replicate_succ, List.replicate_zero, List.set_cons_zero, List.set_cons_succ, List.length_cons, List.length_nil, Nat.reduceLT, Nat.lt_add_one, ne_eq, Int.reduceEq, not_false_eq_true, Option.map_some, Nat.reduceLeDiff, Nat.zero_lt_succ, List.map_cons, List.map_nil, List.nil_append, List.cons_append, List.append_nil, bytesOf, List.take_succ_cons, List.take_zero, List.drop_zero, and_self, List.append_assoc, List.length_append, Int.reduceLT, Int.reduceLE, Int.toNat_zero, Int.reduceToNat, Int.cast_ofNat_Int, Int.natCast_zero, Int.natCast_one, Int.reduceAdd, List.map_append, Option.bind_some]
  refine drw_same ?_
  simp only [go_sem, Nat.reduceEqDiff, reduceIte, ↓reduceIte, Nat.reduceAdd, List.replicate_succ, List.replicate_zero, List.set_cons_zero, List.set_cons_succ, List.length_cons, List.length_nil, Nat.reduceLT, Nat.lt_add_one, ne_eq, Int.reduceEq, not_false_eq_true, Option.map_some, Nat.reduceLeDiff, Nat.zero_lt_succ, List.map_cons, List.map_nil, List.nil_append, List.cons_append, List.append_nil, bytesOf, List.take_succ_cons, List.take_zero, List.drop_zero, and_self, List.append_assoc, List.length_append, Int.reduceLT, Int.reduceLE, Int.toNat_zero, Int.reduceToNat, Int.cast_ofNat_Int, Int.natCast_zero, Int.natCast_one, Int.reduceAdd, List.map_append, Option.bind_some, hid]
  refine pcall_pure (fun A => implGetS bs hb (by omega) i (by omega) _) (Hext.refl _) ?_
  cases hg : getS bs i with
  | some p =>
    obtain ⟨n, e⟩ := p
    rw [numD_some rfl hg]
    simp only [go_sem, Nat.reduceEqDiff, reduceIte, ↓reduceIte, Nat.reduceAdd, List.replicate_succ, List.replicate_zero, List.set_cons_zero, List.set_cons_succ, List.length_cons, List.length_nil, Nat.reduceLT, Nat.lt_add_one, ne_eq, Int.reduceEq, not_false_eq_true, Option.map_some, Nat.reduceLeDiff, Nat.zero_lt_succ, List.map_cons, List.map_nil, List.nil_append, List.cons_append, List.append_nil, bytesOf, List.take_succ_cons, List.take_zero, List.drop_zero, and_self, List.append_assoc, List.length_append, Int.reduceLT, Int.reduceLE, Int.toNat_zero, Int.reduceToNat, Int.cast_ofNat_Int, Int.natCast_zero, Int.natCast_one, Int.reduceAdd, List.map_append, Option.bind_some, resS, hid, rdO]
  | none =>
    rw [numD_none rfl hg]
    simp only [go_sem, Nat.reduceEqDiff, reduceIte, ↓reduceIte, Nat.reduceAdd, List.replicate_succ, List.replicate_zero, List.set_cons_zero, List.set_cons_succ, List.length_cons, List.length_nil, Nat.reduceLT, Nat.lt_add_one, ne_eq, Int.reduceEq, not_false_eq_true, Option.map_some, Nat.reduceLeDiff, Nat.zero_lt_succ, List.map_cons, List.map_nil, List.nil_append, List.cons_append, List.append_nil, bytesOf, List.take_succ_cons, List.take_zero, List.drop_zero, and_self, List.append_assoc, List.length_append, Int.reduceLT, Int.reduceLE, Int.toNat_zero, Int.reduceToNat, Int.cast_ofNat_Int, Int.natCast_zero, Int.natCast_one, Int.reduceAdd, List.map_append, Option.bind_some, resS, hid]
    refine ⟨Nat, [0, 2, 3, 4, 5, 6], fun k st => i + k ≤ bs.length ∧ k ≤ 9 ∧ goesOn bs i k ∧ st = ⟨[(0, .ptr id 0), (2, .p (.i .i64 0)), (3, .p (.i .i64 0)), (4, .p (.i .i64 0)), (5, .p (.b false)), (6, .p (.i .i64 ((i + k : Nat) : Int)))], [], H⟩, fun k => 10 - k, ⟨0, ?_⟩, ?_⟩
    · simp only [go_sem, Nat.reduceEqDiff, reduceIte, ↓reduceIte, Nat.reduceAdd, List.replicate_succ, List.replicate_zero, List.set_cons_zero, List.set_cons_succ, List.length_cons, List.length_nil, Nat.reduceLT, Nat.lt_add_one, ne_eq, Int.reduceEq, not_false_eq_true, Option.map_some, Nat.reduceLeDiff, Nat.zero_lt_succ, List.map_cons, List.map_nil, List.nil_append, List.cons_append, List.append_nil, bytesOf, List.take_succ_cons, List.take_zero, List.drop_zero, and_self, List.append_assoc, List.length_append, Int.reduceLT, Int.reduceLE, Int.toNat_zero, Int.reduceToNat, Int.cast_ofNat_Int, Int.natCast_zero, Int.natCast_one, Int.reduceAdd, List.map_append, Option.bind_some]
      exact ⟨by omega, fun j hj => absurd hj (Nat.not_lt_zero _), rfl⟩
    rintro k st ⟨hik, hk, hgo, rfl⟩
    have ei : wr .i64 ((i : Int) + 9) = ((i + 9 : Nat) : Int) := by rw [wr64 (by omega) (by omega)]; omega
    simp only [go_sem, Nat.reduceEqDiff, reduceIte, ↓reduceIte, Nat.reduceAdd, List.replicate_succ, List.replicate_zero, List.set_cons_zero, List.set_cons_succ, List.length_cons, List.length_nil, Nat.reduceLT, Nat.lt_add_one, ne_eq, Int.reduceEq, not_false_eq_true, Option.map_some, Nat.reduceLeDiff, Nat.zero_lt_succ, List.map_cons, List.map_nil, List.nil_append, List.cons_append, List.append_nil, bytesOf, List.take_succ_cons, List.take_zero, List.drop_zero, and_self, List.append_assoc, List.length_append, Int.reduceLT, Int.reduceLE, Int.toNat_zero, Int.reduceToNat, Int.cast_ofNat_Int, Int.natCast_zero, Int.natCast_one, Int.reduceAdd, List.map_append, Option.bind_some, hid, rowsK_len]
    intro _
    by_cases hlt : i + k < bs.length
    · have de : decide (((i + k : Nat) : Int) = (bs.length : Int)) = false := by simp; omega
      obtain ⟨b, hbk⟩ : ∃ b, bs[i + k]? = some b := ⟨_, List.getElem?_eq_getElem hlt⟩
      have hrow : (rowsK .u8 bs)[i + k]? = some [.i .u8 b] := by simp [rowsK, hbk]
      have fin : faultS bs i = 3 → H.set id (rdO bs (i, 3)) = H.set id (rdO bs (i, faultS bs i)) := fun h => by rw [h]
      by_cases h128 : b < 128
      · have d3 : decide (b < 128) = true := by simp [h128]
        simp only [go_sem, Nat.reduceEqDiff, reduceIte, ↓reduceIte, Nat.reduceAdd, List.replicate_succ, List.replicate_zero, List.set_cons_zero, List.set_cons_succ, List.length_cons, List.length_nil, Nat.reduceLT, Nat.lt_add_one, ne_eq, Int.reduceEq, not_false_eq_true, Option.map_some, Nat.reduceLeDiff, Nat.zero_lt_succ, List.map_cons, List.map_nil, List.nil_append, List.cons_append, List.append_nil, bytesOf, List.take_succ_cons, List.take_zero, List.drop_zero, and_self, List.append_assoc, List.length_append, Int.reduceLT, Int.reduceLE, Int.toNat_zero, Int.reduceToNat, Int.cast_ofNat_Int, Int.natCast_zero, Int.natCast_one, Int.reduceAdd, List.map_append, Option.bind_some, de, hid, hrow, Int.toNat_natCast, d3]
        refine (implFail hid0 3).mono ?_
        rintro r H' ⟨rfl, rfl⟩
        simp only [go_sem, Nat.reduceEqDiff, reduceIte, ↓reduceIte, Nat.reduceAdd, List.replicate_succ, List.replicate_zero, List.set_cons_zero, List.set_cons_succ, List.length_cons, List.length_nil, Nat.reduceLT, Nat.lt_add_one, ne_eq, Int.reduceEq, not_false_eq_true, Option.map_some, Nat.reduceLeDiff, Nat.zero_lt_succ, List.map_cons, List.map_nil, List.nil_append, List.cons_append, List.append_nil, bytesOf, List.take_succ_cons, List.take_zero, List.drop_zero, and_self, List.append_assoc, List.length_append, Int.reduceLT, Int.reduceLE, Int.toNat_zero, Int.reduceToNat, Int.cast_ofNat_Int, Int.natCast_zero, Int.natCast_one, Int.reduceAdd, List.map_append, Option.bind_some]
        refine fin ?_
        unfold faultS
        rw [if_neg]
        rintro ⟨h1, h2⟩
        obtain ⟨b', hb', hge⟩ := h1 k (by omega)
        rw [hbk] at hb'; cases hb'
        omega
      · have d3 : decide (b < 128) = false := by simp [h128]
        by_cases h9 : k = 9
        · have d9 : decide (((i + k : Nat) : Int) = ((i + 9 : Nat) : Int)) = true := by simp; omega
          simp only [go_sem, Nat.reduceEqDiff, reduceIte, ↓reduceIte, Nat.reduceAdd, List.replicate_succ, List.replicate_zero, List.set_cons_zero, List.set_cons_succ, List.length_cons, List.length_nil, Nat.reduceLT, Nat.lt_add_one, ne_eq, Int.reduceEq, not_false_eq_true, Option.map_some, Nat.reduceLeDiff, Nat.zero_lt_succ, List.map_cons, List.map_nil, List.nil_append, List.cons_append, List.append_nil, bytesOf, List.take_succ_cons, List.take_zero, List.drop_zero, and_self, List.append_assoc, List.length_append, Int.reduceLT, Int.reduceLE, Int.toNat_zero, Int.reduceToNat, Int.cast_ofNat_Int, Int.natCast_zero, Int.natCast_one, Int.reduceAdd, List.map_append, Option.bind_some, de, hid, hrow, Int.toNat_natCast, d3, ei, d9]
          refine (implFail hid0 3).mono ?_
          rintro r H' ⟨rfl, rfl⟩
          simp only [go_sem, Nat.reduceEqDiff, reduceIte, ↓reduceIte, Nat.reduceAdd, List.replicate_succ, List.replicate_zero, List.set_cons_zero, List.set_cons_succ, List.length_cons, List.length_nil, Nat.reduceLT, Nat.lt_add_one, ne_eq, Int.reduceEq, not_false_eq_true, Option.map_some, Nat.reduceLeDiff, Nat.zero_lt_succ, List.map_cons, List.map_nil, List.nil_append, List.cons_append, List.append_nil, bytesOf, List.take_succ_cons, List.take_zero, List.drop_zero, and_self, List.append_assoc, List.length_append, Int.reduceLT, Int.reduceLE, Int.toNat_zero, Int.reduceToNat, Int.cast_ofNat_Int, Int.natCast_zero, Int.natCast_one, Int.reduceAdd, List.map_append, Option.bind_some]
          refine fin ?_
          unfold faultS
          rw [if_neg]
          rintro ⟨h1, h2⟩
          omega
        · have d9 : decide (((i + k : Nat) : Int) = ((i + 9 : Nat) : Int)) = false := by simp; omega
          have ek : wr .i64 (((i + k : Nat) : Int) + 1) = ((i + (k + 1) : Nat) : Int) := by rw [wr64 (by omega) (by omega)]; omega
          simp only [go_sem, Nat.reduceEqDiff, reduceIte, ↓reduceIte, Nat.reduceAdd, List.replicate_succ, List.replicate_zero, List.set_cons_zero, List.set_cons_succ, List.length_cons, List.length_nil, Nat.reduceLT, Nat.lt_add_one, ne_eq, Int.reduceEq, not_false_eq_true, Option.map_some, Nat.reduceLeDiff, Nat.zero_lt_succ, List.map_cons, List.map_nil, List.nil_append, List.cons_append, List.append_nil, bytesOf, List.take_succ_cons, List.take_zero, List.drop_zero, and_self, List.append_assoc, List.length_append, Int.reduceLT, Int.reduceLE, Int.toNat_zero, Int.reduceToNat, Int.cast_ofNat_Int, Int.natCast_zero, Int.natCast_one, Int.reduceAdd, List.map_append, Option.bind_some, de, hid, hrow, Int.toNat_natCast, d3, ei, d9, ek]
          exact ⟨k + 1, ⟨by omega, by omega, hgo.more hbk (by omega), rfl⟩, by omega⟩
    · have de : decide (((i + k : Nat) : Int) = (bs.length : Int)) = true := by simp; omega
      simp only [go_sem, Nat.reduceEqDiff, reduceIte, ↓reduceIte, Nat.reduceAdd, List.replicate_succ, List.replicate_zero, List.set_cons_zero, List.set_cons_succ, List.length_cons, List.length_nil, Nat.reduceLT, Nat.lt_add_one, ne_eq, Int.reduceEq, not_false_eq_true, Option.map_some, Nat.reduceLeDiff, Nat.zero_lt_succ, List.map_cons, List.map_nil, List.nil_append, List.cons_append, List.append_nil, bytesOf, List.take_succ_cons, List.take_zero, List.drop_zero, and_self, List.append_assoc, List.length_append, Int.reduceLT, Int.reduceLE, Int.toNat_zero, Int.reduceToNat, Int.cast_ofNat_Int, Int.natCast_zero, Int.natCast_one, Int.reduceAdd, List.map_append, Option.bind_some, de]
      refine (implFail hid0 2).mono ?_
      rintro r H' ⟨rfl, rfl⟩
      have : faultS bs i = 2 := by
        unfold faultS
        rw [if_pos]
        refine ⟨?_, by omega⟩
        rw [show bs.length - i = k by omega]; exact hgo
      simp only [go_sem, Nat.reduceEqDiff, reduceIte, ↓reduceIte, Nat.reduceAdd, List.replicate_succ, List.replicate_zero, List.set_cons_zero, List.set_cons_succ, List.length_cons, List.length_nil, Nat.reduceLT, Nat.lt_add_one, ne_eq, Int.reduceEq, not_false_eq_true, Option.map_some, Nat.reduceLeDiff, Nat.zero_lt_succ, List.map_cons, List.map_nil, List.nil_append, List.cons_append, List.append_nil, bytesOf, List.take_succ_cons, List.take_zero, List.drop_zero, and_self, List.append_assoc, List.length_append, Int.reduceLT, Int.reduceLE, Int.toNat_zero, Int.reduceToNat, Int.cast_ofNat_Int, Int.natCast_zero, Int.natCast_one, Int.reduceAdd, List.map_append, Option.bind_some, this]

set_option maxHeartbeats 1000000 in
theorem implCount {bs : List Int} (hB : RdOk bs) {s : RS} (hs : s.1 ≤ bs.length) {H : List AO} {id : Nat} (hid : H[id]? = some (rdO bs s)) :
    ACall Try.prog 90 [.ptr id 0] H (fun r H' => r = .p (.i .i64 (cntI bs s).1) ∧ H' = H.set id (rdO bs (cntI bs s).2)) := by
  refine call90 (by simp) ?_
  simp only [go_sem, Nat.reduceEqDiff, reduceIte, ↓reduceIte, Nat.reduceAdd, List.replicate_succ, List.replicate_zero, List.set_cons_zero, List.set_cons_succ, List.length_cons, List.length_nil, Nat.reduceLT, Nat.lt_add_one, ne_eq, Int.reduceEq, not_false_eq_true, Option.map_some, Nat.reduceLeDiff, Nat.zero_lt_succ, List.map_cons, List.map_nil, List.nil_append, List.cons_append, List.append_nil, bytesOf, List.take_succ_cons, List.take_zero, List.drop_zero, and_self, List.append_assoc, List.length_append, Int.reduceLT, Int.reduceLE, Int.toNat_zero, Int.reduceToNat, Int.cast_ofNat_Int, Int.natCast_zero, Int.natCast_one, Int.reduceAdd, List.map_append, Option.bind_some, mc90, mr90]
  refine (implNum hB hs hid).mono ?_
  rintro r H' ⟨rfl, rfl⟩
  unfold cntI
  generalize numD bs s = x
  obtain ⟨n, a, c⟩ := x
  have h0 : (H.set id (rdO bs (a, c)))[id]? = some (rdO bs (a, c)) := set_get hid
  have h2 : (H.set id (rdO bs (a, c)))[id]? = some (.var [.p (.l (rowsK .u8 bs)), .p (.i .i64 a), .p (.i .i64 c)]) := set_get hid
  simp only [go_sem, Nat.reduceEqDiff, reduceIte, ↓reduceIte, Nat.reduceAdd, List.replicate_succ, List.replicate_zero, List.set_cons_zero, List.set_cons_succ, List.length_cons, List.length_nil, Nat.reduceLT, Nat.lt_add_one, ne_eq, Int.reduceEq, not_false_eq_true, Option.map_some, Nat.reduceLeDiff, Nat.zero_lt_succ, List.map_cons, List.map_nil, List.nil_append, List.cons_append, List.append_nil, bytesOf, List.take_succ_cons, List.take_zero, List.drop_zero, and_self, List.append_assoc, List.length_append, Int.reduceLT, Int.reduceLE, Int.toNat_zero, Int.reduceToNat, Int.cast_ofNat_Int, Int.natCast_zero, Int.natCast_one, Int.reduceAdd, List.map_append, Option.bind_some, h2]
  by_cases hc : c = 0
  case neg =>
    have dc : decide (c = 0) = false := by simp [hc]
    simp only [go_sem, Nat.reduceEqDiff, reduceIte, ↓reduceIte, Nat.reduceAdd, List.replicate_succ, List.replicate_zero, List.set_cons_zero, List.set_cons_succ, List.length_cons, List.length_nil, Nat.reduceLT, Nat.lt_add_one, ne_eq, Int.reduceEq, not_false_eq_true, Option.map_some, Nat.reduceLeDiff, Nat.zero_lt_succ, List.map_cons, List.map_nil, List.nil_append, List.cons_append, List.append_nil, bytesOf, List.take_succ_cons, List.take_zero, List.drop_zero, and_self, List.append_assoc, List.length_append, Int.reduceLT, Int.reduceLE, Int.toNat_zero, Int.reduceToNat, Int.cast_ofNat_Int, Int.natCast_zero, Int.natCast_one, Int.reduceAdd, List.map_append, Option.bind_some, dc, h2, hc, Bool.not_false]
  subst hc
  simp only [go_sem, Nat.reduceEqDiff, reduceIte, ↓reduceIte, Nat.reduceAdd, List.replicate_succ, List.replicate_zero, List.set_cons_zero, List.set_cons_succ, List.length_cons, List.length_nil, Nat.reduceLT, Nat.lt_add_one, ne_eq, Int.reduceEq, not_false_eq_true, Option.map_some, Nat.reduceLeDiff, Nat.zero_lt_succ, List.map_cons, List.map_nil, List.nil_append, List.cons_append, List.append_nil, bytesOf, List.take_succ_cons, List.take_zero, List.drop_zero, and_self, List.append_assoc, List.length_append, Int.reduceLT, Int.reduceLE, Int.toNat_zero, Int.reduceToNat, Int.cast_ofNat_Int, Int.natCast_zero, Int.natCast_one, Int.reduceAdd, List.map_append, Option.bind_some, h2]
  refine (within_any _ _ _).mono ?_
  rintro r H' ⟨rfl, rfl⟩
  by_cases hr : inD n 0 200000 = true
  · simp only [go_sem, Nat.reduceEqDiff, reduceIte, ↓reduceIte, Nat.reduceAdd, List.replicate_succ, List.replicate_zero, List.set_cons_zero, List.set_cons_succ, List.length_cons, List.length_nil, Nat.reduceLT, Nat.lt_add_one, ne_eq, Int.reduceEq, not_false_eq_true, Option.map_some, Nat.reduceLeDiff, Nat.zero_lt_succ, List.map_cons, List.map_nil, List.nil_append, List.cons_append, List.append_nil, bytesOf, List.take_succ_cons, List.take_zero, List.drop_zero, and_self, List.append_assoc, List.length_append, Int.reduceLT, Int.reduceLE, Int.toNat_zero, Int.reduceToNat, Int.cast_ofNat_Int, Int.natCast_zero, Int.natCast_one, Int.reduceAdd, List.map_append, Option.bind_some, hr, h2, Bool.not_true]
  · have hr' : inD n 0 200000 = false := by simpa using hr
    simp only [go_sem, Nat.reduceEqDiff, reduceIte, ↓reduceIte, Nat.reduceAdd, List.replicate_succ, List.replicate_zero, List.set_cons_zero, List.set_cons_succ, List.length_cons, List.length_nil, Nat.reduceLT, Nat.lt_add_one, ne_eq, Int.reduceEq, not_false_eq_true, Option.map_some, Nat.reduceLeDiff, Nat.zero_lt_succ, List.map_cons, List.map_nil, List.nil_append, List.cons_append, List.append_nil, bytesOf, List.take_succ_cons, List.take_zero, List.drop_zero, and_self, List.append_assoc, List.length_append, Int.reduceLT, Int.reduceLE, Int.toNat_zero, Int.reduceToNat, Int.cast_ofNat_Int, Int.natCast_zero, Int.natCast_one, Int.reduceAdd, List.map_append, Option.bind_some, hr', h2, Bool.not_false]
    refine (implFail h0 3).mono ?_
    rintro r H' ⟨rfl, rfl⟩
    simp only [go_sem, Nat.reduceEqDiff, reduceIte, ↓reduceIte, Nat.reduceAdd, List.replicate_succ, List.replicate_zero, List.set_cons_zero, List.set_cons_succ, List.length_cons, List.length_nil, Nat.reduceLT, Nat.lt_add_one, ne_eq, Int.reduceEq, not_false_eq_true, Option.map_some, Nat.reduceLeDiff, Nat.zero_lt_succ, List.map_cons, List.map_nil, List.nil_append, List.cons_append, List.append_nil, bytesOf, List.take_succ_cons, List.take_zero, List.drop_zero, and_self, List.append_assoc, List.length_append, Int.reduceLT, Int.reduceLE, Int.toNat_zero, Int.reduceToNat, Int.cast_ofNat_Int, Int.natCast_zero, Int.natCast_one, Int.reduceAdd, List.map_append, Option.bind_some, List.set_set]

def bytI (bs : List Int) (s : RS) (n : Nat) : RS := if s.2 = 0 then (if bs.length < s.1 + n then (s.1, 2) else (s.1 + n, 0)) else s
set_option maxHeartbeats 1000000 in
theorem implBytes {bs : List Int} (hB : RdOk bs) {s : RS} (hs : s.1 ≤ bs.length) {H : List AO} {id : Nat} (hid : H[id]? = some (rdO bs s)) (n : Nat) (hn : n ≤ 200000) :
    ACall Try.prog 142 [.ptr id 0, .p (.i .i64 n)] H (fun r H' =>
      ((bytI bs s n).2 = 0 ∧ r = .p (.l (rowsK .u8 ((bs.drop s.1).take n))) ∧ H' = H.set id (rdO bs (bytI bs s n))) ∨
      ((bytI bs s n).2 ≠ 0 ∧ r = .gs H.length 0 0 (min n 3) ∧ H' = H.set id (rdO bs (bytI bs s n)) ++ [.rows 1 0 (List.replicate (min n 3) [.p (.i .u8 0)])])) := by
  obtain ⟨hb, hl⟩ := hB
  obtain ⟨i, c⟩ := s
  simp only at hs
  have hid0 := hid
  rw [rdO] at hid
  have ed : wr .i64 ((bs.length : Int) - (i : Int)) = (bs.length : Int) - (i : Int) := wr64 (by omega) (by omega)
  have hmin : (if (3 : Int) < (n : Int) then (3 : Int) else (n : Int)) = ((min n 3 : Nat) : Int) := by split <;> omega
  refine call142 (by simp) ?_
  simp only [go_sem, Nat.reduceEqDiff, reduceIte, ↓reduceIte, Nat.reduceAdd, List.replicate_succ, List.replicate_zero, List.set_cons_zero, List.set_cons_succ, List.length_cons, List.length_nil, Nat.reduceLT, Nat.lt_add_one, ne_eq, Int.reduceEq, not_false_eq_true, Option.map_some, Nat.reduceLeDiff, Nat.zero_lt_succ, List.map_cons, List.map_nil, List.nil_append, List.cons_append, List.append_nil, bytesOf, List.take_succ_cons, List.take_zero, List.drop_zero, and_self, List.append_assoc, List.length_append, Int.reduceLT, Int.reduceLE, Int.toNat_zero, Int.reduceToNat, Int.cast_ofNat_Int, Int.natCast_zero, Int.natCast_one, Int.reduceAdd, List.map_append, Option.bind_some, mc142, mr142]
  refine drw_same ?_
  by_cases hc : c = 0
  case neg =>
    have dc : decide (c = 0) = false := by simp [hc]
    have e : bytI bs (i, c) n = (i, c) := by unfold bytI; rw [if_neg hc]
    rw [e]
    simp only [go_sem, Nat.reduceEqDiff, reduceIte, ↓reduceIte, Nat.reduceAdd, List.replicate_succ, List.replicate_zero, List.set_cons_zero, List.set_cons_succ, List.length_cons, List.length_nil, Nat.reduceLT, Nat.lt_add_one, ne_eq, Int.reduceEq, not_false_eq_true, Option.map_some, Nat.reduceLeDiff, Nat.zero_lt_succ, List.map_cons, List.map_nil, List.nil_append, List.cons_append, List.append_nil, bytesOf, List.take_succ_cons, List.take_zero, List.drop_zero, and_self, List.append_assoc, List.length_append, Int.reduceLT, Int.reduceLE, Int.toNat_zero, Int.reduceToNat, Int.cast_ofNat_Int, Int.natCast_zero, Int.natCast_one, Int.reduceAdd, List.map_append, Option.bind_some, hid, dc, Bool.not_false, hmin]
    refine ⟨by omega, by omega, by omega, .inr ⟨hc, ?_⟩⟩
    rw [set_same hid0]
  subst hc
  by_cases hlt : bs.length < i + n
  · have dl : decide ((bs.length : Int) - (i : Int) < (n : Int)) = true := by simp; omega
    have e : bytI bs (i, 0) n = (i, 2) := by unfold bytI; rw [if_pos rfl, if_pos hlt]
    rw [e]
    simp only [go_sem, Nat.reduceEqDiff, reduceIte, ↓reduceIte, Nat.reduceAdd, List.replicate_succ, List.replicate_zero, List.set_cons_zero, List.set_cons_succ, List.length_cons, List.length_nil, Nat.reduceLT, Nat.lt_add_one, ne_eq, Int.reduceEq, not_false_eq_true, Option.map_some, Nat.reduceLeDiff, Nat.zero_lt_succ, List.map_cons, List.map_nil, List.nil_append, List.cons_append, List.append_nil, bytesOf, List.take_succ_cons, List.take_zero, List.drop_zero, and_self, List.append_assoc, List.length_append, Int.reduceLT, Int.reduceLE, Int.toNat_zero, Int.reduceToNat, Int.cast_ofNat_Int, Int.natCast_zero, Int.natCast_one, Int.reduceAdd, List.map_append, Option.bind_some, hid, rowsK_len, ed, dl]
    refine (implFail hid0 2).mono ?_
    rintro r H' ⟨rfl, rfl⟩
    have h2 : (H.set id (rdO bs (i, 2)))[id]? = some (.var [.p (.l (rowsK .u8 bs)), .p (.i .i64 i), .p (.i .i64 2)]) := set_get hid
    simp only [go_sem, Nat.reduceEqDiff, reduceIte, ↓reduceIte, Nat.reduceAdd, List.replicate_succ, List.replicate_zero, List.set_cons_zero, List.set_cons_succ, List.length_cons, List.length_nil, Nat.reduceLT, Nat.lt_add_one, ne_eq, Int.reduceEq, not_false_eq_true, Option.map_some, Nat.reduceLeDiff, Nat.zero_lt_succ, List.map_cons, List.map_nil, List.nil_append, List.cons_append, List.append_nil, bytesOf, List.take_succ_cons, List.take_zero, List.drop_zero, and_self, List.append_assoc, List.length_append, Int.reduceLT, Int.reduceLE, Int.toNat_zero, Int.reduceToNat, Int.cast_ofNat_Int, Int.natCast_zero, Int.natCast_one, Int.reduceAdd, List.map_append, Option.bind_some, h2, hmin, Bool.not_false]
    refine ⟨by omega, by omega, by omega, ?_⟩
    simp
  · have dl : decide ((bs.length : Int) - (i : Int) < (n : Int)) = false := by simp; omega
    have e : bytI bs (i, 0) n = (i + n, 0) := by unfold bytI; rw [if_pos rfl, if_neg hlt]
    have ea : wr .i64 ((i : Int) + (n : Int)) = ((i + n : Nat) : Int) := by rw [wr64 (by omega) (by omega)]; omega
    have es : wr .i64 (((i + n : Nat) : Int) - (n : Int)) = (i : Int) := by rw [wr64 (by omega) (by omega)]; omega
    rw [e]
    simp only [go_sem, Nat.reduceEqDiff, reduceIte, ↓reduceIte, Nat.reduceAdd, List.replicate_succ, List.replicate_zero, List.set_cons_zero, List.set_cons_succ, List.length_cons, List.length_nil, Nat.reduceLT, Nat.lt_add_one, ne_eq, Int.reduceEq, not_false_eq_true, Option.map_some, Nat.reduceLeDiff, Nat.zero_lt_succ, List.map_cons, List.map_nil, List.nil_append, List.cons_append, List.append_nil, bytesOf, List.take_succ_cons, List.take_zero, List.drop_zero, and_self, List.append_assoc, List.length_append, Int.reduceLT, Int.reduceLE, Int.toNat_zero, Int.reduceToNat, Int.cast_ofNat_Int, Int.natCast_zero, Int.natCast_one, Int.reduceAdd, List.map_append, Option.bind_some, hid, rowsK_len, ed, dl, ea, set_get hid]
    refine drw_same ?_
    simp only [go_sem, Nat.reduceEqDiff, reduceIte, ↓reduceIte, Nat.reduceAdd, List.replicate_succ, List.replicate_zero, List.set_cons_zero, List.set_cons_succ, List.length_cons, List.length_nil, Nat.reduceLT, Nat.lt_add_one, ne_eq, Int.reduceEq, not_false_eq_true, Option.map_some, Nat.reduceLeDiff, Nat.zero_lt_succ, List.map_cons, List.map_nil, List.nil_append, List.cons_append, List.append_nil, bytesOf, List.take_succ_cons, List.take_zero, List.drop_zero, and_self, List.append_assoc, List.length_append, Int.reduceLT, Int.reduceLE, Int.toNat_zero, Int.reduceToNat, Int.cast_ofNat_Int, Int.natCast_zero, Int.natCast_one, Int.reduceAdd, List.map_append, Option.bind_some, set_get hid, es, rowsK_len]
    refine ⟨rowsK_one _, by omega, by omega, ?_⟩
    rw [show i + n - i = n by omega, rowsK_slice]
    exact .inl ⟨rfl, rfl⟩
end Go.Proofs.Ytmbggdfceecojaa.Cd

/- An image's reader: instructions, by the program. -/
set_option linter.all false
namespace Go.Proofs.Ytmbggdfceecojaa.Cd
open Go.AM Mc Ho

def hd3 (bs : List Int) (s : RS) (j : Nat) : Int := if (bytI bs s 3).2 = 0 then (bs[s.1 + j]?).getD 0 else 0
def insF (bs : List Int) (o ab c n : Int) (k : Int × RS) : InsD × RS :=
  if k.2.2 = 0 then
    (⟨o, ab.tdiv 16, ab.tmod 16, c, n, if (bytI bs k.2 k.1.toNat).2 = 0 then strD ((bs.drop k.2.1).take k.1.toNat) else strD (List.replicate (min k.1.toNat 3) 0)⟩, bytI bs k.2 k.1.toNat)
  else (⟨o, ab.tdiv 16, ab.tmod 16, c, n, []⟩, k.2)
noncomputable def insI (bs : List Int) (s : RS) : InsD × RS :=
  insF bs (hd3 bs s 0) (hd3 bs s 1) (hd3 bs s 2) (numD bs (bytI bs s 3)).1 (cntI bs (numD bs (bytI bs s 3)).2)

theorem bytI_le {bs : List Int} {s : RS} (hs : s.1 ≤ bs.length) (n : Nat) : (bytI bs s n).1 ≤ bs.length := by
  unfold bytI
  split
  · split
    · exact hs
    · simp only; omega
  · exact hs
theorem hd3_rng {bs : List Int} (hb : isB bs) (s : RS) (j : Nat) : 0 ≤ hd3 bs s j ∧ hd3 bs s j < 256 := by
  unfold hd3
  split
  · cases h : bs[s.1 + j]? with
    | none => simp
    | some b => exact hb b (List.mem_of_getElem? h)
  · simp
theorem cntI_le {bs : List Int} (hb : isB bs) {s : RS} (hs : s.1 ≤ bs.length) : (cntI bs s).2.1 ≤ bs.length := by
  have := numD_le hb hs
  unfold cntI
  split
  · split <;> exact this
  · exact this
theorem cntI_rng {bs : List Int} {s : RS} (h : (cntI bs s).2.2 = 0) : 0 ≤ (cntI bs s).1 ∧ (cntI bs s).1 ≤ 200000 := by
  unfold cntI at h ⊢
  split at h
  · rename_i h0
    rw [if_pos h0]
    split at h
    · rename_i h1; rw [if_pos h1]; simp [inD] at h1; omega
    · simp at h
  · rename_i h0; exact (h0 h).elim

structure I4 (bs : List Int) (H : List AO) (id : Nat) (s : RS) (p : Nat) (o2 : AO) (q : Nat) (o3 : AO) (H' : List AO) : Prop where
  lt : id < H.length
  hp : H.length ≤ p
  hq : H.length ≤ q
  ne : p ≠ q
  g2 : H'[p]? = some o2
  g3 : H'[q]? = some o3
  eq : ∃ G, H' = H.set id (rdO bs s) ++ G
theorem I4.rd {bs H id s p o2 q o3 H'} (h : I4 bs H id s p o2 q o3 H') : H'[id]? = some (rdO bs s) := by
  obtain ⟨G, e⟩ := h.eq
  rw [e]; refine get_ext ?_ _; simp [h.lt]
theorem I4.s1 {bs H id s p o2 q o3 H'} (h : I4 bs H id s p o2 q o3 H') (s' : RS) : I4 bs H id s' p o2 q o3 (H'.set id (rdO bs s')) := by
  refine ⟨h.lt, h.hp, h.hq, h.ne, get_set h.g2 (by have := h.lt; have := h.hp; omega), get_set h.g3 (by have := h.lt; have := h.hq; omega), ?_⟩
  obtain ⟨G, e⟩ := h.eq
  exact ⟨G, by rw [e, List.set_append_left _ _ (by simpa using h.lt), List.set_set]⟩
theorem I4.s2 {bs H id s p o2 q o3 H'} (h : I4 bs H id s p o2 q o3 H') (o : AO) : I4 bs H id s p o q o3 (H'.set p o) := by
  refine ⟨h.lt, h.hp, h.hq, h.ne, set_get h.g2, get_set h.g3 h.ne, ?_⟩
  obtain ⟨G, e⟩ := h.eq
  exact ⟨_, by rw [e, List.set_append_right _ _ (by simpa using h.hp)]⟩
theorem I4.s3 {bs H id s p o2 q o3 H'} (h : I4 bs H id s p o2 q o3 H') (o : AO) : I4 bs H id s p o2 q o (H'.set q o) := by
  refine ⟨h.lt, h.hp, h.hq, h.ne, get_set h.g2 (fun e => h.ne e.symm), set_get h.g3, ?_⟩
  obtain ⟨G, e⟩ := h.eq
  exact ⟨_, by rw [e, List.set_append_right _ _ (by simpa using h.hq)]⟩
theorem I4.ext {bs H id s p o2 q o3 H'} (h : I4 bs H id s p o2 q o3 H') (A : List AO) : I4 bs H id s p o2 q o3 (H' ++ A) := by
  refine ⟨h.lt, h.hp, h.hq, h.ne, get_ext h.g2 _, get_ext h.g3 _, ?_⟩
  obtain ⟨G, e⟩ := h.eq
  exact ⟨G ++ A, by rw [e, List.append_assoc]⟩

theorem bytesOf_zero (k : Nat) : bytesOf (List.replicate k [AV.p (.i .u8 0)]) = some (strD (List.replicate k 0)) := by
  induction k with
  | zero => rfl
  | succ k ih => rw [List.replicate_succ, List.replicate_succ, bytesOf, ih]; rfl
theorem b2s_zero {k : Nat} (h : k ≤ 3) : (if (List.replicate k [AV.p (.i .u8 0)]).length ≤ 140737488355328 then Option.map (fun l => AV.p (.s l)) (bytesOf (List.replicate k [AV.p (.i .u8 0)])) else none) = some (.p (.s (strD (List.replicate k 0)))) := by
  rw [if_pos (by simp; omega), bytesOf_zero]; rfl

set_option maxHeartbeats 2000000 in
theorem implIns {bs : List Int} (hB : RdOk bs) {s : RS} (hs : s.1 ≤ bs.length) {H : List AO} {id : Nat} (hid : H[id]? = some (rdO bs s)) :
    ACall Try.prog 92 [.ptr id 0] H (fun r H' => r = .st ((insI bs s).1.cells.map .p) ∧ ∃ G, H' = H.set id (rdO bs (insI bs s).2) ++ G) := by
  have hlt := get_lt hid
  have hl := hB.l
  have r0 := hd3_rng hB.b s 0
  have r1 := hd3_rng hB.b s 1
  have r2 := hd3_rng hB.b s 2
  have l1 := bytI_le hs 3
  have c0 : wr .i64 (hd3 bs s 0) = hd3 bs s 0 := wr64 (by omega) (by omega)
  have c2 : wr .i64 (hd3 bs s 2) = hd3 bs s 2 := wr64 (by omega) (by omega)
  have q1 : wr .i64 (wr .u8 ((hd3 bs s 1).tdiv 16)) = (hd3 bs s 1).tdiv 16 := by
    rw [Int.tdiv_eq_ediv_of_nonneg r1.1, wr_u8, wr64 (by omega) (by omega)]; omega
  have q2 : wr .i64 ((hd3 bs s 1).tmod 16) = (hd3 bs s 1).tmod 16 := by
    rw [Int.tmod_eq_emod_of_nonneg r1.1]; exact wr64 (by omega) (by omega)
  refine call92 (by simp) ?_
  simp only [go_sem, Nat.reduceEqDiff, reduceIte, ↓reduceIte, Nat.reduceAdd, List.replicate_succ, List.replicate_zero, List.set_cons_zero, List.set_cons_succ, List.length_cons, List.length_nil, Nat.reduceLT, Nat.lt_add_one, ne_eq, Int.reduceEq, not_false_eq_true, Option.map_some, Nat.reduceLeDiff, Nat.zero_lt_succ, List.map_cons, List.map_nil, List.nil_append, List.cons_append, List.append_nil, bytesOf, List.take_succ_cons, List.take_zero, List.drop_zero, and_self, List.append_assoc, List.length_append, Int.reduceLT, Int.reduceLE, Int.toNat_zero, Int.reduceToNat, Int.cast_ofNat_Int, Int.natCast_zero, Int.natCast_one, Int.reduceAdd, List.map_append, Option.bind_some, mc92, mr92]
  refine (implBytes hB hs (get_ext hid _) 3 (by omega)).mono ?_
  rintro r H1 (⟨hz, rfl, hH1⟩ | ⟨hz, rfl, hH1⟩)
  · have hlen : s.1 + 3 ≤ bs.length := by
      unfold bytI at hz
      split at hz
      · split at hz
        · simp at hz
        · omega
      · rename_i h; exact (h hz).elim
    have row : ∀ j, j < 3 → (rowsK .u8 ((bs.drop s.1).take 3))[j]? = some [.i .u8 (hd3 bs s j)] := by
      intro j hj
      have : bs[s.1 + j]? = some bs[s.1 + j] := List.getElem?_eq_getElem (by omega)
      simp [rowsK, hd3, hz, this, List.getElem?_take, hj]
    have eq1 : ∃ G, H1 = H.set id (rdO bs (bytI bs s 3)) ++ G := ⟨_, by rw [hH1, List.set_append_left _ _ hlt]⟩
    have g2 : H1[H.length]? = some (.var [.p (.i .i64 0), .p (.i .i64 0), .p (.i .i64 0), .p (.i .i64 0), .p (.i .i64 0), .p (.s [])]) := by rw [hH1]; exact get_set (get_off0 _ _) (by omega)
    have hl1 : H.length < H1.length := get_lt g2
    simp only [go_sem, Nat.reduceEqDiff, reduceIte, ↓reduceIte, Nat.reduceAdd, List.replicate_succ, List.replicate_zero, List.set_cons_zero, List.set_cons_succ, List.length_cons, List.length_nil, Nat.reduceLT, Nat.lt_add_one, ne_eq, Int.reduceEq, not_false_eq_true, Option.map_some, Nat.reduceLeDiff, Nat.zero_lt_succ, List.map_cons, List.map_nil, List.nil_append, List.cons_append, List.append_nil, bytesOf, List.take_succ_cons, List.take_zero, List.drop_zero, and_self, List.append_assoc, List.length_append, Int.reduceLT, Int.reduceLE, Int.toNat_zero, Int.reduceToNat, Int.cast_ofNat_Int, Int.natCast_zero, Int.natCast_one, Int.reduceAdd, List.map_append, Option.bind_some]
    refine drw_same ?_
    simp only [go_sem, Nat.reduceEqDiff, reduceIte, ↓reduceIte, Nat.reduceAdd, List.replicate_succ, List.replicate_zero, List.set_cons_zero, List.set_cons_succ, List.length_cons, List.length_nil, Nat.reduceLT, Nat.lt_add_one, ne_eq, Int.reduceEq, not_false_eq_true, Option.map_some, Nat.reduceLeDiff, Nat.zero_lt_succ, List.map_cons, List.map_nil, List.nil_append, List.cons_append, List.append_nil, bytesOf, List.take_succ_cons, List.take_zero, List.drop_zero, and_self, List.append_assoc, List.length_append, Int.reduceLT, Int.reduceLE, Int.toNat_zero, Int.reduceToNat, Int.cast_ofNat_Int, Int.natCast_zero, Int.natCast_one, Int.reduceAdd, List.map_append, Option.bind_some, row 0 (by omega), row 1 (by omega), row 2 (by omega), c0, c2, q1, q2]
    have i4 : I4 bs H id (bytI bs s 3) H.length (.var [.p (.i .i64 0), .p (.i .i64 0), .p (.i .i64 0), .p (.i .i64 0), .p (.i .i64 0), .p (.s [])]) H1.length (.var [.p (.i .i64 (hd3 bs s 0)), .p (.i .i64 ((hd3 bs s 1).tdiv 16)), .p (.i .i64 ((hd3 bs s 1).tmod 16)), .p (.i .i64 (hd3 bs s 2)), .p (.i .i64 0), .p (.s [])]) (H1 ++ [.var [.p (.i .i64 (hd3 bs s 0)), .p (.i .i64 ((hd3 bs s 1).tdiv 16)), .p (.i .i64 ((hd3 bs s 1).tmod 16)), .p (.i .i64 (hd3 bs s 2)), .p (.i .i64 0), .p (.s [])]]) := by
      obtain ⟨G, eG⟩ := eq1
      exact ⟨hlt, Nat.le_refl _, Nat.le_of_lt hl1, by omega, get_ext g2 _, get_off0 _ _, ⟨G ++ [.var [.p (.i .i64 (hd3 bs s 0)), .p (.i .i64 ((hd3 bs s 1).tdiv 16)), .p (.i .i64 ((hd3 bs s 1).tmod 16)), .p (.i .i64 (hd3 bs s 2)), .p (.i .i64 0), .p (.s [])]], by rw [eG, List.append_assoc]⟩⟩
    unfold insI
    clear eq1 g2 hH1
    generalize (H1 ++ [AO.var [.p (.i .i64 (hd3 bs s 0)), .p (.i .i64 ((hd3 bs s 1).tdiv 16)), .p (.i .i64 ((hd3 bs s 1).tmod 16)), .p (.i .i64 (hd3 bs s 2)), .p (.i .i64 0), .p (.s [])]]) = H2 at i4 ⊢
    generalize H1.length = q at *
    generalize hd3 bs s 0 = o at *
    generalize hd3 bs s 1 = ab at *
    generalize hd3 bs s 2 = c at *
    generalize bytI bs s 3 = s1 at *
    refine (implNum hB l1 i4.rd).mono ?_
    rintro r H3 ⟨rfl, rfl⟩
    have l2 := numD_le hB.b l1
    have i5 := i4.s1 (numD bs s1).2
    generalize H2.set id (rdO bs (numD bs s1).2) = H3 at i5 ⊢
    clear i4
    generalize numD bs s1 = n at *
    simp only [go_sem, Nat.reduceEqDiff, reduceIte, ↓reduceIte, Nat.reduceAdd, List.replicate_succ, List.replicate_zero, List.set_cons_zero, List.set_cons_succ, List.length_cons, List.length_nil, Nat.reduceLT, Nat.lt_add_one, ne_eq, Int.reduceEq, not_false_eq_true, Option.map_some, Nat.reduceLeDiff, Nat.zero_lt_succ, List.map_cons, List.map_nil, List.nil_append, List.cons_append, List.append_nil, bytesOf, List.take_succ_cons, List.take_zero, List.drop_zero, and_self, List.append_assoc, List.length_append, Int.reduceLT, Int.reduceLE, Int.toNat_zero, Int.reduceToNat, Int.cast_ofNat_Int, Int.natCast_zero, Int.natCast_one, Int.reduceAdd, List.map_append, Option.bind_some, i5.g3, Nat.add_zero]
    refine (implCount hB l2 (i5.s3 _).rd).mono ?_
    rintro r H4 ⟨rfl, rfl⟩
    have l3 := cntI_le hB.b l2
    have r3 := @cntI_rng bs n.2
    have i6 := (i5.s3 (.var [.p (.i .i64 o), .p (.i .i64 (ab.tdiv 16)), .p (.i .i64 (ab.tmod 16)), .p (.i .i64 c), .p (.i .i64 n.1), .p (.s [])])).s1 (cntI bs n.2).2
    generalize (H3.set q (.var [.p (.i .i64 o), .p (.i .i64 (ab.tdiv 16)), .p (.i .i64 (ab.tmod 16)), .p (.i .i64 c), .p (.i .i64 n.1), .p (.s [])])).set id (rdO bs (cntI bs n.2).2) = H4 at i6 ⊢
    clear i5
    generalize cntI bs n.2 = k at *
    obtain ⟨k, a, cc⟩ := k
    simp only at l3 r3 i6
    have h6 := i6.rd
    unfold rdO at h6
    by_cases hcc : cc = 0
    case neg =>
      have dc : decide (cc = 0) = false := by simp [hcc]
      have e : insF bs o ab c n.1 (k, (a, cc)) = (⟨o, ab.tdiv 16, ab.tmod 16, c, n.1, []⟩, (a, cc)) := by unfold insF; rw [if_neg hcc]
      rw [e]
      simp only [go_sem, Nat.reduceEqDiff, reduceIte, ↓reduceIte, Nat.reduceAdd, List.replicate_succ, List.replicate_zero, List.set_cons_zero, List.set_cons_succ, List.length_cons, List.length_nil, Nat.reduceLT, Nat.lt_add_one, ne_eq, Int.reduceEq, not_false_eq_true, Option.map_some, Nat.reduceLeDiff, Nat.zero_lt_succ, List.map_cons, List.map_nil, List.nil_append, List.cons_append, List.append_nil, bytesOf, List.take_succ_cons, List.take_zero, List.drop_zero, and_self, List.append_assoc, List.length_append, Int.reduceLT, Int.reduceLE, Int.toNat_zero, Int.reduceToNat, Int.cast_ofNat_Int, Int.natCast_zero, Int.natCast_one, Int.reduceAdd, List.map_append, Option.bind_some, h6, dc, i6.g3, i6.g2, set_get i6.g2]
      exact ⟨rfl, (i6.s2 _).eq⟩
    subst hcc
    have r3 := r3 rfl
    obtain ⟨m, rfl⟩ : ∃ m : Nat, k = (m : Int) := ⟨k.toNat, by omega⟩
    simp only [go_sem, Nat.reduceEqDiff, reduceIte, ↓reduceIte, Nat.reduceAdd, List.replicate_succ, List.replicate_zero, List.set_cons_zero, List.set_cons_succ, List.length_cons, List.length_nil, Nat.reduceLT, Nat.lt_add_one, ne_eq, Int.reduceEq, not_false_eq_true, Option.map_some, Nat.reduceLeDiff, Nat.zero_lt_succ, List.map_cons, List.map_nil, List.nil_append, List.cons_append, List.append_nil, bytesOf, List.take_succ_cons, List.take_zero, List.drop_zero, and_self, List.append_assoc, List.length_append, Int.reduceLT, Int.reduceLE, Int.toNat_zero, Int.reduceToNat, Int.cast_ofNat_Int, Int.natCast_zero, Int.natCast_one, Int.reduceAdd, List.map_append, Option.bind_some, h6]
    refine (implBytes hB l3 i6.rd m (by omega)).mono ?_
    rintro r H5 (⟨hy, rfl, rfl⟩ | ⟨hy, rfl, rfl⟩)
    · have e : insF bs o ab c n.1 ((m : Int), (a, 0)) = (⟨o, ab.tdiv 16, ab.tmod 16, c, n.1, strD ((bs.drop a).take m)⟩, bytI bs (a, 0) m) := by unfold insF; rw [if_pos rfl, Int.toNat_natCast, if_pos hy]
      rw [e]
      have i7 := i6.s1 (bytI bs (a, 0) m)
      generalize H4.set id (rdO bs (bytI bs (a, 0) m)) = H5 at i7 ⊢
      simp only [go_sem, Nat.reduceEqDiff, reduceIte, ↓reduceIte, Nat.reduceAdd, List.replicate_succ, List.replicate_zero, List.set_cons_zero, List.set_cons_succ, List.length_cons, List.length_nil, Nat.reduceLT, Nat.lt_add_one, ne_eq, Int.reduceEq, not_false_eq_true, Option.map_some, Nat.reduceLeDiff, Nat.zero_lt_succ, List.map_cons, List.map_nil, List.nil_append, List.cons_append, List.append_nil, bytesOf, List.take_succ_cons, List.take_zero, List.drop_zero, and_self, List.append_assoc, List.length_append, Int.reduceLT, Int.reduceLE, Int.toNat_zero, Int.reduceToNat, Int.cast_ofNat_Int, Int.natCast_zero, Int.natCast_one, Int.reduceAdd, List.map_append, Option.bind_some]
      rw [bytesOf_rows, if_pos (by simp [rowsK]; omega)]
      have i8 := i7.s3 (.var [.p (.i .i64 o), .p (.i .i64 (ab.tdiv 16)), .p (.i .i64 (ab.tmod 16)), .p (.i .i64 c), .p (.i .i64 n.1), .p (.s (strD ((bs.drop a).take m)))])
      simp only [go_sem, Nat.reduceEqDiff, reduceIte, ↓reduceIte, Nat.reduceAdd, List.replicate_succ, List.replicate_zero, List.set_cons_zero, List.set_cons_succ, List.length_cons, List.length_nil, Nat.reduceLT, Nat.lt_add_one, ne_eq, Int.reduceEq, not_false_eq_true, Option.map_some, Nat.reduceLeDiff, Nat.zero_lt_succ, List.map_cons, List.map_nil, List.nil_append, List.cons_append, List.append_nil, bytesOf, List.take_succ_cons, List.take_zero, List.drop_zero, and_self, List.append_assoc, List.length_append, Int.reduceLT, Int.reduceLE, Int.toNat_zero, Int.reduceToNat, Int.cast_ofNat_Int, Int.natCast_zero, Int.natCast_one, Int.reduceAdd, List.map_append, Option.bind_some, i7.g3, i8.g3, i8.g2, set_get i8.g2]
      exact ⟨rfl, (i8.s2 _).eq⟩
    · have e : insF bs o ab c n.1 ((m : Int), (a, 0)) = (⟨o, ab.tdiv 16, ab.tmod 16, c, n.1, strD (List.replicate (min m 3) 0)⟩, bytI bs (a, 0) m) := by unfold insF; rw [if_pos rfl, Int.toNat_natCast, if_neg hy]
      rw [e]
      have i7 := (i6.s1 (bytI bs (a, 0) m)).ext [.rows 1 0 (List.replicate (min m 3) [.p (.i .u8 0)])]
      have hg : (H4.set id (rdO bs (bytI bs (a, 0) m)) ++ [AO.rows 1 0 (List.replicate (min m 3) [.p (.i .u8 0)])])[H4.length]? = some (.rows 1 0 (List.replicate (min m 3) [.p (.i .u8 0)])) := by
        rw [List.getElem?_append_right (by simp)]; simp
      generalize (H4.set id (rdO bs (bytI bs (a, 0) m)) ++ [AO.rows 1 0 (List.replicate (min m 3) [.p (.i .u8 0)])]) = H5 at i7 hg ⊢
      simp only [go_sem, Nat.reduceEqDiff, reduceIte, ↓reduceIte, Nat.reduceAdd, List.replicate_succ, List.replicate_zero, List.set_cons_zero, List.set_cons_succ, List.length_cons, List.length_nil, Nat.reduceLT, Nat.lt_add_one, ne_eq, Int.reduceEq, not_false_eq_true, Option.map_some, Nat.reduceLeDiff, Nat.zero_lt_succ, List.map_cons, List.map_nil, List.nil_append, List.cons_append, List.append_nil, bytesOf, List.take_succ_cons, List.take_zero, List.drop_zero, and_self, List.append_assoc, List.length_append, Int.reduceLT, Int.reduceLE, Int.toNat_zero, Int.reduceToNat, Int.cast_ofNat_Int, Int.natCast_zero, Int.natCast_one, Int.reduceAdd, List.map_append, Option.bind_some, hg]
      rw [if_pos (show min m 3 ≤ (List.replicate (min m 3) [AV.p (.i .u8 0)]).length by simp), List.take_of_length_le (by simp), b2sR_some, b2s_zero (by omega)]
      have i8 := i7.s3 (.var [.p (.i .i64 o), .p (.i .i64 (ab.tdiv 16)), .p (.i .i64 (ab.tmod 16)), .p (.i .i64 c), .p (.i .i64 n.1), .p (.s (strD (List.replicate (min m 3) 0)))])
      simp only [go_sem, Nat.reduceEqDiff, reduceIte, ↓reduceIte, Nat.reduceAdd, List.replicate_succ, List.replicate_zero, List.set_cons_zero, List.set_cons_succ, List.length_cons, List.length_nil, Nat.reduceLT, Nat.lt_add_one, ne_eq, Int.reduceEq, not_false_eq_true, Option.map_some, Nat.reduceLeDiff, Nat.zero_lt_succ, List.map_cons, List.map_nil, List.nil_append, List.cons_append, List.append_nil, bytesOf, List.take_succ_cons, List.take_zero, List.drop_zero, and_self, List.append_assoc, List.length_append, Int.reduceLT, Int.reduceLE, Int.toNat_zero, Int.reduceToNat, Int.cast_ofNat_Int, Int.natCast_zero, Int.natCast_one, Int.reduceAdd, List.map_append, Option.bind_some, i7.g3, i8.g3, i8.g2, set_get i8.g2]
      exact ⟨rfl, (i8.s2 _).eq⟩
  · have z : ∀ j, hd3 bs s j = 0 := fun j => by unfold hd3; rw [if_neg hz]
    have eq1 : ∃ G, H1 = H.set id (rdO bs (bytI bs s 3)) ++ G := ⟨_, by rw [hH1, List.set_append_left _ _ hlt, List.append_assoc]⟩
    have g2 : H1[H.length]? = some (.var [.p (.i .i64 0), .p (.i .i64 0), .p (.i .i64 0), .p (.i .i64 0), .p (.i .i64 0), .p (.s [])]) := by rw [hH1]; exact get_ext (get_set (get_off0 _ _) (by omega)) _
    have hl1 : H.length < H1.length := get_lt g2
    have g4 : H1[H.length + 1]? = some (.rows 1 0 [[.p (.i .u8 0)], [.p (.i .u8 0)], [.p (.i .u8 0)]]) := by
      rw [hH1, List.getElem?_append_right (by simp)]; simp
    have w0 : wr .i64 (wr .u8 ((0 : Int).tdiv 16)) = (0 : Int).tdiv 16 := rfl
    have w1 : wr .i64 ((0 : Int).tmod 16) = (0 : Int).tmod 16 := rfl
    have w2 : wr .i64 0 = 0 := rfl
    simp only [go_sem, Nat.reduceEqDiff, reduceIte, ↓reduceIte, Nat.reduceAdd, List.replicate_succ, List.replicate_zero, List.set_cons_zero, List.set_cons_succ, List.length_cons, List.length_nil, Nat.reduceLT, Nat.lt_add_one, ne_eq, Int.reduceEq, not_false_eq_true, Option.map_some, Nat.reduceLeDiff, Nat.zero_lt_succ, List.map_cons, List.map_nil, List.nil_append, List.cons_append, List.append_nil, bytesOf, List.take_succ_cons, List.take_zero, List.drop_zero, and_self, List.append_assoc, List.length_append, Int.reduceLT, Int.reduceLE, Int.toNat_zero, Int.reduceToNat, Int.cast_ofNat_Int, Int.natCast_zero, Int.natCast_one, Int.reduceAdd, List.map_append, Option.bind_some]
    refine drw_same ?_
    simp only [go_sem, Nat.reduceEqDiff, reduceIte, ↓reduceIte, Nat.reduceAdd, List.replicate_succ, List.replicate_zero, List.set_cons_zero, List.set_cons_succ, List.length_cons, List.length_nil, Nat.reduceLT, Nat.lt_add_one, ne_eq, Int.reduceEq, not_false_eq_true, Option.map_some, Nat.reduceLeDiff, Nat.zero_lt_succ, List.map_cons, List.map_nil, List.nil_append, List.cons_append, List.append_nil, bytesOf, List.take_succ_cons, List.take_zero, List.drop_zero, and_self, List.append_assoc, List.length_append, Int.reduceLT, Int.reduceLE, Int.toNat_zero, Int.reduceToNat, Int.cast_ofNat_Int, Int.natCast_zero, Int.natCast_one, Int.reduceAdd, List.map_append, Option.bind_some, g4, w0, w1, w2]
    refine ⟨by decide, by decide, by decide, by decide, ?_⟩
    rw [show (AO.var [.p (.i .i64 0), .p (.i .i64 ((0 : Int).tdiv 16)), .p (.i .i64 ((0 : Int).tmod 16)), .p (.i .i64 0), .p (.i .i64 0), .p (.s [])]) = AO.var [.p (.i .i64 (hd3 bs s 0)), .p (.i .i64 ((hd3 bs s 1).tdiv 16)), .p (.i .i64 ((hd3 bs s 1).tmod 16)), .p (.i .i64 (hd3 bs s 2)), .p (.i .i64 0), .p (.s [])] by simp [z]]
    clear w0 w1 w2 z g4
    have i4 : I4 bs H id (bytI bs s 3) H.length (.var [.p (.i .i64 0), .p (.i .i64 0), .p (.i .i64 0), .p (.i .i64 0), .p (.i .i64 0), .p (.s [])]) H1.length (.var [.p (.i .i64 (hd3 bs s 0)), .p (.i .i64 ((hd3 bs s 1).tdiv 16)), .p (.i .i64 ((hd3 bs s 1).tmod 16)), .p (.i .i64 (hd3 bs s 2)), .p (.i .i64 0), .p (.s [])]) (H1 ++ [.var [.p (.i .i64 (hd3 bs s 0)), .p (.i .i64 ((hd3 bs s 1).tdiv 16)), .p (.i .i64 ((hd3 bs s 1).tmod 16)), .p (.i .i64 (hd3 bs s 2)), .p (.i .i64 0), .p (.s [])]]) := by
      obtain ⟨G, eG⟩ := eq1
      exact ⟨hlt, Nat.le_refl _, Nat.le_of_lt hl1, by omega, get_ext g2 _, get_off0 _ _, ⟨G ++ [.var [.p (.i .i64 (hd3 bs s 0)), .p (.i .i64 ((hd3 bs s 1).tdiv 16)), .p (.i .i64 ((hd3 bs s 1).tmod 16)), .p (.i .i64 (hd3 bs s 2)), .p (.i .i64 0), .p (.s [])]], by rw [eG, List.append_assoc]⟩⟩
    unfold insI
    clear eq1 g2 hH1
    generalize (H1 ++ [AO.var [.p (.i .i64 (hd3 bs s 0)), .p (.i .i64 ((hd3 bs s 1).tdiv 16)), .p (.i .i64 ((hd3 bs s 1).tmod 16)), .p (.i .i64 (hd3 bs s 2)), .p (.i .i64 0), .p (.s [])]]) = H2 at i4 ⊢
    generalize H1.length = q at *
    generalize hd3 bs s 0 = o at *
    generalize hd3 bs s 1 = ab at *
    generalize hd3 bs s 2 = c at *
    generalize bytI bs s 3 = s1 at *
    refine (implNum hB l1 i4.rd).mono ?_
    rintro r H3 ⟨rfl, rfl⟩
    have l2 := numD_le hB.b l1
    have i5 := i4.s1 (numD bs s1).2
    generalize H2.set id (rdO bs (numD bs s1).2) = H3 at i5 ⊢
    clear i4
    generalize numD bs s1 = n at *
    simp only [go_sem, Nat.reduceEqDiff, reduceIte, ↓reduceIte, Nat.reduceAdd, List.replicate_succ, List.replicate_zero, List.set_cons_zero, List.set_cons_succ, List.length_cons, List.length_nil, Nat.reduceLT, Nat.lt_add_one, ne_eq, Int.reduceEq, not_false_eq_true, Option.map_some, Nat.reduceLeDiff, Nat.zero_lt_succ, List.map_cons, List.map_nil, List.nil_append, List.cons_append, List.append_nil, bytesOf, List.take_succ_cons, List.take_zero, List.drop_zero, and_self, List.append_assoc, List.length_append, Int.reduceLT, Int.reduceLE, Int.toNat_zero, Int.reduceToNat, Int.cast_ofNat_Int, Int.natCast_zero, Int.natCast_one, Int.reduceAdd, List.map_append, Option.bind_some, i5.g3, Nat.add_zero]
    refine (implCount hB l2 (i5.s3 _).rd).mono ?_
    rintro r H4 ⟨rfl, rfl⟩
    have l3 := cntI_le hB.b l2
    have r3 := @cntI_rng bs n.2
    have i6 := (i5.s3 (.var [.p (.i .i64 o), .p (.i .i64 (ab.tdiv 16)), .p (.i .i64 (ab.tmod 16)), .p (.i .i64 c), .p (.i .i64 n.1), .p (.s [])])).s1 (cntI bs n.2).2
    generalize (H3.set q (.var [.p (.i .i64 o), .p (.i .i64 (ab.tdiv 16)), .p (.i .i64 (ab.tmod 16)), .p (.i .i64 c), .p (.i .i64 n.1), .p (.s [])])).set id (rdO bs (cntI bs n.2).2) = H4 at i6 ⊢
    clear i5
    generalize cntI bs n.2 = k at *
    obtain ⟨k, a, cc⟩ := k
    simp only at l3 r3 i6
    have h6 := i6.rd
    unfold rdO at h6
    by_cases hcc : cc = 0
    case neg =>
      have dc : decide (cc = 0) = false := by simp [hcc]
      have e : insF bs o ab c n.1 (k, (a, cc)) = (⟨o, ab.tdiv 16, ab.tmod 16, c, n.1, []⟩, (a, cc)) := by unfold insF; rw [if_neg hcc]
      rw [e]
      simp only [go_sem, Nat.reduceEqDiff, reduceIte, ↓reduceIte, Nat.reduceAdd, List.replicate_succ, List.replicate_zero, List.set_cons_zero, List.set_cons_succ, List.length_cons, List.length_nil, Nat.reduceLT, Nat.lt_add_one, ne_eq, Int.reduceEq, not_false_eq_true, Option.map_some, Nat.reduceLeDiff, Nat.zero_lt_succ, List.map_cons, List.map_nil, List.nil_append, List.cons_append, List.append_nil, bytesOf, List.take_succ_cons, List.take_zero, List.drop_zero, and_self, List.append_assoc, List.length_append, Int.reduceLT, Int.reduceLE, Int.toNat_zero, Int.reduceToNat, Int.cast_ofNat_Int, Int.natCast_zero, Int.natCast_one, Int.reduceAdd, List.map_append, Option.bind_some, h6, dc, i6.g3, i6.g2, set_get i6.g2]
      exact ⟨rfl, (i6.s2 _).eq⟩
    subst hcc
    have r3 := r3 rfl
    obtain ⟨m, rfl⟩ : ∃ m : Nat, k = (m : Int) := ⟨k.toNat, by omega⟩
    simp only [go_sem, Nat.reduceEqDiff, reduceIte, ↓reduceIte, Nat.reduceAdd, List.replicate_succ, List.replicate_zero, List.set_cons_zero, List.set_cons_succ, List.length_cons, List.length_nil, Nat.reduceLT, Nat.lt_add_one, ne_eq, Int.reduceEq, not_false_eq_true, Option.map_some, Nat.reduceLeDiff, Nat.zero_lt_succ, List.map_cons, List.map_nil, List.nil_append, List.cons_append, List.append_nil, bytesOf, List.take_succ_cons, List.take_zero, List.drop_zero, and_self, List.append_assoc, List.length_append, Int.reduceLT, Int.reduceLE, Int.toNat_zero, Int.reduceToNat, Int.cast_ofNat_Int, Int.natCast_zero, Int.natCast_one, Int.reduceAdd, List.map_append, Option.bind_some, h6]
    refine (implBytes hB l3 i6.rd m (by omega)).mono ?_
    rintro r H5 (⟨hy, rfl, rfl⟩ | ⟨hy, rfl, rfl⟩)
    · have e : insF bs o ab c n.1 ((m : Int), (a, 0)) = (⟨o, ab.tdiv 16, ab.tmod 16, c, n.1, strD ((bs.drop a).take m)⟩, bytI bs (a, 0) m) := by unfold insF; rw [if_pos rfl, Int.toNat_natCast, if_pos hy]
      rw [e]
      have i7 := i6.s1 (bytI bs (a, 0) m)
      generalize H4.set id (rdO bs (bytI bs (a, 0) m)) = H5 at i7 ⊢
      simp only [go_sem, Nat.reduceEqDiff, reduceIte, ↓reduceIte, Nat.reduceAdd, List.replicate_succ, List.replicate_zero, List.set_cons_zero, List.set_cons_succ, List.length_cons, List.length_nil, Nat.reduceLT, Nat.lt_add_one, ne_eq, Int.reduceEq, not_false_eq_true, Option.map_some, Nat.reduceLeDiff, Nat.zero_lt_succ, List.map_cons, List.map_nil, List.nil_append, List.cons_append, List.append_nil, bytesOf, List.take_succ_cons, List.take_zero, List.drop_zero, and_self, List.append_assoc, List.length_append, Int.reduceLT, Int.reduceLE, Int.toNat_zero, Int.reduceToNat, Int.cast_ofNat_Int, Int.natCast_zero, Int.natCast_one, Int.reduceAdd, List.map_append, Option.bind_some]
      rw [bytesOf_rows, if_pos (by simp [rowsK]; omega)]
      have i8 := i7.s3 (.var [.p (.i .i64 o), .p (.i .i64 (ab.tdiv 16)), .p (.i .i64 (ab.tmod 16)), .p (.i .i64 c), .p (.i .i64 n.1), .p (.s (strD ((bs.drop a).take m)))])
      simp only [go_sem, Nat.reduceEqDiff, reduceIte, ↓reduceIte, Nat.reduceAdd, List.replicate_succ, List.replicate_zero, List.set_cons_zero, List.set_cons_succ, List.length_cons, List.length_nil, Nat.reduceLT, Nat.lt_add_one, ne_eq, Int.reduceEq, not_false_eq_true, Option.map_some, Nat.reduceLeDiff, Nat.zero_lt_succ, List.map_cons, List.map_nil, List.nil_append, List.cons_append, List.append_nil, bytesOf, List.take_succ_cons, List.take_zero, List.drop_zero, and_self, List.append_assoc, List.length_append, Int.reduceLT, Int.reduceLE, Int.toNat_zero, Int.reduceToNat, Int.cast_ofNat_Int, Int.natCast_zero, Int.natCast_one, Int.reduceAdd, List.map_append, Option.bind_some, i7.g3, i8.g3, i8.g2, set_get i8.g2]
      exact ⟨rfl, (i8.s2 _).eq⟩
    · have e : insF bs o ab c n.1 ((m : Int), (a, 0)) = (⟨o, ab.tdiv 16, ab.tmod 16, c, n.1, strD (List.replicate (min m 3) 0)⟩, bytI bs (a, 0) m) := by unfold insF; rw [if_pos rfl, Int.toNat_natCast, if_neg hy]
      rw [e]
      have i7 := (i6.s1 (bytI bs (a, 0) m)).ext [.rows 1 0 (List.replicate (min m 3) [.p (.i .u8 0)])]
      have hg : (H4.set id (rdO bs (bytI bs (a, 0) m)) ++ [AO.rows 1 0 (List.replicate (min m 3) [.p (.i .u8 0)])])[H4.length]? = some (.rows 1 0 (List.replicate (min m 3) [.p (.i .u8 0)])) := by
        rw [List.getElem?_append_right (by simp)]; simp
      generalize (H4.set id (rdO bs (bytI bs (a, 0) m)) ++ [AO.rows 1 0 (List.replicate (min m 3) [.p (.i .u8 0)])]) = H5 at i7 hg ⊢
      simp only [go_sem, Nat.reduceEqDiff, reduceIte, ↓reduceIte, Nat.reduceAdd, List.replicate_succ, List.replicate_zero, List.set_cons_zero, List.set_cons_succ, List.length_cons, List.length_nil, Nat.reduceLT, Nat.lt_add_one, ne_eq, Int.reduceEq, not_false_eq_true, Option.map_some, Nat.reduceLeDiff, Nat.zero_lt_succ, List.map_cons, List.map_nil, List.nil_append, List.cons_append, List.append_nil, bytesOf, List.take_succ_cons, List.take_zero, List.drop_zero, and_self, List.append_assoc, List.length_append, Int.reduceLT, Int.reduceLE, Int.toNat_zero, Int.reduceToNat, Int.cast_ofNat_Int, Int.natCast_zero, Int.natCast_one, Int.reduceAdd, List.map_append, Option.bind_some, hg]
      rw [if_pos (show min m 3 ≤ (List.replicate (min m 3) [AV.p (.i .u8 0)]).length by simp), List.take_of_length_le (by simp), b2sR_some, b2s_zero (by omega)]
      have i8 := i7.s3 (.var [.p (.i .i64 o), .p (.i .i64 (ab.tdiv 16)), .p (.i .i64 (ab.tmod 16)), .p (.i .i64 c), .p (.i .i64 n.1), .p (.s (strD (List.replicate (min m 3) 0)))])
      simp only [go_sem, Nat.reduceEqDiff, reduceIte, ↓reduceIte, Nat.reduceAdd, List.replicate_succ, List.replicate_zero, List.set_cons_zero, List.set_cons_succ, List.length_cons, List.length_nil, Nat.reduceLT, Nat.lt_add_one, ne_eq, Int.reduceEq, not_false_eq_true, Option.map_some, Nat.reduceLeDiff, Nat.zero_lt_succ, List.map_cons, List.map_nil, List.nil_append, List.cons_append, List.append_nil, bytesOf, List.take_succ_cons, List.take_zero, List.drop_zero, and_self, List.append_assoc, List.length_append, Int.reduceLT, Int.reduceLE, Int.toNat_zero, Int.reduceToNat, Int.cast_ofNat_Int, Int.natCast_zero, Int.natCast_one, Int.reduceAdd, List.map_append, Option.bind_some, i7.g3, i8.g3, i8.g2, set_get i8.g2]
      exact ⟨rfl, (i8.s2 _).eq⟩
end Go.Proofs.Ytmbggdfceecojaa.Cd

/- An image read: the plain law; both readers tell the same. -/
set_option linter.all false
namespace Go.Proofs.Ytmbggdfceecojaa.Cd
open Go.AM

def foldR {α : Type} (f : RS → α × RS) : Nat → RS → List α × RS
  | 0, s => ([], s)
  | n + 1, s => if s.2 = 0 then ((f s).1 :: (foldR f n (f s).2).1, (foldR f n (f s).2).2) else ([], s)
theorem foldR_bad {α : Type} {f : RS → α × RS} {n : Nat} {s : RS} (h : s.2 ≠ 0) : foldR f n s = ([], s) := by
  cases n with
  | zero => rfl
  | succ n => rw [foldR, if_neg h]

/-- what is told of an image that is read whole -/
noncomputable def endD (bs : List Int) (zs : List Int) (xs : List InsD) (s : RS) : CodeD × Int :=
  if s.2 ≠ 0 then (⟨[], []⟩, s.2)
  else if (bs.length : Int) - s.1 < 4 then (⟨[], []⟩, 2)
  else if 4 < (bs.length : Int) - s.1 then (⟨[], []⟩, 3)
  else if sumB (bs.take s.1) ≠ bs.drop s.1 then (⟨[], []⟩, 4)
  else if codeOk ⟨xs, zs⟩ = false then (⟨[], []⟩, 5)
  else (⟨xs, zs⟩, 0)
noncomputable def getX (cnt : RS → Int × RS) (ins : RS → InsD × RS) (bs : List Int) : CodeD × Int :=
  if 200000 < bs.length then (⟨[], []⟩, 6)
  else if bs.take 3 ≠ [77, 78, 1] then (⟨[], []⟩, 1)
  else endD bs (foldR (numD bs) (cnt (3, 0)).1.toNat (cnt (cnt (3, 0)).2).2).1
    (foldR ins (cnt (cnt (3, 0)).2).1.toNat (foldR (numD bs) (cnt (3, 0)).1.toNat (cnt (cnt (3, 0)).2).2).2).1
    (foldR ins (cnt (cnt (3, 0)).2).1.toNat (foldR (numD bs) (cnt (3, 0)).1.toNat (cnt (cnt (3, 0)).2).2).2).2

theorem cnt_st (bs : List Int) (s : RS) : (cntS bs s).2 = (cntI bs s).2 := by
  unfold cntS cntI
  split
  · split <;> rfl
  · rfl
theorem cnt_eq {bs : List Int} {s : RS} (h : (cntS bs s).2.2 = 0) : cntS bs s = cntI bs s := by
  unfold cntS at h ⊢
  unfold cntI
  split at h
  · rename_i h0
    rw [if_pos h0, if_pos h0]
    split at h
    · rename_i h1; rw [if_pos h1, if_pos h1]
    · simp at h
  · rename_i h0; exact (h0 h).elim
theorem cntI_bad {bs : List Int} {s : RS} (h : s.2 ≠ 0) : (cntI bs s).2 = s := by
  unfold cntI
  rw [numD_z h, if_neg h]

theorem byteD_bad {bs : List Int} {s : RS} (h : s.2 ≠ 0) : byteD bs s = (0, s) := by unfold byteD; rw [if_neg h]
theorem byteD_ok {bs : List Int} {i : Nat} (h : i < bs.length) : byteD bs (i, 0) = (bs[i], (i + 1, 0)) := by
  unfold byteD; rw [if_pos rfl, List.getElem?_eq_getElem h]
theorem byteD_end {bs : List Int} {i : Nat} (h : bs.length ≤ i) : byteD bs (i, 0) = (0, (i, 2)) := by
  unfold byteD; rw [if_pos rfl, List.getElem?_eq_none h]

theorem ins_same {bs : List Int} {s : RS} (hs : s.2 = 0) : (insS bs s).2.2 = (insI bs s).2.2 ∧ ((insS bs s).2.2 = 0 → insS bs s = insI bs s) := by
  obtain ⟨i, c⟩ := s
  simp only at hs
  subst hs
  unfold insS insI
  by_cases h3 : i + 3 ≤ bs.length
  · have e0 : byteD bs (i, 0) = (bs[i], (i + 1, 0)) := byteD_ok (by omega)
    have e1 : byteD bs (i + 1, 0) = (bs[i + 1], (i + 2, 0)) := byteD_ok (by omega)
    have e2 : byteD bs (i + 2, 0) = (bs[i + 2], (i + 3, 0)) := byteD_ok (by omega)
    have eb : bytI bs (i, 0) 3 = (i + 3, 0) := by unfold bytI; rw [if_pos rfl, if_neg (by simp only; omega)]
    have f0 : hd3 bs (i, 0) 0 = bs[i] := by unfold hd3; rw [eb, if_pos rfl]; simp [List.getElem?_eq_getElem (show i < bs.length by omega)]
    have f1 : hd3 bs (i, 0) 1 = bs[i + 1] := by unfold hd3; rw [eb, if_pos rfl]; simp [List.getElem?_eq_getElem (show i + 1 < bs.length by omega)]
    have f2 : hd3 bs (i, 0) 2 = bs[i + 2] := by unfold hd3; rw [eb, if_pos rfl]; simp [List.getElem?_eq_getElem (show i + 2 < bs.length by omega)]
    rw [e0]
    simp only
    rw [e1]
    simp only
    rw [e2, eb, f0, f1, f2]
    simp only
    have hst := cnt_st bs (numD bs (i + 3, 0)).2
    have heq := @cnt_eq bs (numD bs (i + 3, 0)).2
    have hr := @cntS_rng bs (numD bs (i + 3, 0)).2
    by_cases hk : (cntS bs (numD bs (i + 3, 0)).2).2.2 = 0
    · rw [← heq hk]
      have hr := hr hk
      generalize cntS bs (numD bs (i + 3, 0)).2 = k at *
      obtain ⟨k, a, cc⟩ := k
      simp only at hk hr
      subst hk
      unfold insE insF
      rw [if_pos rfl, if_pos rfl]
      simp only
      by_cases hl : (bs.length : Int) - a < k
      · have eb : bytI bs (a, 0) k.toNat = (a, 2) := by unfold bytI; rw [if_pos rfl, if_pos (by simp only; omega)]
        rw [if_pos hl, eb]
        exact ⟨rfl, fun h => by simp at h⟩
      · have eb : bytI bs (a, 0) k.toNat = (a + k.toNat, 0) := by unfold bytI; rw [if_pos rfl, if_neg (by simp only; omega)]
        rw [if_neg hl, eb]
        exact ⟨rfl, fun _ => by rw [if_pos rfl]⟩
    · have hk' : (cntI bs (numD bs (i + 3, 0)).2).2.2 ≠ 0 := by rw [← hst]; exact hk
      unfold insE insF
      rw [if_neg hk, if_neg hk', hst]
      exact ⟨rfl, fun h => (hk' h).elim⟩
  · have eb : bytI bs (i, 0) 3 = (i, 2) := by unfold bytI; rw [if_pos rfl, if_pos (by simp only; omega)]
    have h2 : (byteD bs (byteD bs (byteD bs (i, 0)).2).2).2.2 = 2 := by
      rcases Nat.lt_or_ge i bs.length with g0 | g0
      · rw [byteD_ok g0]
        rcases Nat.lt_or_ge (i + 1) bs.length with g1 | g1
        · rw [byteD_ok g1, byteD_end (by omega)]
        · rw [byteD_end g1, byteD_bad (by simp)]
      · have q : byteD bs (i, 2) = (0, (i, 2)) := byteD_bad (by simp)
        simp only [byteD_end g0, q]
    generalize byteD bs (byteD bs (byteD bs (i, 0)).2).2 = q at *
    have n2 : q.2.2 ≠ 0 := by rw [h2]; simp
    have c2 : (cntS bs q.2).2 = q.2 := by rw [cnt_st, cntI_bad n2]
    have c3 : (cntI bs (i, 2)).2 = (i, 2) := cntI_bad (by simp)
    rw [numD_z n2, eb, numD_z (s := (i, 2)) (by simp)]
    unfold insE insF
    simp only
    rw [if_neg (by rw [c2]; exact n2), if_neg (by rw [c3]; simp), c2, c3]
    exact ⟨h2, fun h => (n2 h).elim⟩

theorem fold_same {bs : List Int} (n : Nat) : ∀ s : RS, (foldR (insS bs) n s).2.2 = (foldR (insI bs) n s).2.2 ∧ ((foldR (insS bs) n s).2.2 = 0 → foldR (insS bs) n s = foldR (insI bs) n s) := by
  induction n with
  | zero => intro s; exact ⟨rfl, fun _ => rfl⟩
  | succ n ih =>
    intro s
    rw [foldR, foldR]
    by_cases hs : s.2 = 0
    · rw [if_pos hs, if_pos hs]
      obtain ⟨h1, h2⟩ := @ins_same bs s hs
      by_cases hz : (insS bs s).2.2 = 0
      · rw [← h2 hz]
        obtain ⟨i1, i2⟩ := ih (insS bs s).2
        exact ⟨i1, fun h => by simp only at h; rw [i2 h]⟩
      · have hz' : (insI bs s).2.2 ≠ 0 := by rw [← h1]; exact hz
        rw [foldR_bad hz, foldR_bad hz']
        exact ⟨h1, fun h => (hz h).elim⟩
    · rw [if_neg hs, if_neg hs]
      exact ⟨rfl, fun _ => rfl⟩

theorem get_same (bs : List Int) : getX (cntS bs) (insS bs) bs = getX (cntI bs) (insI bs) bs := by
  unfold getX
  split
  · rfl
  split
  · rfl
  have bad : ∀ zs xs zs' xs' (s s' : RS), s.2 = s'.2 → s.2 ≠ 0 → endD bs zs xs s = endD bs zs' xs' s' := by
    intro zs xs zs' xs' s s' h hn
    unfold endD
    rw [if_pos hn, if_pos (by rw [← h]; exact hn), h]
  have st := cnt_st bs (3, 0)
  by_cases ha : (cntS bs (3, 0)).2.2 = 0
  · rw [← cnt_eq ha]
    generalize cntS bs (3, 0) = a at *
    have st2 := cnt_st bs a.2
    by_cases hb : (cntS bs a.2).2.2 = 0
    · rw [← cnt_eq hb]
      generalize cntS bs a.2 = b at *
      generalize foldR (numD bs) a.1.toNat b.2 = f at *
      obtain ⟨h1, h2⟩ := @fold_same bs b.1.toNat f.2
      by_cases hz : (foldR (insS bs) b.1.toNat f.2).2.2 = 0
      · rw [h2 hz]
      · exact bad _ _ _ _ _ _ h1 hz
    · have hb' : (cntI bs a.2).2.2 ≠ 0 := by rw [← st2]; exact hb
      rw [foldR_bad hb, foldR_bad hb', foldR_bad hb, foldR_bad hb']
      exact bad _ _ _ _ _ _ (by rw [st2]) hb
  · have ha' : (cntI bs (3, 0)).2.2 ≠ 0 := by rw [← st]; exact ha
    have e1 : (cntS bs (cntS bs (3, 0)).2).2 = (cntS bs (3, 0)).2 := by rw [cnt_st, cntI_bad ha]
    have e2 : (cntI bs (cntI bs (3, 0)).2).2 = (cntI bs (3, 0)).2 := cntI_bad ha'
    rw [e1, e2, foldR_bad ha, foldR_bad ha', foldR_bad ha, foldR_bad ha']
    exact bad _ _ _ _ _ _ (by rw [st]) ha
end Go.Proofs.Ytmbggdfceecojaa.Cd

/- What is reached in a code: the plain law. -/
set_option linter.all false
namespace Go.Proofs.Ytmbggdfceecojaa.Cd
open Go.AM Mc Ho

def falls (op : Int) : Prop := op ≠ 12 ∧ op ≠ 13 ∧ op ≠ 14 ∧ op ≠ 15

inductive Rch (c : CodeD) : Nat → Prop
  | zero : Rch c 0
  | jump (i : Nat) (x : InsD) (h : Rch c i) (hx : c.ins[i]? = some x) (ho : x.op = 12 ∨ x.op = 11) : Rch c x.n.toNat
  | next (i : Nat) (x : InsD) (h : Rch c i) (hx : c.ins[i]? = some x) (ho : falls x.op) : Rch c (i + 1)
  | go (i : Nat) (x : InsD) (j : Nat) (y : InsD) (s : Int) (h : Rch c i) (hx : c.ins[i]? = some x) (ho : x.op = 13) (k : Rch c j) (hy : c.ins[j]? = some y) (hq : y.op = 3) (hs : c.starts[y.n.toNat]? = some s) : Rch c s.toNat

/-- what a right code gives -/
structure WF (c : CodeD) : Prop where
  pos : 0 < c.ins.length
  le : c.ins.length ≤ 40000
  les : c.starts.length ≤ 400
  jump : ∀ (i : Nat) (x : InsD), c.ins[i]? = some x → (x.op = 12 ∨ x.op = 11) → 0 ≤ x.n ∧ x.n.toNat < c.ins.length
  lab : ∀ (i : Nat) (x : InsD), c.ins[i]? = some x → x.op = 3 → 0 ≤ x.n ∧ x.n.toNat < c.starts.length
  next : ∀ (i : Nat) (x : InsD), c.ins[i]? = some x → falls x.op → i + 1 < c.ins.length
  start : ∀ (k : Nat) (s : Int), c.starts[k]? = some s → 0 ≤ s ∧ s.toNat < c.ins.length

theorem codeOk_wf {c : CodeD} (h : codeOk c = true) : WF c := by
  unfold codeOk at h
  simp only [Bool.and_eq_true] at h
  obtain ⟨⟨⟨⟨h1, h2⟩, h3⟩, h4⟩, h5⟩ := h
  simp [inD] at h1 h2
  have hins : ∀ (i : Nat) (x : InsD), c.ins[i]? = some x → extraD c.ins.length c.starts.length x = true := by
    intro i x hx
    have := List.all_eq_true.1 h3 x (List.mem_of_getElem? hx)
    unfold insOk at this
    simp only [Bool.and_eq_true] at this
    exact this.2
  refine ⟨by omega, by omega, by omega, ?_, ?_, ?_, ?_⟩
  · intro i x hx ho
    have := hins i x hx
    unfold extraD at this
    rcases ho with ho | ho <;> simp [ho, inD] at this <;> omega
  · intro i x hx ho
    have := hins i x hx
    unfold extraD at this
    simp [ho, inD] at this
    omega
  · intro i x hx ho
    have hi := (List.getElem?_eq_some_iff.1 hx).1
    rcases Nat.lt_or_ge (i + 1) c.ins.length with hlt | hge
    · exact hlt
    · exfalso
      have e : i = c.ins.length - 1 := by omega
      subst e
      unfold lastOk at h5
      rw [hx] at h5
      obtain ⟨a, b, d, f⟩ := ho
      simp [a, b, d, f] at h5
  · intro k s hs
    have := List.all_eq_true.1 h4 s (List.mem_of_getElem? hs)
    unfold placeOk inD at this
    simp at this
    omega

def Done (c : CodeD) (seen named : List Bool) (g : Bool) (i : Nat) : Prop := ∀ x : InsD, c.ins[i]? = some x →
  ((x.op = 12 ∨ x.op = 11) → seen[x.n.toNat]? = some true) ∧ (falls x.op → seen[i + 1]? = some true) ∧ (x.op = 13 → g = true) ∧ (x.op = 3 → named[x.n.toNat]? = some true)

/-- the state of a search; E: where what follows is not yet looked at -/
structure Inv (c : CodeD) (E : Nat → Prop) (seen named : List Bool) (todo : List Nat) (g : Bool) : Prop where
  ls : seen.length = c.ins.length
  ln : named.length = c.starts.length
  z : seen[0]? = some true
  ss : ∀ i : Nat, seen[i]? = some true → Rch c i
  sn : ∀ k : Nat, named[k]? = some true → ∃ (i : Nat) (x : InsD), Rch c i ∧ c.ins[i]? = some x ∧ x.op = 3 ∧ x.n.toNat = k
  sg : g = true → ∃ (i : Nat) (x : InsD), Rch c i ∧ c.ins[i]? = some x ∧ x.op = 13
  st : ∀ i ∈ todo, seen[i]? = some true
  cc : ∀ i : Nat, seen[i]? = some true → i ∉ todo → ¬ E i → Done c seen named g i
/-- of the blocks below n -/
def Gd (c : CodeD) (seen named : List Bool) (g : Bool) (n : Nat) : Prop := ∀ k : Nat, k < n → named[k]? = some true → g = true → ∀ s : Int, c.starts[k]? = some s → seen[s.toNat]? = some true

theorem set_true {l : List Bool} {i j : Nat} (h : l[j]? = some true) : (l.set i true)[j]? = some true := by
  have hj := (List.getElem?_eq_some_iff.1 h).1
  rw [List.getElem?_set]
  split
  · rename_i e; subst e; simp [hj]
  · exact h
theorem set_inv {l : List Bool} {i j : Nat} (h : (l.set i true)[j]? = some true) : l[j]? = some true ∨ j = i := by
  rw [List.getElem?_set] at h
  split at h
  · rename_i e; exact .inr e.symm
  · exact .inl h
theorem set_at {l : List Bool} {i : Nat} (h : i < l.length) : (l.set i true)[i]? = some true := by simp [h]

theorem Done.mono {c : CodeD} {seen named : List Bool} {g : Bool} {i j k : Nat} (h : Done c seen named g i) : Done c (seen.set j true) named g i :=
  fun x hx => ⟨fun ho => set_true ((h x hx).1 ho), fun ho => set_true ((h x hx).2.1 ho), (h x hx).2.2.1, (h x hx).2.2.2⟩

theorem Inv.mark {c : CodeD} {E : Nat → Prop} {seen named : List Bool} {todo : List Nat} {g : Bool} (h : Inv c E seen named todo g) {i : Nat} (hi : i < c.ins.length) (hr : Rch c i) (hn : seen[i]? = some false) : Inv c E (seen.set i true) named (todo ++ [i]) g where
  ls := by simp [h.ls]
  ln := h.ln
  z := set_true h.z
  ss := fun j hj => (set_inv hj).elim (h.ss j) (fun e => e ▸ hr)
  sn := h.sn
  sg := h.sg
  st := fun j hj => by
    rcases List.mem_append.1 hj with hj | hj
    · exact set_true (h.st j hj)
    · simp at hj; subst hj; exact set_at (by rw [h.ls]; exact hi)
  cc := fun j hj hm he => by
    rcases set_inv hj with hj' | rfl
    · exact Done.mono (k := 0) (h.cc j hj' (fun hm' => hm (List.mem_append.2 (.inl hm'))) he)
    · exact (hm (List.mem_append.2 (.inr (by simp)))).elim
theorem Gd.mark {c : CodeD} {seen named : List Bool} {g : Bool} {n i : Nat} (h : Gd c seen named g n) : Gd c (seen.set i true) named g n :=
  fun k hk hn hg s hs => set_true (h k hk hn hg s hs)

end Go.Proofs.Ytmbggdfceecojaa.Cd

/- What is reached in a code: lists of bools and of places, as slices that are owned. -/
set_option linter.all false
namespace Go.Proofs.Ytmbggdfceecojaa.Cd
open Go.AM Mc Ho

def boolR (bs : List Bool) : List (List AV) := bs.map fun b => [.p (.b b)]
def natI (l : List Nat) : List Int := l.map Int.ofNat
theorem set_true_same {l : List Bool} {i : Nat} (h : l[i]? = some true) : l.set i true = l := by
  obtain ⟨hlt, he⟩ := List.getElem?_eq_some_iff.1 h
  rw [← he]; exact List.set_getElem_self hlt

/-- places that are owned, or nil; behind them there may be more -/
def OwnP (H : List AO) (a : AV) (zs : List Int) (lo : Nat) : Prop :=
  (a = .p .nl ∧ zs = []) ∨ ∃ id ver rs, lo ≤ id ∧ a = .gs id ver 0 zs.length ∧ H[id]? = some (.rows 1 ver rs) ∧ rs.take zs.length = intR .i64 zs ∧ zs.length ≤ rs.length

/-- what is kept: variables and what lies below lo, but for X -/
def SK (lo : Nat) (X : Nat → Prop) (H H' : List AO) : Prop :=
  (∀ (k : Nat) cs, H[k]? = some (.var cs) → ¬ X k → H'[k]? = some (.var cs)) ∧ (∀ k, k < lo → ¬ X k → H'[k]? = H[k]?) ∧ H.length ≤ H'.length
theorem SK.refl (lo X H) : SK lo X H H := ⟨fun _ _ h _ => h, fun _ _ _ => rfl, Nat.le_refl _⟩
theorem SK.app {lo : Nat} {X : Nat → Prop} {A B : List AO} (hl : lo ≤ A.length) : SK lo X A (A ++ B) :=
  ⟨fun i cs hi _ => by rw [List.getElem?_append_left (List.getElem?_eq_some_iff.1 hi).1]; exact hi, fun i hi _ => List.getElem?_append_left (by omega), by simp⟩
theorem SK.set {lo : Nat} {X : Nat → Prop} {A : List AO} {i : Nat} {o : AO} (hx : X i) : SK lo X A (A.set i o) :=
  ⟨fun k cs hk hn => by rw [List.getElem?_set_ne (fun (e : i = k) => hn (e ▸ hx))]; exact hk, fun k hk hn => List.getElem?_set_ne (fun (e : i = k) => hn (e ▸ hx)), by simp⟩

theorem OwnP.keep {lo : Nat} {X : Nat → Prop} {A B : List AO} {a : AV} {zs : List Int} (h : OwnP A a zs lo) (hk : ∀ (k : Nat) sz ver rs, A[k]? = some (.rows sz ver rs) → lo ≤ k → B[k]? = some (.rows sz ver rs)) : OwnP B a zs lo := by
  rcases h with h | ⟨id, ver, rs, h1, h2, h3, h4⟩
  · exact .inl h
  · exact .inr ⟨id, ver, rs, h1, h2, hk _ _ _ _ h3 h1, h4⟩

/-- how much is left to do -/
def cnt (seen : List Bool) (todo : List Nat) : Nat := 2 * seen.count false + todo.length
theorem count_set {l : List Bool} {i : Nat} (h : l[i]? = some false) : (l.set i true).count false + 1 = l.count false := by
  induction l generalizing i with
  | nil => simp at h
  | cons b l ih =>
    cases i with
    | zero => simp at h; subst h; simp
    | succ i =>
      have := ih (i := i) (by simpa using h)
      rw [List.set_cons_succ, List.count_cons, List.count_cons]
      omega

theorem Inv.named {c : CodeD} {E : Nat → Prop} {seen named : List Bool} {todo : List Nat} {g : Bool} (h : Inv c E seen named todo g) {i : Nat} {x : InsD} (hr : Rch c i) (hx : c.ins[i]? = some x) (ho : x.op = 3) : Inv c E seen (named.set x.n.toNat true) todo g where
  ls := h.ls
  ln := by simp [h.ln]
  z := h.z
  ss := h.ss
  sn := fun k hk => (set_inv hk).elim (h.sn k) (fun e => ⟨i, x, hr, hx, ho, e.symm⟩)
  sg := h.sg
  st := h.st
  cc := fun j hj hm he y hy => ⟨(h.cc j hj hm he y hy).1, (h.cc j hj hm he y hy).2.1, (h.cc j hj hm he y hy).2.2.1, fun ho => set_true ((h.cc j hj hm he y hy).2.2.2 ho)⟩
theorem Inv.goes {c : CodeD} {E : Nat → Prop} {seen named : List Bool} {todo : List Nat} {g : Bool} (h : Inv c E seen named todo g) {i : Nat} {x : InsD} (hr : Rch c i) (hx : c.ins[i]? = some x) (ho : x.op = 13) : Inv c E seen named todo true where
  ls := h.ls
  ln := h.ln
  z := h.z
  ss := h.ss
  sn := h.sn
  sg := fun _ => ⟨i, x, hr, hx, ho⟩
  st := h.st
  cc := fun j hj hm he y hy => ⟨(h.cc j hj hm he y hy).1, (h.cc j hj hm he y hy).2.1, fun _ => rfl, (h.cc j hj hm he y hy).2.2.2⟩
theorem Inv.done {c : CodeD} {i : Nat} {seen named : List Bool} {todo : List Nat} {g : Bool} (h : Inv c (fun k => k = i) seen named todo g) (hd : Done c seen named g i) : Inv c (fun _ => False) seen named todo g where
  ls := h.ls
  ln := h.ln
  z := h.z
  ss := h.ss
  sn := h.sn
  sg := h.sg
  st := h.st
  cc := fun j hj hm _ => by
    by_cases e : j = i
    · subst e; exact hd
    · exact h.cc j hj hm e
/-- one mark: the state behind it -/
structure Marked (c : CodeD) (E : Nat → Prop) (seen named : List Bool) (todo : List Nat) (g : Bool) (i : Nat) (seen' : List Bool) (todo' : List Nat) : Prop where
  inv : Inv c E seen' named todo' g
  at' : seen'[i]? = some true
  mono : ∀ k : Nat, seen[k]? = some true → seen'[k]? = some true
  cnt : cnt seen' todo' ≤ cnt seen todo
theorem marked {c : CodeD} {E : Nat → Prop} {seen named : List Bool} {todo : List Nat} {g : Bool} (h : Inv c E seen named todo g) {i : Nat} (hi : i < c.ins.length) (hr : Rch c i) :
    Marked c E seen named todo g i (seen.set i true) (if seen[i]? = some true then todo else todo ++ [i]) := by
  have hil : i < seen.length := by rw [h.ls]; exact hi
  by_cases hs : seen[i]? = some true
  · rw [if_pos hs, set_true_same hs]
    exact ⟨h, hs, fun _ h => h, Nat.le_refl _⟩
  · rw [if_neg hs]
    have hf : seen[i]? = some false := by
      rw [List.getElem?_eq_getElem hil] at hs ⊢
      cases hb : seen[i] with
      | true => rw [hb] at hs; exact (hs rfl).elim
      | false => rfl
    refine ⟨h.mark hi hr hf, set_at hil, fun _ h => set_true h, ?_⟩
    have := count_set hf
    unfold Cd.cnt
    simp; omega
end Go.Proofs.Ytmbggdfceecojaa.Cd

/- THE SMALL CODES of functions 5 28 29 30 31 32 80 81 82 83, and their ties to the program (printed by wip/tools/mkties.sh). -/
set_option linter.all false
namespace Go.Proofs.Ytmbggdfceecojaa.Mc
open Go.AM
end Go.Proofs.Ytmbggdfceecojaa.Mc

/- What is reached in a code: by the reference: a mark, a look. -/
set_option linter.all false
namespace Go.Proofs.Ytmbggdfceecojaa.Cd
open Go.AM Mc Ho

/-- the reference's state: at j; its lists at ids, idn; its places from lo on -/
structure WS (H : List AO) (j ids vs idn vn lo : Nat) (seen named : List Bool) (todo : List Nat) (g : Bool) : Prop where
  hj : ∃ t, H[j]? = some (.var [.gs ids vs 0 seen.length, t, .gs idn vn 0 named.length, .p (.b g)]) ∧ OwnP H t (natI todo) lo
  hs : H[ids]? = some (.rows 1 vs (boolR seen))
  hn : H[idn]? = some (.rows 1 vn (boolR named))
  ne : ids ≠ idn
  l1 : ids < lo
  l2 : idn < lo
  l3 : j < lo
  l4 : lo ≤ H.length

theorem WS.ext {H : List AO} {j ids vs idn vn lo : Nat} {seen named : List Bool} {todo : List Nat} {g : Bool} (h : WS H j ids vs idn vn lo seen named todo g) (A : List AO) : WS (H ++ A) j ids vs idn vn lo seen named todo g := by
  obtain ⟨t, h1, h2⟩ := h.hj
  exact ⟨⟨t, get_ext h1 _, h2.keep (X := fun _ => False) (fun k sz ver rs hk _ => get_ext hk _)⟩, get_ext h.hs _, get_ext h.hn _, h.ne, h.l1, h.l2, h.l3, by have := h.l4; simp; omega⟩
theorem WS.jn {H : List AO} {j ids vs idn vn lo : Nat} {seen named : List Bool} {todo : List Nat} {g : Bool} (h : WS H j ids vs idn vn lo seen named todo g) : ids ≠ j ∧ idn ≠ j := by
  obtain ⟨t, h1, _⟩ := h.hj
  exact ⟨fun e => (by have := h.hs; rw [e, h1] at this; cases this), fun e => (by have := h.hn; rw [e, h1] at this; cases this)⟩

end Go.Proofs.Ytmbggdfceecojaa.Cd

/- What is reached in a code: by the reference: a look. -/
set_option linter.all false
namespace Go.Proofs.Ytmbggdfceecojaa.Cd
open Go.AM Mc Ho

theorem WS.named {H : List AO} {j ids vs idn vn lo : Nat} {seen named : List Bool} {todo : List Nat} {g : Bool} (h : WS H j ids vs idn vn lo seen named todo g) (i : Nat) : WS (H.set idn (.rows 1 vn (boolR (named.set i true)))) j ids vs idn vn lo seen (named.set i true) todo g := by
  obtain ⟨t, h1, h2⟩ := h.hj
  obtain ⟨n1, n2⟩ := h.jn
  exact ⟨⟨t, by rw [List.length_set]; exact get_set h1 n2, h2.keep (X := fun _ => False) (fun k sz ver rs hk hlo => get_set hk (by have := h.l2; omega))⟩, get_set h.hs (fun e => h.ne e.symm), set_get h.hn, h.ne, h.l1, h.l2, h.l3, by have := h.l4; simp; omega⟩

theorem Gd.mono {c : CodeD} {seen seen' named : List Bool} {g : Bool} {n : Nat} (h : Gd c seen named g n) (hm : ∀ k : Nat, seen[k]? = some true → seen'[k]? = some true) : Gd c seen' named g n :=
  fun k hk hn hg s hs => hm _ (h k hk hn hg s hs)
theorem WS.goes {H : List AO} {j ids vs idn vn lo : Nat} {seen named : List Bool} {todo : List Nat} {g : Bool} (h : WS H j ids vs idn vn lo seen named todo g) {t : AV} (h1 : H[j]? = some (.var [.gs ids vs 0 seen.length, t, .gs idn vn 0 named.length, .p (.b g)])) (g' : Bool) :
    WS (H.set j (.var [.gs ids vs 0 seen.length, t, .gs idn vn 0 named.length, .p (.b g')])) j ids vs idn vn lo seen named todo g' := by
  obtain ⟨t', h1', h2⟩ := h.hj
  rw [h1] at h1'
  cases h1'
  obtain ⟨n1, n2⟩ := h.jn
  exact ⟨⟨t, set_get h1, h2.keep (X := fun _ => False) (fun k sz ver rs hk hlo => get_set hk (by have := h.l3; omega))⟩, get_set h.hs (fun e => n1 e.symm), get_set h.hn (fun e => n2 e.symm), h.ne, h.l1, h.l2, h.l3, by have := h.l4; simp; omega⟩

end Go.Proofs.Ytmbggdfceecojaa.Cd

/- What is reached in a code: by the reference. -/
set_option linter.all false
namespace Go.Proofs.Ytmbggdfceecojaa.Cd
open Go.AM Mc Ho

end Go.Proofs.Ytmbggdfceecojaa.Cd

/- What is reached in a code: by the program: a mark, the starts. -/
set_option linter.all false
namespace Go.Proofs.Ytmbggdfceecojaa.Cd
open Go.AM Mc Ho

/-- the program's state -/
structure IS (c : CodeD) (H : List AO) (seen named : List Bool) (todo : List Nat) (g : Bool) : Prop where
  c0 : H[0]? = some (.var [.p (.l (inss c.ins)), .p (.l (ints c.starts))])
  s1 : H[1]? = some (.rows 1 0 (boolR seen))
  o2 : H[2]? = some (.var [.gs 1 0 0 seen.length])
  n3 : H[3]? = some (.rows 1 0 (boolR named))
  n4 : H[4]? = some (.var [.gs 3 0 0 named.length])
  g5 : H[5]? = some (.var [.p (.b g)])
  l6 : ∃ t, H[6]? = some (.var [t]) ∧ OwnP H t (natI todo) 8
  r7 : H[7]? = some (.var [.clo 82 [.ptr 2 0, .ptr 6 0]])
  ln : 8 ≤ H.length

theorem IS.ext {c : CodeD} {H : List AO} {seen named : List Bool} {todo : List Nat} {g : Bool} (h : IS c H seen named todo g) (A : List AO) : IS c (H ++ A) seen named todo g := by
  obtain ⟨t, h1, h2⟩ := h.l6
  exact ⟨get_ext h.c0 _, get_ext h.s1 _, get_ext h.o2 _, get_ext h.n3 _, get_ext h.n4 _, get_ext h.g5 _, ⟨t, get_ext h1 _, h2.keep (X := fun _ => False) (fun k sz ver rs hk _ => get_ext hk _)⟩, get_ext h.r7 _, by have := h.ln; simp; omega⟩

end Go.Proofs.Ytmbggdfceecojaa.Cd

/- What is reached in a code: by the program. -/
set_option linter.all false
namespace Go.Proofs.Ytmbggdfceecojaa.Cd
open Go.AM Mc Ho

theorem IS.named {c : CodeD} {H : List AO} {seen named : List Bool} {todo : List Nat} {g : Bool} (h : IS c H seen named todo g) (i : Nat) : IS c (H.set 3 (.rows 1 0 (boolR (named.set i true)))) seen (named.set i true) todo g := by
  obtain ⟨t, h1, h2⟩ := h.l6
  exact ⟨get_set h.c0 (by omega), get_set h.s1 (by omega), get_set h.o2 (by omega), set_get h.n3, by rw [List.length_set]; exact get_set h.n4 (by omega), get_set h.g5 (by omega), ⟨t, get_set h1 (by omega), h2.keep (X := fun _ => False) (fun k sz ver rs hk hlo => get_set hk (by omega))⟩, get_set h.r7 (by omega), by have := h.ln; simp; exact this⟩
theorem IS.goes {c : CodeD} {H : List AO} {seen named : List Bool} {todo : List Nat} {g : Bool} (h : IS c H seen named todo g) (g' : Bool) : IS c (H.set 5 (.var [.p (.b g')])) seen named todo g' := by
  obtain ⟨t, h1, h2⟩ := h.l6
  exact ⟨get_set h.c0 (by omega), get_set h.s1 (by omega), get_set h.o2 (by omega), get_set h.n3 (by omega), get_set h.n4 (by omega), set_get h.g5, ⟨t, get_set h1 (by omega), h2.keep (X := fun _ => False) (fun k sz ver rs hk hlo => get_set hk (by omega))⟩, get_set h.r7 (by omega), by have := h.ln; simp; exact this⟩

end Go.Proofs.Ytmbggdfceecojaa.Cd

/- Reached: the law. -/
set_option linter.all false
namespace Go.Proofs.Ytmbggdfceecojaa.Cd
open Go.AM Mc Ho

end Go.Proofs.Ytmbggdfceecojaa.Cd

/- Trim: the plain law; marks that are still held. -/
set_option linter.all false
namespace Go.Proofs.Ytmbggdfceecojaa.Cd
open Go.AM Mc Ho

/-- how many are reached ahead of a place -/
def pos (B : List Bool) : Nat → Nat
  | 0 => 0
  | i + 1 => pos B i + (if B[i]? = some true then 1 else 0)
def kept (B : List Bool) (l : List InsD) : Nat → List InsD
  | 0 => []
  | i + 1 => kept B l i ++ (match l[i]? with | some x => if B[i]? = some true then [x] else [] | none => [])
/-! a code whose slices are owned -/
def OwnC (H : List AO) (r : AV) (t : CodeD) : Prop := ∃ a b, r = .st [a, b] ∧ OwnR H a 6 (insR t.ins) ∧ OwnR H b 1 (intR .i64 t.starts)
def OwnCAt (H : List AO) (r : AV) (t : CodeD) (lo hi : Nat) : Prop := ∃ a b, r = .st [a, b] ∧ OwnAt H a 6 (insR t.ins) lo hi ∧ OwnAt H b 1 (intR .i64 t.starts) lo hi

theorem lent_insv (l : List InsD) {H : List AO} {id ver : Nat} (hid : H[id]? = some (.rows 6 ver (insR l))) : Lent H (.gs id ver 0 l.length) (.p (.l (inss l))) := by
  refine .gs id ver 0 _ 6 _ (inss l) hid (by simp [insR]) (inss_len l) (fun y hy => by obtain ⟨z, _, rfl⟩ := List.mem_map.1 hy; rfl) ?_
  intro i r y j c q hr hy hc hq
  rw [Nat.zero_add, insR, List.getElem?_map] at hr
  rw [inss, List.getElem?_map] at hy
  cases hz : l[i]? with
  | none => rw [hz] at hr; cases hr
  | some z =>
    rw [hz] at hr hy
    cases hr; cases hy
    rw [List.getElem?_map, hq] at hc
    cases hc
    exact .pure _
theorem insR_len (l : List InsD) : (insR l).length = l.length := by simp [insR]
theorem intR_len' (k) (l : List Int) : (intR k l).length = l.length := by simp [intR]
theorem ownI_lent {H : List AO} {a : AV} {l : List InsD} (h : OwnR H a 6 (insR l)) : Lent H a (.p (.l (inss l))) := by
  rcases h with ⟨rfl, h⟩ | ⟨id, ver, rfl, h⟩
  · have : l = [] := by simpa [insR] using h
    subst this
    exact .nl
  · rw [insR_len]
    exact lent_insv l h
theorem ownZ_lent {H : List AO} {a : AV} {l : List Int} (h : OwnR H a 1 (intR .i64 l)) : Lent H a (.p (.l (ints l))) := by
  rcases h with ⟨rfl, h⟩ | ⟨id, ver, rfl, h⟩
  · have : l = [] := by simpa [intR] using h
    subst this
    exact .nl
  · rw [intR_len']
    exact lent_k .i64 l h
end Go.Proofs.Ytmbggdfceecojaa.Cd

/- THE SMALL CODES of functions 6 33 34 35 49 84, and their ties to the program (printed by wip/tools/mkties.sh). -/
set_option linter.all false
namespace Go.Proofs.Ytmbggdfceecojaa.Mc
open Go.AM
def lv35 : List Nat := [0, 1, 2, 4, 10, 16]
def mc35 : MC :=
.seq (.reg [
    ⟨.l 2, .box 2 (.l 0), none⟩,
    ⟨.l 4, .mv (.c (.p (.i .i64 0))), none⟩]) (
  .seq (.reg [
    ⟨.t 5, .fad 0 (.l 2), none⟩,
    ⟨.t 6, .ld false 1 (.t 5), none⟩,
    ⟨.t 7, .mv (.l 1), none⟩,
    ⟨.t 8, .call 84 [.t 6, .t 7], none⟩,
    ⟨.l 1, .mv (.t 8), none⟩]) (
  .seq (.seq (.reg [
    ⟨.t 9, .mv (.l 1), none⟩,
    ⟨.l 10, .bin .lss (.t 9) (.c (.p (.i .i64 0))), none⟩]) (
  .cond (.l 10) (
    .seq (.reg [
      ⟨.l 4, .mv (.c (.p (.i .i64 (-1)))), none⟩]) (
    .ret)) (
    .skip))) (
  .seq (.reg [
    ⟨.t 11, .fad 1 (.l 2), none⟩,
    ⟨.t 12, .ld false 1 (.t 11), none⟩,
    ⟨.t 13, .mv (.l 1), none⟩,
    ⟨.t 14, .call 49 [.t 12, .t 13], none⟩,
    ⟨.l 1, .mv (.t 14), none⟩]) (
  .seq (.seq (.reg [
    ⟨.t 15, .mv (.l 1), none⟩,
    ⟨.l 16, .bin .lss (.t 15) (.c (.p (.i .i64 0))), none⟩]) (
  .cond (.l 16) (
    .seq (.reg [
      ⟨.l 4, .mv (.c (.p (.i .i64 (-1)))), none⟩]) (
    .ret)) (
    .skip))) (
  .seq (.reg [
    ⟨.t 17, .mv (.l 1), none⟩,
    ⟨.l 4, .mv (.t 17), none⟩]) (
  .ret))))))
theorem mc35_eq : (Try.f35.body.map (compile lv35 Try.prog 18)) = some mc35 := by kernel_rfl
def mr35 : List MR := [.t 4]
theorem mr35_eq : cRess lv35 Try.prog Try.f35.results.toList = some mr35 := by kernel_rfl
theorem call35 {args : List AV} {H : List AO} {Q : AV → List AO → Prop} (hla : args.length ≤ 18) (h : wpm (ACall Try.prog) mc35 (finK mr35 Q) ⟨argEnv 0 args, [], H⟩) : ACall Try.prog 35 args H Q :=
  acall_mc (by kernel_rfl) Try.func35 mc35_eq Try.ntmps35 (by kernel_rfl) mr35_eq hla h
def lv49 : List Nat := [0, 1, 4, 5, 9, 17]
def mc49 : MC :=
.seq (.reg [
    ⟨.l 4, .mv (.c (.p (.i .i64 0))), none⟩]) (
  .seq (.seq (.reg [
    ⟨.l 5, .mv (.c (.p (.i .i64 0))), none⟩]) (
  .blk 0 (
    .loop (
      .seq (.seq (.reg [
        ⟨.t 6, .mv (.l 5), none⟩,
        ⟨.t 7, .mv (.l 0), none⟩,
        ⟨.t 8, .len false (.t 7), none⟩,
        ⟨.l 9, .bin .lss (.t 6) (.t 8), none⟩]) (
      .cond (.l 9) (
        .skip) (
        .exit 0))) (
      .seq (.blk 1 (
        .seq (.seq (.reg [
          ⟨.t 12, .mv (.l 0), none⟩,
          ⟨.t 13, .mv (.l 5), none⟩,
          ⟨.t 14, .ixs 1 (.t 12) (.t 13), none⟩,
          ⟨.t 15, .ld false 1 (.t 14), none⟩,
          ⟨.t 16, .mv (.l 1), none⟩,
          ⟨.l 17, .bin .neq (.t 15) (.t 16), none⟩]) (
        .cond (.l 17) (
          .seq (.reg [
            ⟨.l 4, .mv (.c (.p (.i .i64 (-1)))), none⟩]) (
          .ret)) (
          .skip))) (
        .reg [
          ⟨.t 18, .mv (.l 1), none⟩,
          ⟨.t 19, .bin .add (.t 18) (.c (.p (.i .i64 1))), none⟩,
          ⟨.l 1, .mv (.t 19), none⟩]))) (
      .reg [
        ⟨.t 10, .mv (.l 5), none⟩,
        ⟨.t 11, .bin .add (.t 10) (.c (.p (.i .i64 1))), none⟩,
        ⟨.l 5, .mv (.t 11), none⟩])))))) (
  .seq (.reg [
    ⟨.t 20, .mv (.l 1), none⟩,
    ⟨.l 4, .mv (.t 20), none⟩]) (
  .ret)))
theorem mc49_eq : (Try.f49.body.map (compile lv49 Try.prog 21)) = some mc49 := by kernel_rfl
def mr49 : List MR := [.t 4]
theorem mr49_eq : cRess lv49 Try.prog Try.f49.results.toList = some mr49 := by kernel_rfl
theorem call49 {args : List AV} {H : List AO} {Q : AV → List AO → Prop} (hla : args.length ≤ 21) (h : wpm (ACall Try.prog) mc49 (finK mr49 Q) ⟨argEnv 0 args, [], H⟩) : ACall Try.prog 49 args H Q :=
  acall_mc (by kernel_rfl) Try.func49 mc49_eq Try.ntmps49 (by kernel_rfl) mr49_eq hla h
def lv84 : List Nat := [0, 1, 4, 5, 9, 18, 27, 36, 45, 54, 64]
def mc84 : MC :=
.seq (.reg [
    ⟨.l 4, .mv (.c (.p (.i .i64 0))), none⟩]) (
  .seq (.seq (.reg [
    ⟨.l 5, .mv (.c (.p (.i .i64 0))), none⟩]) (
  .blk 0 (
    .loop (
      .seq (.seq (.reg [
        ⟨.t 6, .mv (.l 5), none⟩,
        ⟨.t 7, .mv (.l 0), none⟩,
        ⟨.t 8, .len false (.t 7), none⟩,
        ⟨.l 9, .bin .lss (.t 6) (.t 8), none⟩]) (
      .cond (.l 9) (
        .skip) (
        .exit 0))) (
      .seq (.blk 1 (
        .seq (.seq (.reg [
          ⟨.t 12, .mv (.l 0), none⟩,
          ⟨.t 13, .mv (.l 5), none⟩,
          ⟨.t 14, .ixs 6 (.t 12) (.t 13), none⟩,
          ⟨.t 15, .fad 0 (.t 14), none⟩,
          ⟨.t 16, .ld false 1 (.t 15), none⟩,
          ⟨.t 17, .mv (.l 1), none⟩,
          ⟨.l 18, .bin .neq (.t 16) (.t 17), none⟩]) (
        .cond (.l 18) (
          .seq (.reg [
            ⟨.l 4, .mv (.c (.p (.i .i64 (-1)))), none⟩]) (
          .ret)) (
          .skip))) (
        .seq (.reg [
          ⟨.t 19, .mv (.l 1), none⟩,
          ⟨.t 20, .bin .add (.t 19) (.c (.p (.i .i64 1))), none⟩,
          ⟨.l 1, .mv (.t 20), none⟩]) (
        .seq (.seq (.reg [
          ⟨.t 21, .mv (.l 0), none⟩,
          ⟨.t 22, .mv (.l 5), none⟩,
          ⟨.t 23, .ixs 6 (.t 21) (.t 22), none⟩,
          ⟨.t 24, .fad 1 (.t 23), none⟩,
          ⟨.t 25, .ld false 1 (.t 24), none⟩,
          ⟨.t 26, .mv (.l 1), none⟩,
          ⟨.l 27, .bin .neq (.t 25) (.t 26), none⟩]) (
        .cond (.l 27) (
          .seq (.reg [
            ⟨.l 4, .mv (.c (.p (.i .i64 (-1)))), none⟩]) (
          .ret)) (
          .skip))) (
        .seq (.reg [
          ⟨.t 28, .mv (.l 1), none⟩,
          ⟨.t 29, .bin .add (.t 28) (.c (.p (.i .i64 1))), none⟩,
          ⟨.l 1, .mv (.t 29), none⟩]) (
        .seq (.seq (.reg [
          ⟨.t 30, .mv (.l 0), none⟩,
          ⟨.t 31, .mv (.l 5), none⟩,
          ⟨.t 32, .ixs 6 (.t 30) (.t 31), none⟩,
          ⟨.t 33, .fad 2 (.t 32), none⟩,
          ⟨.t 34, .ld false 1 (.t 33), none⟩,
          ⟨.t 35, .mv (.l 1), none⟩,
          ⟨.l 36, .bin .neq (.t 34) (.t 35), none⟩]) (
        .cond (.l 36) (
          .seq (.reg [
            ⟨.l 4, .mv (.c (.p (.i .i64 (-1)))), none⟩]) (
          .ret)) (
          .skip))) (
        .seq (.reg [
          ⟨.t 37, .mv (.l 1), none⟩,
          ⟨.t 38, .bin .add (.t 37) (.c (.p (.i .i64 1))), none⟩,
          ⟨.l 1, .mv (.t 38), none⟩]) (
        .seq (.seq (.reg [
          ⟨.t 39, .mv (.l 0), none⟩,
          ⟨.t 40, .mv (.l 5), none⟩,
          ⟨.t 41, .ixs 6 (.t 39) (.t 40), none⟩,
          ⟨.t 42, .fad 3 (.t 41), none⟩,
          ⟨.t 43, .ld false 1 (.t 42), none⟩,
          ⟨.t 44, .mv (.l 1), none⟩,
          ⟨.l 45, .bin .neq (.t 43) (.t 44), none⟩]) (
        .cond (.l 45) (
          .seq (.reg [
            ⟨.l 4, .mv (.c (.p (.i .i64 (-1)))), none⟩]) (
          .ret)) (
          .skip))) (
        .seq (.reg [
          ⟨.t 46, .mv (.l 1), none⟩,
          ⟨.t 47, .bin .add (.t 46) (.c (.p (.i .i64 1))), none⟩,
          ⟨.l 1, .mv (.t 47), none⟩]) (
        .seq (.seq (.reg [
          ⟨.t 48, .mv (.l 0), none⟩,
          ⟨.t 49, .mv (.l 5), none⟩,
          ⟨.t 50, .ixs 6 (.t 48) (.t 49), none⟩,
          ⟨.t 51, .fad 4 (.t 50), none⟩,
          ⟨.t 52, .ld false 1 (.t 51), none⟩,
          ⟨.t 53, .mv (.l 1), none⟩,
          ⟨.l 54, .bin .neq (.t 52) (.t 53), none⟩]) (
        .cond (.l 54) (
          .seq (.reg [
            ⟨.l 4, .mv (.c (.p (.i .i64 (-1)))), none⟩]) (
          .ret)) (
          .skip))) (
        .seq (.reg [
          ⟨.t 55, .mv (.l 1), none⟩,
          ⟨.t 56, .bin .add (.t 55) (.c (.p (.i .i64 1))), none⟩,
          ⟨.l 1, .mv (.t 56), none⟩]) (
        .seq (.seq (.drw [
          ⟨.t 57, .mv (.l 0), none⟩,
          ⟨.t 58, .mv (.l 5), none⟩,
          ⟨.t 59, .ixs 6 (.t 57) (.t 58), none⟩,
          ⟨.t 60, .fad 5 (.t 59), none⟩,
          ⟨.t 61, .ld false 1 (.t 60), none⟩,
          ⟨.t 62, .mv (.l 1), none⟩,
          ⟨.t 63, .call 137 [.t 62], none⟩] [
          ⟨.l 64, .bin .neq (.t 61) (.t 63), none⟩]) (
        .cond (.l 64) (
          .seq (.reg [
            ⟨.l 4, .mv (.c (.p (.i .i64 (-1)))), none⟩]) (
          .ret)) (
          .skip))) (
        .reg [
          ⟨.t 65, .mv (.l 1), none⟩,
          ⟨.t 66, .bin .add (.t 65) (.c (.p (.i .i64 1))), none⟩,
          ⟨.l 1, .mv (.t 66), none⟩]))))))))))))) (
      .reg [
        ⟨.t 10, .mv (.l 5), none⟩,
        ⟨.t 11, .bin .add (.t 10) (.c (.p (.i .i64 1))), none⟩,
        ⟨.l 5, .mv (.t 11), none⟩])))))) (
  .seq (.reg [
    ⟨.t 67, .mv (.l 1), none⟩,
    ⟨.l 4, .mv (.t 67), none⟩]) (
  .ret)))
theorem mc84_eq : (Try.f84.body.map (compile lv84 Try.prog 68)) = some mc84 := by kernel_rfl
def mr84 : List MR := [.t 4]
theorem mr84_eq : cRess lv84 Try.prog Try.f84.results.toList = some mr84 := by kernel_rfl
theorem call84 {args : List AV} {H : List AO} {Q : AV → List AO → Prop} (hla : args.length ≤ 68) (h : wpm (ACall Try.prog) mc84 (finK mr84 Q) ⟨argEnv 0 args, [], H⟩) : ACall Try.prog 84 args H Q :=
  acall_mc (by kernel_rfl) Try.func84 mc84_eq Try.ntmps84 (by kernel_rfl) mr84_eq hla h
end Go.Proofs.Ytmbggdfceecojaa.Mc

/- Trim: marks by which a code is known, and that they are still held. -/
set_option linter.all false
namespace Go.Proofs.Ytmbggdfceecojaa.Cd
open Go.AM Mc Ho

theorem patIR_get (k : Int) (n : Nat) {i : Nat} (h : i < n) : (patIR k n)[i]? = some (patI k i) := by simp [patIR, h]
theorem patIR_len (k n) : (patIR k n).length = n := by simp [patIR]
theorem markText_pure (k : Int) (hk0 : 0 ≤ k) (hk : k ≤ 1000000000) (H : List AO) : ACall Try.prog 137 [.p (.i .i64 k)] H (pureQ (.p (.s (textD k))) H) :=
  (acall_lend (markText k hk0 hk) (fun r H' hr => by subst hr; exact grnd_s _) (lentAll_cons (.pure _) (lentAll_nil _))).mono fun r H' ⟨h1, _, h2⟩ => ⟨h2, h1⟩

theorem heldInstrS {H : List AO} {id ver : Nat} (n : Nat) (k : Int) (hid : H[id]? = some (.rows 6 ver (patIR k n))) (hn : n ≤ 1048576) (hk0 : 0 ≤ k) (hk : k ≤ 100000000) :
    ACall Try.prog 84 [.gs id ver 0 n, .p (.i .i64 k)] H (fun r H' => r = .p (.i .i64 (k + 6 * n)) ∧ H' = H) := by
  have hm : n ≤ maxL := by unfold maxL; omega
  refine call84 (by simp) ?_
  simp only [go_sem, Nat.reduceEqDiff, reduceIte, ↓reduceIte, Nat.reduceAdd, mc84, mr84]
  refine ⟨Nat, [0, 1, 4, 5], fun i st => i ≤ n ∧ st = ⟨[(0, .gs id ver 0 n), (1, .p (.i .i64 (k + 6 * i))), (4, .p (.i .i64 0)), (5, .p (.i .i64 i))], [], H⟩, fun i => n - i, ⟨0, ?_⟩, ?_⟩
  · simp only [go_sem, Nat.reduceEqDiff, reduceIte, ↓reduceIte, Nat.reduceAdd]
    exact ⟨Nat.zero_le _, by simp⟩
  · rintro i st ⟨hi, rfl⟩
    simp only [go_sem, Nat.reduceEqDiff, reduceIte, ↓reduceIte, Nat.reduceAdd]
    intro _
    refine condK_split _ (fun hc => ?_) (fun hc => ?_)
    · have hil : i < n := by simpa using hc
      have hci : (i : Int) < (n : Int) := by omega
      have e1 : wr .i64 (k + 6 * (i : Int) + 1) = k + 6 * i + 1 := wr64 (by omega) (by omega)
      have e2 : wr .i64 (k + 6 * (i : Int) + 1 + 1) = k + 6 * i + 2 := by rw [wr64 (by omega) (by omega)]; omega
      have e3 : wr .i64 (k + 6 * (i : Int) + 2 + 1) = k + 6 * i + 3 := by rw [wr64 (by omega) (by omega)]; omega
      have e4 : wr .i64 (k + 6 * (i : Int) + 3 + 1) = k + 6 * i + 4 := by rw [wr64 (by omega) (by omega)]; omega
      have e5 : wr .i64 (k + 6 * (i : Int) + 4 + 1) = k + 6 * i + 5 := by rw [wr64 (by omega) (by omega)]; omega
      have e6 : wr .i64 (k + 6 * (i : Int) + 5 + 1) = k + 6 * ((i + 1 : Nat) : Int) := by rw [wr64 (by omega) (by omega)]; omega
      simp only [go_sem, Nat.reduceEqDiff, reduceIte, ↓reduceIte, Nat.reduceAdd, List.replicate_succ, List.replicate_zero, List.set_cons_zero, List.set_cons_succ, List.length_cons, List.length_nil, Nat.reduceLT, Nat.lt_add_one, ne_eq, Int.reduceEq, not_false_eq_true, Option.map_some, Nat.reduceLeDiff, Nat.zero_lt_succ, List.map_cons, List.map_nil, List.nil_append, List.cons_append, List.append_nil, bytesOf, List.take_succ_cons, List.take_zero, List.drop_zero, and_self, List.append_assoc, List.length_append, Int.reduceLT, Int.reduceLE, Int.toNat_zero, Int.reduceToNat, Int.cast_ofNat_Int, Int.natCast_zero, Int.natCast_one, Int.reduceAdd, List.map_append, Option.bind_some, hid, patIR_get k n hil, patI, hci, e1, e2, e3, e4, e5]
      refine drw_same ?_
      simp only [go_sem, Nat.reduceEqDiff, reduceIte, ↓reduceIte, Nat.reduceAdd, List.replicate_succ, List.replicate_zero, List.set_cons_zero, List.set_cons_succ, List.length_cons, List.length_nil, Nat.reduceLT, Nat.lt_add_one, ne_eq, Int.reduceEq, not_false_eq_true, Option.map_some, Nat.reduceLeDiff, Nat.zero_lt_succ, List.map_cons, List.map_nil, List.nil_append, List.cons_append, List.append_nil, bytesOf, List.take_succ_cons, List.take_zero, List.drop_zero, and_self, List.append_assoc, List.length_append, Int.reduceLT, Int.reduceLE, Int.toNat_zero, Int.reduceToNat, Int.cast_ofNat_Int, Int.natCast_zero, Int.natCast_one, Int.reduceAdd, List.map_append, Option.bind_some, hid, patIR_get k n hil, patI, hci, e1, e2, e3, e4, e5]
      refine pcall_pure (fun A => markText_pure _ (by omega) (by omega) _) (Hext.refl _) ?_
      simp only [go_sem, Nat.reduceEqDiff, reduceIte, ↓reduceIte, Nat.reduceAdd, List.replicate_succ, List.replicate_zero, List.set_cons_zero, List.set_cons_succ, List.length_cons, List.length_nil, Nat.reduceLT, Nat.lt_add_one, ne_eq, Int.reduceEq, not_false_eq_true, Option.map_some, Nat.reduceLeDiff, Nat.zero_lt_succ, List.map_cons, List.map_nil, List.nil_append, List.cons_append, List.append_nil, bytesOf, List.take_succ_cons, List.take_zero, List.drop_zero, and_self, List.append_assoc, List.length_append, Int.reduceLT, Int.reduceLE, Int.toNat_zero, Int.reduceToNat, Int.cast_ofNat_Int, Int.natCast_zero, Int.natCast_one, Int.reduceAdd, List.map_append, Option.bind_some, e6]
      refine ⟨i + 1, ⟨hil, ?_⟩, by omega⟩
      rw [wr1 hil hm]
    · have hil : i = n := by simp at hc; omega
      simp only [go_sem, Nat.reduceEqDiff, reduceIte, ↓reduceIte, Nat.reduceAdd]
      subst hil
      rfl

def patZ (k : Int) (n : Nat) : List Int := (List.range n).map fun j => k + (j : Nat)
theorem patZ_len (k n) : (patZ k n).length = n := by simp [patZ]
theorem patZ_get (k : Int) (n : Nat) {i : Nat} (h : i < n) : (intR .i64 (patZ k n))[i]? = some [.p (.i .i64 (k + i))] := by simp [intR, patZ, h]
theorem heldIntS {H : List AO} {id ver : Nat} (n : Nat) (k : Int) (hid : H[id]? = some (.rows 1 ver (intR .i64 (patZ k n)))) (hn : n ≤ 100000000) (hk0 : 0 ≤ k) (hk : k ≤ 100000000) :
    ACall Try.prog 49 [.gs id ver 0 n, .p (.i .i64 k)] H (fun r H' => r = .p (.i .i64 (k + n)) ∧ H' = H) := by
  have hm : n ≤ maxL := by unfold maxL; omega
  refine call49 (by simp) ?_
  simp only [go_sem, Nat.reduceEqDiff, reduceIte, ↓reduceIte, Nat.reduceAdd, mc49, mr49]
  refine ⟨Nat, [0, 1, 4, 5], fun i st => i ≤ n ∧ st = ⟨[(0, .gs id ver 0 n), (1, .p (.i .i64 (k + i))), (4, .p (.i .i64 0)), (5, .p (.i .i64 i))], [], H⟩, fun i => n - i, ⟨0, ?_⟩, ?_⟩
  · simp only [go_sem, Nat.reduceEqDiff, reduceIte, ↓reduceIte, Nat.reduceAdd]
    exact ⟨Nat.zero_le _, by simp⟩
  · rintro i st ⟨hi, rfl⟩
    simp only [go_sem, Nat.reduceEqDiff, reduceIte, ↓reduceIte, Nat.reduceAdd]
    intro _
    refine condK_split _ (fun hc => ?_) (fun hc => ?_)
    · have hil : i < n := by simpa using hc
      have hci : (i : Int) < (n : Int) := by omega
      simp only [go_sem, Nat.reduceEqDiff, reduceIte, ↓reduceIte, Nat.reduceAdd, List.replicate_succ, List.replicate_zero, List.set_cons_zero, List.set_cons_succ, List.length_cons, List.length_nil, Nat.reduceLT, Nat.lt_add_one, ne_eq, Int.reduceEq, not_false_eq_true, Option.map_some, Nat.reduceLeDiff, Nat.zero_lt_succ, List.map_cons, List.map_nil, List.nil_append, List.cons_append, List.append_nil, bytesOf, List.take_succ_cons, List.take_zero, List.drop_zero, and_self, List.append_assoc, List.length_append, Int.reduceLT, Int.reduceLE, Int.toNat_zero, Int.reduceToNat, Int.cast_ofNat_Int, Int.natCast_zero, Int.natCast_one, Int.reduceAdd, List.map_append, Option.bind_some, hid, patZ_get k n hil, hci]
      refine ⟨i + 1, ⟨hil, ?_⟩, by omega⟩
      rw [wr1 hil hm, wr64 (by omega) (by omega)]
      simp only [Int.natCast_add, Int.natCast_one, Int.add_assoc]
    · have hil : i = n := by simp at hc; omega
      simp only [go_sem, Nat.reduceEqDiff, reduceIte, ↓reduceIte, Nat.reduceAdd]
      subst hil
      rfl

/-! the same, of slices that are owned -/
/-- what a call keeps that writes into one slice -/
def KeptO (a : AV) (H H' : List AO) : Prop := H'.length = H.length ∧ ∀ (j : Nat) o, H[j]? = some o → (∀ ver off n, a ≠ .gs j ver off n) → H'[j]? = some o
theorem KeptO.refl (a : AV) (H : List AO) : KeptO a H H := ⟨rfl, fun j o h _ => h⟩
theorem KeptO.at {a : AV} {H H' : List AO} (h : KeptO a H H') {sz : Nat} {rs : List (List AV)} (ha : OwnR H a sz rs) {j : Nat} {o : AO} (hj : H[j]? = some o) (hne : ∀ ver rs', o ≠ .rows sz ver rs') : H'[j]? = some o := by
  refine h.2 j o hj fun ver off n e => ?_
  rcases ha with ⟨rfl, _⟩ | ⟨id, v, rfl, h2⟩
  · cases e
  · cases e
    rw [hj] at h2; cases h2
    exact hne _ _ rfl
theorem KeptO.out {a : AV} {H H' : List AO} (h : KeptO a H H') {sz : Nat} {rs : List (List AV)} {lo hi : Nat} (ha : OwnAt H a sz rs lo hi) {j : Nat} {o : AO} (hj : H[j]? = some o) (hlt : j < lo ∨ hi ≤ j) : H'[j]? = some o := by
  refine h.2 j o hj fun ver off n e => ?_
  rcases ha with ⟨rfl, _⟩ | ⟨id, v, h0, h1, rfl, h2⟩
  · cases e
  · cases e; omega
theorem KeptO.own {a : AV} {H H' : List AO} (h : KeptO a H H') {sz sz' : Nat} {rs rs' : List (List AV)} {lo hi lo' hi' : Nat} (ha : OwnAt H a sz rs lo hi) {b : AV} (hb : OwnAt H b sz' rs' lo' hi') (hne : sz ≠ sz') : OwnAt H' b sz' rs' lo' hi' := by
  rcases hb with hb | ⟨id, v, h0, h1, e, h2⟩
  · exact .inl hb
  · exact .inr ⟨id, v, h0, h1, e, h.at ha.own h2 (fun ver rs' e => by cases e; exact hne rfl)⟩

theorem markInstrS_own {H : List AO} {a : AV} {rs : List (List AV)} {lo hi : Nat} (h : OwnAt H a 6 rs lo hi) (h6 : ∀ r ∈ rs, r.length = 6) (hn : rs.length ≤ 1048576) (k : Int) (hk0 : 0 ≤ k) (hk : k ≤ 100000000) :
    ACall Try.prog 79 [a, .p (.i .i64 k)] H (fun r H' => r = .p (.i .i64 (k + 6 * rs.length)) ∧ OwnAt H' a 6 (patIR k rs.length) lo hi ∧ KeptO a H H') := by
  rcases h with ⟨rfl, rfl⟩ | ⟨id, ver, h0, h1, rfl, h3⟩
  · refine call79 (by simp) ?_
    simp only [go_sem, Nat.reduceEqDiff, reduceIte, ↓reduceIte, Nat.reduceAdd, List.replicate_succ, List.replicate_zero, List.set_cons_zero, List.set_cons_succ, List.length_cons, List.length_nil, Nat.reduceLT, Nat.lt_add_one, ne_eq, Int.reduceEq, not_false_eq_true, Option.map_some, Nat.reduceLeDiff, Nat.zero_lt_succ, List.map_cons, List.map_nil, List.nil_append, List.cons_append, List.append_nil, bytesOf, List.take_succ_cons, List.take_zero, List.drop_zero, and_self, List.append_assoc, List.length_append, Int.reduceLT, Int.reduceLE, Int.toNat_zero, Int.reduceToNat, Int.cast_ofNat_Int, Int.natCast_zero, Int.natCast_one, Int.reduceAdd, List.map_append, Option.bind_some, mc79, mr79]
    refine ⟨Unit, [0, 1, 4, 5], fun _ st => st = ⟨[(0, .p .nl), (1, .p (.i .i64 k)), (4, .p (.i .i64 0)), (5, .p (.i .i64 0))], [], H⟩, fun _ => 0, ⟨(), ?_⟩, ?_⟩
    · simp only [go_sem, Nat.reduceEqDiff, reduceIte, ↓reduceIte, Nat.reduceAdd, List.replicate_succ, List.replicate_zero, List.set_cons_zero, List.set_cons_succ, List.length_cons, List.length_nil, Nat.reduceLT, Nat.lt_add_one, ne_eq, Int.reduceEq, not_false_eq_true, Option.map_some, Nat.reduceLeDiff, Nat.zero_lt_succ, List.map_cons, List.map_nil, List.nil_append, List.cons_append, List.append_nil, bytesOf, List.take_succ_cons, List.take_zero, List.drop_zero, and_self, List.append_assoc, List.length_append, Int.reduceLT, Int.reduceLE, Int.toNat_zero, Int.reduceToNat, Int.cast_ofNat_Int, Int.natCast_zero, Int.natCast_one, Int.reduceAdd, List.map_append, Option.bind_some]
    · rintro _ st rfl
      simp only [go_sem, Nat.reduceEqDiff, reduceIte, ↓reduceIte, Nat.reduceAdd, List.replicate_succ, List.replicate_zero, List.set_cons_zero, List.set_cons_succ, List.length_cons, List.length_nil, Nat.reduceLT, Nat.lt_add_one, ne_eq, Int.reduceEq, not_false_eq_true, Option.map_some, Nat.reduceLeDiff, Nat.zero_lt_succ, List.map_cons, List.map_nil, List.nil_append, List.cons_append, List.append_nil, bytesOf, List.take_succ_cons, List.take_zero, List.drop_zero, and_self, List.append_assoc, List.length_append, Int.reduceLT, Int.reduceLE, Int.toNat_zero, Int.reduceToNat, Int.cast_ofNat_Int, Int.natCast_zero, Int.natCast_one, Int.reduceAdd, List.map_append, Option.bind_some, Int.reduceLT, decide_false]
      exact ⟨by simp, .inl ⟨rfl, rfl⟩, KeptO.refl _ _⟩
  · refine (markInstrS rs h3 h6 hn k hk0 hk).mono ?_
    rintro r H' ⟨rfl, rfl⟩
    refine ⟨rfl, .inr ⟨id, ver, h0, h1, by rw [patIR_len], set_get h3⟩, by simp, fun j o h hj => ?_⟩
    rw [List.getElem?_set_ne (by rintro rfl; exact hj _ _ _ rfl)]; exact h
theorem markIntS_own {H : List AO} {a : AV} {rs : List (List AV)} {lo hi : Nat} (h : OwnAt H a 1 rs lo hi) (h6 : ∀ r ∈ rs, r.length = 1) (hn : rs.length ≤ 100000000) (k : Int) (hk0 : 0 ≤ k) (hk : k ≤ 100000000) :
    ACall Try.prog 48 [a, .p (.i .i64 k)] H (fun r H' => r = .p (.i .i64 (k + rs.length)) ∧ OwnAt H' a 1 (intR .i64 (patZ k rs.length)) lo hi ∧ KeptO a H H') := by
  rcases h with ⟨rfl, rfl⟩ | ⟨id, ver, h0, h1, rfl, h3⟩
  · refine call48 (by simp) ?_
    simp only [go_sem, Nat.reduceEqDiff, reduceIte, ↓reduceIte, Nat.reduceAdd, List.replicate_succ, List.replicate_zero, List.set_cons_zero, List.set_cons_succ, List.length_cons, List.length_nil, Nat.reduceLT, Nat.lt_add_one, ne_eq, Int.reduceEq, not_false_eq_true, Option.map_some, Nat.reduceLeDiff, Nat.zero_lt_succ, List.map_cons, List.map_nil, List.nil_append, List.cons_append, List.append_nil, bytesOf, List.take_succ_cons, List.take_zero, List.drop_zero, and_self, List.append_assoc, List.length_append, Int.reduceLT, Int.reduceLE, Int.toNat_zero, Int.reduceToNat, Int.cast_ofNat_Int, Int.natCast_zero, Int.natCast_one, Int.reduceAdd, List.map_append, Option.bind_some, mc48, mr48]
    refine ⟨Unit, [0, 1, 4, 5], fun _ st => st = ⟨[(0, .p .nl), (1, .p (.i .i64 k)), (4, .p (.i .i64 0)), (5, .p (.i .i64 0))], [], H⟩, fun _ => 0, ⟨(), ?_⟩, ?_⟩
    · simp only [go_sem, Nat.reduceEqDiff, reduceIte, ↓reduceIte, Nat.reduceAdd, List.replicate_succ, List.replicate_zero, List.set_cons_zero, List.set_cons_succ, List.length_cons, List.length_nil, Nat.reduceLT, Nat.lt_add_one, ne_eq, Int.reduceEq, not_false_eq_true, Option.map_some, Nat.reduceLeDiff, Nat.zero_lt_succ, List.map_cons, List.map_nil, List.nil_append, List.cons_append, List.append_nil, bytesOf, List.take_succ_cons, List.take_zero, List.drop_zero, and_self, List.append_assoc, List.length_append, Int.reduceLT, Int.reduceLE, Int.toNat_zero, Int.reduceToNat, Int.cast_ofNat_Int, Int.natCast_zero, Int.natCast_one, Int.reduceAdd, List.map_append, Option.bind_some]
    · rintro _ st rfl
      simp only [go_sem, Nat.reduceEqDiff, reduceIte, ↓reduceIte, Nat.reduceAdd, List.replicate_succ, List.replicate_zero, List.set_cons_zero, List.set_cons_succ, List.length_cons, List.length_nil, Nat.reduceLT, Nat.lt_add_one, ne_eq, Int.reduceEq, not_false_eq_true, Option.map_some, Nat.reduceLeDiff, Nat.zero_lt_succ, List.map_cons, List.map_nil, List.nil_append, List.cons_append, List.append_nil, bytesOf, List.take_succ_cons, List.take_zero, List.drop_zero, and_self, List.append_assoc, List.length_append, Int.reduceLT, Int.reduceLE, Int.toNat_zero, Int.reduceToNat, Int.cast_ofNat_Int, Int.natCast_zero, Int.natCast_one, Int.reduceAdd, List.map_append, Option.bind_some, Int.reduceLT, decide_false]
      exact ⟨by simp, .inl ⟨rfl, rfl⟩, KeptO.refl _ _⟩
  · refine (markIntS rs h3 h6 hn k hk0 hk).mono ?_
    rintro r H' ⟨rfl, rfl⟩
    refine ⟨rfl, .inr ⟨id, ver, h0, h1, by rw [intR_len', patZ_len], set_get h3⟩, by simp, fun j o h hj => ?_⟩
    rw [List.getElem?_set_ne (by rintro rfl; exact hj _ _ _ rfl)]; exact h
theorem heldInstrS_own {H : List AO} {a : AV} {n : Nat} {lo hi : Nat} (k : Int) (h : OwnAt H a 6 (patIR k n) lo hi) (hn : n ≤ 1048576) (hk0 : 0 ≤ k) (hk : k ≤ 100000000) :
    ACall Try.prog 84 [a, .p (.i .i64 k)] H (fun r H' => r = .p (.i .i64 (k + 6 * n)) ∧ H' = H) := by
  rcases h with ⟨rfl, he⟩ | ⟨id, ver, h0, h1, rfl, h3⟩
  · have hz : n = 0 := by
      have : (patIR k n).length = 0 := by rw [he]; rfl
      rw [patIR_len] at this; exact this
    subst hz
    refine call84 (by simp) ?_
    simp only [go_sem, Nat.reduceEqDiff, reduceIte, ↓reduceIte, Nat.reduceAdd, List.replicate_succ, List.replicate_zero, List.set_cons_zero, List.set_cons_succ, List.length_cons, List.length_nil, Nat.reduceLT, Nat.lt_add_one, ne_eq, Int.reduceEq, not_false_eq_true, Option.map_some, Nat.reduceLeDiff, Nat.zero_lt_succ, List.map_cons, List.map_nil, List.nil_append, List.cons_append, List.append_nil, bytesOf, List.take_succ_cons, List.take_zero, List.drop_zero, and_self, List.append_assoc, List.length_append, Int.reduceLT, Int.reduceLE, Int.toNat_zero, Int.reduceToNat, Int.cast_ofNat_Int, Int.natCast_zero, Int.natCast_one, Int.reduceAdd, List.map_append, Option.bind_some, mc84, mr84]
    refine ⟨Unit, [0, 1, 4, 5], fun _ st => st = ⟨[(0, .p .nl), (1, .p (.i .i64 k)), (4, .p (.i .i64 0)), (5, .p (.i .i64 0))], [], H⟩, fun _ => 0, ⟨(), ?_⟩, ?_⟩
    · simp only [go_sem, Nat.reduceEqDiff, reduceIte, ↓reduceIte, Nat.reduceAdd, List.replicate_succ, List.replicate_zero, List.set_cons_zero, List.set_cons_succ, List.length_cons, List.length_nil, Nat.reduceLT, Nat.lt_add_one, ne_eq, Int.reduceEq, not_false_eq_true, Option.map_some, Nat.reduceLeDiff, Nat.zero_lt_succ, List.map_cons, List.map_nil, List.nil_append, List.cons_append, List.append_nil, bytesOf, List.take_succ_cons, List.take_zero, List.drop_zero, and_self, List.append_assoc, List.length_append, Int.reduceLT, Int.reduceLE, Int.toNat_zero, Int.reduceToNat, Int.cast_ofNat_Int, Int.natCast_zero, Int.natCast_one, Int.reduceAdd, List.map_append, Option.bind_some]
    · rintro _ st rfl
      simp only [go_sem, Nat.reduceEqDiff, reduceIte, ↓reduceIte, Nat.reduceAdd, List.replicate_succ, List.replicate_zero, List.set_cons_zero, List.set_cons_succ, List.length_cons, List.length_nil, Nat.reduceLT, Nat.lt_add_one, ne_eq, Int.reduceEq, not_false_eq_true, Option.map_some, Nat.reduceLeDiff, Nat.zero_lt_succ, List.map_cons, List.map_nil, List.nil_append, List.cons_append, List.append_nil, bytesOf, List.take_succ_cons, List.take_zero, List.drop_zero, and_self, List.append_assoc, List.length_append, Int.reduceLT, Int.reduceLE, Int.toNat_zero, Int.reduceToNat, Int.cast_ofNat_Int, Int.natCast_zero, Int.natCast_one, Int.reduceAdd, List.map_append, Option.bind_some, Int.reduceLT, decide_false]
      simp
  · rw [patIR_len]
    exact heldInstrS n k h3 hn hk0 hk
theorem heldIntS_own {H : List AO} {a : AV} {n : Nat} {lo hi : Nat} (k : Int) (h : OwnAt H a 1 (intR .i64 (patZ k n)) lo hi) (hn : n ≤ 100000000) (hk0 : 0 ≤ k) (hk : k ≤ 100000000) :
    ACall Try.prog 49 [a, .p (.i .i64 k)] H (fun r H' => r = .p (.i .i64 (k + n)) ∧ H' = H) := by
  rcases h with ⟨rfl, he⟩ | ⟨id, ver, h0, h1, rfl, h3⟩
  · have hz : n = 0 := by
      have : (intR .i64 (patZ k n)).length = 0 := by rw [he]; rfl
      rw [intR_len', patZ_len] at this; exact this
    subst hz
    refine call49 (by simp) ?_
    simp only [go_sem, Nat.reduceEqDiff, reduceIte, ↓reduceIte, Nat.reduceAdd, List.replicate_succ, List.replicate_zero, List.set_cons_zero, List.set_cons_succ, List.length_cons, List.length_nil, Nat.reduceLT, Nat.lt_add_one, ne_eq, Int.reduceEq, not_false_eq_true, Option.map_some, Nat.reduceLeDiff, Nat.zero_lt_succ, List.map_cons, List.map_nil, List.nil_append, List.cons_append, List.append_nil, bytesOf, List.take_succ_cons, List.take_zero, List.drop_zero, and_self, List.append_assoc, List.length_append, Int.reduceLT, Int.reduceLE, Int.toNat_zero, Int.reduceToNat, Int.cast_ofNat_Int, Int.natCast_zero, Int.natCast_one, Int.reduceAdd, List.map_append, Option.bind_some, mc49, mr49]
    refine ⟨Unit, [0, 1, 4, 5], fun _ st => st = ⟨[(0, .p .nl), (1, .p (.i .i64 k)), (4, .p (.i .i64 0)), (5, .p (.i .i64 0))], [], H⟩, fun _ => 0, ⟨(), ?_⟩, ?_⟩
    · simp only [go_sem, Nat.reduceEqDiff, reduceIte, ↓reduceIte, Nat.reduceAdd, List.replicate_succ, List.replicate_zero, List.set_cons_zero, List.set_cons_succ, List.length_cons, List.length_nil, Nat.reduceLT, Nat.lt_add_one, ne_eq, Int.reduceEq, not_false_eq_true, Option.map_some, Nat.reduceLeDiff, Nat.zero_lt_succ, List.map_cons, List.map_nil, List.nil_append, List.cons_append, List.append_nil, bytesOf, List.take_succ_cons, List.take_zero, List.drop_zero, and_self, List.append_assoc, List.length_append, Int.reduceLT, Int.reduceLE, Int.toNat_zero, Int.reduceToNat, Int.cast_ofNat_Int, Int.natCast_zero, Int.natCast_one, Int.reduceAdd, List.map_append, Option.bind_some]
    · rintro _ st rfl
      simp only [go_sem, Nat.reduceEqDiff, reduceIte, ↓reduceIte, Nat.reduceAdd, List.replicate_succ, List.replicate_zero, List.set_cons_zero, List.set_cons_succ, List.length_cons, List.length_nil, Nat.reduceLT, Nat.lt_add_one, ne_eq, Int.reduceEq, not_false_eq_true, Option.map_some, Nat.reduceLeDiff, Nat.zero_lt_succ, List.map_cons, List.map_nil, List.nil_append, List.cons_append, List.append_nil, bytesOf, List.take_succ_cons, List.take_zero, List.drop_zero, and_self, List.append_assoc, List.length_append, Int.reduceLT, Int.reduceLE, Int.toNat_zero, Int.reduceToNat, Int.cast_ofNat_Int, Int.natCast_zero, Int.natCast_one, Int.reduceAdd, List.map_append, Option.bind_some, Int.reduceLT, decide_false]
      simp
  · rw [intR_len', patZ_len]
    exact heldIntS n k h3 hn hk0 hk

/-- a code that is marked -/
def PatAt (H : List AO) (r : AV) (m n : Nat) (lo hi : Nat) : Prop := ∃ a b, r = .st [a, b] ∧ OwnAt H a 6 (patIR 1 m) lo hi ∧ OwnAt H b 1 (intR .i64 (patZ (1 + 6 * m) n)) lo hi

theorem markCodeO {t : CodeD} (hs : small t) {H : List AO} {r : AV} {lo hi : Nat} (hh : hi ≤ H.length) (h : OwnCAt H r t lo hi) :
    ACall Try.prog 25 [r, .p (.i .i64 1)] H (fun q H' => q = .p (.i .i64 (1 + 6 * t.ins.length + t.starts.length)) ∧ PatAt H' r t.ins.length t.starts.length lo hi ∧ H.length ≤ H'.length ∧ ∀ (j : Nat) o, H[j]? = some o → j < lo ∨ hi ≤ j → H'[j]? = some o) := by
  unfold small at hs
  obtain ⟨a, b, rfl, ha, hb⟩ := h
  refine call25 (by simp) ?_
  simp only [go_sem, Nat.reduceEqDiff, reduceIte, ↓reduceIte, Nat.reduceAdd, List.replicate_succ, List.replicate_zero, List.set_cons_zero, List.set_cons_succ, List.length_cons, List.length_nil, Nat.reduceLT, Nat.lt_add_one, ne_eq, Int.reduceEq, not_false_eq_true, Option.map_some, Nat.reduceLeDiff, Nat.zero_lt_succ, List.map_cons, List.map_nil, List.nil_append, List.cons_append, List.append_nil, bytesOf, List.take_succ_cons, List.take_zero, List.drop_zero, and_self, List.append_assoc, List.length_append, Int.reduceLT, Int.reduceLE, Int.toNat_zero, Int.reduceToNat, Int.cast_ofNat_Int, Int.natCast_zero, Int.natCast_one, Int.reduceAdd, List.map_append, Option.bind_some, mc25, mr25]
  have ha1 := ha.ext [AO.var [a, b]]
  have hb1 := hb.ext [AO.var [a, b]]
  have hv1 : (H ++ [AO.var [a, b]])[H.length]? = some (.var [a, b]) := get_off0 _ _
  have hk1 : ∀ (j : Nat) o, H[j]? = some o → (H ++ [AO.var [a, b]])[j]? = some o := fun j o h => get_ext h _
  have hl1 : (H ++ [AO.var [a, b]]).length = H.length + 1 := by simp
  generalize H ++ [AO.var [a, b]] = H1 at ha1 hb1 hv1 hk1 hl1 ⊢
  refine (markInstrS_own ha1 (insR_len6 _) (by rw [insR_len]; omega) 1 (by omega) (by omega)).mono ?_
  rintro r H2 ⟨rfl, ha2, hk2⟩
  have hv2 := hk2.at ha1.own hv1 (fun _ _ e => by cases e)
  have hb2 := hk2.own ha1 hb1 (by omega)
  rw [insR_len] at ha2 ⊢
  simp only [go_sem, Nat.reduceEqDiff, reduceIte, ↓reduceIte, Nat.reduceAdd, List.replicate_succ, List.replicate_zero, List.set_cons_zero, List.set_cons_succ, List.length_cons, List.length_nil, Nat.reduceLT, Nat.lt_add_one, ne_eq, Int.reduceEq, not_false_eq_true, Option.map_some, Nat.reduceLeDiff, Nat.zero_lt_succ, List.map_cons, List.map_nil, List.nil_append, List.cons_append, List.append_nil, bytesOf, List.take_succ_cons, List.take_zero, List.drop_zero, and_self, List.append_assoc, List.length_append, Int.reduceLT, Int.reduceLE, Int.toNat_zero, Int.reduceToNat, Int.cast_ofNat_Int, Int.natCast_zero, Int.natCast_one, Int.reduceAdd, List.map_append, Option.bind_some, hv2]
  refine (markIntS_own hb2 (intR_len1 _ _) (by rw [intR_len']; omega) (1 + 6 * (t.ins.length : Int)) (by omega) (by omega)).mono ?_
  rintro r H3 ⟨rfl, hb3, hk3⟩
  have ha3 := hk3.own hb2 ha2 (by omega)
  rw [intR_len'] at hb3 ⊢
  simp only [go_sem, Nat.reduceEqDiff, reduceIte, ↓reduceIte, Nat.reduceAdd, List.replicate_succ, List.replicate_zero, List.set_cons_zero, List.set_cons_succ, List.length_cons, List.length_nil, Nat.reduceLT, Nat.lt_add_one, ne_eq, Int.reduceEq, not_false_eq_true, Option.map_some, Nat.reduceLeDiff, Nat.zero_lt_succ, List.map_cons, List.map_nil, List.nil_append, List.cons_append, List.append_nil, bytesOf, List.take_succ_cons, List.take_zero, List.drop_zero, and_self, List.append_assoc, List.length_append, Int.reduceLT, Int.reduceLE, Int.toNat_zero, Int.reduceToNat, Int.cast_ofNat_Int, Int.natCast_zero, Int.natCast_one, Int.reduceAdd, List.map_append, Option.bind_some]
  refine ⟨⟨a, b, rfl, ha3, hb3⟩, by rw [hk3.1, hk2.1, hl1]; omega, fun j o hj hlt => ?_⟩
  exact hk3.out hb2 (hk2.out ha1 (hk1 j o hj) hlt) hlt

theorem heldCodeO {m n : Nat} (hm : m + n ≤ 1048576) {H : List AO} {r : AV} {lo hi : Nat} (h : PatAt H r m n lo hi) :
    ACall Try.prog 35 [r, .p (.i .i64 1)] H (fun q H' => q = .p (.i .i64 (1 + 6 * m + n)) ∧ ∃ o, H' = H ++ [o]) := by
  obtain ⟨a, b, rfl, ha, hb⟩ := h
  refine call35 (by simp) ?_
  simp only [go_sem, Nat.reduceEqDiff, reduceIte, ↓reduceIte, Nat.reduceAdd, List.replicate_succ, List.replicate_zero, List.set_cons_zero, List.set_cons_succ, List.length_cons, List.length_nil, Nat.reduceLT, Nat.lt_add_one, ne_eq, Int.reduceEq, not_false_eq_true, Option.map_some, Nat.reduceLeDiff, Nat.zero_lt_succ, List.map_cons, List.map_nil, List.nil_append, List.cons_append, List.append_nil, bytesOf, List.take_succ_cons, List.take_zero, List.drop_zero, and_self, List.append_assoc, List.length_append, Int.reduceLT, Int.reduceLE, Int.toNat_zero, Int.reduceToNat, Int.cast_ofNat_Int, Int.natCast_zero, Int.natCast_one, Int.reduceAdd, List.map_append, Option.bind_some, mc35, mr35]
  have ha1 := ha.ext [AO.var [a, b]]
  have hb1 := hb.ext [AO.var [a, b]]
  refine (heldInstrS_own 1 ha1 (by omega) (by omega) (by omega)).mono ?_
  rintro r H2 ⟨rfl, rfl⟩
  have n1 : decide ((1 + 6 * (m : Int)) < 0) = false := by simp; omega
  have n2 : decide ((1 + 6 * (m : Int) + n) < 0) = false := by simp; omega
  simp only [go_sem, Nat.reduceEqDiff, reduceIte, ↓reduceIte, Nat.reduceAdd, List.replicate_succ, List.replicate_zero, List.set_cons_zero, List.set_cons_succ, List.length_cons, List.length_nil, Nat.reduceLT, Nat.lt_add_one, ne_eq, Int.reduceEq, not_false_eq_true, Option.map_some, Nat.reduceLeDiff, Nat.zero_lt_succ, List.map_cons, List.map_nil, List.nil_append, List.cons_append, List.append_nil, bytesOf, List.take_succ_cons, List.take_zero, List.drop_zero, and_self, List.append_assoc, List.length_append, Int.reduceLT, Int.reduceLE, Int.toNat_zero, Int.reduceToNat, Int.cast_ofNat_Int, Int.natCast_zero, Int.natCast_one, Int.reduceAdd, List.map_append, Option.bind_some, n1]
  refine (heldIntS_own (1 + 6 * (m : Int)) hb1 (by omega) (by omega) (by omega)).mono ?_
  rintro r H2 ⟨rfl, rfl⟩
  simp only [go_sem, Nat.reduceEqDiff, reduceIte, ↓reduceIte, Nat.reduceAdd, List.replicate_succ, List.replicate_zero, List.set_cons_zero, List.set_cons_succ, List.length_cons, List.length_nil, Nat.reduceLT, Nat.lt_add_one, ne_eq, Int.reduceEq, not_false_eq_true, Option.map_some, Nat.reduceLeDiff, Nat.zero_lt_succ, List.map_cons, List.map_nil, List.nil_append, List.cons_append, List.append_nil, bytesOf, List.take_succ_cons, List.take_zero, List.drop_zero, and_self, List.append_assoc, List.length_append, Int.reduceLT, Int.reduceLE, Int.toNat_zero, Int.reduceToNat, Int.cast_ofNat_Int, Int.natCast_zero, Int.natCast_one, Int.reduceAdd, List.map_append, Option.bind_some, n2]
  exact ⟨_, rfl⟩
end Go.Proofs.Ytmbggdfceecojaa.Cd

/- Trim: by the reference. -/
set_option linter.all false
namespace Go.Proofs.Ytmbggdfceecojaa.Cd
open Go.AM Mc Ho

/-- rows are appended to what lies from lo on -/
theorem app_at {K : St → Prop} {L T : En} {H : List AO} {d : MD} {sz bytes : Nat} {a : AV} {rs ys : List (List AV)} {lo hi : Nat} (h : OwnAt H a sz rs lo hi) (hlo : lo ≤ H.length)
    (hb : (rs.length + ys.length) * bytes ≤ 140737488355328) (hl : rs.length + ys.length ≤ 140737488355328)
    (k : ∀ id ver H', lo ≤ id → id < H'.length → H'[id]? = some (.rows sz ver (rs ++ ys)) → SK lo (fun _ => False) H H' → (∀ (j sz' ver' : Nat) rs', sz' ≠ sz → H[j]? = some (.rows sz' ver' rs') → H'[j]? = some (.rows sz' ver' rs')) →
      K (St.put ⟨L, T, H'⟩ d (.gs id ver 0 (rs.length + ys.length)))) : appX sz bytes a ys d K ⟨L, T, H⟩ := by
  rcases h with ⟨rfl, rfl⟩ | ⟨id, ver, h0, h1, rfl, h3⟩
  · refine ⟨by simpa using hb, by simpa using hl, ?_⟩
    have := k H.length 0 (H ++ [.rows sz 0 ys]) hlo (by simp) (by simp) (SK.app hlo) (fun j sz' ver' rs' _ hj => get_ext hj _)
    rw [List.length_nil, Nat.zero_add] at this
    exact this
  · show appR sz bytes id ver 0 rs.length ys d K ⟨L, T, H⟩ H[id]?
    rw [h3]
    refine ⟨rfl, rfl, rfl, Nat.le_refl _, hb, hl, ?_⟩
    rw [List.take_length]
    have hlt := get_lt h3
    refine k id (ver + 1) _ h0 (by simpa using hlt) (set_get h3) ⟨fun k cs hk _ => ?_, fun k hk _ => ?_, by simp⟩ (fun j sz' ver' rs' hne hj => ?_)
    · have : id ≠ k := by rintro rfl; rw [h3] at hk; cases hk
      rw [List.getElem?_set_ne this]; exact hk
    · exact List.getElem?_set_ne (by omega)
    · have : id ≠ j := by rintro rfl; rw [h3] at hj; cases hj; exact hne rfl
      rw [List.getElem?_set_ne this]; exact hj

def posL (B : List Bool) (i : Nat) : List Int := (List.range i).map fun j => ((pos B j : Nat) : Int)
theorem insR_app (a b : List InsD) : insR a ++ insR b = insR (a ++ b) := by simp [insR]

/-- what stands while the new code is made -/
structure TB (c : CodeD) (B : List Bool) (sid sver tid tver P : Nat) (H : List AO) : Prop where
  v0 : H[0]? = some (.var [.p (.l (inss c.ins)), .p (.l (ints c.starts))])
  v1 : H[1]? = some (.var [.p .nl, .p .nl])
  sn : H[sid]? = some (.rows 1 sver (boolR B))
  to : H[tid]? = some (.rows 1 tver (intR .i64 (posL B c.ins.length)))
  l1 : 1 < P
  ls : sid < P
  lt : tid < P
  le : P < H.length
theorem TB.sk {c B sid sver tid tver P} {H H' : List AO} (h : TB c B sid sver tid tver P H) (k : SK P (fun _ => False) H H') : TB c B sid sver tid tver P H' where
  v0 := k.1 _ _ h.v0 (fun f => f)
  v1 := k.1 _ _ h.v1 (fun f => f)
  sn := by rw [k.2.1 _ h.ls (fun f => f)]; exact h.sn
  to := by rw [k.2.1 _ h.lt (fun f => f)]; exact h.to
  l1 := h.l1
  ls := h.ls
  lt := h.lt
  le := Nat.lt_of_lt_of_le h.le k.2.2
theorem TB.ext {c B sid sver tid tver P} {H : List AO} (h : TB c B sid sver tid tver P H) (A : List AO) : TB c B sid sver tid tver P (H ++ A) := h.sk (SK.app (Nat.le_of_lt h.le))
theorem TB.set {c B sid sver tid tver P} {H : List AO} (h : TB c B sid sver tid tver P H) {j : Nat} (o : AO) (hj : P ≤ j) : TB c B sid sver tid tver P (H.set j o) where
  v0 := get_set h.v0 (by have := h.l1; omega)
  v1 := get_set h.v1 (by have := h.l1; omega)
  sn := get_set h.sn (by have := h.ls; omega)
  to := get_set h.to (by have := h.lt; omega)
  l1 := h.l1
  ls := h.ls
  lt := h.lt
  le := by simpa using h.le
theorem _root_.Go.AM.OwnAt.wk {H : List AO} {a : AV} {sz : Nat} {rs : List (List AV)} {lo hi hi' : Nat} (h : OwnAt H a sz rs lo hi) (hh : hi ≤ hi') : OwnAt H a sz rs lo hi' := by
  rcases h with h | ⟨id, ver, h0, h1, h2, h3⟩
  · exact .inl h
  · exact .inr ⟨id, ver, h0, by omega, h2, h3⟩
theorem _root_.Go.AM.OwnAt.put {H : List AO} {a : AV} {sz : Nat} {rs : List (List AV)} {lo hi j : Nat} {cs : List AV} (h : OwnAt H a sz rs lo hi) (hj : H[j]? = some (.var cs)) (o : AO) : OwnAt (H.set j o) a sz rs lo hi := by
  rcases h with h | ⟨id, ver, h0, h1, h2, h3⟩
  · exact .inl h
  · exact .inr ⟨id, ver, h0, h1, h2, get_set h3 (by rintro rfl; rw [hj] at h3; cases h3)⟩
end Go.Proofs.Ytmbggdfceecojaa.Cd

/- An image read: what stands while it is read. -/
set_option linter.all false
namespace Go.Proofs.Ytmbggdfceecojaa.Cd
open Go.AM Mc Ho

structure GI (bs : List Int) (r o : Nat) (s : RS) (a b : AV) (xs : List InsD) (zs : List Int) (H : List AO) : Prop where
  lt : r < o
  vk : ∀ j, j < r → H[j]? = some (.var [.p .nl, .p .nl])
  rd : H[r]? = some (rdO bs s)
  out : H[o]? = some (.var [a, b])
  oa : OwnAt H a 6 (insR xs) (o + 1) H.length
  ob : OwnAt H b 1 (intR .i64 zs) (o + 1) H.length
theorem GI.le {bs r o s a b xs zs H} (h : GI bs r o s a b xs zs H) : o + 1 ≤ H.length := get_lt h.out
theorem GI.rds {bs r o s a b xs zs H} (h : GI bs r o s a b xs zs H) (s' : RS) : GI bs r o s' a b xs zs (H.set r (rdO bs s')) where
  lt := h.lt
  vk := fun j hj => get_set (h.vk j hj) (by omega)
  rd := set_get h.rd
  out := get_set h.out (by have := h.lt; omega)
  oa := (h.oa.put (by exact h.rd) _).wk (by simp)
  ob := (h.ob.put (by exact h.rd) _).wk (by simp)
theorem GI.putB {bs r o s a b xs zs H} (h : GI bs r o s a b xs zs H) (A : List AO) {id ver : Nat} {H' : List AO} {zs' : List Int} (q0 : o + 1 ≤ id) (q1 : id < H'.length) (q2 : H'[id]? = some (.rows 1 ver (intR .i64 zs')))
    (q3 : SK (o + 1) (fun _ => False) (H ++ A) H') (q4 : ∀ (j sz' ver' : Nat) rs', sz' ≠ 1 → (H ++ A)[j]? = some (.rows sz' ver' rs') → H'[j]? = some (.rows sz' ver' rs')) :
    GI bs r o s a (.gs id ver 0 (intR .i64 zs').length) xs zs' (H'.set o (.var [a, .gs id ver 0 (intR .i64 zs').length])) := by
  have hl := h.lt
  have ho := q3.1 o _ (get_ext h.out A) (fun f => f)
  have hle := q3.2.2
  simp at hle
  refine ⟨hl, fun j hj => ?_, ?_, set_get ho, ?_, ?_⟩
  · exact get_set (q3.1 j _ (get_ext (h.vk j hj) A) (fun f => f)) (by omega)
  · exact get_set (q3.1 r _ (get_ext h.rd A) (fun f => f)) (by omega)
  · refine OwnAt.wk (OwnAt.put ?_ ho _) (hi := H'.length) (by simp)
    rcases h.oa with h | ⟨i6, v6, z0, z1, z2, z3⟩
    · exact .inl h
    · exact .inr ⟨i6, v6, z0, by omega, z2, q4 _ _ _ _ (by omega) (get_ext z3 A)⟩
  · refine OwnAt.wk (OwnAt.put (.inr ⟨id, ver, q0, q1, rfl, q2⟩) ho _) (hi := H'.length) (by simp)
theorem GI.putA {bs r o s a b xs zs H} (h : GI bs r o s a b xs zs H) (A : List AO) {id ver : Nat} {H' : List AO} {xs' : List InsD} (q0 : o + 1 ≤ id) (q1 : id < H'.length) (q2 : H'[id]? = some (.rows 6 ver (insR xs')))
    (q3 : SK (o + 1) (fun _ => False) (H ++ A) H') (q4 : ∀ (j sz' ver' : Nat) rs', sz' ≠ 6 → (H ++ A)[j]? = some (.rows sz' ver' rs') → H'[j]? = some (.rows sz' ver' rs')) :
    GI bs r o s (.gs id ver 0 (insR xs').length) b xs' zs (H'.set o (.var [.gs id ver 0 (insR xs').length, b])) := by
  have hl := h.lt
  have ho := q3.1 o _ (get_ext h.out A) (fun f => f)
  have hle := q3.2.2
  simp at hle
  refine ⟨hl, fun j hj => ?_, ?_, set_get ho, ?_, ?_⟩
  · exact get_set (q3.1 j _ (get_ext (h.vk j hj) A) (fun f => f)) (by omega)
  · exact get_set (q3.1 r _ (get_ext h.rd A) (fun f => f)) (by omega)
  · refine OwnAt.wk (OwnAt.put (.inr ⟨id, ver, q0, q1, rfl, q2⟩) ho _) (hi := H'.length) (by simp)
  · refine OwnAt.wk (OwnAt.put ?_ ho _) (hi := H'.length) (by simp)
    rcases h.ob with h | ⟨i6, v6, z0, z1, z2, z3⟩
    · exact .inl h
    · exact .inr ⟨i6, v6, z0, by omega, z2, q4 _ _ _ _ (by omega) (get_ext z3 A)⟩

/-- the readers' calls, where their order is drawn -/
theorem set_app {H : List AO} {r : Nat} {o : AO} (h : r < H.length) (A : List AO) : (H ++ A).set r o = H.set r o ++ A := List.set_append_left _ _ h
theorem num_chain {f : Nat} {bs : List Int} (hf : ∀ {s : RS}, s.1 ≤ bs.length → ∀ {H : List AO} {id : Nat}, H[id]? = some (rdO bs s) → ACall Try.prog f [.ptr id 0] H (fun r H' => r = .p (.i .i64 (numD bs s).1) ∧ H' = H.set id (rdO bs (numD bs s).2)))
    {s : RS} (hs : s.1 ≤ bs.length) {H : List AO} {r : Nat} (hr : H[r]? = some (rdO bs s)) : ∀ A, ACall Try.prog f [.ptr r 0] (H ++ A) (pureQ (.p (.i .i64 (numD bs s).1)) (H.set r (rdO bs (numD bs s).2) ++ A)) :=
  fun A => (hf hs (get_ext hr A)).mono fun v H' ⟨h1, h2⟩ => ⟨h1, by rw [h2, set_app (get_lt hr)]⟩
theorem tf_rdO (bs : List Int) (s : RS) : TfO (rdO bs s) := by
  intro c hc
  simp at hc
  rcases hc with rfl | rfl | rfl <;> exact tf_p _
theorem ins_chain {f : Nat} {bs : List Int} {g : RS → InsD × RS} (hf : ∀ {s : RS}, s.1 ≤ bs.length → ∀ {H : List AO} {id : Nat}, H[id]? = some (rdO bs s) → ACall Try.prog f [.ptr id 0] H (fun r H' => r = .st ((g s).1.cells.map .p) ∧ ∃ G, H' = H.set id (rdO bs (g s).2) ++ G))
    {s : RS} (hs : s.1 ≤ bs.length) {H : List AO} {r : Nat} (hr : H[r]? = some (rdO bs s)) : ∀ A, ACall Try.prog f [.ptr r 0] (H ++ A) (pureQ (.st ((g s).1.cells.map .p)) (H.set r (rdO bs (g s).2) ++ A)) := by
  intro A
  refine acall_drop ((hf hs (get_ext hr A)).mono fun v H' ⟨h1, G, h2⟩ => ⟨h1, G, by rw [h2, set_app (get_lt hr)]⟩) (by simp) (tf_st _ fun c hc => ?_) fun id o ho => ?_
  · obtain ⟨x, _, rfl⟩ := List.mem_map.1 hc
    exact tf_p _
  · by_cases e : id = r
    · subst e
      rw [get_ext (set_get hr) A] at ho
      cases ho
      exact .inr (tf_rdO _ _)
    · left
      rw [← set_app (get_lt hr), List.getElem?_set_ne (by omega)] at ho
      exact ho

theorem insS_le {bs : List Int} (hb : isB bs) {s : RS} (hs : s.1 ≤ bs.length) : (insS bs s).2.1 ≤ bs.length := by
  unfold insS insE
  have h := cntS_le hb (numD_le hb (byteD_le (byteD_le (byteD_le hs))))
  split
  · split
    · exact h
    · rename_i h1 h2
      have := cntS_rng h1
      simp only
      omega
  · exact h
theorem insI_le {bs : List Int} (hb : isB bs) {s : RS} (hs : s.1 ≤ bs.length) : (insI bs s).2.1 ≤ bs.length := by
  unfold insI insF
  have h := cntI_le hb (numD_le hb (bytI_le hs 3))
  split
  · exact bytI_le h _
  · exact h
theorem foldR_len {α : Type} (f : RS → α × RS) (n : Nat) : ∀ s : RS, (foldR f n s).1.length ≤ n := by
  induction n with
  | zero => intro s; exact Nat.le_refl _
  | succ n ih =>
    intro s
    rw [foldR]
    split
    · have := ih (f s).2; simp; exact this
    · simp
theorem foldR_all {α : Type} {f : RS → α × RS} {p : α → Prop} (h : ∀ s, p (f s).1) (n : Nat) : ∀ (s : RS), ∀ x ∈ (foldR f n s).1, p x := by
  induction n with
  | zero => intro s x hx; cases hx
  | succ n ih =>
    intro s x hx
    rw [foldR] at hx
    split at hx
    · rcases List.mem_cons.1 hx with rfl | hx
      · exact h s
      · exact ih _ x hx
    · cases hx
theorem strD_len (zs : List Int) : (strD zs).length = zs.length := by simp [strD]
theorem insS_text {bs : List Int} (hl : bs.length ≤ maxL) (s : RS) : (insS bs s).1.text.length ≤ maxL := by
  unfold insS insE
  split
  · split
    · simp
    · simp only [strD_len, List.length_take, List.length_drop]; omega
  · simp
theorem insI_text {bs : List Int} (hl : bs.length ≤ maxL) (s : RS) : (insI bs s).1.text.length ≤ maxL := by
  unfold insI insF
  split
  · simp only
    split
    · simp only [strD_len, List.length_take, List.length_drop]; omega
    · simp only [strD_len, List.length_replicate]; unfold maxL; omega
  · simp
theorem foldR_step {α : Type} {f : RS → α × RS} {A i : Nat} {s s0 : RS} {acc : List α} (hi : i < A) (hz : s.2 = 0) (h : foldR f A s0 = (acc ++ (foldR f (A - i) s).1, (foldR f (A - i) s).2)) :
    foldR f A s0 = ((acc ++ [(f s).1]) ++ (foldR f (A - (i + 1)) (f s).2).1, (foldR f (A - (i + 1)) (f s).2).2) := by
  rw [h, show A - i = (A - (i + 1)) + 1 by omega, foldR, if_pos hz]
  simp
theorem foldR_stop {α : Type} {f : RS → α × RS} {A i : Nat} {s s0 : RS} {acc : List α} (hs : ¬ (i < A ∧ s.2 = 0)) (h : foldR f A s0 = (acc ++ (foldR f (A - i) s).1, (foldR f (A - i) s).2)) : foldR f A s0 = (acc, s) := by
  have : foldR f (A - i) s = ([], s) := by
    by_cases hi : i < A
    · exact foldR_bad (fun e => hs ⟨hi, e⟩)
    · rw [show A - i = 0 by omega]; rfl
  rw [h, this]; simp
end Go.Proofs.Ytmbggdfceecojaa.Cd

/- An image read: by the reference. -/
set_option linter.all false
namespace Go.Proofs.Ytmbggdfceecojaa.Cd
open Go.AM Mc Ho

theorem ownC_nil (H : List AO) : OwnC H (.st [.p .nl, .p .nl]) ⟨[], []⟩ := ⟨_, _, rfl, .inl ⟨rfl, rfl⟩, .inl ⟨rfl, rfl⟩⟩
theorem l20Sum_any (bs : List Int) (hb : isB bs) (hl : bs.length ≤ maxL) {H : List AO} : ACall Try.prog 72 [.p (.l (rowsK .u8 bs))] H (pureQ (.p (.l (rowsK .u8 (sumB bs)))) H) :=
  (acall_fresh (l20Sum0 bs hb hl) (by simp; exact noid_p _) (fun r H' h => ⟨_, own_lent h, rfl⟩)).mono fun r H' ⟨h1, h2⟩ => ⟨h2.symm, h1⟩
theorem sumOf_any (bs : List Int) (hb : isB bs) (hl : bs.length ≤ maxL) {H : List AO} : ACall Try.prog 77 [.p (.l (rowsK .u8 bs))] H (pureQ (.p (.l (rowsK .u8 (sumB bs)))) H) :=
  (acall_fresh (sumOf0 bs hb hl) (by simp; exact noid_p _) (fun r H' h => ⟨_, own_lent h, rfl⟩)).mono fun r H' ⟨h1, h2⟩ => ⟨h2.symm, h1⟩
theorem take3 {bs : List Int} {b0 b1 b2 : Int} (h0 : bs[0]? = some b0) (h1 : bs[1]? = some b1) (h2 : bs[2]? = some b2) : bs.take 3 = [b0, b1, b2] := by
  match bs, h0, h1, h2 with
  | x :: y :: z :: l, h0, h1, h2 => simp at h0 h1 h2; simp [h0, h1, h2]

set_option maxHeartbeats 4000000 in
theorem specGet0 (bs : List Int) (hb : isB bs) (hl : bs.length ≤ 1048576) : ACall Try.prog 36 [.p (.l (rowsK .u8 bs))] [] (fun r H' => ∃ x, r = .tup [x, .p (.i .i64 (getX (cntS bs) (insS bs) bs).2)] ∧ OwnC H' x (getX (cntS bs) (insS bs) bs).1) := by
  have hlm : bs.length ≤ maxL := by unfold maxL; omega
  refine call36 (by simp) ?_
  simp only [go_sem, Nat.reduceEqDiff, reduceIte, ↓reduceIte, Nat.reduceAdd, List.replicate_succ, List.replicate_zero, List.set_cons_zero, List.set_cons_succ, List.length_cons, List.length_nil, Nat.reduceLT, Nat.lt_add_one, ne_eq, Int.reduceEq, not_false_eq_true, Option.map_some, Nat.reduceLeDiff, Nat.zero_lt_succ, List.map_cons, List.map_nil, List.nil_append, List.cons_append, List.append_nil, bytesOf, List.take_succ_cons, List.take_zero, List.drop_zero, and_self, List.append_assoc, List.length_append, Int.reduceLT, Int.reduceLE, Int.toNat_zero, Int.reduceToNat, Int.cast_ofNat_Int, Int.natCast_zero, Int.natCast_one, Int.reduceAdd, List.map_append, Option.bind_some, mc36, mr36, rowsK_len]
  intro _
  by_cases hlong : 200000 < bs.length
  · have dl : decide ((200000 : Int) < (bs.length : Int)) = true := by simp; omega
    have e : getX (cntS bs) (insS bs) bs = (⟨[], []⟩, 6) := by unfold getX; rw [if_pos hlong]
    rw [e]
    simp only [go_sem, Nat.reduceEqDiff, reduceIte, ↓reduceIte, Nat.reduceAdd, List.replicate_succ, List.replicate_zero, List.set_cons_zero, List.set_cons_succ, List.length_cons, List.length_nil, Nat.reduceLT, Nat.lt_add_one, ne_eq, Int.reduceEq, not_false_eq_true, Option.map_some, Nat.reduceLeDiff, Nat.zero_lt_succ, List.map_cons, List.map_nil, List.nil_append, List.cons_append, List.append_nil, bytesOf, List.take_succ_cons, List.take_zero, List.drop_zero, and_self, List.append_assoc, List.length_append, Int.reduceLT, Int.reduceLE, Int.toNat_zero, Int.reduceToNat, Int.cast_ofNat_Int, Int.natCast_zero, Int.natCast_one, Int.reduceAdd, List.map_append, Option.bind_some, dl]
    exact ⟨_, rfl, ownC_nil _⟩
  have dl : decide ((200000 : Int) < (bs.length : Int)) = false := by simp; omega
  simp only [go_sem, Nat.reduceEqDiff, reduceIte, ↓reduceIte, Nat.reduceAdd, List.replicate_succ, List.replicate_zero, List.set_cons_zero, List.set_cons_succ, List.length_cons, List.length_nil, Nat.reduceLT, Nat.lt_add_one, ne_eq, Int.reduceEq, not_false_eq_true, Option.map_some, Nat.reduceLeDiff, Nat.zero_lt_succ, List.map_cons, List.map_nil, List.nil_append, List.cons_append, List.append_nil, bytesOf, List.take_succ_cons, List.take_zero, List.drop_zero, and_self, List.append_assoc, List.length_append, Int.reduceLT, Int.reduceLE, Int.toNat_zero, Int.reduceToNat, Int.cast_ofNat_Int, Int.natCast_zero, Int.natCast_one, Int.reduceAdd, List.map_append, Option.bind_some, dl, rowsK_len]
  intro _
  by_cases h3 : bs.length < 3
  · have d3 : decide ((bs.length : Int) < 3) = true := by simp; omega
    have e : getX (cntS bs) (insS bs) bs = (⟨[], []⟩, 1) := by
      unfold getX
      rw [if_neg hlong, if_pos]
      intro h
      have := congrArg List.length h
      simp at this; omega
    rw [e]
    simp only [go_sem, Nat.reduceEqDiff, reduceIte, ↓reduceIte, Nat.reduceAdd, List.replicate_succ, List.replicate_zero, List.set_cons_zero, List.set_cons_succ, List.length_cons, List.length_nil, Nat.reduceLT, Nat.lt_add_one, ne_eq, Int.reduceEq, not_false_eq_true, Option.map_some, Nat.reduceLeDiff, Nat.zero_lt_succ, List.map_cons, List.map_nil, List.nil_append, List.cons_append, List.append_nil, bytesOf, List.take_succ_cons, List.take_zero, List.drop_zero, and_self, List.append_assoc, List.length_append, Int.reduceLT, Int.reduceLE, Int.toNat_zero, Int.reduceToNat, Int.cast_ofNat_Int, Int.natCast_zero, Int.natCast_one, Int.reduceAdd, List.map_append, Option.bind_some, d3]
    exact ⟨_, rfl, ownC_nil _⟩
  have d3 : decide ((bs.length : Int) < 3) = false := by simp; omega
  obtain ⟨b0, hb0⟩ : ∃ b, bs[0]? = some b := ⟨_, List.getElem?_eq_getElem (by omega)⟩
  obtain ⟨b1, hb1⟩ : ∃ b, bs[1]? = some b := ⟨_, List.getElem?_eq_getElem (by omega)⟩
  obtain ⟨b2, hb2⟩ : ∃ b, bs[2]? = some b := ⟨_, List.getElem?_eq_getElem (by omega)⟩
  have r0 : (rowsK .u8 bs)[0]? = some [.i .u8 b0] := by simp [rowsK, hb0]
  have r1 : (rowsK .u8 bs)[1]? = some [.i .u8 b1] := by simp [rowsK, hb1]
  have r2 : (rowsK .u8 bs)[2]? = some [.i .u8 b2] := by simp [rowsK, hb2]
  have ht := take3 hb0 hb1 hb2
  by_cases hmk : bs.take 3 ≠ [77, 78, 1]
  · have e : getX (cntS bs) (insS bs) bs = (⟨[], []⟩, 1) := by unfold getX; rw [if_neg hlong, if_pos hmk]
    rw [e]
    rw [ht] at hmk
    by_cases q0 : b0 = 77
    · by_cases q1 : b1 = 78
      · have q2 : b2 ≠ 1 := fun h => hmk (by rw [q0, q1, h])
        have e2 : decide (b2 = 1) = false := by simp [q2]
        simp only [go_sem, Nat.reduceEqDiff, reduceIte, ↓reduceIte, Nat.reduceAdd, List.replicate_succ, List.replicate_zero, List.set_cons_zero, List.set_cons_succ, List.length_cons, List.length_nil, Nat.reduceLT, Nat.lt_add_one, ne_eq, Int.reduceEq, not_false_eq_true, Option.map_some, Nat.reduceLeDiff, Nat.zero_lt_succ, List.map_cons, List.map_nil, List.nil_append, List.cons_append, List.append_nil, bytesOf, List.take_succ_cons, List.take_zero, List.drop_zero, and_self, List.append_assoc, List.length_append, Int.reduceLT, Int.reduceLE, Int.toNat_zero, Int.reduceToNat, Int.cast_ofNat_Int, Int.natCast_zero, Int.natCast_one, Int.reduceAdd, List.map_append, Option.bind_some, d3, r0, r1, r2, q0, q1, e2, Int.reduceToNat, Bool.not_true, Bool.not_false]
        exact ⟨_, rfl, ownC_nil _⟩
      · have e1 : decide (b1 = 78) = false := by simp [q1]
        simp only [go_sem, Nat.reduceEqDiff, reduceIte, ↓reduceIte, Nat.reduceAdd, List.replicate_succ, List.replicate_zero, List.set_cons_zero, List.set_cons_succ, List.length_cons, List.length_nil, Nat.reduceLT, Nat.lt_add_one, ne_eq, Int.reduceEq, not_false_eq_true, Option.map_some, Nat.reduceLeDiff, Nat.zero_lt_succ, List.map_cons, List.map_nil, List.nil_append, List.cons_append, List.append_nil, bytesOf, List.take_succ_cons, List.take_zero, List.drop_zero, and_self, List.append_assoc, List.length_append, Int.reduceLT, Int.reduceLE, Int.toNat_zero, Int.reduceToNat, Int.cast_ofNat_Int, Int.natCast_zero, Int.natCast_one, Int.reduceAdd, List.map_append, Option.bind_some, d3, r0, r1, r2, q0, e1, Int.reduceToNat, Bool.not_true, Bool.not_false]
        exact ⟨_, rfl, ownC_nil _⟩
    · have e0 : decide (b0 = 77) = false := by simp [q0]
      simp only [go_sem, Nat.reduceEqDiff, reduceIte, ↓reduceIte, Nat.reduceAdd, List.replicate_succ, List.replicate_zero, List.set_cons_zero, List.set_cons_succ, List.length_cons, List.length_nil, Nat.reduceLT, Nat.lt_add_one, ne_eq, Int.reduceEq, not_false_eq_true, Option.map_some, Nat.reduceLeDiff, Nat.zero_lt_succ, List.map_cons, List.map_nil, List.nil_append, List.cons_append, List.append_nil, bytesOf, List.take_succ_cons, List.take_zero, List.drop_zero, and_self, List.append_assoc, List.length_append, Int.reduceLT, Int.reduceLE, Int.toNat_zero, Int.reduceToNat, Int.cast_ofNat_Int, Int.natCast_zero, Int.natCast_one, Int.reduceAdd, List.map_append, Option.bind_some, d3, r0, r1, r2, e0, Int.reduceToNat, Bool.not_true, Bool.not_false]
      exact ⟨_, rfl, ownC_nil _⟩
  have hmk' : bs.take 3 = [77, 78, 1] := Classical.not_not.1 hmk
  have hm2 := hmk'
  rw [ht] at hm2
  simp at hm2
  obtain ⟨q0, q1, q2⟩ := hm2
  have hB : RdOk bs := ⟨hb, by omega⟩
  simp only [go_sem, Nat.reduceEqDiff, reduceIte, ↓reduceIte, Nat.reduceAdd, List.replicate_succ, List.replicate_zero, List.set_cons_zero, List.set_cons_succ, List.length_cons, List.length_nil, Nat.reduceLT, Nat.lt_add_one, ne_eq, Int.reduceEq, not_false_eq_true, Option.map_some, Nat.reduceLeDiff, Nat.zero_lt_succ, List.map_cons, List.map_nil, List.nil_append, List.cons_append, List.append_nil, bytesOf, List.take_succ_cons, List.take_zero, List.drop_zero, and_self, List.append_assoc, List.length_append, Int.reduceLT, Int.reduceLE, Int.toNat_zero, Int.reduceToNat, Int.cast_ofNat_Int, Int.natCast_zero, Int.natCast_one, Int.reduceAdd, List.map_append, Option.bind_some, d3, r0, r1, r2, q0, q1, q2, Int.reduceToNat, Bool.not_true]
  refine (specCount hB (s := (3, 0)) (by simp only; omega) rfl).mono ?_
  rintro r H1 ⟨rfl, rfl⟩
  have la := cntS_le hb (s := (3, 0)) (by simp only; omega)
  simp only [go_sem, Nat.reduceEqDiff, reduceIte, ↓reduceIte, Nat.reduceAdd, List.replicate_succ, List.replicate_zero, List.set_cons_zero, List.set_cons_succ, List.length_cons, List.length_nil, Nat.reduceLT, Nat.lt_add_one, ne_eq, Int.reduceEq, not_false_eq_true, Option.map_some, Nat.reduceLeDiff, Nat.zero_lt_succ, List.map_cons, List.map_nil, List.nil_append, List.cons_append, List.append_nil, bytesOf, List.take_succ_cons, List.take_zero, List.drop_zero, and_self, List.append_assoc, List.length_append, Int.reduceLT, Int.reduceLE, Int.toNat_zero, Int.reduceToNat, Int.cast_ofNat_Int, Int.natCast_zero, Int.natCast_one, Int.reduceAdd, List.map_append, Option.bind_some]
  refine (specCount hB la rfl).mono ?_
  rintro r H1 ⟨rfl, rfl⟩
  have lb := cntS_le hb la
  have hA : (cntS bs (cntS bs (3, 0)).2).2.2 = 0 → (cntS bs (3, 0)).1.toNat ≤ 200000 ∧ 0 ≤ (cntS bs (3, 0)).1 := by
    intro h
    by_cases hz : (cntS bs (3, 0)).2.2 = 0
    · have := cntS_rng hz; omega
    · rw [cnt_st, cntI_bad hz] at h; exact (hz h).elim
  have hBn : (cntS bs (cntS bs (3, 0)).2).2.2 = 0 → (cntS bs (cntS bs (3, 0)).2).1.toNat ≤ 200000 ∧ 0 ≤ (cntS bs (cntS bs (3, 0)).2).1 := fun h => by have := cntS_rng h; omega
  have hX : getX (cntS bs) (insS bs) bs = endD bs (foldR (numD bs) (cntS bs (3, 0)).1.toNat (cntS bs (cntS bs (3, 0)).2).2).1
    (foldR (insS bs) (cntS bs (cntS bs (3, 0)).2).1.toNat (foldR (numD bs) (cntS bs (3, 0)).1.toNat (cntS bs (cntS bs (3, 0)).2).2).2).1
    (foldR (insS bs) (cntS bs (cntS bs (3, 0)).2).1.toNat (foldR (numD bs) (cntS bs (3, 0)).1.toNat (cntS bs (cntS bs (3, 0)).2).2).2).2 := by
    unfold getX; rw [if_neg hlong, if_neg hmk]
  rw [hX]
  clear hX
  generalize cntS bs (cntS bs (3, 0)).2 = nb at *
  generalize cntS bs (3, 0) = na at *
  simp only [go_sem, Nat.reduceEqDiff, reduceIte, ↓reduceIte, Nat.reduceAdd, List.replicate_succ, List.replicate_zero, List.set_cons_zero, List.set_cons_succ, List.length_cons, List.length_nil, Nat.reduceLT, Nat.lt_add_one, ne_eq, Int.reduceEq, not_false_eq_true, Option.map_some, Nat.reduceLeDiff, Nat.zero_lt_succ, List.map_cons, List.map_nil, List.nil_append, List.cons_append, List.append_nil, bytesOf, List.take_succ_cons, List.take_zero, List.drop_zero, and_self, List.append_assoc, List.length_append, Int.reduceLT, Int.reduceLE, Int.toNat_zero, Int.reduceToNat, Int.cast_ofNat_Int, Int.natCast_zero, Int.natCast_one, Int.reduceAdd, List.map_append, Option.bind_some]
  -- the loops
  refine ⟨Nat × List Int × AV × RS × List AO, [0, 2, 3, 4, 5, 6, 7, 8, 9], fun y st => y.2.1.length = y.1 ∧ y.2.2.2.1.1 ≤ bs.length ∧ (y.2.2.2.1.2 = 0 → nb.2.2 = 0) ∧ GI bs 2 3 y.2.2.2.1 (.p .nl) y.2.2.1 [] y.2.1 y.2.2.2.2 ∧
      foldR (numD bs) na.1.toNat nb.2 = (y.2.1 ++ (foldR (numD bs) (na.1.toNat - y.1) y.2.2.2.1).1, (foldR (numD bs) (na.1.toNat - y.1) y.2.2.2.1).2) ∧
      st = ⟨[(0, .p (.l (rowsK .u8 bs))), (2, .ptr 0 0), (3, .p (.i .i64 0)), (4, .ptr 1 0), (5, .ptr 2 0), (6, .p (.i .i64 na.1)), (7, .p (.i .i64 nb.1)), (8, .ptr 3 0), (9, .p (.i .i64 y.1))], [], y.2.2.2.2⟩, fun y => na.1.toNat - y.1, ⟨⟨0, [], .p .nl, nb.2, [.var [.p .nl, .p .nl], .var [.p .nl, .p .nl], rdO bs nb.2, .var [.p .nl, .p .nl]]⟩, ?_⟩, ?_⟩
  · simp only [go_sem, Nat.reduceEqDiff, reduceIte, ↓reduceIte, Nat.reduceAdd, List.replicate_succ, List.replicate_zero, List.set_cons_zero, List.set_cons_succ, List.length_cons, List.length_nil, Nat.reduceLT, Nat.lt_add_one, ne_eq, Int.reduceEq, not_false_eq_true, Option.map_some, Nat.reduceLeDiff, Nat.zero_lt_succ, List.map_cons, List.map_nil, List.nil_append, List.cons_append, List.append_nil, bytesOf, List.take_succ_cons, List.take_zero, List.drop_zero, and_self, List.append_assoc, List.length_append, Int.reduceLT, Int.reduceLE, Int.toNat_zero, Int.reduceToNat, Int.cast_ofNat_Int, Int.natCast_zero, Int.natCast_one, Int.reduceAdd, List.map_append, Option.bind_some]
    exact ⟨lb, fun h => h, ⟨by omega, fun j hj => by match j, hj with | 0, _ => rfl | 1, _ => rfl, rfl, rfl, .inl ⟨rfl, rfl⟩, .inl ⟨rfl, rfl⟩⟩, by simp⟩
  rintro ⟨i, acc, b, s, H⟩ st ⟨hacc, hs, hnz, hG, hF, rfl⟩
  simp only at hacc hs hnz hG hF
  have h2 := hG.rd
  unfold rdO at h2
  by_cases hi : (i : Int) < na.1 ∧ s.2 = 0
  · obtain ⟨hi, hz⟩ := hi
    have hA' := hA (hnz hz)
    have d1 : decide ((i : Int) < na.1) = true := by simp [hi]
    have e1 : wr .i64 ((i : Int) + 1) = ((i + 1 : Nat) : Int) := by rw [wr64 (by omega) (by omega)]; omega
    simp only [go_sem, Nat.reduceEqDiff, reduceIte, ↓reduceIte, Nat.reduceAdd, List.replicate_succ, List.replicate_zero, List.set_cons_zero, List.set_cons_succ, List.length_cons, List.length_nil, Nat.reduceLT, Nat.lt_add_one, ne_eq, Int.reduceEq, not_false_eq_true, Option.map_some, Nat.reduceLeDiff, Nat.zero_lt_succ, List.map_cons, List.map_nil, List.nil_append, List.cons_append, List.append_nil, bytesOf, List.take_succ_cons, List.take_zero, List.drop_zero, and_self, List.append_assoc, List.length_append, Int.reduceLT, Int.reduceLE, Int.toNat_zero, Int.reduceToNat, Int.cast_ofNat_Int, Int.natCast_zero, Int.natCast_one, Int.reduceAdd, List.map_append, Option.bind_some, d1, h2, hz]
    have hod : (H.set 2 .dead)[3]? = some (.var [.p .nl, b]) := get_set hG.out (by omega)
    refine ⟨H.set 2 .dead, hext_dead0 _ _, ?_⟩
    simp only [go_sem, Nat.reduceEqDiff, reduceIte, ↓reduceIte, Nat.reduceAdd, List.replicate_succ, List.replicate_zero, List.set_cons_zero, List.set_cons_succ, List.length_cons, List.length_nil, Nat.reduceLT, Nat.lt_add_one, ne_eq, Int.reduceEq, not_false_eq_true, Option.map_some, Nat.reduceLeDiff, Nat.zero_lt_succ, List.map_cons, List.map_nil, List.nil_append, List.cons_append, List.append_nil, bytesOf, List.take_succ_cons, List.take_zero, List.drop_zero, and_self, List.append_assoc, List.length_append, Int.reduceLT, Int.reduceLE, Int.toNat_zero, Int.reduceToNat, Int.cast_ofNat_Int, Int.natCast_zero, Int.natCast_one, Int.reduceAdd, List.map_append, Option.bind_some, hod]
    refine pcall_chain _ (H.set 2 (rdO bs (numD bs s).2)) (by simp) (hext_dead _ _ _) (num_chain (specNum hB) hs hG.rd) ?_
    simp only [go_sem, Nat.reduceEqDiff, reduceIte, ↓reduceIte, Nat.reduceAdd, List.replicate_succ, List.replicate_zero, List.set_cons_zero, List.set_cons_succ, List.length_cons, List.length_nil, Nat.reduceLT, Nat.lt_add_one, ne_eq, Int.reduceEq, not_false_eq_true, Option.map_some, Nat.reduceLeDiff, Nat.zero_lt_succ, List.map_cons, List.map_nil, List.nil_append, List.cons_append, List.append_nil, bytesOf, List.take_succ_cons, List.take_zero, List.drop_zero, and_self, List.append_assoc, List.length_append, Int.reduceLT, Int.reduceLE, Int.toNat_zero, Int.reduceToNat, Int.cast_ofNat_Int, Int.natCast_zero, Int.natCast_one, Int.reduceAdd, List.map_append, Option.bind_some]
    have hG2 := hG.rds (numD bs s).2
    have hle2 := hG2.le
    refine ⟨by simp, app_at (hG2.ob.ext _) (by simp at hle2 ⊢; omega) (by simp [intR_len', hacc]; omega) (by simp [intR_len', hacc]; omega) fun id ver H' p0 p1 p2 p3 p4 => ?_⟩
    rw [show (intR .i64 acc ++ [[AV.p (.i .i64 (numD bs s).1)]]) = intR .i64 (acc ++ [(numD bs s).1]) by rw [← intR_app]; rfl] at p2
    rw [show (intR .i64 acc).length + [[AV.p (.i .i64 (numD bs s).1)]].length = (intR .i64 (acc ++ [(numD bs s).1])).length by simp [intR]]
    have ho' : H'[3]? = some (.var [.p .nl, b]) := p3.1 3 _ (get_ext hG2.out _) (fun f => f)
    have hG3 := hG2.putB _ p0 p1 p2 p3 p4
    simp only [go_sem, Nat.reduceEqDiff, reduceIte, ↓reduceIte, Nat.reduceAdd, List.replicate_succ, List.replicate_zero, List.set_cons_zero, List.set_cons_succ, List.length_cons, List.length_nil, Nat.reduceLT, Nat.lt_add_one, ne_eq, Int.reduceEq, not_false_eq_true, Option.map_some, Nat.reduceLeDiff, Nat.zero_lt_succ, List.map_cons, List.map_nil, List.nil_append, List.cons_append, List.append_nil, bytesOf, List.take_succ_cons, List.take_zero, List.drop_zero, and_self, List.append_assoc, List.length_append, Int.reduceLT, Int.reduceLE, Int.toNat_zero, Int.reduceToNat, Int.cast_ofNat_Int, Int.natCast_zero, Int.natCast_one, Int.reduceAdd, List.map_append, Option.bind_some, ho', e1]
    exact ⟨⟨i + 1, acc ++ [(numD bs s).1], _, (numD bs s).2, _⟩, ⟨by simp [hacc], numD_le hb hs, fun _ => hnz hz, hG3, foldR_step (by omega) hz hF, rfl⟩, by simp only; omega⟩
  have hstop := foldR_stop (by rintro ⟨h1, h2⟩; exact hi ⟨by omega, h2⟩) hF
  rw [hstop]
  simp only
  by_cases h1 : (i : Int) < na.1
  case' pos =>
    have hz : s.2 ≠ 0 := fun h => hi ⟨h1, h⟩
    have d1 : decide ((i : Int) < na.1) = true := by simp [h1]
    have d2 : decide (s.2 = 0) = false := by simp [hz]
    simp only [go_sem, Nat.reduceEqDiff, reduceIte, ↓reduceIte, Nat.reduceAdd, List.replicate_succ, List.replicate_zero, List.set_cons_zero, List.set_cons_succ, List.length_cons, List.length_nil, Nat.reduceLT, Nat.lt_add_one, ne_eq, Int.reduceEq, not_false_eq_true, Option.map_some, Nat.reduceLeDiff, Nat.zero_lt_succ, List.map_cons, List.map_nil, List.nil_append, List.cons_append, List.append_nil, bytesOf, List.take_succ_cons, List.take_zero, List.drop_zero, and_self, List.append_assoc, List.length_append, Int.reduceLT, Int.reduceLE, Int.toNat_zero, Int.reduceToNat, Int.cast_ofNat_Int, Int.natCast_zero, Int.natCast_one, Int.reduceAdd, List.map_append, Option.bind_some, d1, h2, d2]
  case' neg =>
    have d1 : decide ((i : Int) < na.1) = false := by simp [h1]
    simp only [go_sem, Nat.reduceEqDiff, reduceIte, ↓reduceIte, Nat.reduceAdd, List.replicate_succ, List.replicate_zero, List.set_cons_zero, List.set_cons_succ, List.length_cons, List.length_nil, Nat.reduceLT, Nat.lt_add_one, ne_eq, Int.reduceEq, not_false_eq_true, Option.map_some, Nat.reduceLeDiff, Nat.zero_lt_succ, List.map_cons, List.map_nil, List.nil_append, List.cons_append, List.append_nil, bytesOf, List.take_succ_cons, List.take_zero, List.drop_zero, and_self, List.append_assoc, List.length_append, Int.reduceLT, Int.reduceLE, Int.toNat_zero, Int.reduceToNat, Int.cast_ofNat_Int, Int.natCast_zero, Int.natCast_one, Int.reduceAdd, List.map_append, Option.bind_some, d1, h2]
  all_goals
    have hst1 := hstop
    clear hF hstop h1 d1 hi
    refine ⟨Nat × List InsD × AV × RS × List AO, [0, 2, 3, 4, 5, 6, 7, 8, 10], fun y st => y.2.1.length = y.1 ∧ y.2.2.2.1.1 ≤ bs.length ∧ (y.2.2.2.1.2 = 0 → nb.2.2 = 0) ∧ GI bs 2 3 y.2.2.2.1 y.2.2.1 b y.2.1 acc y.2.2.2.2 ∧
        foldR (insS bs) nb.1.toNat s = (y.2.1 ++ (foldR (insS bs) (nb.1.toNat - y.1) y.2.2.2.1).1, (foldR (insS bs) (nb.1.toNat - y.1) y.2.2.2.1).2) ∧
        st = ⟨[(0, .p (.l (rowsK .u8 bs))), (2, .ptr 0 0), (3, .p (.i .i64 0)), (4, .ptr 1 0), (5, .ptr 2 0), (6, .p (.i .i64 na.1)), (7, .p (.i .i64 nb.1)), (8, .ptr 3 0), (10, .p (.i .i64 y.1))], [], y.2.2.2.2⟩, fun y => nb.1.toNat - y.1, ⟨⟨0, [], .p .nl, s, H⟩, ?_⟩, ?_⟩
    · simp only [go_sem, Nat.reduceEqDiff, reduceIte, ↓reduceIte, Nat.reduceAdd, List.replicate_succ, List.replicate_zero, List.set_cons_zero, List.set_cons_succ, List.length_cons, List.length_nil, Nat.reduceLT, Nat.lt_add_one, ne_eq, Int.reduceEq, not_false_eq_true, Option.map_some, Nat.reduceLeDiff, Nat.zero_lt_succ, List.map_cons, List.map_nil, List.nil_append, List.cons_append, List.append_nil, bytesOf, List.take_succ_cons, List.take_zero, List.drop_zero, and_self, List.append_assoc, List.length_append, Int.reduceLT, Int.reduceLE, Int.toNat_zero, Int.reduceToNat, Int.cast_ofNat_Int, Int.natCast_zero, Int.natCast_one, Int.reduceAdd, List.map_append, Option.bind_some]
      exact ⟨hs, hnz, hG, by simp⟩
    clear hG hs hnz hacc h2
    rintro ⟨j, xs, a, u, G⟩ st ⟨hxl, hu, hnz, hG, hF, rfl⟩
    simp only at hxl hu hnz hG hF
    have h2 := hG.rd
    unfold rdO at h2
    by_cases hi : (j : Int) < nb.1 ∧ u.2 = 0
    · obtain ⟨hi, hz⟩ := hi
      have hA' := hBn (hnz hz)
      have d1 : decide ((j : Int) < nb.1) = true := by simp [hi]
      have e1 : wr .i64 ((j : Int) + 1) = ((j + 1 : Nat) : Int) := by rw [wr64 (by omega) (by omega)]; omega
      simp only [go_sem, Nat.reduceEqDiff, reduceIte, ↓reduceIte, Nat.reduceAdd, List.replicate_succ, List.replicate_zero, List.set_cons_zero, List.set_cons_succ, List.length_cons, List.length_nil, Nat.reduceLT, Nat.lt_add_one, ne_eq, Int.reduceEq, not_false_eq_true, Option.map_some, Nat.reduceLeDiff, Nat.zero_lt_succ, List.map_cons, List.map_nil, List.nil_append, List.cons_append, List.append_nil, bytesOf, List.take_succ_cons, List.take_zero, List.drop_zero, and_self, List.append_assoc, List.length_append, Int.reduceLT, Int.reduceLE, Int.toNat_zero, Int.reduceToNat, Int.cast_ofNat_Int, Int.natCast_zero, Int.natCast_one, Int.reduceAdd, List.map_append, Option.bind_some, d1, h2, hz]
      have hod : (G.set 2 .dead)[3]? = some (.var [a, b]) := get_set hG.out (by omega)
      refine ⟨G.set 2 .dead, hext_dead0 _ _, ?_⟩
      simp only [go_sem, Nat.reduceEqDiff, reduceIte, ↓reduceIte, Nat.reduceAdd, List.replicate_succ, List.replicate_zero, List.set_cons_zero, List.set_cons_succ, List.length_cons, List.length_nil, Nat.reduceLT, Nat.lt_add_one, ne_eq, Int.reduceEq, not_false_eq_true, Option.map_some, Nat.reduceLeDiff, Nat.zero_lt_succ, List.map_cons, List.map_nil, List.nil_append, List.cons_append, List.append_nil, bytesOf, List.take_succ_cons, List.take_zero, List.drop_zero, and_self, List.append_assoc, List.length_append, Int.reduceLT, Int.reduceLE, Int.toNat_zero, Int.reduceToNat, Int.cast_ofNat_Int, Int.natCast_zero, Int.natCast_one, Int.reduceAdd, List.map_append, Option.bind_some, hod]
      refine pcall_chain _ (G.set 2 (rdO bs (insS bs u).2)) (by simp) (hext_dead _ _ _) (ins_chain (specIns hB) hu hG.rd) ?_
      simp only [go_sem, Nat.reduceEqDiff, reduceIte, ↓reduceIte, Nat.reduceAdd, List.replicate_succ, List.replicate_zero, List.set_cons_zero, List.set_cons_succ, List.length_cons, List.length_nil, Nat.reduceLT, Nat.lt_add_one, ne_eq, Int.reduceEq, not_false_eq_true, Option.map_some, Nat.reduceLeDiff, Nat.zero_lt_succ, List.map_cons, List.map_nil, List.nil_append, List.cons_append, List.append_nil, bytesOf, List.take_succ_cons, List.take_zero, List.drop_zero, and_self, List.append_assoc, List.length_append, Int.reduceLT, Int.reduceLE, Int.toNat_zero, Int.reduceToNat, Int.cast_ofNat_Int, Int.natCast_zero, Int.natCast_one, Int.reduceAdd, List.map_append, Option.bind_some, InsD.cells]
      have hG2 := hG.rds (insS bs u).2
      have hle2 := hG2.le
      refine ⟨by simp, app_at (hG2.oa.ext _) (by simp at hle2 ⊢; omega) (by simp [insR_len, hxl]; omega) (by simp [insR_len, hxl]; omega) fun id ver H' p0 p1 p2 p3 p4 => ?_⟩
      rw [show (insR xs ++ [[AV.p (.i .i64 (insS bs u).1.op), AV.p (.i .i64 (insS bs u).1.a), AV.p (.i .i64 (insS bs u).1.b), AV.p (.i .i64 (insS bs u).1.c), AV.p (.i .i64 (insS bs u).1.n), AV.p (.s (insS bs u).1.text)]]) = insR (xs ++ [(insS bs u).1]) by rw [← insR_app]; rfl] at p2
      rw [show (insR xs).length + [[AV.p (.i .i64 (insS bs u).1.op), AV.p (.i .i64 (insS bs u).1.a), AV.p (.i .i64 (insS bs u).1.b), AV.p (.i .i64 (insS bs u).1.c), AV.p (.i .i64 (insS bs u).1.n), AV.p (.s (insS bs u).1.text)]].length = (insR (xs ++ [(insS bs u).1])).length by simp [insR]]
      have ho' : H'[3]? = some (.var [a, b]) := p3.1 3 _ (get_ext hG2.out _) (fun f => f)
      have hG3 := hG2.putA _ p0 p1 p2 p3 p4
      simp only [go_sem, Nat.reduceEqDiff, reduceIte, ↓reduceIte, Nat.reduceAdd, List.replicate_succ, List.replicate_zero, List.set_cons_zero, List.set_cons_succ, List.length_cons, List.length_nil, Nat.reduceLT, Nat.lt_add_one, ne_eq, Int.reduceEq, not_false_eq_true, Option.map_some, Nat.reduceLeDiff, Nat.zero_lt_succ, List.map_cons, List.map_nil, List.nil_append, List.cons_append, List.append_nil, bytesOf, List.take_succ_cons, List.take_zero, List.drop_zero, and_self, List.append_assoc, List.length_append, Int.reduceLT, Int.reduceLE, Int.toNat_zero, Int.reduceToNat, Int.cast_ofNat_Int, Int.natCast_zero, Int.natCast_one, Int.reduceAdd, List.map_append, Option.bind_some, ho', e1]
      exact ⟨⟨j + 1, xs ++ [(insS bs u).1], _, (insS bs u).2, _⟩, ⟨by simp [hxl], insS_le hb hu, fun _ => hnz hz, hG3, foldR_step (by omega) hz hF, rfl⟩, by simp only; omega⟩
    have hstop := foldR_stop (by rintro ⟨h1, h2⟩; exact hi ⟨by omega, h2⟩) hF
    rw [hstop]
    simp only
    by_cases h1 : (j : Int) < nb.1
    case' pos =>
      have hz : u.2 ≠ 0 := fun h => hi ⟨h1, h⟩
      have d1 : decide ((j : Int) < nb.1) = true := by simp [h1]
      have d2 : decide (u.2 = 0) = false := by simp [hz]
      simp only [go_sem, Nat.reduceEqDiff, reduceIte, ↓reduceIte, Nat.reduceAdd, List.replicate_succ, List.replicate_zero, List.set_cons_zero, List.set_cons_succ, List.length_cons, List.length_nil, Nat.reduceLT, Nat.lt_add_one, ne_eq, Int.reduceEq, not_false_eq_true, Option.map_some, Nat.reduceLeDiff, Nat.zero_lt_succ, List.map_cons, List.map_nil, List.nil_append, List.cons_append, List.append_nil, bytesOf, List.take_succ_cons, List.take_zero, List.drop_zero, and_self, List.append_assoc, List.length_append, Int.reduceLT, Int.reduceLE, Int.toNat_zero, Int.reduceToNat, Int.cast_ofNat_Int, Int.natCast_zero, Int.natCast_one, Int.reduceAdd, List.map_append, Option.bind_some, d1, h2, d2, rowsK_len]
    case' neg =>
      have d1 : decide ((j : Int) < nb.1) = false := by simp [h1]
      simp only [go_sem, Nat.reduceEqDiff, reduceIte, ↓reduceIte, Nat.reduceAdd, List.replicate_succ, List.replicate_zero, List.set_cons_zero, List.set_cons_succ, List.length_cons, List.length_nil, Nat.reduceLT, Nat.lt_add_one, ne_eq, Int.reduceEq, not_false_eq_true, Option.map_some, Nat.reduceLeDiff, Nat.zero_lt_succ, List.map_cons, List.map_nil, List.nil_append, List.cons_append, List.append_nil, bytesOf, List.take_succ_cons, List.take_zero, List.drop_zero, and_self, List.append_assoc, List.length_append, Int.reduceLT, Int.reduceLE, Int.toNat_zero, Int.reduceToNat, Int.cast_ofNat_Int, Int.natCast_zero, Int.natCast_one, Int.reduceAdd, List.map_append, Option.bind_some, d1, h2, rowsK_len]
    all_goals
      intro _
      have f0 := hG.vk 0 (by omega)
      have f1 := hG.vk 1 (by omega)
      have fo := hG.out
      have hlt := hG.lt
      by_cases hz : u.2 = 0
      case neg =>
        have dz : decide (u.2 = 0) = false := by simp [hz]
        have e : endD bs acc xs u = (⟨[], []⟩, u.2) := by unfold endD; rw [if_pos hz]
        rw [e]
        simp only [go_sem, Nat.reduceEqDiff, reduceIte, ↓reduceIte, Nat.reduceAdd, List.replicate_succ, List.replicate_zero, List.set_cons_zero, List.set_cons_succ, List.length_cons, List.length_nil, Nat.reduceLT, Nat.lt_add_one, ne_eq, Int.reduceEq, not_false_eq_true, Option.map_some, Nat.reduceLeDiff, Nat.zero_lt_succ, List.map_cons, List.map_nil, List.nil_append, List.cons_append, List.append_nil, bytesOf, List.take_succ_cons, List.take_zero, List.drop_zero, and_self, List.append_assoc, List.length_append, Int.reduceLT, Int.reduceLE, Int.toNat_zero, Int.reduceToNat, Int.cast_ofNat_Int, Int.natCast_zero, Int.natCast_one, Int.reduceAdd, List.map_append, Option.bind_some, dz, Bool.not_false]
        have g1 : (G.set 0 .dead)[1]? = some (.var [.p .nl, .p .nl]) := get_set f1 (by omega)
        have g2 : (G.set 0 .dead)[2]? = some (.var [.p (.l (rowsK .u8 bs)), .p (.i .i64 u.1), .p (.i .i64 u.2)]) := get_set h2 (by omega)
        refine ⟨G.set 0 .dead, hext_dead0 _ _, ?_⟩
        simp only [go_sem, Nat.reduceEqDiff, reduceIte, ↓reduceIte, Nat.reduceAdd, List.replicate_succ, List.replicate_zero, List.set_cons_zero, List.set_cons_succ, List.length_cons, List.length_nil, Nat.reduceLT, Nat.lt_add_one, ne_eq, Int.reduceEq, not_false_eq_true, Option.map_some, Nat.reduceLeDiff, Nat.zero_lt_succ, List.map_cons, List.map_nil, List.nil_append, List.cons_append, List.append_nil, bytesOf, List.take_succ_cons, List.take_zero, List.drop_zero, and_self, List.append_assoc, List.length_append, Int.reduceLT, Int.reduceLE, Int.toNat_zero, Int.reduceToNat, Int.cast_ofNat_Int, Int.natCast_zero, Int.natCast_one, Int.reduceAdd, List.map_append, Option.bind_some, g1, g2, f0, f1, h2]
        refine ⟨by simp, hext_dead _ _ _, ?_⟩
        simp only [go_sem, Nat.reduceEqDiff, reduceIte, ↓reduceIte, Nat.reduceAdd, List.replicate_succ, List.replicate_zero, List.set_cons_zero, List.set_cons_succ, List.length_cons, List.length_nil, Nat.reduceLT, Nat.lt_add_one, ne_eq, Int.reduceEq, not_false_eq_true, Option.map_some, Nat.reduceLeDiff, Nat.zero_lt_succ, List.map_cons, List.map_nil, List.nil_append, List.cons_append, List.append_nil, bytesOf, List.take_succ_cons, List.take_zero, List.drop_zero, and_self, List.append_assoc, List.length_append, Int.reduceLT, Int.reduceLE, Int.toNat_zero, Int.reduceToNat, Int.cast_ofNat_Int, Int.natCast_zero, Int.natCast_one, Int.reduceAdd, List.map_append, Option.bind_some, set_get f0]
        exact ⟨_, rfl, ownC_nil _⟩
      try exact absurd hz (by assumption)
      all_goals
        have ed : wr .i64 ((bs.length : Int) - (u.1 : Int)) = (bs.length : Int) - (u.1 : Int) := wr64 (by omega) (by omega)
        by_cases hl4 : (bs.length : Int) - (u.1 : Int) < 4
        · have d4 : decide ((bs.length : Int) - (u.1 : Int) < 4) = true := by simp; omega
          have e : endD bs acc xs u = (⟨[], []⟩, 2) := by unfold endD; rw [if_neg (by simp [hz]), if_pos hl4]
          rw [e]
          simp only [go_sem, Nat.reduceEqDiff, reduceIte, ↓reduceIte, Nat.reduceAdd, List.replicate_succ, List.replicate_zero, List.set_cons_zero, List.set_cons_succ, List.length_cons, List.length_nil, Nat.reduceLT, Nat.lt_add_one, ne_eq, Int.reduceEq, not_false_eq_true, Option.map_some, Nat.reduceLeDiff, Nat.zero_lt_succ, List.map_cons, List.map_nil, List.nil_append, List.cons_append, List.append_nil, bytesOf, List.take_succ_cons, List.take_zero, List.drop_zero, and_self, List.append_assoc, List.length_append, Int.reduceLT, Int.reduceLE, Int.toNat_zero, Int.reduceToNat, Int.cast_ofNat_Int, Int.natCast_zero, Int.natCast_one, Int.reduceAdd, List.map_append, Option.bind_some, hz, Bool.not_true, ed, d4, f1, f0, set_get f0]
          exact ⟨_, rfl, ownC_nil _⟩
        have d4 : decide ((bs.length : Int) - (u.1 : Int) < 4) = false := by simp; omega
        by_cases hg4 : 4 < (bs.length : Int) - (u.1 : Int)
        · have d5 : decide (4 < (bs.length : Int) - (u.1 : Int)) = true := by simp; omega
          have e : endD bs acc xs u = (⟨[], []⟩, 3) := by unfold endD; rw [if_neg (by simp [hz]), if_neg hl4, if_pos hg4]
          rw [e]
          simp only [go_sem, Nat.reduceEqDiff, reduceIte, ↓reduceIte, Nat.reduceAdd, List.replicate_succ, List.replicate_zero, List.set_cons_zero, List.set_cons_succ, List.length_cons, List.length_nil, Nat.reduceLT, Nat.lt_add_one, ne_eq, Int.reduceEq, not_false_eq_true, Option.map_some, Nat.reduceLeDiff, Nat.zero_lt_succ, List.map_cons, List.map_nil, List.nil_append, List.cons_append, List.append_nil, bytesOf, List.take_succ_cons, List.take_zero, List.drop_zero, and_self, List.append_assoc, List.length_append, Int.reduceLT, Int.reduceLE, Int.toNat_zero, Int.reduceToNat, Int.cast_ofNat_Int, Int.natCast_zero, Int.natCast_one, Int.reduceAdd, List.map_append, Option.bind_some, hz, Bool.not_true, ed, d4, d5, f1, f0, set_get f0]
          exact ⟨_, rfl, ownC_nil _⟩
        have d5 : decide (4 < (bs.length : Int) - (u.1 : Int)) = false := by simp; omega
        simp only [go_sem, Nat.reduceEqDiff, reduceIte, ↓reduceIte, Nat.reduceAdd, List.replicate_succ, List.replicate_zero, List.set_cons_zero, List.set_cons_succ, List.length_cons, List.length_nil, Nat.reduceLT, Nat.lt_add_one, ne_eq, Int.reduceEq, not_false_eq_true, Option.map_some, Nat.reduceLeDiff, Nat.zero_lt_succ, List.map_cons, List.map_nil, List.nil_append, List.cons_append, List.append_nil, bytesOf, List.take_succ_cons, List.take_zero, List.drop_zero, and_self, List.append_assoc, List.length_append, Int.reduceLT, Int.reduceLE, Int.toNat_zero, Int.reduceToNat, Int.cast_ofNat_Int, Int.natCast_zero, Int.natCast_one, Int.reduceAdd, List.map_append, Option.bind_some, hz, Bool.not_true, ed, d4, d5]
        refine drw_same ?_
        simp only [go_sem, Nat.reduceEqDiff, reduceIte, ↓reduceIte, Nat.reduceAdd, List.replicate_succ, List.replicate_zero, List.set_cons_zero, List.set_cons_succ, List.length_cons, List.length_nil, Nat.reduceLT, Nat.lt_add_one, ne_eq, Int.reduceEq, not_false_eq_true, Option.map_some, Nat.reduceLeDiff, Nat.zero_lt_succ, List.map_cons, List.map_nil, List.nil_append, List.cons_append, List.append_nil, bytesOf, List.take_succ_cons, List.take_zero, List.drop_zero, and_self, List.append_assoc, List.length_append, Int.reduceLT, Int.reduceLE, Int.toNat_zero, Int.reduceToNat, Int.cast_ofNat_Int, Int.natCast_zero, Int.natCast_one, Int.reduceAdd, List.map_append, Option.bind_some, h2, rowsK_len]
        refine ⟨rowsK_one _, by omega, ?_⟩
        rw [Nat.sub_zero, show List.take u.1 (rowsK .u8 bs) = rowsK .u8 (bs.take u.1) by simp [rowsK, List.map_take]]
        refine pcall_pure (fun A => l20Sum_any (bs.take u.1) (fun x hx => hb x (List.mem_of_mem_take hx)) (by simp; omega)) (Hext.refl _) ?_
        simp only [go_sem, Nat.reduceEqDiff, reduceIte, ↓reduceIte, Nat.reduceAdd, List.replicate_succ, List.replicate_zero, List.set_cons_zero, List.set_cons_succ, List.length_cons, List.length_nil, Nat.reduceLT, Nat.lt_add_one, ne_eq, Int.reduceEq, not_false_eq_true, Option.map_some, Nat.reduceLeDiff, Nat.zero_lt_succ, List.map_cons, List.map_nil, List.nil_append, List.cons_append, List.append_nil, bytesOf, List.take_succ_cons, List.take_zero, List.drop_zero, and_self, List.append_assoc, List.length_append, Int.reduceLT, Int.reduceLE, Int.toNat_zero, Int.reduceToNat, Int.cast_ofNat_Int, Int.natCast_zero, Int.natCast_one, Int.reduceAdd, List.map_append, Option.bind_some, h2, rowsK_len]
        refine ⟨rowsK_one _, by omega, ?_⟩
        rw [rowsK_slice, List.take_of_length_le (show (bs.drop u.1).length ≤ bs.length - u.1 by simp)]
        refine (sameS_any _ _ (by simp [sumB]; unfold maxL; omega) (by simp; omega) (.pure _) (.pure _)).mono ?_
        rintro r H' ⟨rfl, rfl⟩
        by_cases hsum : sumB (bs.take u.1) = bs.drop u.1
        case neg =>
          have ds : decide (sumB (bs.take u.1) = bs.drop u.1) = false := by simp [hsum]
          have e : endD bs acc xs u = (⟨[], []⟩, 4) := by unfold endD; rw [if_neg (by simp [hz]), if_neg hl4, if_neg hg4, if_pos hsum]
          rw [e]
          simp only [go_sem, Nat.reduceEqDiff, reduceIte, ↓reduceIte, Nat.reduceAdd, List.replicate_succ, List.replicate_zero, List.set_cons_zero, List.set_cons_succ, List.length_cons, List.length_nil, Nat.reduceLT, Nat.lt_add_one, ne_eq, Int.reduceEq, not_false_eq_true, Option.map_some, Nat.reduceLeDiff, Nat.zero_lt_succ, List.map_cons, List.map_nil, List.nil_append, List.cons_append, List.append_nil, bytesOf, List.take_succ_cons, List.take_zero, List.drop_zero, and_self, List.append_assoc, List.length_append, Int.reduceLT, Int.reduceLE, Int.toNat_zero, Int.reduceToNat, Int.cast_ofNat_Int, Int.natCast_zero, Int.natCast_one, Int.reduceAdd, List.map_append, Option.bind_some, ds, Bool.not_false, f1, f0, set_get f0]
          exact ⟨_, rfl, ownC_nil _⟩
        have ds : decide (sumB (bs.take u.1) = bs.drop u.1) = true := by simp [hsum]
        have hxs : xs = (foldR (insS bs) nb.1.toNat s).1 := by rw [hstop]
        have hac : acc = (foldR (numD bs) na.1.toNat nb.2).1 := by rw [hst1]
        have hokc : okCode ⟨xs, acc⟩ := by
          have n0 := hnz hz
          refine ⟨⟨?_, ?_⟩, ?_⟩
          · rw [hxs]
            exact Nat.le_trans (foldR_len _ _ _) (Nat.le_trans (hBn n0).1 (by unfold maxL; omega))
          · rw [hxs]
            exact foldR_all (p := fun x : InsD => x.text.length ≤ maxL) (fun s => insS_text hlm s) _ _
          · rw [hac]
            exact Nat.le_trans (foldR_len _ _ _) (Nat.le_trans (hA n0).1 (by unfold maxL; omega))
        have hlent : Lent H' (.st [a, b]) (.st ((⟨xs, acc⟩ : CodeD).cells.map .p)) := .st _ _ rfl fun j x y hx hy => by
          match j with
          | 0 => cases hx; cases hy; exact ownI_lent hG.oa.own
          | 1 => cases hx; cases hy; exact ownZ_lent hG.ob.own
          | j + 2 => simp [CodeD.cells] at hy
        simp only [go_sem, Nat.reduceEqDiff, reduceIte, ↓reduceIte, Nat.reduceAdd, List.replicate_succ, List.replicate_zero, List.set_cons_zero, List.set_cons_succ, List.length_cons, List.length_nil, Nat.reduceLT, Nat.lt_add_one, ne_eq, Int.reduceEq, not_false_eq_true, Option.map_some, Nat.reduceLeDiff, Nat.zero_lt_succ, List.map_cons, List.map_nil, List.nil_append, List.cons_append, List.append_nil, bytesOf, List.take_succ_cons, List.take_zero, List.drop_zero, and_self, List.append_assoc, List.length_append, Int.reduceLT, Int.reduceLE, Int.toNat_zero, Int.reduceToNat, Int.cast_ofNat_Int, Int.natCast_zero, Int.natCast_one, Int.reduceAdd, List.map_append, Option.bind_some, ds, Bool.not_true, fo]
        refine (acall_lend (specCodeOk ⟨xs, acc⟩ hokc) (fun r H' h => by subst h; exact grnd_b _) (lentAll_cons hlent (lentAll_nil _))).mono ?_
        rintro r H' ⟨rfl, _, rfl⟩
        by_cases hcd : codeOk ⟨xs, acc⟩ = false
        · have e : endD bs acc xs u = (⟨[], []⟩, 5) := by unfold endD; rw [if_neg (by simp [hz]), if_neg hl4, if_neg hg4, if_neg (by simp [hsum]), if_pos hcd]
          rw [e]
          simp only [go_sem, Nat.reduceEqDiff, reduceIte, ↓reduceIte, Nat.reduceAdd, List.replicate_succ, List.replicate_zero, List.set_cons_zero, List.set_cons_succ, List.length_cons, List.length_nil, Nat.reduceLT, Nat.lt_add_one, ne_eq, Int.reduceEq, not_false_eq_true, Option.map_some, Nat.reduceLeDiff, Nat.zero_lt_succ, List.map_cons, List.map_nil, List.nil_append, List.cons_append, List.append_nil, bytesOf, List.take_succ_cons, List.take_zero, List.drop_zero, and_self, List.append_assoc, List.length_append, Int.reduceLT, Int.reduceLE, Int.toNat_zero, Int.reduceToNat, Int.cast_ofNat_Int, Int.natCast_zero, Int.natCast_one, Int.reduceAdd, List.map_append, Option.bind_some, hcd, Bool.not_false, f1, f0, set_get f0]
          exact ⟨_, rfl, ownC_nil _⟩
        · have hcd' : codeOk ⟨xs, acc⟩ = true := by simpa using hcd
          have e : endD bs acc xs u = (⟨xs, acc⟩, 0) := by unfold endD; rw [if_neg (by simp [hz]), if_neg hl4, if_neg hg4, if_neg (by simp [hsum]), if_neg hcd]
          rw [e]
          simp only [go_sem, Nat.reduceEqDiff, reduceIte, ↓reduceIte, Nat.reduceAdd, List.replicate_succ, List.replicate_zero, List.set_cons_zero, List.set_cons_succ, List.length_cons, List.length_nil, Nat.reduceLT, Nat.lt_add_one, ne_eq, Int.reduceEq, not_false_eq_true, Option.map_some, Nat.reduceLeDiff, Nat.zero_lt_succ, List.map_cons, List.map_nil, List.nil_append, List.cons_append, List.append_nil, bytesOf, List.take_succ_cons, List.take_zero, List.drop_zero, and_self, List.append_assoc, List.length_append, Int.reduceLT, Int.reduceLE, Int.toNat_zero, Int.reduceToNat, Int.cast_ofNat_Int, Int.natCast_zero, Int.natCast_one, Int.reduceAdd, List.map_append, Option.bind_some, hcd', Bool.not_true, fo, f0, set_get f0]
          exact ⟨_, rfl, a, b, rfl, (hG.oa.put f0 _).own, (hG.ob.put f0 _).own⟩
end Go.Proofs.Ytmbggdfceecojaa.Cd
